/- FaceB, part 1; made small by a program. -/
import Derived.WalkKit
import Derived.OrdersHeld
import Derived.Deep.RegionHeld
import Derived.RangeFuncIn
import Derived.Deep.LoopGhost
import Derived.Sort.LoopGhostIn
import Derived.OrdersIn
import Derived.TacticsIn
import Derived.RangeFuncRecord
import Derived.Test.YtnpdnjmpmeikiaaGreatDoorRows
import Derived.Below
import Derived.Carry
import Derived.SizedLaws
import Derived.JoinedOf
import Derived.OpenShut
import Derived.Deep.Matrix
import Derived.Test.YtnpdnjmpmeikiaaGreatDoorProg
import Derived.Deep.Strs
set_option linter.unusedVariables false
namespace Go.Gk
abbrev VWP:=Value->World->Prop
inductive BK where
 |int (k:IntKind) |bool |slice |ptr |str |map |raw |addr
inductive Kd where
 |b (k:BK) |agg (ks:List BK)
structure Sl where
 a:Option Addr
 l:Nat
 c:Nat
def Sl.v(s:Sl):Value:=.slice s.a s.l s.c
def BK.T:BK->Type
 | .int _=>Int | .bool=>Bool | .slice=>Sl | .ptr=>Option Addr | .str=>ByteArray | .map=>Option Nat | .raw=>Value | .addr=>Addr
def BK.v:(b:BK)->b.T->Value
 | .int k,n=>.int k n
 | .bool,b=>.bool b
 | .slice,s=>.slice s.a s.l s.c
 | .ptr,p=>.pointer p
 | .str,s=>.string s
 | .map,m=>.map m
 | .raw,v=>v
 | .addr,a=>.pointer (some a)
def BK.get:(b:BK)->Value->Option b.T
 | .int k,.int k' n=>match decide (k=k') with |true=>some n |false=>none
 | .bool,.bool b=>some b
 | .slice,.slice a l c=>some ⟨a,l,c⟩
 | .ptr,.pointer p=>some p
 | .str,.string s=>some s
 | .map,.map m=>some m
 | .raw,v=>some v
 | .addr,.pointer (some a)=>some a
 |_,_=>none
theorem BK.get_v{b:BK}{v:Value}{t:b.T}(h:b.get v=some t):v=b.v t:=by
 cases b
 case addr=>
  cases v<;>simp only[BK.get,reduceCtorEq]at h
  rename_i p
  cases p
  ·simp only[reduceCtorEq]at h
  ·simp only[]at h
   cases h
   rfl
 all_goals cases v<;>simp only[BK.get,reduceCtorEq]at h<;>(try cases h)<;>(try rfl)
 rename_i k k' n
 by_cases e:k=k'
 ·subst e
  simp only[decide_true]at h
  cases h
  rfl
 ·simp[e]at h
def HL:List BK->Type
 | []=>Unit
 |b::r=>b.T×HL r
def HL.cells:(ks:List BK)->HL ks->List Value
 | [],_=>[]
 |b::r,t=>b.v t.1::HL.cells r t.2
def HL.get:(ks:List BK)->List Value->Option (HL ks)
 | [],[]=>some ()
 |b::r,v::vs=>match b.get v with
  |some t=>match HL.get r vs with
   |some ts=>some (t,ts)
   |none=>none
  |none=>none
 |_,_=>none
theorem HL.get_cells:∀{ks:List BK} {vs:List Value} {t:HL ks},HL.get ks vs=some t->vs=HL.cells ks t
 | [],[],_,_=>rfl
 | [],_::_,_,h=>by simp[HL.get]at h
 |_::_,[],_,h=>by simp[HL.get]at h
 |b::r,v::vs,t,h=>by
  simp only[HL.get]at h
  split at h
  ·rename_i x hx
   split at h
   ·rename_i ts hts
    cases h
    simp only[HL.cells]
    rw[<-BK.get_v hx,<-HL.get_cells hts]
   ·cases h
  ·cases h
def Kd.T:Kd->Type
 | .b k=>k.T
 | .agg ks=>HL ks
def Kd.v:(κ:Kd)->κ.T->Value
 | .b k,t=>k.v t
 | .agg ks,t=>.agg (HL.cells ks t).toArray
def Kd.get:(κ:Kd)->Value->Option κ.T
 | .b k,v=>k.get v
 | .agg ks,.agg cs=>HL.get ks cs.toList
 | .agg _,_=>none
theorem Kd.get_v{κ:Kd}{v:Value}{t:κ.T}(h:κ.get v=some t):v=κ.v t:=by
 cases κ with
 |b k=>exact BK.get_v h
 |agg ks=>
  cases v<;>simp only[Kd.get,reduceCtorEq]at h
  have:=HL.get_cells h
  simp only[Kd.v,<-this]
def bkOf(P:Program)(t:TypeId):Option BK:=
 match P.underlying t with
 |some .bool=>some .bool
 |some (.int k)=>some (.int k)
 |some .string=>some .str
 |some (.slice _)=>some .slice
 |some (.pointer _)=>some .ptr
 |some (.map _ _)=>some .map
 |some (.func _ _ _)=>some .raw
 |some (.interface _)=>some .raw
 |_=>none
def zmS{α:Type}:List (Option α)->Option (List α)
 | []=>some []
 |none::_=>none
 |some x::r=>match zmS r with
  |some l=>some (x::l)
  |none=>none
def zkJ(P:Program):Nat->TypeId->Option (List BK)
 | 0,_=>none
 |n+1,t=>match P.underlying t with
  |some (.struct fs)=>match zmS (fs.toList.map λf=>zkJ P n f.type) with
   |some l=>some l.flatten
   |none=>none
  |some (.array k e)=>match zkJ P n e with
   |some l=>some (List.replicate k l).flatten
   |none=>none
  |_=>match bkOf P t with
   |some b=>some [b]
   |none=>none
def kdOf(P:Program)(t:TypeId):Option Kd:=
 match P.underlying t with
 |some (.struct _) |some (.array _ _)=>match zkJ P 8 t with
  |some ks=>match P.info? t with
   |some i=>match Nat.beq ks.length i.size with
    |true=>some (.agg ks)
    |false=>none
   |none=>none
  |none=>none
 |_=>match bkOf P t with
  |some b=>some (.b b)
  |none=>none
abbrev Env:=Nat->Option Value
def Env.up(e:Env)(d:Nat)(v:Value):Env:=λi=>match Nat.beq i d with |true=>some v |false=>e i
def Env.upO(e:Env)(d:Option Nat)(v:Value):Env:=match d with |some d=>e.up d v |none=>e
def Env.ev(e:Env):Operand->Option Value
 | .tmp t=>e t
 | .const v=>some v
 | .global g=>some (.pointer (some ⟨g,0,none⟩))
 | .func f=>some (.func (.func f) #[] #[])
def Env.ρ(e:Env)(x:Operand):Value:=match e.ev x with |some v=>v |none=>undef
def Rep(D:List Deferred)(n:Nat)(a:Act)(e:Env):Prop:=a.tmps.size=n/\a.defers=D/\∀t v,e t=some v->a.tmps.getD t undef=v
variable {D:List Deferred}
theorem Env.up_same(e:Env)(d:Nat)(v:Value):e.up d v d=some v:=by simp[Env.up]
theorem Env.up_other(e:Env){d t:Nat}(v:Value)(h:t≠d):e.up d v t=e t:=by
 unfold Env.up
 have:Nat.beq t d=false:=by
  rw[<-Bool.not_eq_true];intro hh;exact h (Nat.eq_of_beq_eq_true hh)
 rw[this]
theorem zto{a:Act}{d:Nat}{v:Value}(h:d<a.tmps.size):(a.put (some d) v).tmps.getD d undef=v:=by
 simp[Act.put,h]
theorem zjL{a:Act}{d t:Nat}{v:Value}(h:t≠d):(a.put (some d) v).tmps.getD t undef=a.tmps.getD t undef:=by
 simp[Act.put,Array.getElem?_setIfInBounds_ne (Ne.symm h)]
theorem Rep.up{n:Nat}{a:Act}{e:Env}(h:Rep D n a e){d:Nat}(hd:d<n)(v:Value):Rep D n (a.put (some d) v) (e.up d v):=by
 obtain⟨h1,h2,h3⟩:=h
 refine⟨by simp[Act.put,h1],h2,λt u hu=>?_⟩
 by_cases e':t=d
 ·subst e'
  rw[Env.up_same]at hu
  cases hu
  exact zto (by omega)
 ·rw[Env.up_other _ _ e']at hu
  rw[zjL e']
  exact h3 t u hu
theorem Rep.upO{n:Nat}{a:Act}{e:Env}(h:Rep D n a e){d:Option Nat}(hd:∀x,d=some x->x<n)(v:Value):Rep D n (a.put d v) (e.upO d v):=by
 cases d with
 |none=>exact h
 |some d=>exact h.up (hd d rfl) v
theorem Rep.ev{n:Nat}{a:Act}{e:Env}(h:Rep D n a e){x:Operand}{v:Value}(hx:e.ev x=some v):a.eval x=v:=by
 cases x with
 |tmp t=>exact h.2.2 t v hx
 |const v'=>cases hx;rfl
 |global g=>cases hx;rfl
 |func f=>cases hx;rfl
theorem Rep.ρ{n:Nat}{a:Act}{e:Env}(h:Rep D n a e){x:Operand}(hx:(e.ev x).isSome=true):a.eval x=e.ρ x:=by
 unfold Env.ρ
 cases hv:e.ev x with
 |none=>simp[hv]at hx
 |some v=>exact h.ev hv
theorem Rep.refine{n:Nat}{a:Act}{e:Env}(h:Rep D n a e){t:Nat}{v:Value}(ht:e t=some v):Rep D n a (e.up t v):=by
 refine⟨h.1,h.2.1,λs u hu=>?_⟩
 by_cases e':s=t
 ·subst e'
  rw[Env.up_same]at hu
  cases hu
  exact h.2.2 _ _ ht
 ·rw[Env.up_other _ _ e']at hu
  exact h.2.2 _ _ hu
def ifB(b:Bool)(x y:Prop):Prop:=match b with |true=>x |false=>y
def zc(p:Option Addr)(k:Addr->Prop):Prop:=match p with |some a=>k a |none=>False
def Wr(w:World)(a:Addr):Prop:=(∃u,w.cell? a=some u)/\w.frozen? a=false
def Ret(S:VWP):Ending->World->Prop
 | .returned v,w=>S v w
 |_,_=>False
def pv{α:Type}(P:Program):Sem α->Option α
 | .pure a=>some a
 | .program k=>pv P (k P)
 | .mark _ k=>pv P k
 |_=>none
theorem ztO{α:Type}{P:Program}:∀{s:Sem α} {x:α},pv P s=some x->∀w,s.run P w =.ok x w:=by
 intro s
 induction s with
 |pure a=>intro x h w;simp only[pv,Option.some.injEq]at h;subst h;rfl
 |program k ih=>intro x h w;exact ih P h w
 |mark m k ih=>intro x h w;exact ih h w
 |_=>intro x h;simp[pv]at h
def zny(w:World)(a:Addr):Nat->(ks:List BK)->(HL ks->Prop)->Prop
 |_,[],φ=>φ ()
 |i,b::r,φ=>∃t:b.T,w.cell? (a.add i)=some (b.v t)/\zny w a (i+1) r (λts=>φ (t,ts))
def ldK(w:World)(a:Addr):(κ:Kd)->(κ.T->Prop)->Prop
 | .b k,φ=>∃t:k.T,w.cell? a=some (k.v t)/\φ t
 | .agg ks,φ=>zny w a 0 ks φ
def oneV(v:Value)(K:Prop):Prop:=match v with
 | .agg _ | .tuple _=>False
 |_=>K
def zgP(a:Addr):Nat->List Value->World->(World->Prop)->Prop
 |_,[],w,k=>k w
 |i,v::r,w,k=>oneV v (Wr w (a.add i)/\zgP a (i+1) r (w.setCell (a.add i) v) k)
def zqo:(κs:List Kd)->List Value->Value->World->(VWP)->Prop
 | [],acc,v,w,k=>v =.tuple acc.reverse.toArray/\k (.tuple acc.reverse.toArray) w
 | κ::r,acc,v,w,k=>∃t:κ.T,zqo r (κ.v t::acc) v w k
def zvK(κ:Kd)(v:Value)(w:World)(k:VWP):Prop:=∃t:κ.T,v=κ.v t/\k (κ.v t) w
def resK(P:Program)(ty:TypeId)(v:Value)(w:World)(k:VWP):Prop:=
 match P.underlying ty with
 |some (.tuple ts)=>match zmS (ts.toList.map (kdOf P)) with
  |some κs=>zqo κs [] v w k
  |none=>False
 |_=>match kdOf P ty with
  |some κ=>zvK κ v w k
  |none=>False
theorem ziN{k:VWP}:∀{κs:List Kd} {acc:List Value} {v:Value} {w:World},zqo κs acc v w k->k v w
 | [],_,_,_,h=>by obtain⟨rfl,h⟩:=h;exact h
 |_::_,_,_,_,h=>by obtain⟨_,h⟩:=h;exact ziN h
theorem zhM{P:Program}{ty:TypeId}{v:Value}{w:World}{k:VWP}(h:resK P ty v w k):k v w:=by
 unfold resK at h
 split at h
 ·split at h
  ·exact ziN h
  ·exact h.elim
 ·split at h
  ·obtain⟨t,rfl,h⟩:=h;exact h
  ·exact h.elim
abbrev blk(b:Nat):Addr:=⟨b,0,none⟩
def za(P:Program)(f:Nat)(args:Array Value)(w:World)(S:VWP):Prop:=Calls P f args w (Ret S)
def Nw(w:World)(k:World->Prop):Prop:=k w
def ldI(w:World)(a:Addr)(κ:IntKind)(φ:Int->Prop):Prop:=∃t:Int,w.cell? a=some (.int κ t)/\φ t
def ldB(w:World)(a:Addr)(φ:Bool->Prop):Prop:=∃t:Bool,w.cell? a=some (.bool t)/\φ t
def ldS(w:World)(a:Addr)(φ:Sl->Prop):Prop:=∃t:Sl,w.cell? a=some (.slice t.a t.l t.c)/\φ t
def ldP(w:World)(a:Addr)(φ:Option Addr->Prop):Prop:=∃t:Option Addr,w.cell? a=some (.pointer t)/\φ t
def zs(w:World)(a:Addr)(φ:ByteArray->Prop):Prop:=∃t:ByteArray,w.cell? a=some (.string t)/\φ t
def ldM(w:World)(a:Addr)(φ:Option Nat->Prop):Prop:=∃t:Option Nat,w.cell? a=some (.map t)/\φ t
def ldR(w:World)(a:Addr)(φ:Value->Prop):Prop:=∃t:Value,w.cell? a=some t/\φ t
def zun(P:Program)(l:Nat)(args:Array Value)(w:World)(S:VWP):Prop:=
 ∃r:Loop,w.heap[l]? =some (.loop r)/\args.size=r.params.size/\
  RoundIn Fence.wide 0 P l r.fn ((r.params.zip args).foldl (λtmps (t,a)=>tmps.setIfInBounds t a) r.tmps) r.assign r.body w (Ret S)
def extR(P:Program)(f:Nat)(args:Array Value)(w:World)(S:VWP):Prop:=∃(v:Value) (w':World),(callFunc f args).run P w =.ok (.value v) w'/\S v w'
def zL(P:Program)(fs:List Nat)(f:Value)(args:List Value)(w:World)(S:VWP):Prop:=
 match f with
 | .func (.func n) first captured=>match fs.contains n with
  |true=>Calls P n (first.toList++(args++captured.toList)).toArray w (Ret S)
  |false=>extR P n (first.toList++(args++captured.toList)).toArray w S
 | .func (.yield l) first _=>zun P l (first.toList++args).toArray w S
 |_=>False
def zup(P:Program)(t:TypeId)(s x:Value)(w:World)(k:VWP):Prop:=
 ∃(r:Sl) (w':World),(Builtin.append_ #[t,t] t #[s,x]).run P w =.ok r.v w'/\k (.slice r.a r.l r.c) w'
def zA(P:Program)(t:TypeId)(s x:Value)(w:World)(k:Sl->World->Prop):Prop:=
 ∃(r:Sl) (w':World),(Builtin.append_ #[t,t] t #[s,x]).run P w =.ok r.v w'/\k r w'
def zvY(P:Program)(ats:Array TypeId)(d s:Value)(w:World)(k:VWP):Prop:=
 ∃(n:Int) (w':World),(Builtin.copy_ ats 0 #[d,s]).run P w =.ok (.int .i64 n) w'/\k (.int .i64 n) w'
def zv0(P:Program)(ats:Array TypeId)(s:Value)(w:World)(k:VWP):Prop:=
 ∃w':World,(Builtin.clear_ ats 0 #[s]).run P w =.ok (.tuple #[]) w'/\k (.tuple #[]) w'
def zvz(P:Program)(ats:Array TypeId)(s:Value)(w:World)(k:World->Prop):Prop:=
 ∃w':World,(Builtin.clear_ ats 0 #[s]).run P w =.ok (.tuple #[]) w'/\k w'
def zom(P:Program)(ats:Array TypeId)(d s:Value)(w:World)(k:Int->World->Prop):Prop:=
 ∃(n:Int) (w':World),(Builtin.copy_ ats 0 #[d,s]).run P w =.ok (.int .i64 n) w'/\k n w'
def stA(v:Value)(n:Nat)(p:Option Addr)(w:World)(k:World->Prop):Prop:=
 match Nat.beq v.cells.size n with
 |true=>zc p λa=>zgP a 0 v.cells.toList w k
 |false=>False
def stB(v:Value)(n:Nat)(p:Option Addr)(w:World)(k:World->Prop):Prop:=
 match Nat.beq 1 n with
 |true=>zc p λa=>zgP a 0 [v] w k
 |false=>False
def stW(v:Value)(n:Nat)(p:Option Addr)(w:World)(k:World->Prop):Prop:=
 match v with
 | .agg vs=>stA (.agg vs) n p w k
 | .tuple vs=>stA (.tuple vs) n p w k
 |v=>stB v n p w k
def zgL(P:Program)(t:TypeId)(x y:Value):Option Bool:=
 match P.underlying t with
 |some (.pointer _)=>match x,y with
  | .pointer p,.pointer none=>some p.isNone
  |_,_=>none
 |some (.slice _)=>match x,y with
  | .slice a _ _,.slice none _ _=>some a.isNone
  |_,_=>none
 |some (.map _ _)=>match x,y with
  | .map m,.map none=>some m.isNone
  |_,_=>none
 |_=>none
def zgr(P:Program)(t:TypeId)(x y:Value):Option Bool:=
 match P.underlying t,x,y with
 |some (.array 2 e),.agg xs,.agg ys=>match P.underlying e,P.info? e,xs.toList,ys.toList with
  |some (.int _),some i,[.int k a,.int k' b],[.int q c,.int q' d]=>match Nat.beq i.size 1&&(decide (k=q)&&(decide (k'=q')&&!(P.eqGuardType P.depth t))) with
   |true=>some (a==c&&b==d)
   |false=>none
  |_,_,_,_=>none
 |_,_,_=>none
def y9(P:Program):Nat->List Field->List Value->List Value->Option Bool
 |_,[],[],[]=>some true
 |j,f::fs,.int k a::xs,.int q c::ys=>match P.underlying f.type with
  | some (.int _) => match Nat.beq f.offset j && (decide (k = q) && !decide (f.name = "_")) with
   |true=>match y9 P (j+1) fs xs ys with
    |some r=>some (a==c&&r)
    |none=>none
   |false=>none
  |_=>none
 |j,f::fs,.string a::xs,.string c::ys=>match P.underlying f.type with
  | some .string => match Nat.beq f.offset j && !decide (f.name = "_") with
   |true=>match y9 P (j+1) fs xs ys with
    |some r=>some (a==c&&r)
    |none=>none
   |false=>none
  |_=>none
 |j,f::fs,.bool a::xs,.bool c::ys=>match P.underlying f.type with
  | some .bool => match Nat.beq f.offset j && !decide (f.name = "_") with
   |true=>match y9 P (j+1) fs xs ys with
    |some r=>some (a==c&&r)
    |none=>none
   |false=>none
  |_=>none
 |_,_,_,_=>none
def zhQ(P:Program)(t:TypeId)(x y:Value):Option Bool:=
 match P.underlying t,x,y with
 |some (.struct fs),.agg xs,.agg ys=>match !(P.eqGuardType P.depth t)&&!(P.stoodInHeld t) with
  |true=>y9 P 0 fs.toList xs.toList ys.toList
  |false=>none
 |_,_,_=>none
def zkp(P:Program)(t:TypeId)(x y:Value):Option Bool:=
 match zgr P t x y with
 |some b=>some b
 |none=>zhQ P t x y
def zow(P:Program)(e:TypeId)(z:Nat)(cs:Array Value)(j:Nat)(k:Value->Prop):Prop:=
 match P.underlying e with
 |some (.struct _)=>k (.agg (cs.extract (j*z) (j*z+z)))
 |some (.array _ _)=>k (.agg (cs.extract (j*z) (j*z+z)))
 |some (.int _) |some .bool |some .string=>match cs[j*z]? with
  |some v=>k v
  |none=>False
 |_=>False
def idxC(P:Program)(e:TypeId)(z:Nat)(cs:Array Value)(n:Int)(k:Value->Prop):Nat->Nat->Prop
 |_,0=>True
 |j,1=>n=(j:Int)->zow P e z cs j k
 |j,m+2=>(n=(j:Int)->zow P e z cs j k)/\idxC P e z cs n k (j+1) (m+1)
def zeV(v:Value)(k:Bool->Prop):Prop:=match v with | .nilFunc=>k true | .func _ _ _=>k false |_=>False
def zku(P:Program)(t:TypeId):Bool:=match P.underlying t with |some (.func _ _ _)=>true |_=>false
def znu(v:Value):Bool:=match v with | .nilFunc=>true |_=>false
def mulN(n z:Nat):Nat:=match z with | 1=>n |z=>n*z
def szK(P:Program)(e:TypeId)(k:Nat->Prop):Prop:=match P.info? e with |some i=>k i.size |none=>False
def zd3(s:ByteArray)(n:Int):Int:=((s.data.getD n.toNat 0).toNat:Int)
def YX(w:World)(r:Nat)(s:ByteArray)(p:Nat):World:={w with heap:=w.heap.setIfInBounds r (.stringIter s p)}
def zpa(r:Nat)(w:World)(A:Int->Int->World->Prop)(B:Prop):Prop:=
 ∃(s:ByteArray) (p:Nat),w.heap[r]? =some (.stringIter s p)/\(p<s.size->A (p:Int) ((Utf8.decode s p).1:Int) (YX w r s (p+(Utf8.decode s p).2)))/\(¬p<s.size->B)
def zcz(a b:ByteArray):Prop:=((a.size+b.size:Nat):Int)<=9223372036854775807
def ztS(P:Program)(o:Oper)(ρ:Operand->Value)(k:Value->Prop):Prop:=
 match o.op with
 | .nilCheck x=>match ρ x with
  | .pointer p=>zc p λa=>k (.pointer (some a))
  | .func (.func f) first captured=>k (.func (.func f) first captured)
  |_=>False
 | .fieldAddr t x f=>match ρ x with
  | .pointer p=>zc p λa=>match pv P (Instr.fieldAt t (.pointer (some a)) f) with
   |some v=>k v
   |none=>False
  |_=>False
 | .indexAddr t x i=>match P.underlying t,ρ x,ρ i with
  |some (.slice e),.slice a l _,.int _ n=>szK P e λz=>(0<=n/\n<(l:Int))/\zc a λad=>k (.pointer (some (ad.add (mulN n.toNat z))))
  |some (.array len e),.pointer (some ad),.int _ n=>szK P e λz=>(0<=n/\n<(len:Int))/\k (.pointer (some (ad.add (mulN n.toNat z))))
  |_,_,_=>False
 | .index t x i=>match P.underlying t,ρ x,ρ i with
  |some (.array len e),.agg cs,.int _ n=>szK P e λz=>(0<=n/\n<(len:Int))/\idxC P e z cs n k 0 len
  |some .string,.string s,.int _ n=>(0<=n/\n<(s.size:Int))/\k (.int .u8 (zd3 s n))
  |_,_,_=>False
 | .binOp .add t x y yt=>match ρ x,ρ y with
  | .string a,.string b=>zcz a b/\k (.string (a++b))
  |_,_=>match pv P (execOp ρ o) with
   |some (.value v)=>k v
   |_=>False
 | .binOp .quo _ x y _=>match ρ x,ρ y with
  | .int κ a,.int κ' b=>match decide (κ=κ') with
   |true=>ifB (decide (b=0)) False (k (.int κ (κ.wrap (a.tdiv b))))
   |false=>False
  |_,_=>False
 | .binOp .rem _ x y _=>match ρ x,ρ y with
  | .int κ a,.int κ' b=>match decide (κ=κ') with
   |true=>ifB (decide (b=0)) False (k (.int κ (a.tmod b)))
   |false=>False
  |_,_=>False
 | .binOp .shl _ x y _=>match ρ x,ρ y with
  | .int κ a,.int _ b=>ifB (decide (b<0)) False (k (.int κ (κ.wrap (a*2 ^ (min b.toNat κ.bits)))))
  |_,_=>False
 | .binOp .shr _ x y _=>match ρ x,ρ y with
  | .int κ a,.int _ b=>ifB (decide (b<0)) False (k (.int κ (a.fdiv (2 ^ (min b.toNat κ.bits)))))
  |_,_=>False
 | .binOp .eql t x y _=>match zku P t with
  |true=>match znu (ρ y) with
   |true=>zeV (ρ x) λb=>k (.bool b)
   |false=>False
  |false=>match zgL P t (ρ x) (ρ y) with
   |some b=>k (.bool b)
   |none=>match zkp P t (ρ x) (ρ y) with
    |some b=>k (.bool b)
    |none=>match pv P (execOp ρ o) with
     |some (.value v)=>k v
     |_=>False
 | .binOp .neq t x y _=>match zku P t with
  |true=>match znu (ρ y) with
   |true=>zeV (ρ x) λb=>k (.bool !b)
   |false=>False
  |false=>match zgL P t (ρ x) (ρ y) with
   |some b=>k (.bool !b)
   |none=>match zkp P t (ρ x) (ρ y) with
    |some b=>k (.bool !b)
    |none=>match pv P (execOp ρ o) with
     |some (.value v)=>k v
     |_=>False
 | .slice t x lo hi none=>match P.underlying t,ρ x with
  |some (.slice e),.slice a l c=>
   match (match lo with |none=>Value.int .i64 0 |some o=>ρ o),(match hi with |none=>Value.int .i64 l |some o=>ρ o) with
   | .int _ i,.int _ j=>szK P e λz=>(0<=i/\i<=j/\j<=(c:Int))/\k (.slice (if c=i.toNat then a else a.map (·.add (mulN i.toNat z))) (j.toNat-i.toNat) (c-i.toNat))
   |_,_=>False
  |_,_=>False
 |_=>match pv P (execOp ρ o) with
  |some (.value v)=>k v
  |_=>False
def zn5:Op->Bool
 | .move _ | .assign _ | .nilCheck _ | .binOp .. | .unOp .. | .convert .. | .fieldAddr .. | .field .. | .indexAddr .. | .index .. | .extract .. | .makeFunc .. | .makeInterface .. | .build .. | .slice .. =>true
 | .call {callee:=.builtin .len,..} | .call {callee:=.builtin .cap,..} | .call {callee:=.builtin .min,..} | .call {callee:=.builtin .max,..}=>true
 |_=>false
def lookOk(P:Program)(t:TypeId)(m x:Value)(κ:BK)(w:World)(φ:κ.T->Bool->Prop):Prop:=∃(v:κ.T) (b:Bool),(Instr.lookup t m x true).run P w =.ok (.tuple #[κ.v v,.bool b]) w/\φ v b
def zax(P:Program)(t:TypeId)(m x:Value)(κ:BK)(w:World)(φ:κ.T->Prop):Prop:=∃v:κ.T,(Instr.lookup t m x false).run P w =.ok (κ.v v) w/\φ v
def zgH(P:Program)(t:TypeId)(m x:Value)(ks:List BK)(w:World)(φ:HL ks->Bool->Prop):Prop:=∃(v:HL ks) (b:Bool),(Instr.lookup t m x true).run P w =.ok (.tuple #[.agg (HL.cells ks v).toArray,.bool b]) w/\φ v b
def za1(P:Program)(t:TypeId)(m x:Value)(ks:List BK)(w:World)(φ:HL ks->Prop):Prop:=∃v:HL ks,(Instr.lookup t m x false).run P w =.ok (.agg (HL.cells ks v).toArray) w/\φ v
def zoX(P:Program)(t:TypeId)(m x:Value)(w:World)(k:Value->Int->World->Prop):Prop:=∃(z:Value) (n:Int) (w':World),(Instr.mapEntry t m x).run P w =.ok (.tuple #[z,.int .i64 n]) w'/\k z n w'
def estW(P:Program)(t:TypeId)(m s y:Value)(w:World)(k:World->Prop):Prop:=∃w',(Instr.entryStore t m s y).run P w =.ok () w'/\k w'
def delW(P:Program)(ats:Array TypeId)(m x:Value)(w:World)(k:VWP):Prop:=∃w',(Builtin.delete_ ats 0 #[m,x]).run P w =.ok (.tuple #[]) w'/\k (.tuple #[]) w'
def updW(P:Program)(t:TypeId)(m x y:Value)(w:World)(k:World->Prop):Prop:=∃w',(Instr.mapUpdate t m x y).run P w =.ok () w'/\k w'
def rngW(P:Program)(t:TypeId)(x:Value)(w:World)(k:World->Prop):Prop:=∃w',(Instr.range t x).run P w =.ok (.pointer (some ⟨w.heap.size,0,none⟩)) w'/\k w'
def nxtM(P:Program)(it:Value)(ty:TypeId)(w:World)(A:Value->VWP)(B:World->Prop):Prop:=
 (∃(x y:Value) (w':World),(Instr.next it false ty).run P w =.ok (.tuple #[.bool true,x,y]) w'/\A x y w')\/(∃w',(Instr.next it false ty).run P w =.ok (.tuple #[.bool false]) w'/\B w')
def entW(P:Program)(it:Value)(κ1 κ2:BK)(w:World)(φ:κ1.T->κ2.T->Prop):Prop:=∃(x:κ1.T) (y:κ2.T),(Instr.entry it).run P w =.ok (.tuple #[κ1.v x,κ2.v y]) w/\φ x y
def zpp(P:Program)(fs:List Nat)(o:Oper)(ρ:Operand->Value)(w:World)(k:VWP):Prop:=
 match o.op with
 | .load t x=>match ρ x with
  | .pointer p=>match kdOf P t with
   |some κ=>zc p λa=>ldK w a κ λv=>k (κ.v v) w
   |none=>False
  |_=>False
 | .store t x y=>match ρ x with
  | .pointer p=>match P.info? t with
   |some i=>stW (ρ y) i.size p w λw'=>k undef w'
   |none=>False
  |_=>False
 | .makeSlice t l c=>match P.underlying t,ρ l,ρ c with
  |some (.slice e),.int _ n,.int _ m=>match P.info? e with
   |some i=>match i.zero with
    |some z=>(0<=n/\n<=m/\i.bytes*m<=281474976710656/\m<=9223372036854775807)/\k (.slice (some ⟨w.heap.size,0,none⟩) n.toNat m.toNat) (w.alloc (.cells (madeCells z.cells (m.toNat *i.size)) e))
    |none=>False
   |none=>False
  |_,_,_=>False
 | .call {callee:=.value f,args,..}=>zL P fs (ρ f) (args.toList.map ρ) w λv w'=>resK P o.type v w' k
 | .call {callee:=.builtin .append,args,argTypes}=>match args.toList,argTypes.toList with
  | [s,x],[t,t']=>match Nat.beq t t' with
   |true=>zup P t (ρ s) (ρ x) w k
   |false=>False
  |_,_=>False
 | .call {callee:=.builtin .copy,args,argTypes}=>match args.toList with
  | [d,s]=>zvY P argTypes (ρ d) (ρ s) w k
  |_=>False
 | .call {callee:=.builtin .clear,args,argTypes}=>match args.toList with
  | [s]=>zv0 P argTypes (ρ s) w k
  |_=>False
 | .call {callee:=.builtin .delete,args,argTypes}=>match args.toList with
  | [m,x]=>delW P argTypes (ρ m) (ρ x) w k
  |_=>False
 | .next it b=>match b with
  |true=>match ρ it with
   | .pointer (some ⟨r,0,_⟩)=>zpa r w (λi c w'=>k (.tuple #[.bool true,.int .i64 i,.int .i32 c]) w') (k (.tuple #[.bool false]) w)
   |_=>False
  |false=>nxtM P (ρ it) o.type w (λx y w'=>k (.tuple #[.bool true,x,y]) w') (λw'=>k (.tuple #[.bool false]) w')
 | .lookup t m x ok=>match P.underlying t with
  |some (.map _ e)=>match kdOf P e with
   |some (.b κ)=>match ok with
    |true=>lookOk P t (ρ m) (ρ x) κ w λv b=>k (.tuple #[κ.v v,.bool b]) w
    |false=>zax P t (ρ m) (ρ x) κ w λv=>k (κ.v v) w
   |some (.agg ks)=>match ok with
    |true=>zgH P t (ρ m) (ρ x) ks w λv b=>k (.tuple #[.agg (HL.cells ks v).toArray,.bool b]) w
    |false=>za1 P t (ρ m) (ρ x) ks w λv=>k (.agg (HL.cells ks v).toArray) w
   |_=>False
  |_=>False
 | .mapUpdate t m x y=>updW P t (ρ m) (ρ x) (ρ y) w λw'=>k undef w'
 | .insert t m x y=>updW P t (ρ m) (ρ x) (ρ y) w λw'=>k undef w'
 | .mapEntry t m x=>zoX P t (ρ m) (ρ x) w λz n w'=>k (.tuple #[z,.int .i64 n]) w'
 | .entryStore t m s y=>estW P t (ρ m) (ρ s) (ρ y) w λw'=>k undef w'
 | .range t x=>match P.underlying t with
  |some (.map _ _)=>rngW P t (ρ x) w λw'=>k (.pointer (some ⟨w.heap.size,0,none⟩)) w'
  |_=>match (execOp ρ o).run P w with
   | .ok (.value v) w'=>k v w'
   |_=>False
 | .alloc _ | .box _ _ | .buildSlice _ _ _ | .makeMap _ _=>match (execOp ρ o).run P w with
  | .ok (.value v) w'=>k v w'
  |_=>False
 |_=>False
def zn4:Op->List Operand
 | .alloc _=>[]
 | .move x | .assign x | .box _ x | .load _ x | .nilCheck x | .unOp _ _ x | .convert _ _ x | .makeInterface _ x | .fieldAddr _ x _ | .field _ x _ | .extract x _=>[x]
 | .build _ ps | .buildSlice _ _ ps=>ps.toList.map (·.2)
 | .store _ a v | .binOp _ _ a v _ | .makeSlice _ a v | .indexAddr _ a v | .index _ a v=>[a,v]
 | .makeFunc _ first captured=>first.toList++captured.toList
 | .makeMap _ r=>r.toList
 | .slice _ x l h m=>x::(l.toList++(h.toList++m.toList))
 | .mapUpdate _ m k v | .insert _ m k v=>[m,k,v]
 | .call c=>(match c.callee with | .value f=>[f] | .invoke r _=>[r] | .builtin _=>[])++c.args.toList
 |op=>op.operands.toList
def zlw(e:Env)(l:List Operand):Bool:=l.all λx=>(e.ev x).isSome
def lwOp(P:Program)(fs:List Nat)(o:Oper)(e:Env)(w:World)(k:VWP):Prop:=
 match o.op with
 | .move x | .assign x=>match e.ev x with |some v=>k v w |none=>False
 | .pick c x y=>match e.ev c with
  |some (.bool b)=>ifB b (match e.ev x with |some v=>k v w |none=>False) (match e.ev y with |some v=>k v w |none=>False)
  |_=>False
 | .select _ _=>False
 |op=>match zlw e (zn4 op) with
  |true=>match zn5 op with
   |true=>ztS P o e.ρ λv=>k v w
   |false=>zpp P fs o e.ρ w k
  |false=>False
def zmw(ops:Array Oper)(j:Nat):Option Nat:=match ops[j]? with |some o=>o.dst |none=>none
def zll(ops:Array Oper)(o:Oper)(e:Env)(run skip:Env->Prop):Prop:=
 match o.guard with
 |none=>run e
 |some (j,want)=>match zmw ops j with
  |none=>False
  |some t=>match e t with
   |some (.bool b)=>ifB b (match want with |true=>run (e.up t (.bool true)) |false=>skip (e.up t (.bool true))) (match want with |true=>skip (e.up t (.bool false)) |false=>run (e.up t (.bool false)))
   |some (.tuple _)=>skip e
   |_=>False
def zqR(d j:Nat):List Oper->Option TypeId
 | []=>none
 |o::r=>match o.op with
  | .extract (.tmp t) i=>match Nat.beq t d&&Nat.beq i j with
   |true=>some o.type
   |false=>zqR d j r
  |_=>zqR d j r
def ztb(P:Program)(o:Oper)(r:List Oper):Option (Operand×BK×BK):=match o.op,o.dst with
 | .entry it,some d=>match zqR d 0 r,zqR d 1 r with
  |some t1,some t2=>match kdOf P t1,kdOf P t2 with
   |some (.b κ1),some (.b κ2)=>some (it,κ1,κ2)
   |_,_=>none
  |some t1,none=>match kdOf P t1 with
   |some (.b κ1)=>some (it,κ1,.raw)
   |_=>none
  |_,_=>none
 |_,_=>none
def ztz(P:Program)(o:Oper):Option (TypeId×Operand):=match o.op with
 | .call {callee:=.builtin .len,args,argTypes}=>match args.toList,argTypes.toList with
  | [x],[t]=>match P.underlying t with
   |some (.map _ _)=>some (t,x)
   |_=>none
  |_,_=>none
 |_=>none
def lenW(P:Program)(t:TypeId)(x:Value)(w:World)(φ:Int->Prop):Prop:=∃n:Int,(Builtin.len_ #[t] 0 #[x]).run P w =.ok (.int .i64 n) w/\φ n
def zt6(P:Program)(fs:List Nat)(o:Oper)(r:List Oper)(e:Env)(w:World)(k:VWP):Prop:=match ztb P o r with
 |some (it,κ1,κ2)=>match e.ev it with
  |some v=>entW P v κ1 κ2 w λx y=>k (.tuple #[κ1.v x,κ2.v y]) w
  |none=>False
 |none=>match ztz P o with
  |some (t,x)=>match e.ev x with
   |some v=>lenW P t v w λn=>k (.int .i64 n) w
   |none=>False
  |none=>lwOp P fs o e w k
def zoR(P:Program)(fs:List Nat)(ops:Array Oper):List Oper->Env->World->(Env->World->Prop)->Prop
 | [],e,w,k=>k e w
 |o::r,e,w,k=>zll ops o e (λe=>zt6 P fs o r e w λv w'=>zoR P fs ops r (e.upO o.dst v) w' k) (λe=>zoR P fs ops r (e.upO o.dst undef) w k)
abbrev zfm:=List (Nat×Addr×Value)
def Y4(n:Nat)(a:Addr):Nat->List Value->zfm
 |_,[]=>[]
 |i,v::r=>(n,a.add i,v)::Y4 n a (i+1) r
def Z1(P:Program)(n:Nat)(o:Oper)(e:Env)(v:Value):zfm:=
 match o.op with
 | .load t x=>match e.ρ x with
  | .pointer (some a)=>match kdOf P t with
   |some (.agg _)=>Y4 n a 0 v.cells.toList
   |_=>[(n,a,v)]
  |_=>[]
 |_=>[]
def ziL:Op->Bool
 | .load _ _ | .pick _ _ _=>true
 |op=>zn5 op
def AllP:List Nat->(Nat->Prop)->Prop
 | [],_=>True
 | [i],p=>p i
 |i::r,p=>p i/\AllP r p
def zl8(ops:Array Oper)(listed:Array Bool)(i:Nat):Bool:=
 match ops[i]? with
 |some o=>match ziL o.op with
  |true=>Region.free .any ops listed i
  |false=>false
 |none=>false
def zkT:Nat->List Oper->List Nat->List Nat
 |_,[],acc=>acc
 |i,o::r,acc=>match o.after.toList.any (λe=>Region.binds .any e&&acc.contains e.on) with
  |true=>zkT (i+1) r (i::acc)
  |false=>zkT (i+1) r acc
def loud(ops:Array Oper)(i:Nat):Bool:=match ops[i]? with |some o=>!ziL o.op |none=>false
def zda(ops:Array Oper)(listed:Array Bool)(L:Nat):Bool:=(zkT 0 ops.toList [L]).any λj=>loud ops j&&listed.getD j false
def znR(ops:Array Oper)(listed:Array Bool):zfm->World->Prop->Prop
 | [],_,k=>k
 | (L,a,v)::r,w,k=>match zda ops listed L with
  |true=>znR ops listed r w k
  |false=>w.cell? a=some v/\znR ops listed r w k
def zgm(P:Program)(fs:List Nat)(ops:Array Oper):Nat->Array Bool->zfm->Env->World->(Env->World->Prop)->Prop
 | 0,listed,_,e,w,k=>match Region.ready .any ops listed with
  | []=>k e w
  |_=>False
 |n+1,listed,S,e,w,k=>match Region.ready .any ops listed with
  | []=>k e w
  |i0::rs=>match (i0::rs).find? (zl8 ops listed) with
   |some i=>match ops[i]? with
    |none=>False
    |some o=>zll ops o e (λe=>lwOp P fs o e w λv _=>zgm P fs ops n (listed.setIfInBounds i true) (Z1 P i o e v++S) (e.upO o.dst v) w k)
      (λe=>zgm P fs ops n (listed.setIfInBounds i true) S (e.upO o.dst undef) w k)
   |none=>AllP (i0::rs) λi=>match ops[i]? with
    |none=>False
    |some o=>zll ops o e (λe=>lwOp P fs o e w λv w'=>znR ops (listed.setIfInBounds i true) S w' (zgm P fs ops n (listed.setIfInBounds i true) S (e.upO o.dst v) w' k))
      (λe=>zgm P fs ops n (listed.setIfInBounds i true) S (e.upO o.dst undef) w k)
def wr:Code->List Nat
 | .region _ ops _=>ops.toList.filterMap (·.dst)
 | .seq a b=>wr a++wr b
 | .cond _ a b=>wr a++wr b
 | .block _ a=>wr a
 | .loop a=>wr a
 | .scope a=>wr a
 |_=>[]
structure Sig where
 keep:List Nat
 sg:List (Nat×Kd)
inductive Ann where
 |nil
 |seq (j:Option Sig) (a b:Ann)
 |cond (a b:Ann)
 |one (a:Ann)
 |loop (s:Sig) (a:Ann)
abbrev Ann.q(x:Ann):Ann:=.seq none .nil x
abbrev Ann.c:Ann:=.cond .nil .nil
def St:List (Nat×Kd)->Type
 | []=>Unit
 |p::r=>p.2.T×St r
def zeu:(sg:List (Nat×Kd))->Env->Option (St sg)
 | [],_=>some ()
 |p::r,e=>match e p.1 with
  |none=>none
  |some v=>match p.2.get v with
   |none=>none
   |some t=>match zeu r e with
    |none=>none
    |some ts=>some (t,ts)
def Y7:(sg:List (Nat×Kd))->St sg->Env->Env
 | [],_,e=>e
 |p::r,s,e=>Y7 r s.2 (e.up p.1 (p.2.v s.1))
def zbk(l:List Nat)(e:Env):Env:=λi=>match l.contains i with |true=>e i |false=>none
def zfb(l ws:List Nat):Bool:=l.all λi=>!ws.contains i
def zl{S:Type}(body:S->World->(S->World->Prop)->Prop)(s:S)(w:World):Prop:=
 ∃(I:S->World->Prop) (μ:S->World->Nat),I s w/\∀s w,I s w->body s w (λs' w'=>I s' w'/\μ s' w'<μ s w)
def zo{S:Type}(f:(S->World->Prop)->Prop)(k:S->World->Prop):Prop:=
 ∃M:S->World->Prop,f M/\∀s w,M s w->k s w
def seqK(next:Env->World->Prop)(K:Exit->Env->World->Prop):Exit->Env->World->Prop
 | .normal,e,w=>next e w
 |x,e,w=>K x e w
def zsC(id:Nat)(K:Exit->Env->World->Prop):Exit->Env->World->Prop
 | .exit j,e,w=>match Nat.beq j id with
  |true=>K .normal e w
  |false=>K (.exit j) e w
 |x,e,w=>K x e w
def zl4(K:Exit->Env->World->Prop):Exit->Env->World->Prop
 | .goto _,_,_=>False
 |x,e,w=>K x e w
def zkv(ops:Array Oper):Bool:=ops.toList.all λo=>match o.op with | .defer _=>false |_=>true
def lw(P:Program)(fs:List Nat):Code->Ann->Env->World->(Exit->Env->World->Prop)->Prop
 | .skip,_,e,w,K=>K .normal e w
 | .label _,_,e,w,K=>K .normal e w
 | .ret,_,e,w,K=>K .ret e w
 | .exit id,_,e,w,K=>K (.exit id) e w
 | .goto l,_,e,w,K=>K (.goto l) e w
 | .region _ ops draw,_,e,w,K=>match draw with
  |false=>zoR P fs ops ops.toList e w λe w=>K .normal e w
  |true=>match Region.noSelect ops&&zkv ops with
   |true=>zgm P fs ops ops.size (Array.replicate ops.size false) [] e w.drew λe w=>K .normal e w
   |false=>False
 | .seq a b,.seq none aa ab,e,w,K=>lw P fs a aa e w (seqK (λe w=>lw P fs b ab e w K) K)
 | .seq a b,.seq (some j) aa ab,e,w,K=>match zfb j.keep (wr a) with
  |true=>zo (λM=>lw P fs a aa e w (seqK (λe w=>match zeu j.sg e with |some s=>M s w |none=>False) K))
    (λs w=>lw P fs b ab (Y7 j.sg s (zbk j.keep e)) w K)
  |false=>False
 | .cond c a b,.cond aa ab,e,w,K=>match e.ev c with
  |some (.bool t)=>ifB t (lw P fs a aa e w K) (lw P fs b ab e w K)
  |_=>False
 | .block id a,.one aa,e,w,K=>lw P fs a aa e w (zsC id K)
 | .scope a,.one aa,e,w,K=>lw P fs a aa e w (zl4 K)
 | .loop a,.loop j aa,e,w,K=>match zfb j.keep (wr a) with
  |true=>match zeu j.sg e with
   |some s=>zl (λs w next=>lw P fs a aa (Y7 j.sg s (zbk j.keep e)) w (seqK (λe w=>match zeu j.sg e with |some s=>next s w |none=>False) K)) s w
   |none=>False
  |false=>False
 |_,_,_,_,_=>False
def resV(P:Program)(e:Env)(w:World):List ResultVar->List Value->(List Value->Prop)->Prop
 | [],acc,k=>k acc.reverse
 | .tmp t::r,acc,k=>match e t with
  |some v=>resV P e w r (v::acc) k
  |none=>False
 | .cell t ty::r,acc,k=>match e t with
  |some (.pointer p)=>match kdOf P ty with
   |some κ=>zc p λa=>ldK w a κ λx=>resV P e w r (κ.v x::acc) k
   |none=>False
  |_=>False
def za4:List Value->Value
 | [v]=>v
 |l=>.tuple l.toArray
def retK(P:Program)(rs:List ResultVar)(R:VWP):Exit->Env->World->Prop
 | .normal,e,w | .ret,e,w=>resV P e w rs [] λl=>R (za4 l) w
 |_,_,_=>False
def zhp:List Value->Nat->Env
 | [],_=>λ_=>none
 |v::r,i=>(zhp r (i+1)).up i v
def lwFn(P:Program)(fs:List Nat)(fn:Func)(an:Ann)(args:List Value)(w:World)(R:VWP):Prop:=
 match fn.body with
 |some c=>lw P fs c an (zhp args 0) w (retK P fn.results.toList R)
 |none=>False
def zsH(P:Program)(f:FuncId):Prop:=∀args w,(callFunc f args).run P w =.ok (.enter f args) w
def zaa(P:Program):List Nat->Prop
 | []=>True
 |f::r=>zsH P f/\zaa P r
theorem zaa.get{P:Program}:∀{fs:List Nat},zaa P fs->∀{f:Nat},fs.contains f=true->zsH P f
 | [],_,f,h=>by simp at h
 |g::r,⟨h1,h2⟩,f,h=>by
  simp only[List.contains_cons,Bool.or_eq_true,beq_iff_eq]at h
  rcases h with rfl |h
  ·exact h1
  ·exact zaa.get h2 h
end Go.Gk
namespace Go.Gk
variable {P:Program} {D:List Deferred}
theorem zr{t:TypeId}{d:TypeDesc}(h:P.underlying t=some d)(w:World):(underlying t).run P w =.ok d w:=by
 simp[underlying,h]
theorem yu{t:TypeId}{i:TypeInfo}(h:P.info? t=some i)(w:World):(sizeOf t).run P w =.ok i.size w:=by
 simp[sizeOf,typeInfo,h]
theorem zkz{e:TypeId}{k:Nat->Prop}(h:szK P e k):∃i,P.info? e=some i/\k i.size:=by
 unfold szK at h
 split at h
 ·rename_i i hi;exact⟨i,hi,h⟩
 ·exact h.elim
theorem Yl{p:Option Addr}{k:Addr->Prop}(h:zc p k):∃a,p=some a/\k a:=by
 cases p with
 |none=>exact h.elim
 |some a=>exact⟨a,rfl,h⟩
theorem zn2(n z:Nat):mulN n z=n*z:=by
 unfold mulN
 split
 ·omega
 ·rfl
theorem zra{b:Bool}{k:Prop}(h:ifB b False k):b=false/\k:=by
 cases b
 ·exact⟨rfl,h⟩
 ·exact h.elim
theorem ziQ{o:Oper}{ρ:Operand->Value}{k:Value->Prop}
  (h:match pv P (execOp ρ o) with |some (.value v)=>k v |_=>False):∃v,(∀w,(execOp ρ o).run P w =.ok (.value v) w)/\k v:=by
 split at h
 ·rename_i v hv
  exact⟨v,λw=>ztO hv w,h⟩
 ·exact h.elim
theorem zhw{t:TypeId}{x y:Value}{b:Bool}(h:zgL P t x y=some b)(w:World):(Op.equal t x y).run P w =.ok b w:=by
 unfold zgL at h
 unfold Op.equal Op.maxDepth Op.equalIn
 split at h
 ·rename_i e hu
  split at h
  ·cases h
   simp only[Sem.run_bind,zr hu,Result.andThen_ok]
   rename_i p
   cases p<;>simp
  ·cases h
 ·rename_i e hu
  split at h
  ·cases h
   simp only[Sem.run_bind,zr hu,Result.andThen_ok]
   rename_i p _ _ _ _
   cases p<;>simp
  ·cases h
 ·rename_i e e' hu
  split at h
  ·cases h
   simp only[Sem.run_bind,zr hu,Result.andThen_ok]
   rename_i p
   cases p<;>simp
  ·cases h
 ·cases h
theorem zhv{t:TypeId}{x y:Value}{b:Bool}(h:zgL P t x y=some b):(∃p,x =.pointer p/\y =.pointer none)\/(∃a l c l' c',x =.slice a l c/\y =.slice none l' c')\/(∃m,x =.map m/\y =.map none):=by
 unfold zgL at h
 split at h
 ·split at h
  ·exact .inl ⟨_,rfl,rfl⟩
  ·cases h
 ·split at h
  ·exact .inr (.inl ⟨_,_,_,_,_,rfl,rfl⟩)
  ·cases h
 ·split at h
  ·exact .inr (.inr ⟨_,rfl,rfl⟩)
  ·cases h
 ·cases h
theorem zi8{t:TypeId}{a b:Array TypeId}{c:Bool}(hu:P.underlying t=some (.func a b c))(w:World):(Op.equal t .nilFunc .nilFunc).run P w =.ok true w:=by
 unfold Op.equal Op.maxDepth Op.equalIn
 simp only[Sem.run_bind,zr hu,Result.andThen_ok,Sem.run_pure]
theorem zhs{t:TypeId}{a b:Array TypeId}{c:Bool}(hu:P.underlying t=some (.func a b c))(f:Fn)(x y:Array Value)(w:World):(Op.equal t (.func f x y) .nilFunc).run P w =.ok false w:=by
 unfold Op.equal Op.maxDepth Op.equalIn
 simp only[Sem.run_bind,zr hu,Result.andThen_ok,Sem.run_pure]
theorem zjM{t:TypeId}(h:zku P t=true):∃a b c,P.underlying t=some (.func a b c):=by
 unfold zku at h
 split at h
 ·exact⟨_,_,_,by assumption⟩
 ·cases h
theorem zln{v:Value}(h:znu v=true):v =.nilFunc:=by
 unfold znu at h
 split at h
 ·rfl
 ·cases h
theorem zgs{t:TypeId}{x y:Value}{b:Bool}(h:zgr P t x y=some b)(w:World):(Op.equal t x y).run P w =.ok b w/\P.eqGuardType P.depth t=false/\∃xs ys,x =.agg xs/\y =.agg ys:=by
 unfold zgr at h
 split at h
 ·rename_i e xs ys hu
  split at h
  ·rename_i kk i k a k' b' q c q' d he hi hxs hys
   split at h
   ·rename_i hc
    simp only[Bool.and_eq_true,decide_eq_true_eq,Bool.not_eq_true']at hc
    obtain⟨h1,rfl,rfl,hgd⟩:=hc
    cases h
    have h1:=Nat.eq_of_beq_eq_true h1
    have ex:xs=#[.int k a,.int k' b']:=by apply Array.ext';simp[hxs]
    have ey:ys=#[.int k c,.int k' d]:=by apply Array.ext';simp[hys]
    subst ex ey
    refine⟨?_,hgd,_,_,rfl,rfl⟩
    have hagg:∀w,(isAgg e).run P w =.ok false w:=λw=>by simp[isAgg,zr he]
    have heq:∀(D:Nat) (κ:IntKind) (u v:Int) (w:World),(Op.equalIn (D+1) e (.int κ u) (.int κ v)).run P w =.ok (u==v) w:=λD κ u v w=>by
     unfold Op.equalIn
     simp[zr he]
    have hp0:∀(u v:Value) (w:World),(part e #[u,v] 0).run P w =.ok u w:=λu v w=>by simp[part,hagg]
    have hp1:∀(u v:Value) (w:World),(part e #[u,v] 1).run P w =.ok v w:=λu v w=>by simp[part,hagg]
    have hD:Op.maxDepth=(Op.maxDepth-2)+1+1:=by decide
    unfold Op.equal
    rw[hD]
    generalize Op.maxDepth-2=D
    unfold Op.equalIn
    simp only[Sem.run_bind,zr hu,Result.andThen_ok,yu hi,h1,Nat.mul_one]
    simp only[Std.Legacy.Range.forIn_eq_forIn_range',Std.Legacy.Range.size]
    rw[show List.range' 0 ((2-0+1-1) / 1) 1=[0,1] from rfl]
    simp only[List.forIn_cons,List.forIn_nil,Sem.run_bind,hp0,Result.andThen_ok,heq]
    by_cases h2:a=c<;>by_cases h3:b'=d<;>simp[h2,h3,hp1,heq]
   ·cases h
  ·cases h
 ·cases h
theorem zeT{D:Nat}{X Y:Array Value}{w:World}:∀{fs:List Field} {j:Nat} {xs ys:List Value} {b:Bool},X.toList.drop j=xs->Y.toList.drop j=ys->y9 P j fs xs ys=some b->
  (forIn fs ((none,()):Option Bool×Unit) λf __s=>
      if f.name = "_" then (pure (ForInStep.yield (none, ())) : Sem (ForInStep (Option Bool × Unit)))
      else do
       let __do_lift <-part f.type X f.offset
       let __do_lift_1 <-part f.type Y f.offset
       let __do_lift <-Op.equalIn (D+1) f.type __do_lift __do_lift_1
       if __do_lift=false then pure (ForInStep.done (some false,())) else pure (ForInStep.yield (none,()))).run P w =.ok (if b then(none,()) else(some false,())) w
 | [],_,[],[],b,_,_,h=>by
  simp only[y9,Option.some.injEq]at h
  subst h
  simp
 |_::_,_,x::_,[],_,_,_,h=>by cases x<;>simp[y9]at h
 |f::fs,j,x::xs,y::ys,b,hx,hy,h=>by
  have hxj:X[j]? =some x:=by
   have:=congrArg (λl=>l[0]?) hx
   simpa using this
  have hyj:Y[j]? =some y:=by
   have:=congrArg (λl=>l[0]?) hy
   simpa using this
  have hx':X.toList.drop (j+1)=xs:=by rw[<-List.drop_drop,hx];rfl
  have hy':Y.toList.drop (j+1)=ys:=by rw[<-List.drop_drop,hy];rfl
  cases x<;>(try (simp[y9]at h;done))<;>cases y<;>(try (simp[y9]at h;done))
  ·rename_i a c
   simp only[y9]at h
   split at h
   ·rename_i hu
    split at h
    ·rename_i hc
     simp only[Bool.and_eq_true,Bool.not_eq_true',decide_eq_false_iff_not]at hc
     obtain⟨h1,h2⟩:=hc
     have h1:=Nat.eq_of_beq_eq_true h1
     split at h
     ·rename_i r hr
      cases h
      have ih:=zeT (D:=D) (w:=w) hx' hy' hr
      have hagg:∀w,(isAgg f.type).run P w =.ok false w:=λw=>by simp[isAgg,zr hu]
      have heq:∀(u v:Bool) (w:World),(Op.equalIn (D+1) f.type (.bool u) (.bool v)).run P w =.ok (u==v) w:=λu v w=>by
       unfold Op.equalIn
       simp[zr hu]
      have hpx:∀w,(part f.type X f.offset).run P w =.ok (.bool a) w:=λw=>by simp[part,hagg,h1,hxj]
      have hpy:∀w,(part f.type Y f.offset).run P w =.ok (.bool c) w:=λw=>by simp[part,hagg,h1,hyj]
      rw[List.forIn_cons]
      cases e:(a==c) with
      |true=>
       simp only[if_neg h2,Sem.run_bind,hpx,hpy,heq,Result.andThen_ok,e,Bool.true_and]
       simp only[Bool.true_eq_false,if_false,Sem.run_pure,Result.andThen_ok]
       exact ih
      |false=>
       simp only[if_neg h2,Sem.run_bind,hpx,hpy,heq,Result.andThen_ok,e,Bool.false_and]
       simp
     ·cases h
    ·cases h
   ·cases h
  ·rename_i k a q c
   simp only[y9]at h
   split at h
   ·rename_i kk hu
    split at h
    ·rename_i hc
     simp only[Bool.and_eq_true,decide_eq_true_eq,Bool.not_eq_true',decide_eq_false_iff_not]at hc
     obtain⟨h1,rfl,h2⟩:=hc
     have h1:=Nat.eq_of_beq_eq_true h1
     split at h
     ·rename_i r hr
      cases h
      have ih:=zeT (D:=D) (w:=w) hx' hy' hr
      have hagg:∀w,(isAgg f.type).run P w =.ok false w:=λw=>by simp[isAgg,zr hu]
      have heq:∀(u v:Int) (w:World),(Op.equalIn (D+1) f.type (.int k u) (.int k v)).run P w =.ok (u==v) w:=λu v w=>by
       unfold Op.equalIn
       simp[zr hu]
      have hpx:∀w,(part f.type X f.offset).run P w =.ok (.int k a) w:=λw=>by simp[part,hagg,h1,hxj]
      have hpy:∀w,(part f.type Y f.offset).run P w =.ok (.int k c) w:=λw=>by simp[part,hagg,h1,hyj]
      rw[List.forIn_cons]
      by_cases e:a=c
      ·subst e
       simp only[if_neg h2,Sem.run_bind,hpx,hpy,heq,Result.andThen_ok,beq_self_eq_true,Bool.true_and]
       simp only[Bool.true_eq_false,if_false,Sem.run_pure,Result.andThen_ok]
       exact ih
      ·have:(a==c)=false:=by simpa using e
       simp only[if_neg h2,Sem.run_bind,hpx,hpy,heq,Result.andThen_ok,this,Bool.false_and]
       simp
     ·cases h
    ·cases h
   ·cases h
  ·rename_i a c
   simp only[y9]at h
   split at h
   ·rename_i hu
    split at h
    ·rename_i hc
     simp only[Bool.and_eq_true,Bool.not_eq_true',decide_eq_false_iff_not]at hc
     obtain⟨h1,h2⟩:=hc
     have h1:=Nat.eq_of_beq_eq_true h1
     split at h
     ·rename_i r hr
      cases h
      have ih:=zeT (D:=D) (w:=w) hx' hy' hr
      have hagg:∀w,(isAgg f.type).run P w =.ok false w:=λw=>by simp[isAgg,zr hu]
      have heq:∀(u v:ByteArray) (w:World),(Op.equalIn (D+1) f.type (.string u) (.string v)).run P w =.ok (u==v) w:=λu v w=>by
       unfold Op.equalIn
       simp[zr hu]
      have hpx:∀w,(part f.type X f.offset).run P w =.ok (.string a) w:=λw=>by simp[part,hagg,h1,hxj]
      have hpy:∀w,(part f.type Y f.offset).run P w =.ok (.string c) w:=λw=>by simp[part,hagg,h1,hyj]
      rw[List.forIn_cons]
      cases e:(a==c) with
      |true=>
       simp only[if_neg h2,Sem.run_bind,hpx,hpy,heq,Result.andThen_ok,e,Bool.true_and]
       simp only[Bool.true_eq_false,if_false,Sem.run_pure,Result.andThen_ok]
       exact ih
      |false=>
       simp only[if_neg h2,Sem.run_bind,hpx,hpy,heq,Result.andThen_ok,e,Bool.false_and]
       simp
     ·cases h
    ·cases h
   ·cases h
theorem zj4{t:TypeId}{x y:Value}{b:Bool}(h:zhQ P t x y=some b)(w:World):(Op.equal t x y).run P w =.ok b w/\P.eqGuardType P.depth t=false/\∃xs ys,x =.agg xs/\y =.agg ys:=by
 unfold zhQ at h
 split at h
 ·rename_i fs xs ys hu
  split at h
  ·rename_i hc
   simp only[Bool.and_eq_true,Bool.not_eq_true']at hc
   refine⟨?_,hc.1,_,_,rfl,rfl⟩
   have hD:Op.maxDepth=(Op.maxDepth-2)+1+1:=by decide
   unfold Op.equal
   rw[hD]
   generalize Op.maxDepth-2=D
   unfold Op.equalIn
   simp only[Sem.run_bind,zr hu,Result.andThen_ok]
   have hr:=zeT (P:=P) (D:=D) (w:=w) (X:=xs) (Y:=ys) (by simp) (by simp) h
   simp[hc.2]
   rw[<-Array.forIn_toList,hr]
   cases b<;>simp
  ·cases h
 ·cases h
theorem za6{t:TypeId}{x y:Value}{b:Bool}(h:zkp P t x y=some b)(w:World):(Op.equal t x y).run P w =.ok b w/\P.eqGuardType P.depth t=false/\∃xs ys,x =.agg xs/\y =.agg ys:=by
 unfold zkp at h
 split at h
 ·rename_i b' hb
  cases h
  exact zgs hb w
 ·exact zj4 h w
theorem zoG{e:TypeId}{z:Nat}{cs:Array Value}{n:Int}{k:Value->Prop}:∀{j m:Nat},idxC P e z cs n k j m->(j:Int)<=n->n<((j+m:Nat):Int)->zow P e z cs n.toNat k
 |j,0,_,h1,h2=>by omega
 |j,1,h,h1,h2=>by
  have e:n=(j:Int):=by omega
  have:=h e
  rw[e];exact this
 |j,m+2,h,h1,h2=>by
  by_cases e:n=(j:Int)
  ·have:=h.1 e
   rw[e];exact this
  ·exact zoG h.2 (by omega) (by omega)
theorem zox{t e:TypeId}{len:Nat}{i:TypeInfo}{cs:Array Value}{κ:IntKind}{n:Int}{k:Value->Prop}(hu:P.underlying t=some (.array len e))(hi:P.info? e=some i)(h0:0<=n)(h1:n<(len:Int))
  (h:zow P e i.size cs n.toNat k):∃v,(∀w,(Instr.index t (.agg cs) (.int κ n)).run P w =.ok v w)/\k v:=by
 have go:∀{v:Value} {w:World},(part e cs (n.toNat *i.size)).run P w =.ok v w->(Instr.index t (.agg cs) (.int κ n)).run P w =.ok v w:=λ{v w} hp=>by
  simp[Instr.index,asIntOf,zr hu,h0,h1,yu hi,hp]
 unfold zow at h
 split at h
 ·rename_i fs he
  exact⟨_,λw=>go (by simp[part,isAgg,zr he,yu hi]),h⟩
 ·rename_i l' e' he
  exact⟨_,λw=>go (by simp[part,isAgg,zr he,yu hi]),h⟩
 all_goals
  rename_i he
  first
   |exact h.elim
   | (
     split at h
     ·rename_i v hv
      exact⟨v,λw=>go (by simp[part,isAgg,zr he,hv]),h⟩
     ·exact h.elim)
theorem zjU{o:Oper}{ρ:Operand->Value}{k:Value->Prop}(h:ztS P o ρ k):∃v,(∀w,(execOp ρ o).run P w =.ok (.value v) w)/\k v:=by
 unfold ztS at h
 split at h
 ·
  rename_i x ho
  split at h
  ·rename_i p hp
   obtain⟨a,rfl,h⟩:=Yl h
   exact⟨_,λw=>by simp[execOp,ho,hp],h⟩
  ·rename_i f first captured hp
   exact⟨_,λw=>by simp[execOp,ho,hp],h⟩
  ·exact h.elim
 ·
  rename_i t x f ho
  split at h
  ·rename_i p hp
   obtain⟨ad,rfl,h2⟩:=Yl h
   clear h
   split at h2
   ·rename_i v hv
    exact⟨v,λw=>by
     have:=ztO hv w
     simp[execOp,ho,hp,this],h2⟩
   ·exact h2.elim
  ·exact h.elim
 ·
  rename_i t x i ho
  split at h
  ·rename_i e a l c kk n hu hx hi
   obtain⟨ti,hti,⟨h0,h1⟩,h⟩:=zkz h
   obtain⟨ad,rfl,h⟩:=Yl h
   exact⟨_,λw=>by simp[execOp,ho,Instr.indexAt,hx,hi,asIntOf,zr hu,h0,h1,yu hti,zn2],h⟩
  ·rename_i len e ad kk n hu hx hi
   obtain⟨ti,hti,⟨h0,h1⟩,h⟩:=zkz h
   exact⟨_,λw=>by simp[execOp,ho,Instr.indexAt,hx,hi,asIntOf,zr hu,h0,h1,yu hti,Instr.sureAddr,zn2],h⟩
  ·exact h.elim
 ·
  rename_i t x i ho
  split at h
  ·rename_i len e cs κ n hu hx hi
   obtain⟨ti,hti,⟨h0,h1⟩,h⟩:=zkz h
   obtain⟨v,hv,hk⟩:=zox (κ:=κ) hu hti h0 h1 (zoG h (by omega) (by omega))
   exact⟨v,λw=>by simp[execOp,ho,hx,hi,hv],hk⟩
  ·rename_i s κ n hu hx hi
   obtain⟨⟨h0,h1⟩,h⟩:=h
   refine⟨_,λw=>?_,h⟩
   have hb:s[n.toNat]? =some (s.data.getD n.toNat 0):=by
    have hlt:n.toNat<s.size:=by omega
    rw[getElem?_pos s n.toNat hlt]
    simp[ByteArray.getElem_eq_getElem_data,Array.getD]
    intro q
    omega
   simp[execOp,ho,hx,hi,Instr.index,asIntOf,zr hu,h0,hb,zd3]
  ·exact h.elim
 ·
  rename_i t x y yt ho
  split at h
  ·rename_i a b hx hy
   obtain⟨h1,h⟩:=h
   have hm:¬IntKind.i64.max<((a.size+b.size:Nat):Int):=by
    have:IntKind.i64.max=9223372036854775807:=by decide
    unfold zcz at h1
    omega
   exact⟨_,λw=>by
    simp only[execOp,ho,eqGuard,hx,hy,binOp,Op.stringOp,Sem.run_bind,Sem.run_pure,gt_iff_lt,if_neg hm]
    rfl,h⟩
  ·exact ziQ h
 ·
  rename_i t x y yt ho
  split at h
  ·rename_i κ a κ' b hx hy
   split at h
   ·rename_i hk
    have hk:=of_decide_eq_true hk
    subst hk
    obtain⟨hb,h⟩:=zra h
    have hb:=of_decide_eq_false hb
    exact⟨_,λw=>by simp[execOp,ho,eqGuard,hx,hy,binOp,Op.intDiv,hb],h⟩
   ·exact h.elim
  ·exact h.elim
 ·
  rename_i t x y yt ho
  split at h
  ·rename_i κ a κ' b hx hy
   split at h
   ·rename_i hk
    have hk:=of_decide_eq_true hk
    subst hk
    obtain⟨hb,h⟩:=zra h
    have hb:=of_decide_eq_false hb
    exact⟨_,λw=>by simp[execOp,ho,eqGuard,hx,hy,binOp,Op.intDiv,hb],h⟩
   ·exact h.elim
  ·exact h.elim
 ·
  rename_i t x y yt ho
  split at h
  ·rename_i κ a κ' b hx hy
   obtain⟨hb,h⟩:=zra h
   have hb':¬b<0:=of_decide_eq_false hb
   exact⟨_,λw=>by simp[execOp,ho,eqGuard,hx,hy,binOp,Op.shift,hb'],h⟩
  ·exact h.elim
 ·
  rename_i t x y yt ho
  split at h
  ·rename_i κ a κ' b hx hy
   obtain⟨hb,h⟩:=zra h
   have hb':¬b<0:=of_decide_eq_false hb
   exact⟨_,λw=>by simp[execOp,ho,eqGuard,hx,hy,binOp,Op.shift,hb'],h⟩
  ·exact h.elim
 ·
  rename_i t x y yt ho
  split at h
  ·rename_i hf
   obtain⟨p1,p2,p3,hu⟩:=zjM hf
   split at h
   ·rename_i hy
    have hy:=zln hy
    unfold zeV at h
    split at h
    ·rename_i hx
     exact⟨_,λw=>by simp[execOp,ho,eqGuard,hx,hy,binOp,zi8 hu w],h⟩
    ·rename_i f1 x1 y1 hx
     exact⟨_,λw=>by simp[execOp,ho,eqGuard,hx,hy,binOp,zhs hu f1 x1 y1 w],h⟩
    ·exact h.elim
   ·exact h.elim
  ·split at h
   ·rename_i b hb
    refine⟨_,λw=>?_,h⟩
    have hr:=zhw hb w
    rcases zhv hb with⟨p,hx,hy⟩ | ⟨a,l,c,l',c',hx,hy⟩ | ⟨m,hx,hy⟩<;>rw[hx,hy]at hr<;>simp[execOp,ho,eqGuard,hx,hy,binOp,hr]
   ·split at h
    ·rename_i b hb
     obtain⟨_,hgd,xs,ys,hx,hy⟩:=za6 hb default
     refine⟨_,λw=>?_,h⟩
     have hr:=(za6 hb w).1
     rw[hx,hy]at hr
     simp[execOp,ho,eqGuard,hx,hy,binOp,hr,hgd]
    ·exact ziQ h
 ·
  rename_i t x y yt ho
  split at h
  ·rename_i hf
   obtain⟨p1,p2,p3,hu⟩:=zjM hf
   split at h
   ·rename_i hy
    have hy:=zln hy
    unfold zeV at h
    split at h
    ·rename_i hx
     exact⟨_,λw=>by simp[execOp,ho,eqGuard,hx,hy,binOp,zi8 hu w],h⟩
    ·rename_i f1 x1 y1 hx
     exact⟨_,λw=>by simp[execOp,ho,eqGuard,hx,hy,binOp,zhs hu f1 x1 y1 w],h⟩
    ·exact h.elim
   ·exact h.elim
  ·split at h
   ·rename_i b hb
    refine⟨_,λw=>?_,h⟩
    have hr:=zhw hb w
    rcases zhv hb with⟨p,hx,hy⟩ | ⟨a,l,c,l',c',hx,hy⟩ | ⟨m,hx,hy⟩<;>rw[hx,hy]at hr<;>simp[execOp,ho,eqGuard,hx,hy,binOp,hr]
   ·split at h
    ·rename_i b hb
     obtain⟨_,hgd,xs,ys,hx,hy⟩:=za6 hb default
     refine⟨_,λw=>?_,h⟩
     have hr:=(za6 hb w).1
     rw[hx,hy]at hr
     simp[execOp,ho,eqGuard,hx,hy,binOp,hr,hgd]
    ·exact ziQ h
 ·
  rename_i t x lo hi ho
  split at h
  ·rename_i e a l c hu hx
   split at h
   ·rename_i k1 i k2 j hi1 hj1
    obtain⟨ti,hti,⟨h0,h1,h2⟩,h⟩:=zkz h
    have hj0:0<=j:=by omega
    refine⟨_,λw=>?_,h⟩
    have hl:∀w,(Instr.sliceBounds true l c (lo.map ρ) (hi.map ρ) none).run P w =.ok (i.toNat,j.toNat,c) w:=by
     intro w
     have hjl:i<=(j.toNat:Int):=by omega
     cases lo<;>cases hi<;>simp only[Value.int.injEq]at hi1 hj1<;>(try obtain⟨rfl,rfl⟩:=hi1)<;>(try obtain⟨rfl,rfl⟩:=hj1)<;>simp_all[Instr.sliceBounds,Instr.sliceBound,asIntOf]
    simp[execOp,ho,hx,Instr.sliceAt,Instr.slice,zr hu,hl,yu hti,zn2]
   ·exact h.elim
  ·exact h.elim
 ·exact ziQ h
theorem ztt{t:TypeId}{k:BK}(h:kdOf P t=some (.b k))(w:World):(isAgg t).run P w =.ok false w:=by
 have struct:∀t,(match zkJ P 8 t with |some ks=>(match P.info? t with |some i=>(match Nat.beq ks.length i.size with |true=>some (Kd.agg ks) |false=>none) |none=>none) |none=>none)≠some (.b k):=by
  intro t
  split
  ·split
   ·split<;>simp
   ·simp
  ·simp
 cases hu:P.underlying t with
 |none=>simp[kdOf,bkOf,hu]at h
 |some d=>
  simp only[isAgg,Sem.run_bind,zr hu,Result.andThen_ok]
  cases d<;>(first |rfl | (exfalso;unfold kdOf at h;rw[hu]at h;exact struct t h))
theorem zlq{t:TypeId}{ks:List BK}(h:kdOf P t=some (.agg ks))(w:World):(isAgg t).run P w =.ok true w/\(sizeOf t).run P w =.ok ks.length w:=by
 have flat:∀t,(match bkOf P t with |some b=>some (Kd.b b) |none=>none)≠some (.agg ks):=by
  intro t
  split<;>simp
 have sz:∀t,(match zkJ P 8 t with |some ks=>(match P.info? t with |some i=>(match Nat.beq ks.length i.size with |true=>some (Kd.agg ks) |false=>none) |none=>none) |none=>none)=some (Kd.agg ks)->
   (sizeOf t).run P w =.ok ks.length w:=by
  intro t h
  split at h
  ·split at h
   ·rename_i i hi
    split at h
    ·rename_i hb
     cases h
     rw[yu hi,Nat.eq_of_beq_eq_true hb]
    ·simp at h
   ·simp at h
  ·simp at h
 cases hu:P.underlying t with
 |none=>simp[kdOf,bkOf,hu]at h
 |some d=>
  simp only[isAgg,Sem.run_bind,zr hu,Result.andThen_ok]
  cases d<;>(first | (exfalso;unfold kdOf at h;rw[hu]at h;exact flat t h) | (unfold kdOf at h;rw[hu]at h;exact⟨rfl,sz t h⟩))
theorem zgl{w:World}{a:Addr}:∀{ks:List BK} {i:Nat} {φ:HL ks->Prop},zny w a i ks φ->
  ∃ts,φ ts/\∀j v,(HL.cells ks ts)[j]? =some v->w.cell? (a.add (i+j))=some v
 | [],_,_,h=>⟨(),h,λ_ _ h=>by simp[HL.cells]at h⟩
 |b::r,i,φ,h=>by
  obtain⟨t,h1,h⟩:=h
  obtain⟨ts,h2,h3⟩:=zgl h
  refine⟨(t,ts),h2,λj v hj=>?_⟩
  cases j with
  |zero=>simp only[HL.cells,List.getElem?_cons_zero,Option.some.injEq]at hj;subst hj;exact h1
  |succ j=>
   simp only[HL.cells,List.getElem?_cons_succ]at hj
   have:=h3 j v hj
   rwa[show i+(j+1)=i+1+j by omega]
theorem YW{w:World}{a:Addr}:∀(vs:List Value) (i:Nat) (acc:Array Value),(∀j v,vs[j]? =some v->w.cell? (a.add (i+j))=some v)->
  (loadCellsFrom a i vs.length acc).run P w =.ok (acc++vs.toArray) w
 | [],_,acc,_=>by simp[loadCellsFrom]
 |v::r,i,acc,h=>by
  have h0:=h 0 v rfl
  have h0':w.cell? (a.add i)=some v:=by simpa using h0
  simp only[List.length_cons,loadCellsFrom,Sem.run_bind,run_load,h0',Result.andThen_ok]
  rw[YW r (i+1) _ (λj u hj=>by have:=h (j+1) u hj;rwa[show i+(j+1)=i+1+j by omega]at this)]
  simp
theorem HL.length_cells:∀(ks:List BK) (ts:HL ks),(HL.cells ks ts).length=ks.length
 | [],_=>rfl
 |_::r,ts=>by simp[HL.cells,HL.length_cells r ts.2]
theorem zm0{t:TypeId}{κ:Kd}{w:World}{a:Addr}{φ:κ.T->Prop}(hk:kdOf P t=some κ)(h:ldK w a κ φ) :
  ∃x,(loadVar t a).run P w =.ok (κ.v x) w/\φ x:=by
 cases κ with
 |b k=>
  obtain⟨x,h1,h2⟩:=h
  refine⟨x,?_,h2⟩
  simp[loadVar,ztt hk,h1,Kd.v]
 |agg ks=>
  obtain⟨ts,h1,h2⟩:=zgl h
  refine⟨ts,?_,h1⟩
  obtain⟨h3,h4⟩:=zlq hk w
  have:=YW (P:=P) (w:=w) (a:=a) (HL.cells ks ts) 0 #[] h2
  rw[HL.length_cells]at this
  simp[loadVar,h3,h4,loadCells,this,Kd.v]
theorem ztG{v:Value}{K:Prop}(h:oneV v K):v.oneCell'=true/\K:=by
 cases v<;>first
  |exact h.elim
  |exact⟨rfl,h⟩
theorem zuI{v:Value}{K:Prop}(h1:v.oneCell'=true)(h:K):oneV v K:=by
 cases v<;>first
  |exact h
  |cases h1
theorem zjZ(P:Program){a:Addr}:∀{vs:List Value} {i:Nat} {w:World} {k:World->Prop},zgP a i vs w k->
  ∃w',(storeCells a vs i).run P w =.ok () w'/\k w'
 | [],_,w,_,h=>⟨w,by simp[storeCells],h⟩
 |v::r,i,w,k,h=>by
  obtain⟨h1,⟨⟨u,hu⟩,hf⟩,h⟩:=ztG h
  obtain⟨w',h2,h3⟩:=zjZ P h
  refine⟨w',?_,h3⟩
  simp[storeCells,run_store P w (a.add i) v .plain h1,hu,hf,h2]
theorem zvd{v:Value}{n:Nat}{p:Option Addr}{w:World}{k:World->Prop}(h:stA v n p w k) :
  ∃a,p=some a/\v.cells.size=n/\zgP a 0 v.cells.toList w k:=by
 unfold stA at h
 split at h
 ·rename_i hb
  obtain⟨ad,rfl,h⟩:=Yl h
  exact⟨ad,rfl,Nat.eq_of_beq_eq_true hb,h⟩
 ·exact h.elim
theorem zve{v:Value}{n:Nat}{p:Option Addr}{w:World}{k:World->Prop}(h:stW v n p w k) :
  ∃a,p=some a/\v.cells.size=n/\zgP a 0 v.cells.toList w k:=by
 cases v<;>first
  |exact zvd h
  | (
    obtain⟨a,h1,h2,h3⟩:=stB_out h
    exact⟨a,h1,by simp[Value.cells,h2],by simpa[Value.cells] using h3⟩)
theorem zpD(ats:Array TypeId)(t t':TypeId)(args:Array Value):Builtin.clear_ ats t args=Builtin.clear_ ats t' args:=rfl
theorem zou(ats:Array TypeId)(t t':TypeId)(args:Array Value):Builtin.delete_ ats t args=Builtin.delete_ ats t' args:=rfl
theorem zrB(ats:Array TypeId)(t t':TypeId)(args:Array Value):Builtin.copy_ ats t args=Builtin.copy_ ats t' args:=rfl
theorem znY(ats:Array TypeId)(t t':TypeId)(args:Array Value):Builtin.append_ ats t args=Builtin.append_ ats t' args:=rfl
abbrev Wf(ro:Option Nat):Fence:={fn:=λ_=>True,depth:=none,alive:=false,round:=ro}
theorem zsI{ro:Option Nat}{n:Nat}{f:FuncId}{args:Array Value}{w:World}{R:Ending->World->Prop}(h:Calls P f args w R):CallsIn (Wf ro) n P f args w R:=(callsIn_wide (n:=n)).2 h
theorem ziR(ro:Option Nat){o:Oper}(h:∀c,o.op≠.defer c)(ρ:Operand->Value):o.semAt (Wf ro).round ρ=execOp ρ o:=by
 cases ro with
 |none=>simp[Oper.semAt]
 |some l=>exact Oper.semAt_some l _ _ h
theorem zj1{o:Oper}{ρ:Operand->Value}{w w':World}{v:Value}(h:(execOp ρ o).run P w =.ok (.value v) w'):∀c,o.op≠.defer c:=by
 intro c hc
 simp only[execOp,hc,Sem.run_bind]at h
 generalize Sem.run P (resolve ρ c o.type) w=r at h
 cases r<;>simp[Result.andThen,Sem.run_pure]at h
theorem znz{fs:List Nat}{o:Oper}{e:Env}{w:World}{k:VWP}(h:lwOp P fs o e w k):∀c,o.op≠.defer c:=by
 intro c hc
 unfold lwOp at h
 rw[hc]at h
 simp only[zn5]at h
 split at h
 ·unfold zpp at h
  rw[hc]at h
  exact h
 ·exact h
theorem ziK{ops:Array Oper}(h:zkv ops=true)(j:Nat)(o:Oper)(c:Call)(ho:ops[j]? =some o):o.op≠.defer c:=by
 intro hc
 simp only[zkv,List.all_eq_true]at h
 have:=h o (Array.mem_toList_iff.2 (Array.mem_of_getElem? ho))
 rw[hc]at this
 cases this
theorem zgA{ro:Option Nat}{ops:Array Oper}{Q:Exit->Act->World->Prop}{S:World->Prop}{i:Nat}{o:Oper}{v:Value}{a:Act}(hi:ops[i]? =some o)(hy:YieldsIf P ops S o v a)
  {K:Act->World->Prop} {w:World} (hS:S w) (h:K (a.put o.dst v) w):wpOpIn (Wf ro) 0 P ops Q i K a w:=by
 unfold wpOpIn
 simp only[hi]
 rcases hy with⟨hw,hv⟩ | ⟨hw,rfl⟩
 ·simp only[hw,if_true]
  refine⟨λ_ _=>trivial,?_⟩
  rw[ziR ro (zj1 (hv w hS)),hv w hS]
  exact h
 ·simp only[hw,Bool.false_eq_true,if_false]
  exact⟨λ_ _=>trivial,h⟩
theorem zp1{ro:Option Nat}{ops:Array Oper}{Q:Exit->Act->World->Prop}{S:World->Prop}{j:Nat}{oi oj:Oper}{v:Value}(hj:ops[j]? =some oj)(hap:oi.apart ops oj=true)
  (hsi:∀cs b,oi.op≠.select cs b) (hsj:∀cs b,oj.op≠.select cs b) (hdj:∀c,oj.op≠.defer c)
  (hQ:∀c a w,Q (.panic c) (a.put oi.dst v) w->Q (.panic c) a w) {K:Act->World->Prop} {a:Act} {w:World}
  (hy:YieldsIf P ops S oi v a) (h:wpOpIn (Wf ro) 0 P ops Q j K (a.put oi.dst v) w) :
  wpOpIn (Wf ro) 0 P ops Q j (λa' w'=>YieldsIf P ops S oi v a'/\K (a'.put oi.dst v) w') a w:=by
 obtain⟨h1,h2,h3⟩:=Oper.apart_spec hap
 have keep:∀(a:Act),YieldsIf P ops S oi v a->∀u,YieldsIf P ops S oi v (a.put oj.dst u):=λa hy u=>
  hy.of_same (execOp_put oi hsi a oj.dst u h3) (wanted_put oi a oj.dst u h3)
 have keepD:∀d,YieldsIf P ops S oi v {a with defers:=d::a.defers}:=λd=>hy.of_same rfl rfl
 unfold wpOpIn at *
 simp only[hj]at *
 rw[wanted_put oj a oi.dst v h1]at h
 split
 ·rename_i hw
  simp only[hw,if_true]at h
  refine⟨λ_ _=>trivial,?_⟩
  have h:=h.2
  rw[ziR ro hdj]at h⊢
  rw[execOp_put oj hsj a oi.dst v h1]at h
  generalize (execOp a.eval oj).run P w=r at *
  cases r with
  |ok n w'=>
   cases n<;>simp only[Oper.uponIn]at h⊢
   case value u=>exact⟨keep a hy u,by rw[<-Act.put_comm a v u h2];exact h⟩
   case skip=>exact⟨keep a hy _,by rw[<-Act.put_comm a v undef h2];exact h⟩
   case defer d=>
    refine⟨keep _ (keepD d) _,?_⟩
    rw[<-Act.put_comm _ v undef h2,<-Act.put_defers]
    exact h
   case enter f args=>
    refine⟨h.1,CallsIn.mono h.2 λe w'' he=>?_⟩
    cases e with
    |returned u=>exact⟨keep a hy u,by rw[<-Act.put_comm a v u h2];exact he⟩
    |panicked c=>exact hQ _ _ _ he
    |outgrown=>exact he
   case row row args=>exact⟨h.1,RowsIn.mono h.2 λu w'' he=>⟨keep a hy u,by rw[<-Act.put_comm a v u h2];exact he⟩⟩
   case round l f tmps assign body=>
    refine⟨h.1,RoundIn.mono h.2 λe w'' he=>?_⟩
    cases e with
    |returned u=>exact⟨keep a hy u,by rw[<-Act.put_comm a v u h2];exact he⟩
    |panicked c=>exact hQ _ _ _ he
    |outgrown=>exact he
  |halt x w'=>
   cases x<;>simp only[Oper.uponIn]at h⊢
   case panic u=>exact hQ _ _ _ h
 ·rename_i hw
  simp only[hw]at h
  exact⟨λ_ _=>trivial,keep a hy _,by rw[<-Act.put_comm a v undef h2];exact h.2⟩
variable {ro:Option Nat}
theorem zpq{fs:List Nat}(hfs:zaa P fs){o:Oper}{ρ:Operand->Value}{w:World}{k:VWP}(h:zpp P fs o ρ w k)
  (a:Act) (K:Act->World->Prop) (Q:Exit->Act->World->Prop) (hK:∀v w',k v w'->K (a.put o.dst v) w') :
  o.uponIn (Wf ro) 0 P a K Q ((execOp ρ o).run P w):=by
 have byRun:(match (execOp ρ o).run P w with | .ok (.value v) w'=>k v w' |_=>False)->o.uponIn (Wf ro) 0 P a K Q ((execOp ρ o).run P w):=by
  intro h
  split at h
  ·rename_i v w' hr
   rw[hr]
   exact hK _ _ h
  ·exact h.elim
 unfold zpp at h
 split at h
 ·
  rename_i t x ho
  split at h
  ·rename_i p hp
   split at h
   ·rename_i κ hκ
    obtain⟨ad,rfl,h⟩:=Yl h
    obtain⟨v,h1,h2⟩:=zm0 hκ h
    have:(execOp ρ o).run P w =.ok (.value (κ.v v)) w:=by simp[execOp,ho,Instr.loadAt,Instr.sureAddr,hp,h1]
    rw[this]
    exact hK _ _ h2
   ·exact h.elim
  ·exact h.elim
 ·
  rename_i t x y ho
  split at h
  ·rename_i p hp
   split at h
   ·rename_i i hi
    obtain⟨ad,rfl,hsz,h⟩:=zve h
    obtain⟨w',h1,h2⟩:=zjZ P h
    have:(execOp ρ o).run P w =.ok .skip w':=by simp[execOp,ho,Instr.storeAt,Instr.sureAddr,hp,storeVar,yu hi,hsz,h1]
    rw[this]
    exact hK _ _ h2
   ·exact h.elim
  ·exact h.elim
 ·
  rename_i t l c ho
  split at h
  ·rename_i e k1 n k2 m hu hl hc
   split at h
   ·rename_i i hi
    split at h
    ·rename_i z hz
     obtain⟨⟨h0,h1,h2,h3⟩,h⟩:=h
     have:(execOp ρ o).run P w =.ok (.value (.slice (some ⟨w.heap.size,0,none⟩) n.toNat m.toNat)) (w.alloc (.cells (madeCells z.cells (m.toNat *i.size)) e)):=by
      simp only[execOp,ho,hl,hc,Sem.run_bind,run_make w t e i z hu hi hz k1 k2 n m h0 h1 h2 h3,Result.andThen_ok,Sem.run_pure]
     rw[this]
     exact hK _ _ h
    ·exact h.elim
   ·exact h.elim
  ·exact h.elim
 ·
  rename_i f args ats ho
  unfold zL at h
  split at h
  ·rename_i n first captured hf
   split at h
   ·rename_i hn
    have hc:=hfs.get hn
    have:(execOp ρ o).run P w =.ok (.enter n (first.toList++(args.toList.map ρ++captured.toList)).toArray) w:=by
     simp only[execOp,ho,resolve,hf,Deferred.ofValue,Sem.run_bind,Sem.run_pure,Result.andThen_ok,invoke]
     rw[hc]
     congr 2
     apply Array.ext'
     simp
    rw[this,Oper.uponIn_enter]
    refine⟨λh=>(by cases h),CallsIn.mono (zsI (ro:=ro) h) λe w' he=>?_⟩
    cases e with
    |returned v=>exact hK _ _ (zhM he)
    |panicked c=>exact he.elim
    |outgrown=>exact he.elim
   ·obtain⟨v,w',hr,h⟩:=h
    have:(execOp ρ o).run P w =.ok (.value v) w':=by
     simp only[execOp,ho,resolve,hf,Deferred.ofValue,Sem.run_bind,Sem.run_pure,Result.andThen_ok,invoke]
     rw[<-hr]
     congr 2
     apply Array.ext'
     simp
    rw[this]
    exact hK _ _ (zhM h)
  ·rename_i l first captured hf
   obtain⟨r,h1,h2,h3⟩:=h
   have:(execOp ρ o).run P w =.ok (.round l r.fn ((r.params.zip (first.toList++args.toList.map ρ).toArray).foldl (λtmps (t,a)=>tmps.setIfInBounds t a) r.tmps) r.assign r.body) w:=by
    simp only[execOp,ho,resolve,hf,Deferred.ofValue,Sem.run_bind,Sem.run_pure,Result.andThen_ok,invoke]
    have e1:first++Array.map ρ args=(first.toList++args.toList.map ρ).toArray:=by apply Array.ext';simp
    rw[e1]
    generalize (first.toList++args.toList.map ρ).toArray=ar at h2⊢
    unfold Instr.yield
    simp only[Sem.run_bind,run_getLoop h1,Result.andThen]
    rw[if_neg (by simpa using h2)]
    rfl
   rw[this,Oper.uponIn_round]
   refine⟨λh=>(by cases h),RoundIn.mono (F:=Wf ro) (n:=0) h3 λe w' he=>?_⟩
   cases e with
   |returned v=>exact hK _ _ (zhM he)
   |panicked c=>exact he.elim
   |outgrown=>exact he.elim
  ·exact h.elim
 ·
  rename_i args ats ho
  split at h
  ·rename_i s x t t' hargs hats
   split at h
   ·rename_i ht
    have ht:=Nat.eq_of_beq_eq_true ht
    subst ht
    obtain⟨r,w',h1,h2⟩:=h
    have e1:args=#[s,x]:=by apply Array.ext';simp[hargs]
    have e2:ats=#[t,t]:=by apply Array.ext';simp[hats]
    have:(execOp ρ o).run P w =.ok (.value r.v) w':=by
     simp only[execOp,ho,resolve,Sem.run_bind,Sem.run_pure,Result.andThen_ok,invoke,builtin,e1,e2]
     rw[znY _ o.type t]
     simp[h1]
    rw[this]
    exact hK _ _ h2
   ·exact h.elim
  ·exact h.elim
 ·
  rename_i args ats ho
  split at h
  ·rename_i d s hargs
   obtain⟨n,w',h1,h2⟩:=h
   have e1:args=#[d,s]:=by apply Array.ext';simp[hargs]
   have:(execOp ρ o).run P w =.ok (.value (.int .i64 n)) w':=by
    simp only[execOp,ho,resolve,Sem.run_bind,Sem.run_pure,Result.andThen_ok,invoke,builtin,e1]
    rw[zrB _ o.type 0]
    simp[h1]
   rw[this]
   exact hK _ _ h2
  ·exact h.elim
 ·
  rename_i args ats ho
  split at h
  ·rename_i s hargs
   obtain⟨w',h1,h2⟩:=h
   have e1:args=#[s]:=by apply Array.ext';simp[hargs]
   have:(execOp ρ o).run P w =.ok (.value (.tuple #[])) w':=by
    simp only[execOp,ho,resolve,Sem.run_bind,Sem.run_pure,Result.andThen_ok,invoke,builtin,e1]
    rw[zpD _ o.type 0]
    simp[h1]
   rw[this]
   exact hK _ _ h2
  ·exact h.elim
 ·
  rename_i args ats ho
  split at h
  ·rename_i m x hargs
   obtain⟨w',h1,h2⟩:=h
   have e1:args=#[m,x]:=by apply Array.ext';simp[hargs]
   have:(execOp ρ o).run P w =.ok (.value (.tuple #[])) w':=by
    simp only[execOp,ho,resolve,Sem.run_bind,Sem.run_pure,Result.andThen_ok,invoke,builtin,e1]
    rw[zou _ o.type 0]
    simp[h1]
   rw[this]
   exact hK _ _ h2
  ·exact h.elim
 ·
  rename_i it b ho
  split at h
  ·split at h
   ·rename_i r q hp
    obtain⟨s,pos,hr,hA,hB⟩:=h
    by_cases hlt:pos<s.size
    ·have:(execOp ρ o).run P w =.ok (.value (.tuple #[.bool true,.int .i64 (pos:Int),.int .i32 ((Utf8.decode s pos).1:Int)])) (YX w r s (pos+(Utf8.decode s pos).2)):=by
      simp[execOp,ho,hp,Instr.next,getObj,setObj,Sem.run,hr,hlt,goInt,YX,Result.andThen]
     rw[this]
     exact hK _ _ (hA hlt)
    ·have:(execOp ρ o).run P w =.ok (.value (.tuple #[.bool false])) w:=by
      simp[execOp,ho,hp,Instr.next,getObj,Sem.run,hr,hlt,Result.andThen]
     rw[this]
     exact hK _ _ (hB hlt)
   ·exact h.elim
  ·rcases h with⟨x,y,w',h1,h2⟩ | ⟨w',h1,h2⟩
   ·have:(execOp ρ o).run P w =.ok (.value (.tuple #[.bool true,x,y])) w':=by
     simp only[execOp,ho,Sem.run_bind,h1,Result.andThen_ok,Sem.run_pure]
    rw[this]
    exact hK _ _ h2
   ·have:(execOp ρ o).run P w =.ok (.value (.tuple #[.bool false])) w':=by
     simp only[execOp,ho,Sem.run_bind,h1,Result.andThen_ok,Sem.run_pure]
    rw[this]
    exact hK _ _ h2
 ·
  rename_i t m x ok ho
  split at h
  ·split at h
   ·split at h
    ·rename_i κ _ _
     obtain⟨v,b,h1,h2⟩:=h
     have:(execOp ρ o).run P w =.ok (.value (.tuple #[κ.v v,.bool b])) w:=by
      simp only[execOp,ho,Sem.run_bind,h1,Result.andThen_ok,Sem.run_pure]
     rw[this]
     exact hK _ _ h2
    ·rename_i κ _ _
     obtain⟨v,h1,h2⟩:=h
     have:(execOp ρ o).run P w =.ok (.value (κ.v v)) w:=by
      simp only[execOp,ho,Sem.run_bind,h1,Result.andThen_ok,Sem.run_pure]
     rw[this]
     exact hK _ _ h2
   ·split at h
    ·rename_i ks _ _
     obtain⟨v,b,h1,h2⟩:=h
     have:(execOp ρ o).run P w =.ok (.value (.tuple #[.agg (HL.cells ks v).toArray,.bool b])) w:=by
      simp only[execOp,ho,Sem.run_bind,h1,Result.andThen_ok,Sem.run_pure]
     rw[this]
     exact hK _ _ h2
    ·rename_i ks _ _
     obtain⟨v,h1,h2⟩:=h
     have:(execOp ρ o).run P w =.ok (.value (.agg (HL.cells ks v).toArray)) w:=by
      simp only[execOp,ho,Sem.run_bind,h1,Result.andThen_ok,Sem.run_pure]
     rw[this]
     exact hK _ _ h2
   ·exact h.elim
  ·exact h.elim
 ·rename_i t m x y ho
  obtain⟨w',h1,h2⟩:=h
  have:(execOp ρ o).run P w =.ok .skip w':=by
   simp only[execOp,ho,Sem.run_bind,h1,Result.andThen_ok,Sem.run_pure]
  rw[this]
  exact hK _ _ h2
 ·rename_i t m x y ho
  obtain⟨w',h1,h2⟩:=h
  have:(execOp ρ o).run P w =.ok .skip w':=by
   simp only[execOp,ho,Sem.run_bind,h1,Result.andThen_ok,Sem.run_pure]
  rw[this]
  exact hK _ _ h2
 ·rename_i t m x ho
  obtain⟨z,n,w',h1,h2⟩:=h
  have:(execOp ρ o).run P w =.ok (.value (.tuple #[z,.int .i64 n])) w':=by
   simp only[execOp,ho,Sem.run_bind,h1,Result.andThen_ok,Sem.run_pure]
  rw[this]
  exact hK _ _ h2
 ·rename_i t m x y ho
  obtain⟨w',h1,h2⟩:=h
  have:(execOp ρ o).run P w =.ok .skip w':=by
   simp only[execOp,ho,Sem.run_bind,h1,Result.andThen_ok,Sem.run_pure]
  rw[this]
  exact hK _ _ h2
 ·rename_i t x ho
  split at h
  ·obtain⟨w',h1,h2⟩:=h
   have:(execOp ρ o).run P w =.ok (.value (.pointer (some ⟨w.heap.size,0,none⟩))) w':=by
    simp only[execOp,ho,Sem.run_bind,h1,Result.andThen_ok,Sem.run_pure]
   rw[this]
   exact hK _ _ h2
  ·exact byRun h
 ·exact byRun h
 ·exact byRun h
 ·exact byRun h
 ·exact byRun h
 ·exact h.elim
theorem zqf{op:Op}{x:Operand}(hs:∀cs b,op≠.select cs b)(h:x∈op.operands):x∈zn4 op:=by
 cases op<;>simp only[Op.operands,zn4]at h⊢<;>(try (first | (simp at h;done) | (simpa using h)))
 case call c=>
  simp only[Call.operands,Array.mem_append]at h
  simp only[List.mem_append,Array.mem_toList_iff]
  rcases h with h |h
  ·refine .inl ?_
   cases hc:c.callee<;>simp[hc]at h⊢<;>exact h
  ·exact .inr h
theorem zlx{n:Nat}{a:Act}{e:Env}(h:Rep D n a e){o:Oper}(hs:∀cs b,o.op≠.select cs b)(hk:zlw e (zn4 o.op)=true):execOp a.eval o=execOp e.ρ o:=by
 refine execOp_congr o hs λx hx=>h.ρ ?_
 simp only[zlw,List.all_eq_true]at hk
 exact hk x (zqf hs hx)
theorem zlu{fs:List Nat}(hfs:zaa P fs){o:Oper}{n:Nat}{a:Act}{e:Env}{w:World}{k:VWP}(hr:Rep D n a e)(h:lwOp P fs o e w k)
  (K:Act->World->Prop) (Q:Exit->Act->World->Prop) (hK:∀v w',k v w'->K (a.put o.dst v) w'):o.wpIn (Wf ro) 0 P a w K Q:=by
 refine⟨λ_ _=>trivial,?_⟩
 rw[ziR ro (znz h)]
 unfold lwOp at h
 split at h
 ·rename_i x ho
  split at h
  ·rename_i v hv
   have:(execOp a.eval o).run P w =.ok (.value v) w:=by simp[execOp,ho,hr.ev hv]
   rw[this];exact hK _ _ h
  ·exact h.elim
 ·rename_i x ho
  split at h
  ·rename_i v hv
   have:(execOp a.eval o).run P w =.ok (.value v) w:=by simp[execOp,ho,hr.ev hv]
   rw[this];exact hK _ _ h
  ·exact h.elim
 ·rename_i c x y ho
  split at h
  ·rename_i b hb
   cases b with
   |true=>
    simp only[ifB]at h
    split at h
    ·rename_i v hv
     have:(execOp a.eval o).run P w =.ok (.value v) w:=by simp[execOp,ho,hr.ev hb,hr.ev hv,asBool]
     rw[this];exact hK _ _ h
    ·exact h.elim
   |false=>
    simp only[ifB]at h
    split at h
    ·rename_i v hv
     have:(execOp a.eval o).run P w =.ok (.value v) w:=by simp[execOp,ho,hr.ev hb,hr.ev hv,asBool]
     rw[this];exact hK _ _ h
    ·exact h.elim
  ·exact h.elim
 ·exact h.elim
 ·rename_i hm hp hsel
  split at h
  ·rename_i hk
   rw[zlx hr (λcs b=>hsel cs b) hk]
   split at h
   ·obtain⟨v,h1,h2⟩:=zjU h
    rw[h1 w]
    exact hK _ _ h2
   ·exact zpq hfs h a K Q hK
  ·exact h.elim
theorem ztc{o:Oper}{r:List Oper}{it:Operand}{κ1 κ2:BK}(h:ztb P o r=some (it,κ1,κ2)):o.op =.entry it:=by
 unfold ztb at h
 split at h
 ·rename_i it' d ho hd
  split at h
  ·split at h
   ·simp only[Option.some.injEq,Prod.mk.injEq]at h
    rw[ho,h.1]
   ·cases h
  ·split at h
   ·simp only[Option.some.injEq,Prod.mk.injEq]at h
    rw[ho,h.1]
   ·cases h
  ·cases h
 ·cases h
theorem zt0{o:Oper}{t:TypeId}{x:Operand}(h:ztz P o=some (t,x)):∃c:Call,o.op =.call c/\c.callee =.builtin .len/\c.args=#[x]/\c.argTypes=#[t]:=by
 unfold ztz at h
 split at h
 ·rename_i args ats _ ho
  split at h
  ·rename_i x' t' h1 h2
   split at h
   ·cases h
    exact⟨_,ho,rfl,Array.toList_inj.1 h1,Array.toList_inj.1 h2⟩
   ·cases h
  ·cases h
 ·cases h
theorem zoQ{fs:List Nat}(hfs:zaa P fs){o:Oper}{r:List Oper}{n:Nat}{a:Act}{e:Env}{w:World}{k:VWP}(hr:Rep D n a e)(h:zt6 P fs o r e w k)
  (K:Act->World->Prop) (Q:Exit->Act->World->Prop) (hK:∀v w',k v w'->K (a.put o.dst v) w'):o.wpIn (Wf ro) 0 P a w K Q:=by
 unfold zt6 at h
 split at h
 ·rename_i it κ1 κ2 he
  have ho:=ztc he
  split at h
  ·rename_i v hv
   obtain⟨x,y,h1,h2⟩:=h
   refine⟨λ_ _=>trivial,?_⟩
   rw[ziR ro (λc hc=>by rw[ho]at hc;cases hc)]
   have:(execOp a.eval o).run P w =.ok (.value (.tuple #[κ1.v x,κ2.v y])) w:=by
    simp only[execOp,ho,hr.ev hv,Sem.run_bind,h1,Result.andThen_ok,Sem.run_pure]
   rw[this]
   exact hK _ _ h2
  ·exact h.elim
 ·split at h
  ·rename_i t x he
   obtain⟨c,hc,h1,h2,h3⟩:=zt0 he
   split at h
   ·rename_i v hv
    obtain⟨n,h4,h5⟩:=h
    refine⟨λ_ _=>trivial,?_⟩
    rw[ziR ro (λc' hc'=>by rw[hc]at hc';cases hc')]
    have h4:(Builtin.len_ c.argTypes o.type #[v]).run P w =.ok (.int .i64 n) w:=by rw[h3];exact h4
    have:(execOp a.eval o).run P w =.ok (.value (.int .i64 n)) w:=by
     have hm:(c.args.map a.eval)=#[v]:=by rw[h2];simp[hr.ev hv]
     simp only[execOp,hc,resolve,h1,hm,Sem.run_bind,Sem.run_pure,Result.andThen_ok,invoke,builtin,h4]
    rw[this]
    exact hK _ _ h5
   ·exact h.elim
  ·exact zlu hfs hr h K Q hK
def zc4:zfm->World->Prop
 | [],_=>True
 | (_,a,v)::r,w=>w.cell? a=some v/\zc4 r w
theorem zfA{n:Nat}{a:Addr}{w:World}:∀{vs:List Value} {i:Nat},zc4 (Y4 n a i vs) w↔∀j v,vs[j]? =some v->w.cell? (a.add (i+j))=some v
 | [],i=>by simp[Y4,zc4]
 |v::r,i=>by
  simp only[Y4,zc4,zfA]
  constructor
  ·rintro⟨h1,h2⟩ j u hj
   cases j with
   |zero=>simp at hj;subst hj;exact h1
   |succ j=>rw[List.getElem?_cons_succ]at hj;have:=h2 j u hj;rwa[show i+(j+1)=i+1+j by omega]
  ·intro h
   exact⟨h 0 v rfl,λj u hj=>by have:=h (j+1) u (by simpa using hj);rwa[show i+(j+1)=i+1+j by omega]at this⟩
theorem zht{n:Nat}{a:Addr}:∀{vs:List Value} {i:Nat},∀x∈Y4 n a i vs,x.1=n
 | [],_,_,h=>by cases h
 |_::r,i,x,h=>by
  simp only[Y4]at h
  cases h with
  |head=>rfl
  |tail _ h=>exact zht (vs:=r) x h
theorem zpU{n:Nat}{o:Oper}{e:Env}{v:Value}:∀x∈Z1 P n o e v,x.1=n:=by
 intro x hx
 unfold Z1 at hx
 split at hx
 ·split at hx
  ·split at hx
   ·exact zht x hx
   ·simp only[List.mem_singleton]at hx;subst hx;rfl
  ·cases hx
 ·cases hx
theorem zqb{fs:List Nat}{o:Oper}{m n:Nat}{a:Act}{e:Env}{w:World}{k:VWP}(hr:Rep D n a e)(ht:ziL o.op=true)(h:lwOp P fs o e w k) :
  ∃v,(∀w',zc4 (Z1 P m o e v) w'->(execOp a.eval o).run P w' =.ok (.value v) w')/\zc4 (Z1 P m o e v) w/\k v w:=by
 unfold lwOp at h
 split at h
 ·rename_i x ho
  split at h
  ·rename_i v hv
   exact⟨v,λw' _=>by simp[execOp,ho,hr.ev hv],by simp[Z1,ho,zc4],h⟩
  ·exact h.elim
 ·rename_i x ho
  split at h
  ·rename_i v hv
   exact⟨v,λw' _=>by simp[execOp,ho,hr.ev hv],by simp[Z1,ho,zc4],h⟩
  ·exact h.elim
 ·rename_i c x y ho
  split at h
  ·rename_i b hb
   cases b with
   |true=>
    simp only[ifB]at h
    split at h
    ·rename_i v hv
     exact⟨v,λw' _=>by simp[execOp,ho,hr.ev hb,hr.ev hv,asBool],by simp[Z1,ho,zc4],h⟩
    ·exact h.elim
   |false=>
    simp only[ifB]at h
    split at h
    ·rename_i v hv
     exact⟨v,λw' _=>by simp[execOp,ho,hr.ev hb,hr.ev hv,asBool],by simp[Z1,ho,zc4],h⟩
    ·exact h.elim
  ·exact h.elim
 ·exact h.elim
 ·rename_i hm hp hsel
  split at h
  ·rename_i hk
   have he:=zlx hr (λcs b=>hsel cs b) hk
   split at h
   ·rename_i hq
    obtain⟨v,h1,h2⟩:=zjU h
    refine⟨v,λw' _=>by rw[he];exact h1 w',?_,h2⟩
    unfold Z1
    split
    ·rename_i ho
     rw[ho]at hq
     cases hq
    ·trivial
   ·rename_i hq
    unfold ziL at ht
    split at ht
    ·rename_i t x ho
     unfold zpp at h
     rw[ho]at h
     simp only at h
     split at h
     ·rename_i p hpx
      split at h
      ·rename_i κ hκ
       obtain⟨ad,rfl,h⟩:=Yl h
       cases κ with
       |b kb=>
        obtain⟨x',h1,h2⟩:=h
        have hh:Z1 P m o e (kb.v x')=[(m,ad,kb.v x')]:=by simp[Z1,ho,hpx,hκ]
        refine⟨kb.v x',λw' hw'=>?_,?_,h2⟩
        ·rw[hh]at hw'
         rw[he]
         simp[execOp,ho,Instr.loadAt,Instr.sureAddr,hpx,loadVar,ztt hκ,hw'.1]
        ·rw[hh];exact⟨h1,trivial⟩
       |agg ks=>
        obtain⟨ts,h1,h2⟩:=zgl h
        have hh:Z1 P m o e (Kd.v (.agg ks) ts)=Y4 m ad 0 (HL.cells ks ts):=by simp[Z1,ho,hpx,hκ,Kd.v,Value.cells]
        refine⟨_,λw' hw'=>?_,?_,h1⟩
        ·rw[hh,zfA]at hw'
         rw[he]
         have:=YW (P:=P) (w:=w') (a:=ad) (HL.cells ks ts) 0 #[] hw'
         rw[HL.length_cells]at this
         simp[execOp,ho,Instr.loadAt,Instr.sureAddr,hpx,loadVar,(zlq hκ w').1,(zlq hκ w').2,loadCells,this,Kd.v]
        ·rw[hh,zfA];exact h2
      ·exact h.elim
     ·exact h.elim
    ·rename_i c x y ho
     exact absurd ho (hp c x y)
    ·rw[ht]at hq;cases hq
  ·exact h.elim
def Same(ws:List Nat)(a0 a:Act):Prop:=∀t,t ∉ ws->a.tmps.getD t undef=a0.tmps.getD t undef
theorem Same.refl(ws:List Nat)(a:Act):Same ws a a:=λ_ _=>rfl
theorem Same.trans{ws:List Nat}{a b c:Act}(h:Same ws a b)(k:Same ws b c):Same ws a c:=λt ht=>(k t ht).trans (h t ht)
theorem Same.mono{ws ws':List Nat}{a b:Act}(h:Same ws a b)(hs:∀t,t∈ws->t∈ws'):Same ws' a b:=λt ht=>h t (λhh=>ht (hs t hh))
theorem Same.put{ws:List Nat}{a0 a:Act}(h:Same ws a0 a){d:Option Nat}(hd:∀x,d=some x->x∈ws)(v:Value):Same ws a0 (a.put d v):=by
 cases d with
 |none=>exact h
 |some d=>exact λt ht=>(zjL (λe=>ht (by rw[e];exact hd d rfl))).trans (h t ht)
def NQ(D:List Deferred)(n:Nat)(ws:List Nat)(a0:Act)(k:Env->World->Prop):Exit->Act->World->Prop
 | .normal,a,w=>∃e,Rep D n a e/\Same ws a0 a/\k e w
 |_,_,_=>False
theorem zju{a:Act}{t:Nat}{b:Bool}(h:a.tmps.getD t undef =.bool b):a.tmps[t]? =some (.bool b):=by
 by_cases ht:t<a.tmps.size
 ·simp[ht]at h⊢;exact h
 ·simp[ht,undef]at h
theorem zeW{ops:Array Oper}{o:Oper}{n:Nat}{a:Act}{e:Env}{run skip:Env->Prop}(hr:Rep D n a e)(h:zll ops o e run skip) :
  (Region.wanted o (yielded ops a.tmps)=true/\∃e',Rep D n a e'/\run e')\/(Region.wanted o (yielded ops a.tmps)=false/\∃e',Rep D n a e'/\skip e'):=by
 unfold zll at h
 split at h
 ·rename_i hg
  exact .inl ⟨by simp[Region.wanted,hg],e,hr,h⟩
 ·rename_i j want hg
  split at h
  ·exact h.elim
  ·rename_i t ht
   have hslot:(ops[j]?).bind (·.dst)=some t:=by
    unfold zmw at ht
    cases ho:ops[j]? with
    |none=>simp[ho]at ht
    |some o'=>simp[ho]at ht;simp[ht]
   split at h
   ·rename_i b hb
    have hy:yielded ops a.tmps j=some b:=by
     have:=zju (hr.2.2 t _ hb)
     simp[yielded,hslot,this]
    cases b<;>cases want<;>simp only[ifB]at h
    ·exact .inl ⟨by simp[Region.wanted,hg,hy],_,hr.refine hb,h⟩
    ·exact .inr ⟨by simp[Region.wanted,hg,hy],_,hr.refine hb,h⟩
    ·exact .inr ⟨by simp[Region.wanted,hg,hy],_,hr.refine hb,h⟩
    ·exact .inl ⟨by simp[Region.wanted,hg,hy],_,hr.refine hb,h⟩
   ·rename_i vs hb
    have hy:yielded ops a.tmps j=none:=by
     have:=hr.2.2 t _ hb
     simp only[yielded,hslot,Option.bind_some]
     by_cases hlt:t<a.tmps.size
     ·simp[hlt]at this;simp[hlt,this]
     ·simp[hlt]
    exact .inr ⟨by simp[Region.wanted,hg,hy],e,hr,h⟩
   ·exact h.elim
theorem zgn{fs:List Nat}(hfs:zaa P fs){ops:Array Oper}{n:Nat}{ws:List Nat}{a0:Act}{k:Env->World->Prop} :
  ∀(l:List Oper) (a:Act) (e:Env) (w:World),(∀o∈l,∀d,o.dst=some d->d<n/\d∈ws)->Rep D n a e->Same ws a0 a->zoR P fs ops l e w k->
   wpListIn (Wf ro) 0 P ops (NQ D n ws a0 k) l a w
 | [],a,e,w,_,hr,hs,h=>⟨e,hr,hs,h⟩
 |o::r,a,e,w,hd,hr,hs,h=>by
  have hd1:∀d,o.dst=some d->d<n:=λd hh=>(hd o (List.mem_cons_self ..) d hh).1
  have hd2:∀d,o.dst=some d->d∈ws:=λd hh=>(hd o (List.mem_cons_self ..) d hh).2
  have hdr:∀o∈r,∀d,o.dst=some d->d<n/\d∈ws:=λo ho=>hd o (List.mem_cons_of_mem _ ho)
  refine wpListIn_step λK hK=>?_
  simp only[zoR]at h
  rcases zeW hr h with⟨hw,e',hr',h⟩ | ⟨hw,e',hr',h⟩
  ·rw[if_pos hw]
   exact zoQ hfs hr' h K _ λv w' h'=>hK _ _ (zgn hfs r _ _ _ hdr (hr'.upO hd1 v) (hs.put hd2 v) h')
  ·rw[if_neg (by simp[hw])]
   exact⟨λ_ _=>trivial,hK _ _ (zgn hfs r _ _ _ hdr (hr'.upO hd1 undef) (hs.put hd2 undef) h)⟩
def zg9(ro:Option Nat)(P:Program)(md:Region.Mode)(ops:Array Oper)(Q:Exit->Act->World->Prop)(S:Array Bool->World->Prop):Nat->Array Bool->Act->World->Prop
 | 0,listed,a,w=>Region.ready md ops listed=[]/\Q .normal a w
 |fuel+1,listed,a,w=>
  (Region.ready md ops listed=[]->Q .normal a w)/\
  ∀i∈Region.ready md ops listed,wpOpIn (Wf ro) 0 P ops Q i (λa' w'=>S (listed.setIfInBounds i true) w'/\zg9 ro P md ops Q S fuel (listed.setIfInBounds i true) a' w') a w
theorem zlF{md:Region.Mode}{ops:Array Oper}{Q:Exit->Act->World->Prop}{S:Array Bool->World->Prop} :
  ∀(fuel:Nat) (listed:Array Bool) (a:Act) (w:World),zg9 ro P md ops Q S fuel listed a w->wpAnyIn (Wf ro) 0 P md ops Q fuel listed a w
 | 0,_,_,_,h=>h
 |fuel+1,_,_,_,h=>⟨h.1,λi hi=>wpOpIn_mono (λa' w' h'=>zlF fuel _ a' w' h'.2) (h.2 i hi)⟩
theorem zkc{md:Region.Mode}{ops:Array Oper}{Q:Exit->Act->World->Prop}{S S':Array Bool->World->Prop}(hS:∀l w,S l w->S' l w) :
  ∀(fuel:Nat) (listed:Array Bool) (a:Act) (w:World),zg9 ro P md ops Q S fuel listed a w->zg9 ro P md ops Q S' fuel listed a w
 | 0,_,_,_,h=>h
 |fuel+1,_,_,_,h=>⟨h.1,λi hi=>wpOpIn_mono (λa' w' h'=>⟨hS _ _ h'.1,zkc hS fuel _ a' w' h'.2⟩) (h.2 i hi)⟩
def zeJ(ops:Array Oper)(listed:Array Bool):Prop:=∀j o,ops[j]? =some o->listed.getD j false=true->∀e∈o.after,Region.binds .any e=true->listed.getD e.on false=true
theorem zeJ.ready{ops:Array Oper}{listed:Array Bool}(h:zeJ ops listed){i:Nat}(hi:i∈Region.ready .any ops listed):zeJ ops (listed.setIfInBounds i true):=by
 intro j o ho hj e he hb
 obtain⟨_,oi,hoi,hall⟩:=mem_ready.1 hi
 by_cases hij:i=j
 ·subst hij
  rw[hoi]at ho
  cases ho
  exact getD_set_true (hall e he hb)
 ·rw[getD_set_ne false hij]at hj
  exact getD_set_true (h j o ho hj e he hb)
theorem ziY{ops:Array Oper}{Q:Exit->Act->World->Prop}{S:Array Bool->World->Prop}{C:World->Prop}{i:Nat}{oi:Oper}{v:Value}(hi:ops[i]? =some oi)
  (hsel:∀(j:Nat) (o:Oper) cs b,ops[j]? =some o->o.op≠.select cs b) (hdef:∀(j:Nat) (o:Oper) c,ops[j]? =some o->o.op≠.defer c) (hQ:∀c a w,Q (.panic c) (a.put oi.dst v) w->Q (.panic c) a w)
  (hC:∀l w,zeJ ops l->l.getD i true=false->S l w->C w) (hup:∀l w,S l w->S (l.setIfInBounds i true) w) (hdn:∀l w,S (l.setIfInBounds i true) w->S l w) :
  ∀(fuel:Nat) (listed:Array Bool) (a:Act) (w:World),zeJ ops listed->
   (∀j oj,ops[j]? =some oj->j≠i->listed.getD j true=false->(∀e∈oj.after,Region.binds .any e=true->e.on≠i)->oi.apart ops oj=true)->
   i∈Region.ready .any ops listed->YieldsIf P ops C oi v a->S listed w->
   zg9 ro P .any ops Q S fuel (listed.setIfInBounds i true) (a.put oi.dst v) w->zg9 ro P .any ops Q S (fuel+1) listed a w:=by
 intro fuel
 induction fuel with
 |zero=>
  intro listed a w hcl _ hr hy hS H
  refine⟨λh=>(by rw[h]at hr;cases hr),λj hj=>?_⟩
  by_cases hji:j=i
  ·subst hji
   exact zgA hi hy (hC _ _ hcl (mem_ready.1 hr).1 hS) ⟨hup _ _ hS,H⟩
  ·have:=ready_mono hj hji
   rw[H.1]at this
   cases this
 |succ fuel ih=>
  intro listed a w hcl hfree hr hy hS H
  refine⟨λh=>(by rw[h]at hr;cases hr),λj hj=>?_⟩
  by_cases hji:j=i
  ·subst hji
   exact zgA hi hy (hC _ _ hcl (mem_ready.1 hr).1 hS) ⟨hup _ _ hS,H⟩
  ·have h1:=H.2 j (ready_mono hj hji)
   obtain⟨hjun,oj,hoj,hall⟩:=mem_ready.1 hj
   have hnot:∀e∈oj.after,Region.binds .any e=true->e.on≠i:=λe he hb heq=>by
    have h1:=hall e he hb
    have h0:=(mem_ready.1 hr).1
    rw[heq]at h1
    rcases Nat.lt_or_ge i listed.size with h' |h'
    ·simp[h']at h0 h1;rw[h0]at h1;cases h1
    ·simp[Array.getElem?_eq_none h']at h1
   have h2:=zp1 hoj (hfree j oj hoj hji hjun hnot) (λcs b=>hsel i oi cs b hi) (λcs b=>hsel j oj cs b hoj) (λc=>hdef j oj c hoj) hQ hy h1
   have hfree':∀k ok,ops[k]? =some ok->k≠i->(listed.setIfInBounds j true).getD k true=false->
     (∀e∈ok.after,Region.binds .any e=true->e.on≠i)->oi.apart ops ok=true:=λk ok hk hki hun hno=>by
    refine hfree k ok hk hki ?_ hno
    by_cases hjk:j=k
    ·subst hjk;exact hjun
    ·rw[getD_set_ne true hjk]at hun;exact hun
   refine wpOpIn_mono (λa' w' h3=>?_) h2
   have hS3:S (listed.setIfInBounds j true) w':=hdn _ _ (by rw[Array.setIfInBounds_comm _ _ hji];exact h3.2.1)
   refine⟨hS3,ih (listed.setIfInBounds j true) a' w' (hcl.ready hj) hfree' (ready_mono hr (Ne.symm hji)) h3.1 hS3 ?_⟩
   rw[Array.setIfInBounds_comm _ _ hji]
   exact h3.2.2
theorem zp0{ops:Array Oper}{Q:Exit->Act->World->Prop}{S:Array Bool->World->Prop}{listed:Array Bool}{a:Act}{w:World}(hr:Region.ready .any ops listed=[])(h:Q .normal a w) :
  ∀fuel,zg9 ro P .any ops Q S fuel listed a w
 | 0=>⟨hr,h⟩
 |_+1=>⟨λ_=>h,by rw[hr];simp⟩
theorem zfZ{ops:Array Oper}{listed:Array Bool}{L:Nat}(hcl:zeJ ops listed):∀(l:List Oper) (i:Nat) (acc:List Nat),(∀j,l[j]? =ops[i+j]?)->
  (∀d∈acc,listed.getD d false=true->listed.getD L false=true)->∀d∈zkT i l acc,listed.getD d false=true->listed.getD L false=true
 | [],_,_,_,h,d,hd,hl=>h d hd hl
 |o::r,i,acc,hl0,h,d,hd,hl=>by
  have ho:ops[i]? =some o:=by have:=hl0 0;simpa using this.symm
  have hr:∀j,r[j]? =ops[i+1+j]?:=λj=>by have:=hl0 (j+1);rw[show i+(j+1)=i+1+j by omega]at this;simpa using this
  simp only[zkT]at hd
  split at hd
  ·rename_i hany
   refine zfZ hcl r (i+1) _ hr (λd hd hld=>?_) d hd hl
   cases hd with
   |head=>
    simp only[List.any_eq_true,Bool.and_eq_true]at hany
    obtain⟨e,he,hb,hc⟩:=hany
    exact h e.on (by simpa using hc) (hcl i o ho hld e (by simpa using he) hb)
   |tail _ hd=>exact h d hd hld
  ·exact zfZ hcl r (i+1) _ hr h d hd hl
theorem zlX{ops:Array Oper}{listed:Array Bool}{L:Nat}(hcl:zeJ ops listed)(h:zda ops listed L=true):listed.getD L false=true:=by
 simp only[zda,List.any_eq_true,Bool.and_eq_true]at h
 obtain⟨j,hj,_,hl⟩:=h
 refine zfZ hcl ops.toList 0 [L] (λj=>by simp) (λd hd hl=>?_) j hj hl
 simp only[List.mem_singleton]at hd
 subst hd
 exact hl
theorem zlC{ops:Array Oper}{listed:Array Bool}{i L:Nat}(h:zda ops listed L=true):zda ops (listed.setIfInBounds i true) L=true:=by
 simp only[zda,List.any_eq_true,Bool.and_eq_true]at h⊢
 obtain⟨j,hj,h1,h2⟩:=h
 exact⟨j,hj,h1,getD_set_true h2⟩
theorem znN{ops:Array Oper}{listed:Array Bool}{i L:Nat}(hi:loud ops i=false)(h:zda ops (listed.setIfInBounds i true) L=true):zda ops listed L=true:=by
 simp only[zda,List.any_eq_true,Bool.and_eq_true]at h⊢
 obtain⟨j,hj,h1,h2⟩:=h
 refine⟨j,hj,h1,?_⟩
 have hne:i≠j:=λe=>by subst e;rw[hi]at h1;cases h1
 rwa[getD_set_ne false hne]at h2
def zfn(ops:Array Oper)(listed:Array Bool)(S:zfm)(w:World):Prop:=∀x∈S,zda ops listed x.1=true\/w.cell? x.2.1=some x.2.2
theorem zc0{ops:Array Oper}{listed:Array Bool}{S:zfm}{w:World}:zfn ops listed S w↔∀x∈S,zda ops listed x.1=true\/w.cell? x.2.1=some x.2.2:=Iff.rfl
theorem zjb{ops:Array Oper}{listed:Array Bool}{k:Prop}:∀{S:zfm} {w:World},znR ops listed S w k->zfn ops listed S w/\k
 | [],_,h=>⟨(λ_ hx=>by cases hx),h⟩
 | (L,a,v)::r,w,h=>by
  simp only[znR]at h
  split at h
  ·rename_i hv
   obtain⟨h1,h2⟩:=zjb h
   refine⟨λx hx=>?_,h2⟩
   cases hx with
   |head=>exact .inl hv
   |tail _ hx=>exact h1 x hx
  ·obtain⟨h0,h⟩:=h
   obtain⟨h1,h2⟩:=zjb h
   refine⟨λx hx=>?_,h2⟩
   cases hx with
   |head=>exact .inr h0
   |tail _ hx=>exact h1 x hx
theorem zja:∀{S:zfm} {w:World},zc4 S w↔∀x∈S,w.cell? x.2.1=some x.2.2
 | [],w=>by simp[zc4]
 | (L,a,v)::r,w=>by simp[zc4,zja]
theorem AllP.get{p:Nat->Prop}:∀{l:List Nat},AllP l p->∀i∈l,p i
 | [],_,i,h=>by cases h
 | [j],h,i,hi=>by
  cases hi with
  |head=>exact h
  |tail _ hh=>cases hh
 |j::j'::r,h,i,hi=>by
  cases hi with
  |head=>exact h.1
  |tail _ hh=>exact AllP.get h.2 i hh
theorem znV{n:Nat}{ws:List Nat}{a0:Act}{k:Env->World->Prop}(d:Option Tmp)(v:Value) :
  ∀(c:List PanicEntry) (a:Act) (w:World),NQ D n ws a0 k (.panic c) (a.put d v) w->NQ D n ws a0 k (.panic c) a w:=λ_ _ _ h=>h.elim
theorem zlQ{ops:Array Oper}{listed:Array Bool}{l:List Nat}{i:Nat}(h:l.find? (zl8 ops listed)=some i) :
  i∈l/\∃o,ops[i]? =some o/\ziL o.op=true/\Region.free .any ops listed i=true:=by
 have h1:=List.mem_of_find?_eq_some h
 have h2:=List.find?_some h
 refine⟨h1,?_⟩
 unfold zl8 at h2
 split at h2
 ·rename_i o ho
  split at h2
  ·rename_i ht
   exact⟨o,ho,ht,h2⟩
  ·cases h2
 ·cases h2
theorem YV{fs:List Nat}(hfs:zaa P fs){ops:Array Oper}(hsel:Region.noSelect ops=true)(hnd:zkv ops=true){n:Nat}{ws:List Nat}{a0:Act}{k:Env->World->Prop}
  (hd:∀o∈ops,∀d,o.dst=some d->d<n/\d∈ws) :
  ∀(fuel:Nat) (listed:Array Bool) (S:zfm) (a:Act) (e:Env) (w:World),zeJ ops listed->Rep D n a e->Same ws a0 a->zfn ops listed S w->zgm P fs ops fuel listed S e w k->
   zg9 ro P .any ops (NQ D n ws a0 k) (λl w=>zfn ops l S w) fuel listed a w
 | 0,listed,S,a,e,w,_,hr,hs,_,h=>by
  unfold zgm at h
  split at h
  ·rename_i hrd;exact⟨hrd,e,hr,hs,h⟩
  ·exact h.elim
 |fuel+1,listed,S,a,e,w,hcl,hr,hs,hS,h=>by
  unfold zgm at h
  split at h
  ·rename_i hrd
   exact zp0 hrd ⟨e,hr,hs,h⟩ _
  ·rename_i i0 rs hrd
   split at h
   ·rename_i i hi
    obtain⟨hmem,o,ho,htk,hfree⟩:=zlQ hi
    have hmo:o∈ops:=Array.mem_of_getElem? ho
    have hd1:∀d,o.dst=some d->d<n:=λd hh=>(hd o hmo d hh).1
    have hd2:∀d,o.dst=some d->d∈ws:=λd hh=>(hd o hmo d hh).2
    have hready:i∈Region.ready .any ops listed:=by rw[hrd];exact hmem
    have hquiet:loud ops i=false:=by simp[loud,ho,htk]
    have hup:∀(S:zfm) l w,zfn ops l S w->zfn ops (l.setIfInBounds i true) S w:=λS l w h=>by
     rw[zc0]at h⊢
     exact λx hx=>(h x hx).imp zlC id
    have hdn:∀(S:zfm) l w,zfn ops (l.setIfInBounds i true) S w->zfn ops l S w:=λS l w h=>by
     rw[zc0]at h⊢
     exact λx hx=>(h x hx).imp (znN hquiet) id
    rw[ho]at h
    simp only at h
    rcases zeW hr h with⟨hw,e',hr',h⟩ | ⟨hw,e',hr',h⟩
    ·obtain⟨v,h1,h2,h3⟩:=zqb (m:=i) hr' htk h
     have hS':∀l w,zc4 (Z1 P i o e' v) w->zfn ops l S w->zfn ops l (Z1 P i o e' v++S) w:=λl w hc hg=>by
      rw[zja]at hc
      rw[zc0]at hg⊢
      exact λx hx=>(List.mem_append.1 hx).elim (λhx=>.inr (hc x hx)) (hg x)
     have ih:=YV hfs hsel hnd hd fuel _ _ _ _ w (hcl.ready hready) (hr'.upO hd1 v) (hs.put hd2 v) (hS' _ _ h2 (hup _ _ _ hS)) h3
     have:=ziY (S:=λl w=>zfn ops l (Z1 P i o e' v++S) w) (C:=zc4 (Z1 P i o e' v)) (v:=v) ho (Region.noSelect_spec hsel) (ziK hnd) (znV o.dst v)
      (λl w hcl' hun hg=>by
       rw[zc0]at hg
       rw[zja]
       intro x hx
       refine(hg x (List.mem_append_left _ hx)).resolve_left λhv=>?_
       have:=zlX hcl' hv
       rw[zpU x hx]at this
       rcases Nat.lt_or_ge i l.size with h' |h'
       ·simp[h']at this hun;rw[hun]at this;cases this
       ·simp[Array.getElem?_eq_none h']at this)
      (hup _) (hdn _) fuel listed a w hcl (Region.free_spec ho hfree) hready (Or.inl ⟨hw,λw' hw'=>h1 w' hw'⟩) (hS' _ _ h2 hS) ih
     refine zkc (λl w' hw'=>?_) _ _ _ _ this
     rw[zc0]at hw'⊢
     exact λx hx=>hw' x (List.mem_append_right _ hx)
    ·have ih:=YV hfs hsel hnd hd fuel _ _ _ _ w (hcl.ready hready) (hr'.upO hd1 undef) (hs.put hd2 undef) (hup _ _ _ hS) h
     exact ziY (C:=λ_=>True) (v:=undef) ho (Region.noSelect_spec hsel) (ziK hnd) (znV o.dst undef) (λ_ _ _ _ _=>trivial) (hup _) (hdn _) fuel listed a w hcl
      (Region.free_spec ho hfree) hready (Or.inr ⟨hw,rfl⟩) hS ih
   ·refine⟨λh0=>(by rw[hrd]at h0;cases h0),λi hi=>?_⟩
    have hready:=hi
    rw[hrd]at hi
    have h':=h.get i hi
    split at h'
    ·exact h'.elim
    ·rename_i o ho
     have hmo:o∈ops:=Array.mem_of_getElem? ho
     have hd1:∀d,o.dst=some d->d<n:=λd hh=>(hd o hmo d hh).1
     have hd2:∀d,o.dst=some d->d∈ws:=λd hh=>(hd o hmo d hh).2
     unfold wpOpIn
     rw[ho]
     simp only
     rcases zeW hr h' with⟨hw,e',hr',h'⟩ | ⟨hw,e',hr',h'⟩
     ·rw[if_pos hw]
      refine zlu hfs hr' h' _ _ λv w' h3=>?_
      obtain⟨h4,h5⟩:=zjb h3
      exact⟨h4,YV hfs hsel hnd hd fuel _ _ _ _ w' (hcl.ready hready) (hr'.upO hd1 v) (hs.put hd2 v) h4 h5⟩
     ·rw[if_neg (by simp[hw])]
      have hS2:zfn ops (listed.setIfInBounds i true) S w:=by
       rw[zc0]at hS⊢
       exact λx hx=>(hS x hx).imp zlC id
      exact⟨λ_ _=>trivial,hS2,YV hfs hsel hnd hd fuel _ _ _ _ w (hcl.ready hready) (hr'.upO hd1 undef) (hs.put hd2 undef) hS2 h'⟩
theorem znc(ops:Array Oper)(n:Nat):zeJ ops (Array.replicate n false):=by
 intro j o _ hj
 exfalso
 rcases Nat.lt_or_ge j n with h |h
 ·simp[h]at hj
 ·rw[Array.getD_eq_getD_getElem?,Array.getElem?_eq_none (by simpa using h)]at hj
  cases hj
def CQ(D:List Deferred)(n:Nat)(ws:List Nat)(a0:Act)(K:Exit->Env->World->Prop):Exit->Act->World->Prop:=
 λx a w=>∃e,Rep D n a e/\Same ws a0 a/\K x e w
theorem zvn{n:Nat}{ws:List Nat}{a0:Act}{K:Exit->Env->World->Prop}:∀(x:Exit) (a:Act) (w:World),NQ D n ws a0 (λe w=>K .normal e w) x a w->CQ D n ws a0 K x a w:=by
 intro x a w h
 cases x<;>first |exact h |exact(h:False).elim
theorem zoL{l ws:List Nat}(h:zfb l ws=true){t:Nat}(ht:l.contains t=true):t ∉ ws:=by
 simp only[zfb,List.all_eq_true,Bool.not_eq_true']at h
 have:=h t (by simpa using ht)
 intro hh
 simp[hh]at this
theorem Rep.keep{n:Nat}{a a':Act}{e:Env}{ws l:List Nat}(h:Rep D n a e)(hs:Same ws a a')(hz:a'.tmps.size=n)(hd:a'.defers=D)(hk:zfb l ws=true):Rep D n a' (zbk l e):=by
 refine⟨hz,hd,λt v ht=>?_⟩
 unfold zbk at ht
 split at ht
 ·rename_i hc
  rw[hs t (zoL hk hc)]
  exact h.2.2 t v ht
 ·cases ht
theorem Zj{n:Nat}{a:Act}{e:Env}(hr:Rep D n a e):∀{sg:List (Nat×Kd)} {s:St sg} {e':Env},zeu sg e=some s->Rep D n a e'->Rep D n a (Y7 sg s e')
 | [],_,_,_,h=>h
 |p::r,s,e',hg,h=>by
  simp only[zeu]at hg
  split at hg
  ·cases hg
  ·rename_i v hv
   split at hg
   ·cases hg
   ·rename_i t ht
    split at hg
    ·cases hg
    ·rename_i ts hts
     cases hg
     have hv':e p.1=some (p.2.v t):=by rw[hv,Kd.get_v ht]
     refine Zj hr (sg:=r) hts ⟨h.1,h.2.1,λi u hu=>?_⟩
     by_cases hi:i=p.1
     ·subst hi
      rw[Env.up_same]at hu
      cases hu
      exact hr.2.2 _ _ hv'
     ·rw[Env.up_other _ _ hi]at hu
      exact h.2.2 _ _ hu
def noGo(Q:Exit->Act->World->Prop):Exit->Act->World->Prop
 | .goto _,_,_=>False
 |x,a,w=>Q x a w
theorem YA{b:Frame}{a:Act}{k:List Item}{cs:List Frame}{w:World}{c:Code}:step P (lone (b.atR a (.code (.scope c)::k)) cs w) =.next (lone (b.atR a (.code c ::.inScope c::k)) cs w):=
 step_lone_go (by simp[stepG,stepG.exec,Frame.atR])
theorem zlT{b:Frame}{a:Act}{k:List Item}{cs:List Frame}{w:World}{c:Code}:step P (lone (b.atR a (.inScope c::k)) cs w) =.next (lone (b.atR a k) cs w):=
 step_lone_go (by simp[stepG,stepG.exec,Frame.atR])
theorem zq4{F:Fence}{n:Nat}{Q:Exit->Act->World->Prop}{a:Act}{w:World}{c:Code}(h:c.wpIn F n P (noGo Q) a w):(Code.scope c).wpIn F n P Q a w:=by
 intro b k cs hro hb hr
 have h0:(lone (b.atR a (.code (.scope c)::k)) cs w).fenced P F:=fenced_calm hb hr rfl
 obtain⟨e,a₁,w₁,hq,harr⟩:=h b (.inScope c::k) cs hro hb hr
 cases e with
 |normal=>exact⟨.normal,a₁,w₁,hq,.head h0 YA (StepsIn.trans harr (.one (fenced_calm hb hr rfl) zlT))⟩
 |exit id=>
  have hx:exitTo id (.inScope c::k)=exitTo id k:=by simp[exitTo]
  exact⟨.exit id,a₁,w₁,hq,λk' hk=>.head h0 YA (harr.1 k' (by rw[hx];exact hk)),
   λhr' hk=>let⟨k₁,h1,h2⟩:=harr.2 hr' (by rw[hx];exact hk);⟨k₁,h1,.head h0 YA h2⟩⟩
 |goto l=>exact hq.elim
 |ret=>exact⟨_,a₁,w₁,hq,.of_steps (.one h0 YA) harr⟩
 |panic ch=>exact⟨_,a₁,w₁,hq,.of_steps (.one h0 YA) harr⟩
 |outgrown=>exact⟨_,a₁,w₁,hq,.of_steps (.one h0 YA) harr⟩
theorem ze7{fs:List Nat}(hfs:zaa P fs)(hm:P.follows .mixedOrders=true){n:Nat} :
  ∀(c:Code) (an:Ann) (e:Env) (w:World) (K:Exit->Env->World->Prop) (a:Act),(∀d,d∈wr c->d<n)->Rep D n a e->lw P fs c an e w K->c.wpIn (Wf ro) 0 P (CQ D n (wr c) a K) a w:=by
 intro c
 induction c with
 |skip=>intro an e w K a _ hr h;exact wpIn_skip ⟨e,hr,Same.refl _ _,h⟩
 |label l=>intro an e w K a _ hr h;exact wpIn_label ⟨e,hr,Same.refl _ _,h⟩
 |ret=>intro an e w K a _ hr h;exact wpIn_ret ⟨e,hr,Same.refl _ _,h⟩
 |exit id=>intro an e w K a _ hr h;exact wpIn_exit ⟨e,hr,Same.refl _ _,h⟩
 |goto l=>intro an e w K a _ hr h;exact wpIn_goto ⟨e,hr,Same.refl _ _,h⟩
 |region id ops draw=>
  intro an e w K a hd hr h
  have hdst:∀o∈ops.toList,∀d,o.dst=some d->d∈wr (.region id ops draw):=λo ho d hh=>List.mem_filterMap.2 ⟨o,ho,hh⟩
  cases draw with
  |false=>
   have:=zgn (ro:=ro) hfs (ops:=ops) (ws:=wr (.region id ops false)) (a0:=a) ops.toList a e w (λo ho d hh=>⟨hd _ (hdst o ho d hh),hdst o ho d hh⟩) hr (Same.refl _ _) h
   exact Code.wpIn_mono zvn (wpIn_region_list this)
  |true=>
   simp only[lw]at h
   split at h
   ·rename_i hsel
    have:=YV (ro:=ro) hfs (by simp only[Bool.and_eq_true]at hsel;exact hsel.1) (by simp only[Bool.and_eq_true]at hsel;exact hsel.2) (ws:=wr (.region id ops true)) (a0:=a) (λo ho d hh=>⟨hd _ (hdst o (by simpa using ho) d hh),hdst o (by simpa using ho) d hh⟩) ops.size _ [] a e w.drew (znc _ _) hr (Same.refl _ _) (λ_ hx=>by cases hx) h
    exact Code.wpIn_mono zvn (wpIn_region_any hm (zlF _ _ _ _ this))
   ·exact h.elim
 |seq x y ihx ihy=>
  intro an e w K a hd hr h
  have hdx:∀d,d∈wr x->d<n:=λd hh=>hd d (List.mem_append_left _ hh)
  have hdy:∀d,d∈wr y->d<n:=λd hh=>hd d (List.mem_append_right _ hh)
  have left:∀{a a':Act},Same (wr x) a a'->Same (wr (.seq x y)) a a':=λh=>h.mono λt ht=>List.mem_append_left _ ht
  have right:∀{a a':Act},Same (wr y) a a'->Same (wr (.seq x y)) a a':=λh=>h.mono λt ht=>List.mem_append_right _ ht
  cases an with
  |seq j aa ab=>
   cases j with
   |none=>
    refine wpIn_seq (Code.wpIn_mono ?_ (ihx aa e w _ a hdx hr h))
    rintro z a' w' ⟨e',hr',hs',h'⟩
    cases z with
    |normal=>
     refine Code.wpIn_mono ?_ (ihy ab e' w' _ a' hdy hr' h')
     rintro z a'' w'' ⟨e'',hr'',hs'',h''⟩
     exact⟨e'',hr'',(left hs').trans (right hs''),h''⟩
    |_=>exact⟨e',hr',left hs',h'⟩
   |some j=>
    simp only[lw]at h
    split at h
    ·rename_i hk
     obtain⟨M,h1,h2⟩:=h
     refine wpIn_seq (Code.wpIn_mono ?_ (ihx aa e w _ a hdx hr h1))
     rintro z a' w' ⟨e',hr',hs',h'⟩
     cases z with
     |normal=>
      simp only[seqK]at h'
      split at h'
      ·rename_i s hg
       have hr2:Rep D n a' (Y7 j.sg s (zbk j.keep e)):=Zj hr' hg (hr.keep hs' hr'.1 hr'.2.1 hk)
       refine Code.wpIn_mono ?_ (ihy ab _ w' _ a' hdy hr2 (h2 s w' h'))
       rintro z a'' w'' ⟨e'',hr'',hs'',h''⟩
       exact⟨e'',hr'',(left hs').trans (right hs''),h''⟩
      ·exact h'.elim
     |_=>exact⟨e',hr',left hs',h'⟩
    ·exact h.elim
  |_=>exact h.elim
 |cond c x y ihx ihy=>
  intro an e w K a hd hr h
  have hdx:∀d,d∈wr x->d<n:=λd hh=>hd d (List.mem_append_left _ hh)
  have hdy:∀d,d∈wr y->d<n:=λd hh=>hd d (List.mem_append_right _ hh)
  cases an with
  |cond aa ab=>
   simp only[lw]at h
   split at h
   ·rename_i t ht
    refine wpIn_cond_split (hr.ev ht) (λhb=>?_) (λhb=>?_)
    ·subst hb
     refine Code.wpIn_mono ?_ (ihx aa e w K a hdx hr h)
     rintro z a'' w'' ⟨e'',hr'',hs'',h''⟩
     exact⟨e'',hr'',hs''.mono λt ht=>List.mem_append_left _ ht,h''⟩
    ·subst hb
     refine Code.wpIn_mono ?_ (ihy ab e w K a hdy hr h)
     rintro z a'' w'' ⟨e'',hr'',hs'',h''⟩
     exact⟨e'',hr'',hs''.mono λt ht=>List.mem_append_right _ ht,h''⟩
   ·exact h.elim
  |_=>exact h.elim
 |block id x ih=>
  intro an e w K a hd hr h
  cases an with
  |one aa=>
   refine wpIn_block (Code.wpIn_mono ?_ (ih aa e w _ a hd hr h))
   rintro z a' w' ⟨e',hr',hs',h'⟩
   cases z with
   |exit j=>
    simp only[zsC]at h'
    split at h'
    ·rename_i hj
     have hj:=Nat.eq_of_beq_eq_true hj
     simp only[Exit.inBlock,hj,if_true]
     exact⟨e',hr',hs',h'⟩
    ·rename_i hj
     have hj:¬j=id:=λhh=>by subst hh;simp at hj
     simp only[Exit.inBlock,hj,if_false]
     exact⟨e',hr',hs',h'⟩
   |_=>exact⟨e',hr',hs',h'⟩
  |_=>exact h.elim
 |scope x ih=>
  intro an e w K a hd hr h
  cases an with
  |one aa=>
   refine zq4 (Code.wpIn_mono ?_ (ih aa e w _ a hd hr h))
   rintro z a' w' ⟨e',hr',hs',h'⟩
   cases z with
   |goto l=>exact(h':False).elim
   |_=>exact⟨e',hr',hs',h'⟩
  |_=>exact h.elim
 |loop x ih=>
  intro an e w K a hd hr h
  cases an with
  |loop j aa=>
   simp only[lw]at h
   split at h
   ·rename_i hk
    split at h
    ·rename_i s hg
     obtain⟨I,μ,h0,hround⟩:=h
     refine wpIn_loop_ghost (λm a' w'=>∃s,I s w'/\μ s w'=m/\Rep D n a' (Y7 j.sg s (zbk j.keep e))/\Same (wr x) a a') (μ s w) ⟨s,h0,rfl,Zj hr hg (hr.keep (Same.refl _ _) hr.1 hr.2.1 hk),Same.refl _ _⟩ ?_
     rintro m a' w' ⟨s',h1,h2,h3,h4⟩
     refine Code.wpIn_mono ?_ (ih aa _ w' _ a' hd h3 (hround s' w' h1))
     rintro z a'' w'' ⟨e'',hr'',hs'',h''⟩
     cases z with
     |normal=>
      simp only[seqK]at h''
      split at h''
      ·rename_i s2 hg2
       refine⟨μ s2 w'',by omega,s2,h''.1,rfl,?_,h4.trans hs''⟩
       exact Zj hr'' hg2 (hr.keep (h4.trans hs'') hr''.1 hr''.2.1 hk)
      ·exact h''.elim
     |_=>exact⟨e'',hr'',h4.trans hs'',h''⟩
    ·exact h.elim
   ·exact h.elim
  |_=>exact h.elim
 |_=>intro an e w K a hd hr h;exact h.elim
def ziM(tmps:Array Value):ResultVar->Sem Value
 | .tmp t=>pure (tmps.getD t undef)
 | .cell x t=>do loadVar t (<-asAddr (tmps.getD x undef))
theorem zhN{n:Nat}{a:Act}{e:Env}(hr:Rep D n a e){w:World}:∀{rs:List ResultVar} {acc:List Value} {k:List Value->Prop},resV P e w rs acc k->
  ∃vs,(rs.mapM (ziM a.tmps)).run P w =.ok vs w/\k (acc.reverse++vs)
 | [],acc,k,h=>⟨[],by simp,by rw[List.append_nil];exact h⟩
 | .tmp t::r,acc,k,h=>by
  simp only[resV]at h
  split at h
  ·rename_i v hv
   obtain⟨vs,h1,h2⟩:=zhN hr h
   exact⟨v::vs,by simp only[List.mapM_cons,Sem.run_bind,Sem.run_pure,Result.andThen_ok,h1,ziM,hr.2.2 t v hv],by simpa using h2⟩
  ·exact h.elim
 | .cell t ty::r,acc,k,h=>by
  simp only[resV]at h
  split at h
  ·rename_i p hp
   split at h
   ·rename_i κ hκ
    obtain⟨ad,rfl,h⟩:=Yl h
    obtain⟨x,hx,h⟩:=zm0 hκ h
    obtain⟨vs,h1,h2⟩:=zhN hr h
    have hs:(ziM a.tmps (.cell t ty)).run P w =.ok (κ.v x) w:=by simp[ziM,hr.2.2 t _ hp,asAddr,hx]
    exact⟨κ.v x::vs,by simp only[List.mapM_cons,Sem.run_bind,Sem.run_pure,Result.andThen_ok,h1,hs],by simpa using h2⟩
   ·exact h.elim
  ·exact h.elim
theorem zqp(fn:Func)(tmps:Array Value):results fn tmps=(do let vs <-fn.results.mapM (ziM tmps);pure (if h:vs.size=1 then vs[0] else .tuple vs)):=by
 unfold results
 congr 2
theorem Y8{n:Nat}{a:Act}{e:Env}(hr:Rep D n a e){w:World}{fn:Func}{R:VWP}(h:resV P e w fn.results.toList [] λl=>R (za4 l) w) :
  ∃v,(results fn a.tmps).run P w =.ok v w/\R v w:=by
 obtain⟨vs,h1,h2⟩:=zhN hr h
 refine⟨za4 vs,?_,by simpa using h2⟩
 have e1:fn.results=fn.results.toList.toArray:=by simp
 rw[zqp,e1,List.mapM_toArray]
 simp only[Sem.run_bind,Sem.run_map,h1,Result.andThen_ok,Sem.run_pure]
 congr 1
 match vs with
 | []=>rfl
 | [v]=>rfl
 |_::_::_=>simp[za4]
theorem zeL:∀(l:List Value) (i t:Nat) (v:Value),zhp l i t=some v->i<=t/\l[t-i]? =some v
 | [],_,_,_,h=>by simp[zhp]at h
 |u::r,i,t,v,h=>by
  simp only[zhp]at h
  by_cases ht:t=i
  ·subst ht
   rw[Env.up_same]at h
   cases h
   exact⟨Nat.le_refl _,by simp⟩
  ·rw[Env.up_other _ _ ht]at h
   obtain⟨h1,h2⟩:=zeL r (i+1) t v h
   refine⟨by omega,?_⟩
   rw[show t-i=(t-(i+1))+1 by omega,List.getElem?_cons_succ]
   exact h2
def zng(n:Nat)(c:Code):Bool:=(wr c).all λd=>Nat.blt d n
theorem zf{fs:List Nat}(hfs:zaa P fs)(hm:P.follows .mixedOrders=true){f:Nat}{fn:Func}{an:Ann}{args:List Value}{w:World}{R:VWP}
  (hf:P.funcs[f]? =some fn) (hn:(match fn.body with |some c=>zng fn.ntmps c |none=>false)=true) (hz:Nat.ble args.length fn.ntmps=true) (h:lwFn P fs fn an args w R) :
  Calls P f args.toArray w (Ret R):=by
 unfold lwFn at h
 cases hb:fn.body with
 |none=>rw[hb]at h;exact h.elim
 |some c=>
  rw[hb]at h hn
  simp only at h hn
  have hz':=Nat.le_of_ble_eq_true hz
  refine calls_of_wp hf hb ?_
  have hr:Rep [] fn.ntmps {tmps:=args.toArray++Array.replicate (fn.ntmps-args.toArray.size) undef,defers:=[]} (zhp args 0):=by
   refine⟨by simp;omega,rfl,λt v ht=>?_⟩
   obtain⟨_,h2⟩:=zeL _ _ _ _ ht
   rw[Nat.sub_zero]at h2
   have hlt:t<args.length:=by
    rcases Nat.lt_or_ge t args.length with h |h
    ·exact h
    ·rw[List.getElem?_eq_none h]at h2;cases h2
   have:args[t]=v:=by rw[List.getElem?_eq_getElem hlt]at h2;exact Option.some.inj h2
   have hlt2:t<args.length+(fn.ntmps-args.length):=by omega
   simp[hlt,hlt2,this]
  refine(wpIn_wide (n:=0)).1 (Code.wpIn_mono (F:=Wf none) ?_ (ze7 (ro:=none) hfs hm c an _ w _ _ (λd hd=>by simp only[zng,List.all_eq_true]at hn;exact Nat.le_of_ble_eq_true (hn d hd)) hr h))
  rintro x a w' ⟨e',hr',_,h'⟩
  cases x with
  |normal=>exact⟨hr'.2.1,Y8 hr' h'⟩
  |ret=>exact⟨hr'.2.1,Y8 hr' h'⟩
  |_=>exact h'.elim
end Go.Gk
namespace Go.Gk
open Go.RowKit
variable {P:Program}
theorem zz{b:Bool}{x y:Prop}(h1:b=true->x)(h2:b=false->y):ifB b x y:=by
 cases b
 ·exact h2 rfl
 ·exact h1 rfl
theorem zR{b:Bool}{x y:Prop}(hb:b=true)(h:x):ifB b x y:=by subst hb;exact h
theorem zJ{b:Bool}{x y:Prop}(hb:b=false)(h:y):ifB b x y:=by subst hb;exact h
theorem zj{p:Prop}[Decidable p]{x y:Prop}(h1:p->x)(h2:¬p->y):ifB (decide p) x y:=
 zz (λh=>h1 (of_decide_eq_true h)) (λh=>h2 (of_decide_eq_false h))
theorem zk{a b:Int}{x y:Prop}(h1:a=b->x)(h2:a≠b->y):ifB (a==b) x y:=
 zz (λh=>h1 (eq_of_beq h)) (λh=>h2 (beq_eq_false_iff_ne.1 h))
theorem zy{a b:Int}{x y:Prop}(h1:a≠b->x)(h2:a=b->y):ifB (a !=b) x y:=
 zz (λh=>h1 (bne_iff_ne.1 h)) (λh=>h2 (by simpa using h))
theorem zI{b:Bool}{x y:Prop}(h:ifB b y x):ifB (!b) x y:=by cases b<;>exact h
theorem ze{p:Option Addr}{a:Addr}{k:Addr->Prop}(hp:p=some a)(h:k a):zc p k:=by subst hp;exact h
theorem Nw.mk{w:World}{k:World->Prop}(h:k w):Nw w k:=h
theorem Nw.gen{w:World}{k:World->Prop}(h:∀w',w'=w->k w'):Nw w k:=h w rfl
theorem zo.cut{S:Type}{f:(S->World->Prop)->Prop}{k:S->World->Prop}(M:S->World->Prop)(h:f M)(hk:∀s w,M s w->k s w):zo f k:=⟨M,h,hk⟩
theorem za.of{f:Nat}{args:Array Value}{w:World}{S T:VWP}(h:Calls P f args w (Ret S))(hk:∀v w',S v w'->T v w'):za P f args w T:=
 Calls.mono h λe w' he=>by cases e<;>first |exact hk _ _ he |exact he.elim
theorem za.mono{f:Nat}{args:Array Value}{w:World}{S T:VWP}(h:za P f args w S)(hk:∀v w',S v w'->T v w'):za P f args w T:=za.of h hk
theorem zl.ghost{S:Type}{body:S->World->(S->World->Prop)->Prop}{s:S}{w:World}(I:Nat->S->World->Prop)(n:Nat)(h0:I n s w)
  (h:∀k s w,I k s w->∀next:S->World->Prop,(∀j s' w',j<k->I j s' w'->next s' w')->body s w next):zl body s w:=by
 refine⟨λs w=>∃n,I n s w,λs w=>leastOf (λn=>I n s w),⟨n,h0⟩,λs w hI=>?_⟩
 refine h _ s w (leastOf_spec (p:=λn=>I n s w) hI).1 _ λj s' w' hj hI'=>⟨⟨j,hI'⟩,?_⟩
 exact Nat.lt_of_le_of_lt ((leastOf_spec (p:=λn=>I n s' w') ⟨j,hI'⟩).2 j hI') hj
theorem zq{x:Int}(h1:-9223372036854775808<=x)(h2:x<=9223372036854775807):IntKind.i64.wrap x=x:=by
 rw[IntKind.wrap_i64];omega
theorem zE{k:Nat}(h:k<9223372036854775807):IntKind.i64.wrap ((k:Int)+1)=((k+1:Nat):Int):=by
 rw[zq (by omega) (by omega)];omega
theorem zl.count{body:Int×Unit->World->(Int×Unit->World->Prop)->Prop}{w:World}(n:Nat)(hn:n<=9223372036854775807)(I:Nat->World->Prop)(h0:I 0 w)
  (h:∀k w,k<=n->I k w->∀next:Int×Unit->World->Prop,(∀w',k<n->I (k+1) w'->next (IntKind.i64.wrap ((k:Int)+1),()) w')->body ((k:Int),()) w next):zl body ((0:Int),()) w:=by
 refine zl.ghost (λj s w=>∃k:Nat,k<=n/\j=n-k/\s=((k:Int),())/\I k w) n ⟨0,Nat.zero_le _,rfl,rfl,h0⟩ ?_
 rintro _ _ w ⟨k,hk,rfl,rfl,hI⟩ next hnext
 refine h k w hk hI next λw' hlt hI'=>?_
 rw[zE (by omega)]
 exact hnext (n-(k+1)) _ _ (by omega) ⟨k+1,by omega,rfl,rfl,hI'⟩
structure IsS {α:Type} (f:α->Value) (w:World) (s:Sl) (l:List α):Prop where
 len:s.l=l.length
 cap:s.l<=s.c
 max:s.c<=9223372036854775807
 nil:s.a=none->s.c=0
 cell:∀(a:Addr),s.a=some a->∀(i:Nat) (h:i<l.length),w.cell? (a.add i)=some (f l[i])
abbrev IsI(w:World)(s:Sl)(l:List Int):Prop:=IsS (Value.int .i64) w s l
def Sl.val(s:Sl):Value:=.slice s.a s.l s.c
structure IsII (w:World) (s:Sl) (hs:List Sl) (ll:List (List Int)):Prop where
 top:IsS Sl.val w s hs
 len:hs.length=ll.length
 row:∀(i:Nat) (h:i<hs.length) (h':i<ll.length),IsI w hs[i] ll[i]
theorem IsS.base{α:Type}{f:α->Value}{w:World}{s:Sl}{l:List α}(h:IsS f w s l){i:Nat}(hi:i<l.length):∃a,s.a=some a:=by
 cases ha:s.a with
 |none=>have:=h.nil ha;have:=h.len;have:=h.cap;omega
 |some a=>exact⟨a,rfl⟩
theorem Zg(a:Addr)(i:Nat):(a.add i).block=a.block:=by unfold Addr.add;split<;>rfl
theorem IsS.lt{α:Type}{f:α->Value}{w:World}{s:Sl}{l:List α}(h:IsS f w s l){i:Nat}(hi:i<l.length){a:Addr}(ha:s.a=some a):a.block<w.heap.size:=by
 have:=World.block_lt_of_cell? w _ (h.cell a ha i hi)
 rwa[Zg]at this
theorem IsS.of_block{α:Type}{f:α->Value}{w w':World}{s:Sl}{l:List α}(h:IsS f w s l)(hb:∀a,s.a=some a->a.block<w.heap.size->w'.heap[a.block]? =w.heap[a.block]?):IsS f w' s l:=by
 refine⟨h.len,h.cap,h.max,h.nil,λa ha i hi=>?_⟩
 have e:=hb a ha (h.lt hi ha)
 rw[World.cell?_of_block (w:=w) (by rw[Zg];exact e)]
 exact h.cell a ha i hi
theorem IsS.below{α:Type}{f:α->Value}{w w':World}{s:Sl}{l:List α}(h:IsS f w s l)(hb:Below w.heap.size w w'):IsS f w' s l:=
 h.of_block λ_ _ hlt=>hb.block _ hlt
theorem IsS.heap{α:Type}{f:α->Value}{w w':World}{s:Sl}{l:List α}(h:IsS f w s l)(hb:w'.heap=w.heap):IsS f w' s l:=
 h.of_block λ_ _ _=>by rw[hb]
theorem IsII.below{w w':World}{s:Sl}{hs:List Sl}{ll:List (List Int)}(h:IsII w s hs ll)(hb:Below w.heap.size w w'):IsII w' s hs ll:=
 ⟨h.top.below hb,h.len,λi h1 h2=>(h.row i h1 h2).below hb⟩
theorem IsII.heap{w w':World}{s:Sl}{hs:List Sl}{ll:List (List Int)}(h:IsII w s hs ll)(hb:w'.heap=w.heap):IsII w' s hs ll:=
 ⟨h.top.heap hb,h.len,λi h1 h2=>(h.row i h1 h2).heap hb⟩
theorem IsS.addr{α:Type}{f:α->Value}{w:World}{s:Sl}{l:List α}(h:IsS f w s l){k:Nat}(hk:k<l.length){φ:Addr->Prop}(hφ:∀a,s.a=some a->w.cell? (a.add k)=some (f l[k])->φ a) :
  (0<=(k:Int)/\(k:Int)<(s.l:Int))/\zc s.a φ:=by
 obtain⟨a,ha⟩:=h.base hk
 exact⟨⟨by omega,by have:=h.len;omega⟩,ze ha (hφ a ha (h.cell a ha k hk))⟩
theorem zoy{w:World}{s:Sl}{l:List Int}(h:IsI w s l){k:Nat}(hk:k<l.length){φ:Int->Prop}(hφ:φ l[k]) :
  (0<=(k:Int)/\(k:Int)<(s.l:Int))/\zc s.a λa=>ldI w (a.add (Int.toNat (k:Int))) .i64 φ:=
 h.addr hk λa _ hc=>⟨l[k],by simpa using hc,hφ⟩
theorem zqO{w:World}{s:Sl}{hs:List Sl}(h:IsS Sl.val w s hs){k:Nat}(hk:k<hs.length){φ:Sl->Prop}(hφ:φ hs[k]) :
  (0<=(k:Int)/\(k:Int)<(s.l:Int))/\zc s.a λa=>ldS w (a.add (Int.toNat (k:Int))) φ:=
 h.addr hk λa _ hc=>⟨hs[k],by rw[show Int.toNat (k:Int)=k from rfl];exact hc,hφ⟩
theorem zvp{w:World}{s:Sl}{l:List Bool}(h:IsS Value.bool w s l){k:Nat}(hk:k<l.length){φ:Bool->Prop}(hφ:φ l[k]) :
  (0<=(k:Int)/\(k:Int)<(s.l:Int))/\zc s.a λa=>ldB w (a.add (Int.toNat (k:Int))) φ:=
 h.addr hk λa _ hc=>⟨l[k],by simpa using hc,hφ⟩
end Go.Gk
namespace Go.Proofs
open Go.Gk Go.RowKit Go.ChangeShapes Go.WideShapes Go.Deep
namespace Jn
theorem own:ownKnob Tryz.prog.godebug=none:=by kernel_rfl
theorem zuF:laidOutB Tryz.prog=true:=by kernel_rfl
theorem zfl:∀(w:List Nat),w.all (λn=>Char.ofNat n !=Char.ofNat 32)=true->∀r:List Char,wordsSigns (w.map Char.ofNat ++(Char.ofNat 32::r))=w.map Char.ofNat::wordsSigns r
 | [],_,_=>rfl
 |n::w,h,r=>by
  simp only[List.all_cons,Bool.and_eq_true,bne_iff_ne,ne_eq]at h
  have ih:=zfl w (by simpa using h.2) r
  rw[List.map_cons,List.cons_append]
  have:wordsSigns (Char.ofNat n::(w.map Char.ofNat ++(Char.ofNat 32::r)))=(match wordsSigns (w.map Char.ofNat ++(Char.ofNat 32::r)) with
   |w::ws=>(Char.ofNat n::w)::ws
   | []=>[[Char.ofNat n]]):=by
   rw[wordsSigns]<;>first |rfl |exact h.1
  rw[this,ih]
def n1:List Nat:=[104,97,114,110,101,115,115]
def n2:List Nat:=[57,57,55,100,57,48,57,102,54,100,50,51,101,98,51,48,54,102,99,55,99,51,98,97,48,57,49,100,101,102,56,49,52,55,55,101,55,99,98,97,56,56,54,57,97,53,50,100,102,53,97,57,99,49,49,102,100,56,52,101,100,101,97,55]
def n3:List Nat:=[99,117,116]
def n4:List Nat:=[97,116,32,105,110,116,97,103,108,105,111,47,105,110,116,97,103,108,105,111,108,97,119,50,48,46,70,97,99,101,83,111,117,110,100,32,105,110,116,97,103,108,105,111,47,105,110,116,97,103,108,105,111,108,97,119,50,48,46,70,97,99,101,70,105,116,115,32,105,110,116,97,103,108,105,111,47,105,110,116,97,103,108,105,111,108,97,119,50,48,46,70,97,99,101,77,97,116,99,104,32,105,110,116,97,103,108,105,111,47,105,110,116,97,103,108,105,111,108,97,119,50,48,46,70,97,99,101,82,101,110,97,109,101,100,32,105,110,116,97,103,108,105,111,47,105,110,116,97,103,108,105,111,108,97,119,50,48,46,70,97,99,101,83,108,111,116,115]
theorem ini:Tryz.prog.initOrder.toList=n1.map Char.ofNat ++(Char.ofNat 32::(n2.map Char.ofNat ++(Char.ofNat 32::(n3.map Char.ofNat ++(Char.ofNat 32::n4.map Char.ofNat))))):=by
 have h:Tryz.prog.initOrder=String.ofList (n1.map Char.ofNat ++(Char.ofNat 32::(n2.map Char.ofNat ++(Char.ofNat 32::(n3.map Char.ofNat ++(Char.ofNat 32::n4.map Char.ofNat)))))):=by kernel_rfl
 rw[h,String.toList_ofList]
theorem zuk:behindMainWord (wordsSigns Tryz.prog.initOrder.toList)=n3.map Char.ofNat::wordsSigns (n4.map Char.ofNat):=by
 rw[ini,zfl n1 (by decide +kernel),zfl n2 (by decide +kernel),zfl n3 (by decide +kernel)]
 unfold behindMainWord
 exact if_pos (by kernel_rfl)
theorem zuG {P : Program} {c : List Char} {rest : List (List Char)} (h : behindMainWord (wordsSigns P.initOrder.toList) = c :: rest) (h1 : (c == "gc".toList || c == "spec".toList) = false) (h2 : (c == "cut".toList) = true) : P.make = some .cut := by
 unfold Program.make
 rw[h]
 simp only[h1,h2,Bool.true_or,if_true,Bool.false_eq_true,if_false]
theorem zt3 {P : Program} {c : List Char} {rest : List (List Char)} (h : behindMainWord (wordsSigns P.initOrder.toList) = c :: rest) (h1 : (c == "carried".toList) = false) (h3 : stripLifts liftWords (c :: rest) = ([], c :: rest)) : P.liftsFinal = false := by
 unfold Program.liftsFinal Program.headLifts
 rw[h]
 simp only[h3,List.head?_cons]
 have : (some c == some "carried".toList) = false := h1
 rw[this,Bool.false_and,Bool.false_or]
 split<;>rfl
theorem zvC {P : Program} {c : List Char} {rest : List (List Char)} (h : behindMainWord (wordsSigns P.initOrder.toList) = c :: rest) (h2 : (c == "cut".toList) = true) (h3 : stripLifts liftWords (c :: rest) = ([], c :: rest))
  (h4:P.laysLater=false) (h5:P.bearsReflect=false) (h6:P.doorFits []=true):P.mayEnter=true:=by
 unfold Program.mayEnter
 rw[h]
 have : (some c == some "cut".toList) = true := h2
 simp only[h3,h4,h5,h6,List.head?_cons,this,Bool.not_false,Bool.or_true,Bool.and_true,List.contains_nil,Bool.not_false]
theorem c1 : (n3.map Char.ofNat == "gc".toList || n3.map Char.ofNat == "spec".toList) = false := by kernel_rfl
theorem c2 : (n3.map Char.ofNat == "cut".toList) = true := by kernel_rfl
theorem c3 : (n3.map Char.ofNat == "carried".toList) = false := by kernel_rfl
theorem c4(rest:List (List Char)):stripLifts liftWords (n3.map Char.ofNat::rest)=([],n3.map Char.ofNat::rest):=by kernel_rfl
theorem makeE:Tryz.prog.make=some .cut:=zuG zuk c1 c2
theorem liftsE:Tryz.prog.liftsFinal=false:=zt3 zuk c3 (c4 _)
theorem c5:Tryz.prog.laysLater=false:=by kernel_rfl
theorem c6:Tryz.prog.bearsReflect=false:=by kernel_rfl
theorem c7:Tryz.prog.doorFits []=true:=by kernel_rfl
theorem mayEnterE:Tryz.prog.mayEnter=true:=zvC zuk c2 (c4 _) c5 c6 c7
section
variable {H:Type} {enc:TypeId×Value->H}
theorem zs5{W W':World}(hb:Below W.heap.size W W'):∀{ts:List TypeId} {vs:List Value} {ds:List (DataW H)} {ps:List MemPlace},(∀t∈ts,Tryz.prog.readableRec t=true/\t<Tryz.prog.types.size)->(∀x∈ps,x.block<W.heap.size)->
  DataW.TrodAll enc Tryz.prog W 0 (λ_=>true) true ts vs ds ps->DataW.TrodAll enc Tryz.prog W' 0 (λb=>decide (b<W.heap.size)) true ts vs ds ps:=by
 intro ts
 induction ts with
 |nil=>
  intro vs ds ps _ _ h
  obtain⟨rfl,rfl,rfl⟩:=trodAll_nil h
  exact trodAll_mk0
 |cons t ts ih=>
  intro vs ds ps ht hlt h
  obtain⟨v,vs',d,ds',p,q,rfl,rfl,rfl,h1,h2⟩:=trodAll_cons h
  refine trodAll_cons_mk (Below.trod zuF (ht t (by simp)).1 (ht t (by simp)).2 h1 hb (λx hx=>hlt x (by simp[hx]))) (ih (λt ht'=>ht t (by simp[ht'])) (λx hx=>hlt x (by simp[hx])) h2)
theorem post_true{fn:Func}{s:ChangeSpec}{W W':World}{args:Array Value}{ds gs:List (DataW H)}{before:List MemPlace}(hres:fn.resultTypes=#[4])
  (hread:∀t∈fn.params.toList,Tryz.prog.readableRec t=true/\t<Tryz.prog.types.size) (hv:s.vars=[]) (hfn:s.fn H ds={results:=[.lit (.bool true)],args:=ds})
  (hW:DataW.Whole enc Tryz.prog fn.params.toList s.vars false W args.toList ds gs before) (hb:Below W.heap.size W W') :
  s.post enc Tryz.prog fn false true false false W args (.bool true) W':=by
 have hW':=hW
 obtain⟨p,q,hA,hV,rfl,hfz,hnd⟩:=hW
 rw[hv]at hV
 obtain⟨rfl,rfl⟩:=trodVars_none hV
 have hlt:=hW'.lt
 refine⟨ds,[],p++[],[],p,[],hW',?_,?_,?_,hb.frame _,λh=>by cases h⟩
 ·rw[List.append_nil,hfn,hres]
  exact trodAll_mk1 (shut_bool Tryz.underlying4 _)
 ·rw[List.append_nil,hfn]
  exact zs5 hb hread (λx hx=>hlt x (by simp[hx])) hA
 ·rw[List.append_nil,hfn,hv]
  exact rfl
theorem zkb{P:Program}{e:TypeId}{d:DataW H}{n:Nat}(hn:n∈d.weights P e):∀{l:List (DataW H)},d∈l->n∈DataW.weightsAll P e l
 |x::r,h=>by
  simp only[DataW.weightsAll,List.mem_append]
  rcases List.mem_cons.1 h with rfl |h
  ·exact .inl hn
  ·exact .inr (zkb hn h)
end
end Jn
end Go.Proofs
namespace Go.Gk
open Go.RowKit
variable {P:Program}
def Blk(w:World)(b:Nat)(T:TypeId)(cs:List Value):Prop:=w.heap[b]? =some (.cells cs.toArray T (0,0))
theorem Blk.lt{w:World}{b:Nat}{T:TypeId}{cs:List Value}(h:Blk w b T cs):b<w.heap.size:=(Array.getElem?_eq_some_iff.1 h).1
theorem zcm(b n:Nat):(blk b).add n=⟨b,n,none⟩:=by unfold Addr.add;split<;>simp_all
theorem zuo(a:Addr)(n m:Nat)(ha:a.spot=none):(a.add n).add m=a.add (n+m):=by
 unfold Addr.add
 obtain⟨b,o,s⟩:=a
 simp only at ha
 subst ha
 by_cases h1:n=0<;>by_cases h2:m=0<;>simp[h1,h2,Nat.add_assoc]
theorem Blk.cell{w:World}{b:Nat}{T:TypeId}{cs:List Value}(h:Blk w b T cs){n:Nat}{v:Value}(hn:cs[n]? =some v):w.cell? ((blk b).add n)=some v:=by
 rw[zcm]
 simp only[World.cell?]
 rw[show w.heap[b]? =_ from h]
 simpa using hn
theorem Blk.cell0{w:World}{b:Nat}{T:TypeId}{cs:List Value}(h:Blk w b T cs){v:Value}(hn:cs[0]? =some v):w.cell? (blk b)=some v:=h.cell (n:=0) hn
theorem Blk.frozen{w:World}{b:Nat}{T:TypeId}{cs:List Value}(h:Blk w b T cs)(n:Nat):w.frozen? ((blk b).add n)=false:=by
 rw[zcm]
 simp only[World.frozen?]
 rw[show w.heap[b]? =_ from h]
 simp
theorem Blk.wr{w:World}{b:Nat}{T:TypeId}{cs:List Value}(h:Blk w b T cs){n:Nat}(hn:n<cs.length):Wr w ((blk b).add n):=
 ⟨⟨cs[n],h.cell (List.getElem?_eq_getElem hn)⟩,h.frozen n⟩
theorem Blk.wr0{w:World}{b:Nat}{T:TypeId}{cs:List Value}(h:Blk w b T cs)(hn:0<cs.length):Wr w (blk b):=h.wr (n:=0) hn
theorem Blk.set{w:World}{b:Nat}{T:TypeId}{cs:List Value}(h:Blk w b T cs)(n:Nat)(v:Value):Blk (w.setCell ((blk b).add n) v) b T (cs.set n v):=by
 rw[zcm]
 have hlt:=h.lt
 have hv:w.heap[b] =.cells cs.toArray T (0,0):=(Array.getElem?_eq_some_iff.1 h).2
 unfold Blk World.setCell
 simp only
 rw[Array.getElem?_eq_getElem (by simpa using hlt),Array.getElem_modify]
 simp[hv]
theorem Blk.set0{w:World}{b:Nat}{T:TypeId}{cs:List Value}(h:Blk w b T cs)(v:Value):Blk (w.setCell (blk b) v) b T (cs.set 0 v):=h.set 0 v
theorem Blk.new(w:World)(T:TypeId)(cs:Array Value):Blk (w.alloc (.cells cs T)) w.heap.size T cs.toList:=by
 show(w.heap.push _)[w.heap.size]? =_
 simp
theorem Blk.of_block{w w':World}{b:Nat}{T:TypeId}{cs:List Value}(h:Blk w b T cs)(hb:w'.heap[b]? =w.heap[b]?):Blk w' b T cs:=hb.trans h
theorem Blk.below{w w':World}{b:Nat}{T:TypeId}{cs:List Value}(h:Blk w b T cs)(hb:Below w.heap.size w w'):Blk w' b T cs:=h.of_block (hb.block b h.lt)
theorem Blk.drew{w:World}{b:Nat}{T:TypeId}{cs:List Value}(h:Blk w b T cs):Blk w.drew b T cs:=h
theorem Blk.type{w:World}{b:Nat}{T T':TypeId}{cs cs':List Value}(h:Blk w b T cs)(h':Blk w b T' cs'):T=T':=by
 have:=(show w.heap[b]? =_ from h).symm.trans h'
 simp at this
 exact this.2
theorem Blk.apart{w:World}{b b':Nat}{T T':TypeId}{cs cs':List Value}(h:Blk w b T cs)(h':Blk w b' T' cs')(hT:T≠T'):b≠b':=λe=>hT (h.type (e▸h'))
theorem zgB(w:World)(o:Obj){k:Nat}(h:k<w.heap.size):(w.alloc o).heap[k]? =w.heap[k]?:=Below.heap_alloc w o k h
theorem Blk.alloc{w:World}{b:Nat}{T:TypeId}{cs:List Value}(h:Blk w b T cs)(o:Obj):Blk (w.alloc o) b T cs:=h.of_block (zgB w o h.lt)
theorem Blk.other{w:World}{b:Nat}{T:TypeId}{cs:List Value}(h:Blk w b T cs){a:Addr}(hne:b≠a.block)(v:Value):Blk (w.setCell a v) b T cs:=h.of_block (Below.heap_setCell w a v b hne)
theorem Blk.isS{α:Type}{f:α->Value}{w:World}{b:Nat}{T:TypeId}{l:List α}{s:Sl}(h:Blk w b T (l.map f))(ha:s.a=some (blk b))(hl:s.l=l.length)(hc:s.l<=s.c)(hm:s.c<=9223372036854775807):IsS f w s l:=by
 refine⟨hl,hc,hm,(λhn=>by rw[hn]at ha;cases ha),λa ha' i hi=>?_⟩
 rw[ha]at ha'
 cases ha'
 exact h.cell (by simp[hi])
def Own(w:World)(T:TypeId)(sz:Nat)(s:Sl)(xs:List Value):Prop:=
 xs.length=s.l*sz/\(s=⟨none,0,0⟩\/∃b cs,s.a=some (blk b)/\Blk w b T cs/\s.l<=s.c/\s.c<=9223372036854775807/\cs.length=s.c*sz/\cs.take (s.l*sz)=xs)
theorem Own.nil(w:World)(T:TypeId)(sz:Nat):Own w T sz ⟨none,0,0⟩ []:=⟨by simp,.inl rfl⟩
theorem Own.lt{w:World}{T:TypeId}{sz:Nat}{s:Sl}{xs:List Value}(h:Own w T sz s xs){a:Addr}(ha:s.a=some a):a=blk a.block/\a.block<w.heap.size:=by
 rcases h.2 with rfl | ⟨b,cs,hb,hB,_⟩
 ·cases ha
 ·rw[hb]at ha;cases ha;exact⟨rfl,hB.lt⟩
theorem Own.type{w:World}{T:TypeId}{sz:Nat}{s:Sl}{xs:List Value}(h:Own w T sz s xs){a:Addr}(ha:s.a=some a):∃cs,Blk w a.block T cs:=by
 rcases h.2 with rfl | ⟨b,cs,hb,hB,_⟩
 ·cases ha
 ·rw[hb]at ha;cases ha;exact⟨cs,hB⟩
theorem Own.of_block{w w':World}{T:TypeId}{sz:Nat}{s:Sl}{xs:List Value}(h:Own w T sz s xs)(hb:∀a,s.a=some a->w'.heap[a.block]? =w.heap[a.block]?):Own w' T sz s xs:=by
 refine⟨h.1,?_⟩
 rcases h.2 with rfl | ⟨b,cs,ha,hB,r⟩
 ·exact .inl rfl
 ·exact .inr ⟨b,cs,ha,hB.of_block (hb _ ha),r⟩
theorem Own.below{w w':World}{T:TypeId}{sz:Nat}{s:Sl}{xs:List Value}(h:Own w T sz s xs)(hb:Below w.heap.size w w'):Own w' T sz s xs:=
 h.of_block λ_ ha=>hb.block _ (h.lt ha).2
theorem Own.alloc{w:World}{T:TypeId}{sz:Nat}{s:Sl}{xs:List Value}(h:Own w T sz s xs)(o:Obj):Own (w.alloc o) T sz s xs:=h.of_block λ_ ha=>zgB w o (h.lt ha).2
theorem Own.drew{w:World}{T:TypeId}{sz:Nat}{s:Sl}{xs:List Value}(h:Own w T sz s xs):Own w.drew T sz s xs:=h
theorem Own.isS{α:Type}{f:α->Value}{w:World}{T:TypeId}{s:Sl}{l:List α}(h:Own w T 1 s (l.map f)):IsS f w s l:=by
 have hl:s.l=l.length:=by have:=h.1;simp at this;omega
 rcases h.2 with rfl | ⟨b,cs,ha,hB,hc,hm,hcs,htk⟩
 ·simp at hl
  have:l=[]:=List.eq_nil_of_length_eq_zero hl.symm
  subst this
  exact⟨rfl,Nat.le_refl _,Nat.zero_le _,λ_=>rfl,λa ha=>by cases ha⟩
 ·refine⟨hl,hc,hm,(λhn=>by rw[hn]at ha;cases ha),λa ha' i hi=>?_⟩
  rw[ha]at ha'
  cases ha'
  refine hB.cell ?_
  have hlt:i<s.l*1:=by omega
  have:(cs.take (s.l*1))[i]? =cs[i]?:=List.getElem?_take_of_lt hlt
  rw[<-this,htk]
  simp[hi]
structure Yq (P:Program) (t e:TypeId) (sz bytes:Nat):Prop where
 under:P.underlying t=some (.slice e)
 info:∃i z,P.info? e=some i/\i.size=sz/\i.bytes=bytes/\i.zero=some z/\z.cells.size=sz
theorem yV{t e:TypeId}{sz bytes:Nat}(he:Yq P t e sz bytes){w:World}{s:Sl}{xs:List Value}(h:Own w e sz s xs)
  {a:Addr} {m c:Nat} {news:List Value} (hl:news.length=m*sz) (hnews:∀j u,news[j]? =some u->w.cell? (a.add j)=some u) (h1:∀u∈news,u.oneCell'=true)
  (h63:s.l+m<=9223372036854775807) (hbytes:(s.l+m)*bytes<=140737488355328) {k:Sl->World->Prop}
  (hk:∀r w',Own w' e sz r (xs++news)->r.l=s.l+m->((r.a=none/\w'=w/\r=s)\/∃b,r.a=some (blk b)/\(s.a=some (blk b)\/b=w.heap.size)/\w.grownBy w' (some b))->k r w') :
  zA P t s.val (.slice (some a) m c) w k:=by
 obtain⟨hu,i,z,hi,rfl,rfl,hz,hzs⟩:=he
 have hlen:(xs++news).length=(s.l+m)*i.size:=by rw[List.length_append,h.1,hl,Nat.add_mul]
 have grown:∀(old:Nat),old<s.l+m->
   Own (w.drew.alloc (.cells (xs.toArray++news.toArray++Builtin.zeroCells z.cells (grownCap w (s.l+m) old e-(s.l+m))) e)) e i.size ⟨some (blk w.heap.size),s.l+m,grownCap w (s.l+m) old e⟩ (xs++news)/\
   w.grownBy (w.drew.alloc (.cells (xs.toArray++news.toArray++Builtin.zeroCells z.cells (grownCap w (s.l+m) old e-(s.l+m))) e)) (some w.heap.size):=by
  intro old ho
  have hge:=grownCap_ge w (s.l+m) old e
  have hcm:grownCap w (s.l+m) old e<=9223372036854775807:=grownCap_le_maxLen w (s.l+m) old e h63
  refine⟨⟨hlen,.inr ⟨w.heap.size,_,rfl,Blk.new w.drew e _,hge,hcm,?_,?_⟩⟩,⟨rfl,rfl,rfl,by simp,λk hk _=>zgB w.drew _ hk⟩⟩
  ·simp only[Array.length_toList,Array.size_append,List.size_toArray,size_zeroCells,hzs,h.1,hl,<-Nat.add_mul]
   congr 1
   omega
  ·simp only[Array.toList_append,List.append_assoc]
   rw[<-List.append_assoc,<-hlen]
   exact List.take_left
 obtain⟨hx,h2⟩:=h
 rcases h2 with rfl | ⟨b,cs,ha,hB,hc,hcm,hcs,htk⟩
 ·simp only[Nat.zero_mul]at hx
  have hx:xs=[]:=List.eq_nil_of_length_eq_zero hx
  subst hx
  by_cases hm:m=0
  ·subst hm
   have hn:news=[]:=List.eq_nil_of_length_eq_zero (by simpa using hl)
   subst hn
   refine⟨⟨none,0,0⟩,w,?_,hk _ _ (Own.nil w e i.size) rfl (.inl ⟨rfl,rfl,rfl⟩)⟩
   simp[Builtin.append_,run_underlying hu,sizeOf,typeInfo,hi,Builtin.lenOf,Builtin.firstCells,loadCells,loadCellsFrom,Sl.val,Sl.v]
  ·have hr:=run_append_nil (P:=P) w t t e i z hu hi hz a m c news hl hnews (by omega) (by simp only at h63;omega) (by simp only[Nat.zero_add]at hbytes;omega)
   have hg:=grown 0 (by simp;omega)
   simp only[Nat.zero_add,List.nil_append,Array.empty_append]at hg hk
   exact⟨⟨some (blk w.heap.size),m,grownCap w m 0 e⟩,_,hr,hk _ _ hg.1 (by simp) (.inr ⟨_,rfl,.inr rfl,hg.2⟩)⟩
 ·obtain⟨sa,sl,sc⟩:=s
  simp only at ha hc hcm hcs htk hx hlen h63 hbytes grown hk
  subst ha
  by_cases hroom:sl+m<=sc
  ·have hfit:sl*i.size+news.length<=cs.length:=by rw[hl,hcs,<-Nat.add_mul];exact Nat.mul_le_mul_right _ hroom
   have hr:=run_append_room (P:=P) w t t e i hu hi b sl sc cs.toArray hB a m c news hl hnews h1 hroom (by simpa using hfit)
   refine⟨⟨some (blk b),sl+m,sc⟩,_,hr,hk _ _ ⟨hlen,.inr ⟨b,_,rfl,setRow_heap w b _ _ e _ hB,hroom,hcm,?_,?_⟩⟩ rfl (.inr ⟨b,rfl,.inl rfl,⟨rfl,rfl,rfl,by simp[World.setRow],λk _ hk=>setRow_other w b k _ (λe=>hk (by rw[e]))⟩⟩)⟩
   ·simp only[List.length_append,List.length_take,List.length_drop]
    omega
   ·simp only
    rw[htk,<-hlen]
    exact List.take_left
  ·have holds:∀j u,xs[j]? =some u->w.cell? ((blk b).add j)=some u:=λj u hj=>hB.cell (by
    rw[<-htk]at hj
    have hlt:j<sl*i.size:=by
     have:=(List.getElem?_eq_some_iff.1 hj).1
     simp at this;omega
    rwa[List.getElem?_take_of_lt hlt]at hj)
   have hr:=run_append_grow (P:=P) w t t e i z hu hi hz (blk b) sl sc xs hx holds a m c news hl hnews (by omega) (by omega) (growslice_fits (by omega) hbytes)
   have hg:=grown sc (by omega)
   exact⟨⟨some (blk w.heap.size),sl+m,_⟩,_,hr,hk _ _ hg.1 rfl (.inr ⟨_,rfl,.inr rfl,hg.2⟩)⟩
theorem zh1{t e:TypeId}{bytes:Nat}(he:Yq P t e 1 bytes){w:World}{s:Sl}{xs:List Value}(h:Own w e 1 s xs){v:Value}(hv:v.oneCell'=true){b c:Nat}{T:TypeId}(hB:Blk w b T [v])
  (h63:s.l+1<=9223372036854775807) (hbytes:(s.l+1)*bytes<=140737488355328) {k:Sl->World->Prop}
  (hk:∀r w',Own w' e 1 r (xs++[v])->r.l=s.l+1->(∃b,r.a=some (blk b)/\(s.a=some (blk b)\/b=w.heap.size)/\w.grownBy w' (some b))->k r w') :
  zA P t s.val (.slice (some (blk b)) 1 c) w k:=by
 refine yV he h (news:=[v]) rfl (λj u hj=>?_) (by simpa using hv) h63 hbytes λr w' h1 h2 h3=>?_
 ·cases j with
  |zero=>simp at hj;subst hj;exact hB.cell rfl
  |succ j=>simp at hj
 ·refine hk r w' h1 h2 (h3.resolve_left ?_)
  rintro⟨_,_,rfl⟩
  omega
theorem zlR(z:Value)(n:Nat):(madeCells #[z] (n*1)).toList=List.replicate n z:=by
 rw[Nat.mul_one,toList_madeCells_one]
theorem Blk.made(w:World)(T:TypeId)(z:Value)(n:Nat):Blk (w.alloc (.cells (madeCells #[z] (n*1)) T)) w.heap.size T (List.replicate n z):=by
 have:=Blk.new w T (madeCells #[z] (n*1))
 rwa[zlR]at this
theorem zW{B:Nat}{w w':World}{b:Nat}(h:w.grownBy w' (some b))(hb:B<=b)(hB:B<=w.heap.size):Below B w w':=
 ⟨h.os,h.tape,h.output,h.size,λk hk=>h.block k (by omega) (λe=>by cases e;omega)⟩
structure Only (s:Sl) (w w':World):Prop where
 os:w'.os=w.os
 tape:w'.tape=w.tape
 output:w'.output=w.output
 size:w'.heap.size=w.heap.size
 block:∀k,(∀a,s.a=some a->a.block≠k)->w'.heap[k]? =w.heap[k]?
theorem Only.refl(s:Sl)(w:World):Only s w w:=⟨rfl,rfl,rfl,rfl,λ_ _=>rfl⟩
theorem Only.trans{s:Sl}{a b c:World}(h:Only s a b)(k:Only s b c):Only s a c:=
 ⟨k.os.trans h.os,k.tape.trans h.tape,k.output.trans h.output,k.size.trans h.size,λi hi=>(k.block i hi).trans (h.block i hi)⟩
theorem Only.set{s:Sl}{w w':World}(h:Only s w w'){a:Addr}(ha:s.a=some a)(n:Nat)(v:Value):Only s w (w'.setCell (a.add n) v):=
 h.trans ⟨rfl,rfl,rfl,by simp[World.setCell],λk hk=>Below.heap_setCell _ _ _ _ (by rw[Zg];exact(hk a ha).symm)⟩
theorem Only.drew{s:Sl}{w w':World}(h:Only s w w'):Only s w w'.drew:=h.trans ⟨rfl,rfl,rfl,rfl,λ_ _=>rfl⟩
theorem Only.below{s:Sl}{w w':World}(h:Only s w w'){B:Nat}(hB:∀a,s.a=some a->B<=a.block):Below B w w':=
 ⟨h.os,h.tape,h.output,by rw[h.size];omega,λk hk=>h.block k λa ha=>by have:=hB a ha;omega⟩
def zK(B:Nat)(s:Sl):Prop:=∀a,s.a=some a->B<=a.block
theorem IsS.drew{α:Type}{f:α->Value}{w:World}{s:Sl}{l:List α}(h:IsS f w s l):IsS f w.drew s l:=h.heap rfl
theorem IsS.bound{α:Type}{f:α->Value}{w:World}{s:Sl}{l:List α}(h:IsS f w s l):l.length<=9223372036854775807:=by
 have:=h.len;have:=h.cap;have:=h.max;omega
end Go.Gk
namespace Go.Gk
variable {P:Program}
inductive Jmp where
 |ret |exit (id:Nat)
def Jmp.code:Jmp->Code
 | .ret=>.ret
 | .exit i=>.exit i
def Jmp.x:Jmp->Exit
 | .ret=>.ret
 | .exit i=>.exit i
def Jmp.same:Jmp->Jmp->Bool
 | .ret,.ret=>true
 | .exit i,.exit j=>Nat.beq i j
 |_,_=>false
def ziB:Code->Bool
 | .rangeFunc _ _ _ _=>true
 | .seq a b=>ziB a||ziB b
 | .cond _ a b=>ziB a||ziB b
 | .block _ a=>ziB a
 | .loop a=>ziB a
 | .scope a=>ziB a
 |_=>false
def addJ(j:Jmp)(l:List Jmp):List Jmp:=match l.any j.same with |true=>l |false=>l++[j]
def zd5:Code->List Jmp->List Jmp
 | .ret,l=>addJ .ret l
 | .exit i,l=>addJ (.exit i) l
 | .seq a b,l=>zd5 b (zd5 a l)
 | .cond _ a b,l=>zd5 b (zd5 a l)
 | .block _ a,l=>zd5 a l
 | .loop a,l=>zd5 a l
 | .scope a,l=>zd5 a l
 |_,l=>l
def zbd:Code->List Nat
 | .seq a b=>zbd a++zbd b
 | .cond _ a b=>zbd a++zbd b
 | .block i a=>i::zbd a
 | .loop a=>zbd a
 | .scope a=>zbd a
 |_=>[]
def zwf(ids:List Nat):Jmp->Bool
 | .ret=>true
 | .exit i=>!ids.contains i
def zv9(c:Code):List Jmp:=(zd5 c []).filter (zwf (zbd c))
abbrev Mk:=LoopState->Option Code->Obj
def zpo(mk:Mk)(l:Nat)(S:VWP):Exit->World->Prop
 | .normal,w=>w.heap[l]? =some (mk .busy none)/\S (.bool true) (w.putObj l (mk .ready none))
 | .ret,w=>w.heap[l]? =some (mk .busy none)/\S (.bool false) (w.putObj l (mk .done (some .ret)))
 | .exit id,w=>w.heap[l]? =some (mk .busy none)/\S (.bool false) (w.putObj l (mk .done (some (.exit id))))
 |_,_=>False
def Ye(mk:Mk)(l:Nat)(st:LoopState)(j:Option Code)(w:World)(k:World->Prop):Prop:=w.heap[l]? =some (mk st j)/\k (w.putObj l (mk .exhausted j))
def zj3(mk:Mk)(l:Nat)(w:World)(k:Exit->World->Prop):List Jmp->Prop
 | []=>False
 | [j]=>Ye mk l .done (some j.code) w (k j.x)
 |j::r=>Ye mk l .done (some j.code) w (k j.x)\/zj3 mk l w k r
def zgx(mk:Mk)(l:Nat)(w:World)(k:Exit->World->Prop)(js:List Jmp):Prop:=
 match js with
 | []=>Ye mk l .ready none w (k .normal)
 |_=>Ye mk l .ready none w (k .normal)\/zj3 mk l w k js
def zqC(P:Program)(fs:List Nat)(g:Value)(args:List Value)(w:World)(S:VWP):Prop:=
 match g with
 | .func (.func n) first captured=>match fs.contains n with
  |true=>Calls P n (first.toList++(args++captured.toList)).toArray w (Ret S)
  |false=>False
 |_=>False
def zmP(P:Program)(fs:List Nat)(g:Value)(w:World){T:Type}(vals:T->List Value)(round:Mk->Nat->T->World->(VWP)->Prop)(fin:Mk->Nat->Nat->World->Prop):Prop:=
 ∀mk:Mk,(∀t w' S,w'.heap[w.heap.size+1]? =some (mk .ready none)->round mk (w.heap.size+1) t w' S->zun P (w.heap.size+1) (vals t).toArray w' S)->
  zqC P fs g [.func (.yield (w.heap.size+1)) #[] #[]] ((w.alloc (.deferred (some []))).alloc (mk .ready none)) λ_ w3=>fin mk (w.heap.size+1) w.heap.size w3
def zg8:(sg:List (Nat×Kd))->St sg->List Value
 | [],_=>[]
 |p::r,s=>p.2.v s.1::zg8 r s.2
def zeA:List Nat->List Nat->Bool
 | [],[]=>true
 |a::r,b::s=>Nat.beq a b&&zeA r s
 |_,_=>false
def zq9(mk:Mk)(l:Nat)(k:Env->World->Prop):Exit->Env->World->Prop
 | .normal,e,w=>w.heap[l]? =some (mk .ready none)/\k e (w.putObj l (mk .busy none))
 |_,_,_=>False
def zpr(next:Env->List Nat->World->Prop)(K:Exit->Env->List Nat->World->Prop):Exit->Env->List Nat->World->Prop
 | .normal,e,ms,w=>next e ms w
 |x,e,ms,w=>K x e ms w
def zqB(id:Nat)(K:Exit->Env->List Nat->World->Prop):Exit->Env->List Nat->World->Prop
 | .exit j,e,ms,w=>match Nat.beq j id with
  |true=>K .normal e ms w
  |false=>K (.exit j) e ms w
 |x,e,ms,w=>K x e ms w
def lwR(P:Program)(fs:List Nat):Code->Ann->Env->List Nat->World->(Exit->Env->List Nat->World->Prop)->Prop
 | .seq a b,an,e,ms,w,K=>match an with
  | .seq none aa ab=>lwR P fs a aa e ms w (zpr (λe ms w=>lwR P fs b ab e ms w K) K)
  | .seq (some j) aa ab=>match zfb j.keep (wr a) with
   |true=>match ziB a with
    |false=>zo (λM=>lw P fs a aa e w (seqK (λe w=>match zeu j.sg e with |some s=>M s w |none=>False) (λx e w=>K x e ms w)))
      (λs w=>lwR P fs b ab (Y7 j.sg s (zbk j.keep e)) ms w K)
    |true=>zo (S:=St j.sg×List Nat) (λM=>lwR P fs a aa e ms w (zpr (λe ms w=>match zeu j.sg e with |some s=>M (s,ms) w |none=>False) K))
      (λs w=>lwR P fs b ab (Y7 j.sg s.1 (zbk j.keep e)) s.2 w K)
   |false=>False
  |_=>False
 | .cond c a b,an,e,ms,w,K=>match an with
  | .cond aa ab=>match e.ev c with
   |some (.bool t)=>ifB t (lwR P fs a aa e ms w K) (lwR P fs b ab e ms w K)
   |_=>False
  |_=>False
 | .block id a,an,e,ms,w,K=>match an with
  | .one aa=>lwR P fs a aa e ms w (zqB id K)
  |_=>False
 | .loop a,an,e,ms,w,K=>match ziB a with
  |false=>lw P fs (.loop a) an e w (λx e w=>K x e ms w)
  |true=>match an with
   | .loop j aa=>match zfb j.keep (wr a) with
    |true=>match zeu j.sg e with
     |some s=>zl (S:=St j.sg×List Nat) (λs w next=>lwR P fs a aa (Y7 j.sg s.1 (zbk j.keep e)) s.2 w (zpr (λe ms w=>match zeu j.sg e with |some s=>next (s,ms) w |none=>False) K)) (s,ms) w
     |none=>False
    |false=>False
   |_=>False
 | .rangeFunc g ps assign body,an,e,ms,w,K=>match an with
  | .loop j (.seq _ aa ab)=>match e.ev g with
   |some gv=>match zeA ps.toList (j.sg.map (·.1)) with
    |true=>zmP P fs gv w (zg8 j.sg) (λmk l s w' S=>lw P fs assign aa (Y7 j.sg s e) w' (zq9 mk l λe w=>lw P fs body ab e w λx _ w=>zpo mk l S x w))
      (λmk l d w3=>zgx mk l w3 (λx w=>K x e (d::ms) w) (zv9 body))
    |false=>False
   |none=>False
  |_=>False
 |c,an,e,ms,w,K=>lw P fs c an e w (λx e w=>K x e ms w)
def zeN:List Nat->World->(World->Prop)->Prop
 | [],w,k=>k w
 |d::r,w,k=>w.heap[d]? =some (.deferred (some []))/\zeN r (w.putObj d (.deferred none)) k
def zwg(P:Program)(rs:List ResultVar)(R:VWP):Exit->Env->List Nat->World->Prop
 | .normal,e,ms,w | .ret,e,ms,w=>zeN ms w λw=>resV P e w rs [] λl=>R (za4 l) w
 |_,_,_,_=>False
def zre(P:Program)(fs:List Nat)(fn:Func)(an:Ann)(args:List Value)(w:World)(R:VWP):Prop:=
 match fn.body with
 |some c=>lwR P fs c an (zhp args 0) [] w (zwg P fn.results.toList R)
 |none=>False
def Ym(l:List Nat):List Deferred:=l.map λd=>{target:=.collected d,args:=#[]}
def wrA:Code->List Nat
 | .region _ ops _=>ops.toList.filterMap (·.dst)
 | .seq a b=>wrA a++wrA b
 | .cond _ a b=>wrA a++wrA b
 | .block _ a=>wrA a
 | .loop a=>wrA a
 | .scope a=>wrA a
 | .rangeFunc _ ps assign body=>ps.toList++(wr assign++wr body)
 |_=>[]
theorem zul:∀(c:Code) (d:Nat),d∈wr c->d∈wrA c:=by
 intro c
 induction c with
 |seq a b iha ihb=>
  intro d h
  simp only[wr,wrA,List.mem_append]at h⊢
  exact h.imp (iha d) (ihb d)
 |cond c a b iha ihb=>
  intro d h
  simp only[wr,wrA,List.mem_append]at h⊢
  exact h.imp (iha d) (ihb d)
 |block i a ih=>intro d h;exact ih d h
 |loop a ih=>intro d h;exact ih d h
 |scope a ih=>intro d h;exact ih d h
 |region i ops dr=>intro d h;exact h
 |_=>intro d h;simp[wr]at h
def CQR(n:Nat)(ws:List Nat)(a0:Act)(K:Exit->Env->List Nat->World->Prop):Exit->Act->World->Prop:=
 λx a w=>∃e ms,Rep (Ym ms) n a e/\Same ws a0 a/\K x e ms w
theorem zvy{n:Nat}{ws:List Nat}{a0:Act}{ms:List Nat}{K:Exit->Env->List Nat->World->Prop} :
  ∀(x:Exit) (a:Act) (w:World),CQ (Ym ms) n ws a0 (λx e w=>K x e ms w) x a w->CQR n ws a0 K x a w:=by
 rintro x a w ⟨e,h1,h2,h3⟩
 exact⟨e,ms,h1,h2,h3⟩
theorem Rep.marks{D D':List Deferred}{n:Nat}{a a':Act}{e:Env}(h:Rep D n a e)(ht:a'.tmps=a.tmps)(hd:a'.defers=D'):Rep D' n a' e:=
 ⟨by rw[ht];exact h.1,hd,by rw[ht];exact h.2.2⟩
theorem zmB{n:Nat}:∀{sg:List (Nat×Kd)} (s:St sg) {t:Array Value} {e:Env},Rep [] n {tmps:=t,defers:=[]} e->(∀p∈sg,p.1<n)->
  Rep [] n {tmps:=((sg.map (·.1)).zip (zg8 sg s)).foldl (λt x=>t.setIfInBounds x.1 x.2) t,defers:=[]} (Y7 sg s e)
 | [],_,_,_,h,_=>h
 |p::r,s,t,e,h,hp=>by
  have h1:=h.up (hp p (List.mem_cons_self ..)) (p.2.v s.1)
  exact zmB (sg:=r) s.2 (t:=t.setIfInBounds p.1 (p.2.v s.1)) h1 λq hq=>hp q (List.mem_cons_of_mem _ hq)
theorem zhu:∀(sg:List (Nat×Kd)) (s:St sg),(zg8 sg s).length=sg.length
 | [],_=>rfl
 |_::r,s=>by simp[zg8,zhu r s.2]
theorem zhz:∀{a b:List Nat},zeA a b=true->a=b
 | [],[],_=>rfl
 | [],_::_,h=>by simp[zeA]at h
 |_::_,[],h=>by simp[zeA]at h
 |a::r,b::s,h=>by
  simp only[zeA,Bool.and_eq_true]at h
  rw[Nat.eq_of_beq_eq_true h.1,zhz h.2]
theorem zgy{mk:Mk}{l:Nat}{w:World}{k:Exit->World->Prop}:∀{js:List Jmp},zj3 mk l w k js->∃j:Jmp,Ye mk l .done (some j.code) w (k j.x)
 | [],h=>h.elim
 | [j],h=>⟨j,h⟩
 |j::_::_,h=>by
  rcases h with h |h
  ·exact⟨j,h⟩
  ·exact zgy h
theorem zlS{mk:Mk}{l:Nat}{w:World}{k:Exit->World->Prop}{js:List Jmp}(h:zgx mk l w k js) :
  Ye mk l .ready none w (k .normal)\/∃j:Jmp,Ye mk l .done (some j.code) w (k j.x):=by
 unfold zgx at h
 split at h
 ·exact .inl h
 ·exact h.imp id zgy
theorem zhq{fn:Func}{tmps:Array Value}{R:Ending->World->Prop}{F:Fence}{k:World->Prop}(hk:∀w,k w->LeavesInM F 0 P fn tmps R [] .returning w) :
  ∀{ms:List Nat} {w:World},zeN ms w k->LeavesInM F 0 P fn tmps R (Ym ms) .returning w
 | [],_,h=>hk _ h
 |d::r,w,h=>⟨by simp,.inl ⟨d,_,rfl,run_takeDeferred h.1,zhq hk h.2⟩⟩
theorem zpm{fs:List Nat}(hfs:zaa P fs)(hm:P.follows .mixedOrders=true){n:Nat}{g:Operand}{ps:Array Tmp}{assign body:Code}{j:Sig}{aa ab:Ann}{e:Env}{ms:List Nat}{w:World}
  {K:Exit->Env->List Nat->World->Prop} {a:Act} {gv:Value} {js:List Jmp} (hd:∀d,d∈wrA (.rangeFunc g ps assign body)->d<n) (hr:Rep (Ym ms) n a e) (hg:e.ev g=some gv) (hps:ps.toList=j.sg.map (·.1))
  (h:zmP P fs gv w (zg8 j.sg) (λmk l s w' S=>lw P fs assign aa (Y7 j.sg s e) w' (zq9 mk l λe w=>lw P fs body ab e w λx _ w=>zpo mk l S x w))
      (λmk l d w3=>zgx mk l w3 (λx w=>K x e (d::ms) w) js)) :
  (Code.rangeFunc g ps assign body).wpIn (Wf none) 0 P (CQR n (wr (.rangeFunc g ps assign body)) a K) a w:=by
 refine wpIn_rangeFunc λfn _=>?_
 let rc:Loop:={state:=.ready,pending:=none,fn,tmps:=a.tmps,params:=ps,assign,body,defers:=w.heap.size}
 let mk:Mk:=λst p=>.loop {rc with state:=st,pending:=p}
 have hmk:∀st p,mk st p =.loop {rc with state:=st,pending:=p}:=λ_ _=>rfl
 have hcall:=h mk ?_
 ·unfold zqC at hcall
  split at hcall
  ·rename_i f first captured
   split at hcall
   ·rename_i hf
    have hc:=hfs.get hf
    refine⟨w.heap.size+1,[{target:=.collected w.heap.size,args:=#[]}],(w.alloc (.deferred (some []))).alloc (mk .ready none),{target:=.fn (.func f) captured,args:=first++#[.func (.yield (w.heap.size+1)) #[] #[]]},(w.alloc (.deferred (some []))).alloc (mk .ready none),f,(first.toList++([Value.func (.yield (w.heap.size+1)) #[] #[]]++captured.toList)).toArray,(w.alloc (.deferred (some []))).alloc (mk .ready none),run_enterLoop_outer fn a.tmps ps assign body,?_,λ_ _=>trivial,?_,λh=>(by cases h),?_⟩
    ·simp[resolve,hr.ev hg,Deferred.ofValue]
     rfl
    ·simp only[invoke]
     rw[hc]
     congr 2
     apply Array.ext'
     simp
    ·refine CallsIn.mono (zsI (ro:=none) hcall) λx w3 hx=>?_
     cases x with
     |returned v=>
      have hx':zgx mk (w.heap.size+1) w3 (λx w'=>K x e (w.heap.size::ms) w') js:=hx
      rcases zlS hx' with⟨h1,h2⟩ | ⟨jj,h1,h2⟩
      ·exact⟨none,_,run_endLoop h1 (by simp),e,w.heap.size::ms,hr.marks rfl (by simp[Ym,hr.2.1]),Same.refl _ _,h2⟩
      ·refine⟨some jj.code,_,run_endLoop h1 (by simp),?_⟩
       have hq:CQR n (wr (.rangeFunc g ps assign body)) a K jj.x {a with defers:=[{target:=.collected w.heap.size,args:=#[]}]++a.defers} (w3.putObj (w.heap.size+1) (mk .exhausted (some jj.code))):=
        ⟨e,w.heap.size::ms,hr.marks rfl (by simp[Ym,hr.2.1]),Same.refl _ _,h2⟩
       cases jj with
       |ret=>exact wpIn_ret hq
       |exit i=>exact wpIn_exit hq
     |panicked c=>exact hx.elim
     |outgrown=>exact hx.elim
   ·exact hcall.elim
  ·exact hcall.elim
 ·intro t w' S hl hround
  refine⟨rc,hl,by simp[zhu,rc,<-Array.length_toList,hps],?_⟩
  have e1:(rc.params.zip (zg8 j.sg t).toArray).foldl (λtmps (t,a)=>tmps.setIfInBounds t a) rc.tmps=((j.sg.map (·.1)).zip (zg8 j.sg t)).foldl (λt x=>t.setIfInBounds x.1 x.2) a.tmps:=by
   rw[<-Array.foldl_toList,Array.toList_zip,hps]
  rw[e1]
  have hr0:Rep [] n {tmps:=a.tmps,defers:=[]} e:=hr.marks rfl rfl
  have hr1:=zmB t hr0 (λp hp=>hd _ (List.mem_append_left _ (by rw[hps];exact List.mem_map_of_mem hp)))
  refine roundIn_of_wpIn trivial ?_
  refine Code.wpIn_mono (F:=Wf (some (w.heap.size+1))) ?_ (ze7 (ro:=some (w.heap.size+1)) hfs hm assign aa _ w' _ _ (λd hh=>hd d (List.mem_append_right _ (List.mem_append_left _ hh))) hr1 hround)
  rintro x a1 w1 ⟨e1,hr2,_,hk⟩
  cases x with
  |normal=>
   obtain⟨hl1,hk⟩:=hk
   refine⟨_,run_beginRound hl1 rfl,?_⟩
   refine Code.wpIn_mono (F:=Wf (some (w.heap.size+1))) ?_ (ze7 (ro:=some (w.heap.size+1)) hfs hm body ab _ _ _ _ (λd hh=>hd d (List.mem_append_right _ (List.mem_append_right _ hh))) hr2 hk)
   rintro x a2 w2 ⟨_,_,_,hx⟩
   cases x with
   |normal=>exact⟨_,_,run_endRound _ hx.1,hx.2⟩
   |ret=>exact⟨_,_,run_endRound _ hx.1,hx.2⟩
   |exit id=>exact⟨_,_,run_endRound _ hx.1,hx.2⟩
   |_=>exact(hx:False).elim
  |_=>exact(hk:False).elim
theorem zsb{fs:List Nat}(hfs:zaa P fs)(hm:P.follows .mixedOrders=true){n:Nat} :
  ∀(c:Code) (an:Ann) (e:Env) (ms:List Nat) (w:World) (K:Exit->Env->List Nat->World->Prop) (a:Act),(∀d,d∈wrA c->d<n)->Rep (Ym ms) n a e->lwR P fs c an e ms w K->c.wpIn (Wf none) 0 P (CQR n (wr c) a K) a w:=by
 intro c
 have flat:∀(c:Code) (an:Ann) (e:Env) (ms:List Nat) (w:World) (K:Exit->Env->List Nat->World->Prop) (a:Act),(∀d,d∈wrA c->d<n)->Rep (Ym ms) n a e->lw P fs c an e w (λx e w=>K x e ms w)->c.wpIn (Wf none) 0 P (CQR n (wr c) a K) a w:=
  λc an e ms w K a hd hr h=>Code.wpIn_mono zvy (ze7 (ro:=none) hfs hm c an e w _ a (λd hh=>hd d (zul c d hh)) hr h)
 induction c with
 |seq x y ihx ihy=>
  intro an e ms w K a hd hr h
  have hdx:∀d,d∈wrA x->d<n:=λd hh=>hd d (List.mem_append_left _ hh)
  have hdy:∀d,d∈wrA y->d<n:=λd hh=>hd d (List.mem_append_right _ hh)
  have left:∀{a a':Act},Same (wr x) a a'->Same (wr (.seq x y)) a a':=λh=>h.mono λt ht=>List.mem_append_left _ ht
  have right:∀{a a':Act},Same (wr y) a a'->Same (wr (.seq x y)) a a':=λh=>h.mono λt ht=>List.mem_append_right _ ht
  simp only[lwR]at h
  split at h
  ·rename_i aa ab
   refine wpIn_seq (Code.wpIn_mono ?_ (ihx aa e ms w _ a hdx hr h))
   rintro z a' w' ⟨e',ms',hr',hs',h'⟩
   cases z with
   |normal=>
    refine Code.wpIn_mono ?_ (ihy ab e' ms' w' _ a' hdy hr' h')
    rintro z a'' w'' ⟨e'',ms'',hr'',hs'',h''⟩
    exact⟨e'',ms'',hr'',(left hs').trans (right hs''),h''⟩
   |_=>exact⟨e',ms',hr',left hs',h'⟩
  ·rename_i j aa ab
   split at h
   ·rename_i hk
    split at h
    ·obtain⟨M,h1,h2⟩:=h
     refine wpIn_seq (Code.wpIn_mono ?_ (ze7 (ro:=none) hfs hm x aa e w _ a (λd hh=>hdx d (zul x d hh)) hr h1))
     rintro z a' w' ⟨e',hr',hs',h'⟩
     cases z with
     |normal=>
      simp only[seqK]at h'
      split at h'
      ·rename_i s hg
       have hr2:Rep (Ym ms) n a' (Y7 j.sg s (zbk j.keep e)):=Zj hr' hg (hr.keep hs' hr'.1 hr'.2.1 hk)
       refine Code.wpIn_mono ?_ (ihy ab _ ms w' _ a' hdy hr2 (h2 s w' h'))
       rintro z a'' w'' ⟨e'',ms'',hr'',hs'',h''⟩
       exact⟨e'',ms'',hr'',(left hs').trans (right hs''),h''⟩
      ·exact h'.elim
     |_=>exact⟨e',ms,hr',left hs',h'⟩
    ·obtain⟨M,h1,h2⟩:=h
     refine wpIn_seq (Code.wpIn_mono ?_ (ihx aa e ms w _ a hdx hr h1))
     rintro z a' w' ⟨e',ms',hr',hs',h'⟩
     cases z with
     |normal=>
      simp only[zpr]at h'
      split at h'
      ·rename_i s hg
       have hr2:Rep (Ym ms') n a' (Y7 j.sg s (zbk j.keep e)):=Zj hr' hg ((hr.marks (a':={a with defers:=Ym ms'}) rfl rfl).keep hs' hr'.1 hr'.2.1 hk)
       refine Code.wpIn_mono ?_ (ihy ab _ ms' w' _ a' hdy hr2 (h2 (s,ms') w' h'))
       rintro z a'' w'' ⟨e'',ms'',hr'',hs'',h''⟩
       exact⟨e'',ms'',hr'',(left hs').trans (right hs''),h''⟩
      ·exact h'.elim
     |_=>exact⟨e',ms',hr',left hs',h'⟩
   ·exact h.elim
  ·exact h.elim
 |cond c x y ihx ihy=>
  intro an e ms w K a hd hr h
  have hdx:∀d,d∈wrA x->d<n:=λd hh=>hd d (List.mem_append_left _ hh)
  have hdy:∀d,d∈wrA y->d<n:=λd hh=>hd d (List.mem_append_right _ hh)
  simp only[lwR]at h
  split at h
  ·rename_i aa ab
   split at h
   ·rename_i t ht
    refine wpIn_cond_split (hr.ev ht) (λhb=>?_) (λhb=>?_)
    ·subst hb
     refine Code.wpIn_mono ?_ (ihx aa e ms w K a hdx hr h)
     rintro z a'' w'' ⟨e'',ms'',hr'',hs'',h''⟩
     exact⟨e'',ms'',hr'',hs''.mono λt ht=>List.mem_append_left _ ht,h''⟩
    ·subst hb
     refine Code.wpIn_mono ?_ (ihy ab e ms w K a hdy hr h)
     rintro z a'' w'' ⟨e'',ms'',hr'',hs'',h''⟩
     exact⟨e'',ms'',hr'',hs''.mono λt ht=>List.mem_append_right _ ht,h''⟩
   ·exact h.elim
  ·exact h.elim
 |block id x ih=>
  intro an e ms w K a hd hr h
  simp only[lwR]at h
  split at h
  ·rename_i aa
   refine wpIn_block (Code.wpIn_mono ?_ (ih aa e ms w _ a hd hr h))
   rintro z a' w' ⟨e',ms',hr',hs',h'⟩
   cases z with
   |exit j=>
    simp only[zqB]at h'
    split at h'
    ·rename_i hj
     have hj:=Nat.eq_of_beq_eq_true hj
     simp only[Exit.inBlock,hj,if_true]
     exact⟨e',ms',hr',hs',h'⟩
    ·rename_i hj
     have hj:¬j=id:=λhh=>by subst hh;simp at hj
     simp only[Exit.inBlock,hj,if_false]
     exact⟨e',ms',hr',hs',h'⟩
   |_=>exact⟨e',ms',hr',hs',h'⟩
  ·exact h.elim
 |loop x ih=>
  intro an e ms w K a hd hr h
  simp only[lwR]at h
  split at h
  ·exact flat _ _ _ _ _ _ _ hd hr h
  ·split at h
   ·rename_i j aa
    split at h
    ·rename_i hk
     split at h
     ·rename_i s hg
      obtain⟨I,μ,h0,hround⟩:=h
      refine wpIn_loop_ghost (λm a' w'=>∃s,I s w'/\μ s w'=m/\Rep (Ym s.2) n a' (Y7 j.sg s.1 (zbk j.keep e))/\Same (wr x) a a') (μ (s,ms) w) ⟨(s,ms),h0,rfl,Zj hr hg (hr.keep (Same.refl _ _) hr.1 hr.2.1 hk),Same.refl _ _⟩ ?_
      rintro m a' w' ⟨s',h1,h2,h3,h4⟩
      refine Code.wpIn_mono ?_ (ih aa _ _ w' _ a' hd h3 (hround s' w' h1))
      rintro z a'' w'' ⟨e'',ms'',hr'',hs'',h''⟩
      cases z with
      |normal=>
       simp only[zpr]at h''
       split at h''
       ·rename_i s2 hg2
        refine⟨μ (s2,ms'') w'',by omega,(s2,ms''),h''.1,rfl,?_,h4.trans hs''⟩
        exact Zj hr'' hg2 ((hr.marks (a':={a with defers:=Ym ms''}) rfl rfl).keep (h4.trans hs'') hr''.1 hr''.2.1 hk)
       ·exact h''.elim
      |_=>exact⟨e'',ms'',hr'',h4.trans hs'',h''⟩
     ·exact h.elim
    ·exact h.elim
   ·exact h.elim
 |rangeFunc g ps assign body _ _=>
  intro an e ms w K a hd hr h
  simp only[lwR]at h
  split at h
  ·split at h
   ·rename_i gv hg
    split at h
    ·rename_i hps
     exact zpm hfs hm hd hr hg (zhz hps) h
    ·exact h.elim
   ·exact h.elim
  ·exact h.elim
 |_=>intro an e ms w K a hd hr h;exact flat _ _ _ _ _ _ _ hd hr h
def zqK(n:Nat)(c:Code):Bool:=(wrA c).all λd=>Nat.blt d n
theorem zm4{fs:List Nat}(hfs:zaa P fs)(hm:P.follows .mixedOrders=true){f:Nat}{fn:Func}{an:Ann}{args:List Value}{w:World}{R:VWP}
  (hf:P.funcs[f]? =some fn) (hn:(match fn.body with |some c=>zqK fn.ntmps c |none=>false)=true) (hz:Nat.ble args.length fn.ntmps=true) (h:zre P fs fn an args w R) :
  Calls P f args.toArray w (Ret R):=by
 unfold zre at h
 cases hb:fn.body with
 |none=>rw[hb]at h;exact h.elim
 |some c=>
  rw[hb]at h hn
  simp only at h hn
  have hz':=Nat.le_of_ble_eq_true hz
  have hr:Rep (Ym []) fn.ntmps {tmps:=args.toArray++Array.replicate (fn.ntmps-args.toArray.size) undef,defers:=[]} (zhp args 0):=by
   refine⟨by simp;omega,rfl,λt v ht=>?_⟩
   obtain⟨_,h2⟩:=zeL _ _ _ _ ht
   rw[Nat.sub_zero]at h2
   have hlt:t<args.length:=by
    rcases Nat.lt_or_ge t args.length with h |h
    ·exact h
    ·rw[List.getElem?_eq_none h]at h2;cases h2
   have:args[t]=v:=by rw[List.getElem?_eq_getElem hlt]at h2;exact Option.some.inj h2
   have hlt2:t<args.length+(fn.ntmps-args.length):=by omega
   simp[hlt,hlt2,this]
  refine(callsIn_wide (n:=0)).1 (callsIn_of_wp_marks (F:=Wf none) hf hb trivial (Code.wpIn_mono ?_ (zsb hfs hm c an _ [] w _ _ (λd hd=>by simp only[zqK,List.all_eq_true]at hn;exact Nat.le_of_ble_eq_true (hn d hd)) hr h)))
  have fin:∀(a:Act) (w:World) (e:Env) (ms:List Nat),Rep (Ym ms) fn.ntmps a e->(zeN ms w λw=>resV P e w fn.results.toList [] λl=>R (za4 l) w)->LeavesInM (Wf none) 0 P fn a.tmps (Ret R) a.defers .returning w:=by
   intro a w e ms hr h
   rw[hr.2.1]
   refine zhq (λw h=>?_) h
   exact Y8 hr h
  rintro x a w' ⟨e',ms',hr',_,h'⟩
  cases x with
  |normal=>exact fin _ _ _ _ hr' h'
  |ret=>exact fin _ _ _ _ hr' h'
  |_=>exact h'.elim
end Go.Gk
namespace Go.Proofs
open Go.Gk
set_option linter.unusedVariables false
set_option maxRecDepth 100000
def Tryz.fs:List Nat:=[2,3,4,5,6,7,8,9,10,11,12,13,14,15,16,17,18,19,20,21,22,23,24,25,26,27,28,29,30,31,32,33,34,35,36,37,38,39,40,41,42,43,44,45,46,47,48,49,50,51,52,53,54,55,56,57,58,59,60,61,62,63,64,65,66,67,68,69,70,71,72,73,74,75,76,77,78,79,80,81,82,83,84,85,86,87,88,89,90,91,92,93,94,95,96,97,98,99,100,101,102,103,104,105,106,107,108,109,110,111,112,113,114,115,116,117,118,119,120,121,122,123,124,125,126,127,128,129,130,131,132,133,134,135,136,137,138,139,140,141,142,143,144,145,146,147,148,149,150,151,152,153,154,155,156,157,158,159,160,161,162,163,164,165,166,167,168,169,170,171,172,173,174,175,176,177,178,179,180,181,182,183,184,185,186,187,188,189,190,191,192,193,194,195,196,197,198,199,200,201,202,203,204,205,206,207,208,209,210,211,212,213,215,216,239]
theorem Tryz.fsOK:zaa Tryz.prog Tryz.fs:=⟨Tryz.call2,⟨Tryz.call3,⟨Tryz.call4,⟨Tryz.call5,⟨Tryz.call6,⟨Tryz.call7,⟨Tryz.call8,⟨Tryz.call9,⟨Tryz.call10,⟨Tryz.call11,⟨Tryz.call12,⟨Tryz.call13,⟨Tryz.call14,⟨Tryz.call15,⟨Tryz.call16,⟨Tryz.call17,⟨Tryz.call18,⟨Tryz.call19,⟨Tryz.call20,⟨Tryz.call21,⟨Tryz.call22,⟨Tryz.call23,⟨Tryz.call24,⟨Tryz.call25,⟨Tryz.call26,⟨Tryz.call27,⟨Tryz.call28,⟨Tryz.call29,⟨Tryz.call30,⟨Tryz.call31,⟨Tryz.call32,⟨Tryz.call33,⟨Tryz.call34,⟨Tryz.call35,⟨Tryz.call36,⟨Tryz.call37,⟨Tryz.call38,⟨Tryz.call39,⟨Tryz.call40,⟨Tryz.call41,⟨Tryz.call42,⟨Tryz.call43,⟨Tryz.call44,⟨Tryz.call45,⟨Tryz.call46,⟨Tryz.call47,⟨Tryz.call48,⟨Tryz.call49,⟨Tryz.call50,⟨Tryz.call51,⟨Tryz.call52,⟨Tryz.call53,⟨Tryz.call54,⟨Tryz.call55,⟨Tryz.call56,⟨Tryz.call57,⟨Tryz.call58,⟨Tryz.call59,⟨Tryz.call60,⟨Tryz.call61,⟨Tryz.call62,⟨Tryz.call63,⟨Tryz.call64,⟨Tryz.call65,⟨Tryz.call66,⟨Tryz.call67,⟨Tryz.call68,⟨Tryz.call69,⟨Tryz.call70,⟨Tryz.call71,⟨Tryz.call72,⟨Tryz.call73,⟨Tryz.call74,⟨Tryz.call75,⟨Tryz.call76,⟨Tryz.call77,⟨Tryz.call78,⟨Tryz.call79,⟨Tryz.call80,⟨Tryz.call81,⟨Tryz.call82,⟨Tryz.call83,⟨Tryz.call84,⟨Tryz.call85,⟨Tryz.call86,⟨Tryz.call87,⟨Tryz.call88,⟨Tryz.call89,⟨Tryz.call90,⟨Tryz.call91,⟨Tryz.call92,⟨Tryz.call93,⟨Tryz.call94,⟨Tryz.call95,⟨Tryz.call96,⟨Tryz.call97,⟨Tryz.call98,⟨Tryz.call99,⟨Tryz.call100,⟨Tryz.call101,⟨Tryz.call102,⟨Tryz.call103,⟨Tryz.call104,⟨Tryz.call105,⟨Tryz.call106,⟨Tryz.call107,⟨Tryz.call108,⟨Tryz.call109,⟨Tryz.call110,⟨Tryz.call111,⟨Tryz.call112,⟨Tryz.call113,⟨Tryz.call114,⟨Tryz.call115,⟨Tryz.call116,⟨Tryz.call117,⟨Tryz.call118,⟨Tryz.call119,⟨Tryz.call120,⟨Tryz.call121,⟨Tryz.call122,⟨Tryz.call123,⟨Tryz.call124,⟨Tryz.call125,⟨Tryz.call126,⟨Tryz.call127,⟨Tryz.call128,⟨Tryz.call129,⟨Tryz.call130,⟨Tryz.call131,⟨Tryz.call132,⟨Tryz.call133,⟨Tryz.call134,⟨Tryz.call135,⟨Tryz.call136,⟨Tryz.call137,⟨Tryz.call138,⟨Tryz.call139,⟨Tryz.call140,⟨Tryz.call141,⟨Tryz.call142,⟨Tryz.call143,⟨Tryz.call144,⟨Tryz.call145,⟨Tryz.call146,⟨Tryz.call147,⟨Tryz.call148,⟨Tryz.call149,⟨Tryz.call150,⟨Tryz.call151,⟨Tryz.call152,⟨Tryz.call153,⟨Tryz.call154,⟨Tryz.call155,⟨Tryz.call156,⟨Tryz.call157,⟨Tryz.call158,⟨Tryz.call159,⟨Tryz.call160,⟨Tryz.call161,⟨Tryz.call162,⟨Tryz.call163,⟨Tryz.call164,⟨Tryz.call165,⟨Tryz.call166,⟨Tryz.call167,⟨Tryz.call168,⟨Tryz.call169,⟨Tryz.call170,⟨Tryz.call171,⟨Tryz.call172,⟨Tryz.call173,⟨Tryz.call174,⟨Tryz.call175,⟨Tryz.call176,⟨Tryz.call177,⟨Tryz.call178,⟨Tryz.call179,⟨Tryz.call180,⟨Tryz.call181,⟨Tryz.call182,⟨Tryz.call183,⟨Tryz.call184,⟨Tryz.call185,⟨Tryz.call186,⟨Tryz.call187,⟨Tryz.call188,⟨Tryz.call189,⟨Tryz.call190,⟨Tryz.call191,⟨Tryz.call192,⟨Tryz.call193,⟨Tryz.call194,⟨Tryz.call195,⟨Tryz.call196,⟨Tryz.call197,⟨Tryz.call198,⟨Tryz.call199,⟨Tryz.call200,⟨Tryz.call201,⟨Tryz.call202,⟨Tryz.call203,⟨Tryz.call204,⟨Tryz.call205,⟨Tryz.call206,⟨Tryz.call207,⟨Tryz.call208,⟨Tryz.call209,⟨Tryz.call210,⟨Tryz.call211,⟨Tryz.call212,⟨Tryz.call213,⟨Tryz.call215,⟨Tryz.call216,⟨Tryz.call239,trivial⟩⟩⟩⟩⟩⟩⟩⟩⟩⟩⟩⟩⟩⟩⟩⟩⟩⟩⟩⟩⟩⟩⟩⟩⟩⟩⟩⟩⟩⟩⟩⟩⟩⟩⟩⟩⟩⟩⟩⟩⟩⟩⟩⟩⟩⟩⟩⟩⟩⟩⟩⟩⟩⟩⟩⟩⟩⟩⟩⟩⟩⟩⟩⟩⟩⟩⟩⟩⟩⟩⟩⟩⟩⟩⟩⟩⟩⟩⟩⟩⟩⟩⟩⟩⟩⟩⟩⟩⟩⟩⟩⟩⟩⟩⟩⟩⟩⟩⟩⟩⟩⟩⟩⟩⟩⟩⟩⟩⟩⟩⟩⟩⟩⟩⟩⟩⟩⟩⟩⟩⟩⟩⟩⟩⟩⟩⟩⟩⟩⟩⟩⟩⟩⟩⟩⟩⟩⟩⟩⟩⟩⟩⟩⟩⟩⟩⟩⟩⟩⟩⟩⟩⟩⟩⟩⟩⟩⟩⟩⟩⟩⟩⟩⟩⟩⟩⟩⟩⟩⟩⟩⟩⟩⟩⟩⟩⟩⟩⟩⟩⟩⟩⟩⟩⟩⟩⟩⟩⟩⟩⟩⟩⟩⟩⟩⟩⟩⟩⟩⟩⟩⟩⟩⟩⟩⟩⟩⟩⟩⟩⟩⟩⟩⟩⟩
theorem Tryz.mixed:Tryz.prog.follows .mixedOrders=true:=by kernel_rfl
abbrev cR:=za Tryz.prog
abbrev zB(w:World):Addr:=blk w.heap.size
abbrev _root_.Go.Gk.Sl.zw(s:Sl):Value:=.slice s.a s.l s.c
abbrev zi(n:Int):Value:=.int .i64 n
abbrev zu(n:Int):Value:=.int .u32 n
abbrev zb(n:Int):Value:=.int .u8 n
abbrev zh(n:Int):Value:=.int .u16 n
abbrev da(w:World)(a:Addr)(φ:Int->Int->Sl->Prop):Prop:=ldI w (a.add 0) .u32 λx0=>ldI w (a.add 1) .u32 λx1=>ldS w (a.add 2) λx2=>φ x0 x1 x2
abbrev db(w:World)(a:Addr)(φ:Int->Int->Prop):Prop:=ldI w (a.add 0) .i64 λx0=>ldI w (a.add 1) .i64 λx1=>φ x0 x1
abbrev dc(w:World)(a:Addr)(φ:Int->Int->Int->Sl->Prop):Prop:=ldI w (a.add 0) .u16 λx0=>ldI w (a.add 1) .u32 λx1=>ldI w (a.add 2) .u32 λx2=>ldS w (a.add 3) λx3=>φ x0 x1 x2 x3
abbrev dd(w:World)(a:Addr)(v0 v1 v2 v3 v4 v5 v6 v7 v8 v9 v10 v11 v12 v13 v14 v15 v16 v17 v18 v19:Value)(K:World->Prop):Prop:=Wr w a/\Nw (w.setCell a v0) λw1=>Wr w1 (a.add 1)/\Nw (w1.setCell (a.add 1) v1) λw2=>Wr w2 (a.add 2)/\Nw (w2.setCell (a.add 2) v2) λw3=>Wr w3 (a.add 3)/\Nw (w3.setCell (a.add 3) v3) λw4=>Wr w4 (a.add 4)/\Nw (w4.setCell (a.add 4) v4) λw5=>Wr w5 (a.add 5)/\Nw (w5.setCell (a.add 5) v5) λw6=>Wr w6 (a.add 6)/\Nw (w6.setCell (a.add 6) v6) λw7=>Wr w7 (a.add 7)/\Nw (w7.setCell (a.add 7) v7) λw8=>Wr w8 (a.add 8)/\Nw (w8.setCell (a.add 8) v8) λw9=>Wr w9 (a.add 9)/\Nw (w9.setCell (a.add 9) v9) λw10=>Wr w10 (a.add 10)/\Nw (w10.setCell (a.add 10) v10) λw11=>Wr w11 (a.add 11)/\Nw (w11.setCell (a.add 11) v11) λw12=>Wr w12 (a.add 12)/\Nw (w12.setCell (a.add 12) v12) λw13=>Wr w13 (a.add 13)/\Nw (w13.setCell (a.add 13) v13) λw14=>Wr w14 (a.add 14)/\Nw (w14.setCell (a.add 14) v14) λw15=>Wr w15 (a.add 15)/\Nw (w15.setCell (a.add 15) v15) λw16=>Wr w16 (a.add 16)/\Nw (w16.setCell (a.add 16) v16) λw17=>Wr w17 (a.add 17)/\Nw (w17.setCell (a.add 17) v17) λw18=>Wr w18 (a.add 18)/\Nw (w18.setCell (a.add 18) v18) λw19=>Wr w19 (a.add 19)/\Nw (w19.setCell (a.add 19) v19) λw20=>K w20
abbrev de(w:World)(a:Addr)(v0 v1:Value)(K:World->Prop):Prop:=Wr w a/\Nw (w.setCell a v0) λw1=>Wr w1 (a.add 1)/\Nw (w1.setCell (a.add 1) v1) λw2=>K w2
abbrev df(w:World)(z:Array Value)(T:Nat)(v0 v1:Value)(K:World->Prop):Prop:=Nw (w.alloc (.cells z T)) λw0=>Wr w0 (blk w.heap.size)/\Nw (w0.setCell (blk w.heap.size) v0) λw1=>Wr w1 ((blk w.heap.size).add 1)/\Nw (w1.setCell ((blk w.heap.size).add 1) v1) λw2=>K w2
abbrev dg(w:World)(z:Array Value)(T:Nat)(v0 v1 v2 v3:Value)(K:World->Prop):Prop:=Nw (w.alloc (.cells z T)) λw0=>Wr w0 (blk w.heap.size)/\Nw (w0.setCell (blk w.heap.size) v0) λw1=>Wr w1 ((blk w.heap.size).add 1)/\Nw (w1.setCell ((blk w.heap.size).add 1) v1) λw2=>Wr w2 ((blk w.heap.size).add 2)/\Nw (w2.setCell ((blk w.heap.size).add 2) v2) λw3=>Wr w3 ((blk w.heap.size).add 3)/\Nw (w3.setCell ((blk w.heap.size).add 3) v3) λw4=>K w4
abbrev dh(f:Nat)(args:Array Value)(w:World)(φ:(Int×Int×Int×Int×Int×Int×Int×Int×Int×Int×Int×Int×Int×Int×Int×Int×Int×Int×Int×Int×Unit)->(Int×Int×Unit)->World->Prop):Prop:=cR f args w λv w2=>∃x0:(Int×Int×Int×Int×Int×Int×Int×Int×Int×Int×Int×Int×Int×Int×Int×Int×Int×Int×Int×Int×Unit),∃x1:(Int×Int×Unit),v=(.tuple #[.agg #[zi x0.1,zi x0.2.1,zi x0.2.2.1,zi x0.2.2.2.1,zi x0.2.2.2.2.1,zi x0.2.2.2.2.2.1,zi x0.2.2.2.2.2.2.1,zi x0.2.2.2.2.2.2.2.1,zi x0.2.2.2.2.2.2.2.2.1,zi x0.2.2.2.2.2.2.2.2.2.1,zi x0.2.2.2.2.2.2.2.2.2.2.1,zi x0.2.2.2.2.2.2.2.2.2.2.2.1,zi x0.2.2.2.2.2.2.2.2.2.2.2.2.1,zi x0.2.2.2.2.2.2.2.2.2.2.2.2.2.1,zi x0.2.2.2.2.2.2.2.2.2.2.2.2.2.2.1,zi x0.2.2.2.2.2.2.2.2.2.2.2.2.2.2.2.1,zi x0.2.2.2.2.2.2.2.2.2.2.2.2.2.2.2.2.1,zi x0.2.2.2.2.2.2.2.2.2.2.2.2.2.2.2.2.2.1,zi x0.2.2.2.2.2.2.2.2.2.2.2.2.2.2.2.2.2.2.1,zi x0.2.2.2.2.2.2.2.2.2.2.2.2.2.2.2.2.2.2.2.1],.agg #[zi x1.1,zi x1.2.1]])/\φ x0 x1 w2
abbrev di(f:Nat)(args:Array Value)(w:World)(φ:(Option Nat)->World->Prop):Prop:=cR f args w λv w2=>∃x0:Option Nat,v=(.map x0)/\φ x0 w2
abbrev dj(f:Nat)(args:Array Value)(w:World)(φ:(Sl)->World->Prop):Prop:=cR f args w λv w2=>∃x0:Sl,v=(x0.zw)/\φ x0 w2
abbrev dk(f:Nat)(args:Array Value)(w:World)(φ:(Value)->World->Prop):Prop:=cR f args w λv w2=>∃x0:Value,v=x0/\φ x0 w2
abbrev dl(f:Nat)(args:Array Value)(w:World)(φ:(Int)->World->Prop):Prop:=cR f args w λv w2=>∃x0:Int,v=(zi x0)/\φ x0 w2
abbrev dm(w:World)(a:Addr)(φ:Int->Int->ByteArray->Prop):Prop:=ldI w (a.add 0) .u8 λx0=>ldI w (a.add 1) .u32 λx1=>zs w (a.add 2) λx2=>φ x0 x1 x2
abbrev dn(w:World)(a:Addr)(v0 v1 v2:Value)(K:World->Prop):Prop:=Wr w a/\Nw (w.setCell a v0) λw1=>Wr w1 (a.add 1)/\Nw (w1.setCell (a.add 1) v1) λw2=>Wr w2 (a.add 2)/\Nw (w2.setCell (a.add 2) v2) λw3=>K w3
abbrev dz(f:Nat)(args:Array Value)(w:World)(φ:(Sl)->(Int×Int×Unit)->World->Prop):Prop:=cR f args w λv w2=>∃x0:Sl,∃x1:(Int×Int×Unit),v=(.tuple #[x0.zw,.agg #[zi x1.1,zi x1.2.1]])/\φ x0 x1 w2
abbrev dp(w:World)(a:Addr)(φ:Int->Sl->Prop):Prop:=ldI w (a.add 0) .u16 λx0=>ldS w (a.add 1) λx1=>φ x0 x1
abbrev dq(f:Nat)(args:Array Value)(w:World)(φ:(Int)->(Int)->World->Prop):Prop:=cR f args w λv w2=>∃x0:Int,∃x1:Int,v=(.tuple #[zi x0,zi x1])/\φ x0 x1 w2
abbrev dr(f:Nat)(args:Array Value)(w:World)(φ:(Int×Sl×Unit)->(Int)->World->Prop):Prop:=cR f args w λv w2=>∃x0:(Int×Sl×Unit),∃x1:Int,v=(.tuple #[.agg #[zh x0.1,x0.2.1.zw],zi x1])/\φ x0 x1 w2
abbrev ds(f:Nat)(args:Array Value)(w:World)(φ:(Int)->(Int×Int×Unit)->World->Prop):Prop:=cR f args w λv w2=>∃x0:Int,∃x1:(Int×Int×Unit),v=(.tuple #[zi x0,.agg #[zi x1.1,zi x1.2.1]])/\φ x0 x1 w2
abbrev dt(w:World)(a:Addr)(φ:Int->ByteArray->Bool->Bool->ByteArray->ByteArray->Int->Int->Prop):Prop:=ldI w (a.add 0) .u16 λx0=>zs w (a.add 1) λx1=>ldB w (a.add 2) λx2=>ldB w (a.add 3) λx3=>zs w (a.add 4) λx4=>zs w (a.add 5) λx5=>ldI w (a.add 6) .i64 λx6=>ldI w (a.add 7) .u8 λx7=>φ x0 x1 x2 x3 x4 x5 x6 x7
abbrev du(w:World)(a:Addr)(v0 v1 v2 v3 v4 v5 v6 v7:Value)(K:World->Prop):Prop:=Wr w a/\Nw (w.setCell a v0) λw1=>Wr w1 (a.add 1)/\Nw (w1.setCell (a.add 1) v1) λw2=>Wr w2 (a.add 2)/\Nw (w2.setCell (a.add 2) v2) λw3=>Wr w3 (a.add 3)/\Nw (w3.setCell (a.add 3) v3) λw4=>Wr w4 (a.add 4)/\Nw (w4.setCell (a.add 4) v4) λw5=>Wr w5 (a.add 5)/\Nw (w5.setCell (a.add 5) v5) λw6=>Wr w6 (a.add 6)/\Nw (w6.setCell (a.add 6) v6) λw7=>Wr w7 (a.add 7)/\Nw (w7.setCell (a.add 7) v7) λw8=>K w8
abbrev dv(f:Nat)(args:Array Value)(w:World)(φ:(Int×ByteArray×Bool×Bool×ByteArray×ByteArray×Int×Int×Unit)->(Bool)->World->Prop):Prop:=cR f args w λv w2=>∃x0:(Int×ByteArray×Bool×Bool×ByteArray×ByteArray×Int×Int×Unit),∃x1:Bool,v=(.tuple #[.agg #[zh x0.1,.string x0.2.1,.bool x0.2.2.1,.bool x0.2.2.2.1,.string x0.2.2.2.2.1,.string x0.2.2.2.2.2.1,zi x0.2.2.2.2.2.2.1,zb x0.2.2.2.2.2.2.2.1],.bool x1])/\φ x0 x1 w2
abbrev dw(f:Nat)(args:Array Value)(w:World)(φ:(Int)->World->Prop):Prop:=cR f args w λv w2=>∃x0:Int,v=(zb x0)/\φ x0 w2
abbrev dx(f:Nat)(args:Array Value)(w:World)(φ:(Int)->(Bool)->World->Prop):Prop:=cR f args w λv w2=>∃x0:Int,∃x1:Bool,v=(.tuple #[zi x0,.bool x1])/\φ x0 x1 w2
abbrev dy(f:Nat)(args:Array Value)(w:World)(φ:(Sl)->(Int)->World->Prop):Prop:=cR f args w λv w2=>∃x0:Sl,∃x1:Int,v=(.tuple #[x0.zw,zi x1])/\φ x0 x1 w2
abbrev dA(f:Nat)(args:Array Value)(w:World)(φ:(ByteArray)->(Bool)->World->Prop):Prop:=cR f args w λv w2=>∃x0:ByteArray,∃x1:Bool,v=(.tuple #[.string x0,.bool x1])/\φ x0 x1 w2
abbrev dB(w:World)(a:Addr)(v0 v1 v2 v3 v4 v5:Value)(K:World->Prop):Prop:=Wr w a/\Nw (w.setCell a v0) λw1=>Wr w1 (a.add 1)/\Nw (w1.setCell (a.add 1) v1) λw2=>Wr w2 (a.add 2)/\Nw (w2.setCell (a.add 2) v2) λw3=>Wr w3 (a.add 3)/\Nw (w3.setCell (a.add 3) v3) λw4=>Wr w4 (a.add 4)/\Nw (w4.setCell (a.add 4) v4) λw5=>Wr w5 (a.add 5)/\Nw (w5.setCell (a.add 5) v5) λw6=>K w6
abbrev dC(f:Nat)(args:Array Value)(w:World)(φ:(ByteArray)->World->Prop):Prop:=cR f args w λv w2=>∃x0:ByteArray,v=(.string x0)/\φ x0 w2
abbrev dD(f:Nat)(args:Array Value)(w:World)(φ:(ByteArray×ByteArray×ByteArray×ByteArray×ByteArray×ByteArray×Unit)->World->Prop):Prop:=cR f args w λv w2=>∃x0:(ByteArray×ByteArray×ByteArray×ByteArray×ByteArray×ByteArray×Unit),v=(.agg #[.string x0.1,.string x0.2.1,.string x0.2.2.1,.string x0.2.2.2.1,.string x0.2.2.2.2.1,.string x0.2.2.2.2.2.1])/\φ x0 w2
abbrev dE(w:World)(a:Addr)(φ:ByteArray->ByteArray->ByteArray->ByteArray->ByteArray->ByteArray->Prop):Prop:=zs w (a.add 0) λx0=>zs w (a.add 1) λx1=>zs w (a.add 2) λx2=>zs w (a.add 3) λx3=>zs w (a.add 4) λx4=>zs w (a.add 5) λx5=>φ x0 x1 x2 x3 x4 x5
abbrev dF(f:Nat)(args:Array Value)(w:World)(φ:(Int)->World->Prop):Prop:=cR f args w λv w2=>∃x0:Int,v=(zu x0)/\φ x0 w2
abbrev dG(f:Nat)(args:Array Value)(w:World)(φ:(Int)->(Int)->World->Prop):Prop:=cR f args w λv w2=>∃x0:Int,∃x1:Int,v=(.tuple #[.int .u64 x0,.int .u64 x1])/\φ x0 x1 w2
abbrev dH(w:World)(a:Addr)(φ:Int->Int->Int->Int->Int->Int->Int->Int->Int->Int->Int->Int->Int->Int->Int->Int->Int->Int->Int->Int->Prop):Prop:=ldI w (a.add 0) .i64 λx0=>ldI w (a.add 1) .i64 λx1=>ldI w (a.add 2) .i64 λx2=>ldI w (a.add 3) .i64 λx3=>ldI w (a.add 4) .i64 λx4=>ldI w (a.add 5) .i64 λx5=>ldI w (a.add 6) .i64 λx6=>ldI w (a.add 7) .i64 λx7=>ldI w (a.add 8) .i64 λx8=>ldI w (a.add 9) .i64 λx9=>ldI w (a.add 10) .i64 λx10=>ldI w (a.add 11) .i64 λx11=>ldI w (a.add 12) .i64 λx12=>ldI w (a.add 13) .i64 λx13=>ldI w (a.add 14) .i64 λx14=>ldI w (a.add 15) .i64 λx15=>ldI w (a.add 16) .i64 λx16=>ldI w (a.add 17) .i64 λx17=>ldI w (a.add 18) .i64 λx18=>ldI w (a.add 19) .i64 λx19=>φ x0 x1 x2 x3 x4 x5 x6 x7 x8 x9 x10 x11 x12 x13 x14 x15 x16 x17 x18 x19
abbrev dI(f:Nat)(args:Array Value)(w:World)(φ:(Option Addr)->(Int×Int×Unit)->World->Prop):Prop:=cR f args w λv w2=>∃x0:Option Addr,∃x1:(Int×Int×Unit),v=(.tuple #[.pointer x0,.agg #[zi x1.1,zi x1.2.1]])/\φ x0 x1 w2
abbrev dJ(f:Nat)(args:Array Value)(w:World)(φ:(Int×Int×Unit)->World->Prop):Prop:=cR f args w λv w2=>∃x0:(Int×Int×Unit),v=(.agg #[zi x0.1,zi x0.2.1])/\φ x0 w2
abbrev dK(f:Nat)(args:Array Value)(w:World)(φ:(Bool)->World->Prop):Prop:=cR f args w λv w2=>∃x0:Bool,v=(.bool x0)/\φ x0 w2
abbrev dL(w:World)(a:Addr)(φ:Int->Int->Sl->Sl->Int->Prop):Prop:=ldI w (a.add 0) .u32 λx0=>ldI w (a.add 1) .i64 λx1=>ldS w (a.add 2) λx2=>ldS w (a.add 3) λx3=>ldI w (a.add 4) .i64 λx4=>φ x0 x1 x2 x3 x4
abbrev dM(w:World)(a:Addr)(v0 v1 v2 v3 v4:Value)(K:World->Prop):Prop:=Wr w a/\Nw (w.setCell a v0) λw1=>Wr w1 (a.add 1)/\Nw (w1.setCell (a.add 1) v1) λw2=>Wr w2 (a.add 2)/\Nw (w2.setCell (a.add 2) v2) λw3=>Wr w3 (a.add 3)/\Nw (w3.setCell (a.add 3) v3) λw4=>Wr w4 (a.add 4)/\Nw (w4.setCell (a.add 4) v4) λw5=>K w5
abbrev dN(w:World)(a:Addr)(φ:Int->Int->Int->Prop):Prop:=ldI w (a.add 0) .u32 λx0=>ldI w (a.add 1) .i64 λx1=>ldI w (a.add 2) .i64 λx2=>φ x0 x1 x2
abbrev dO(w:World)(a:Addr)(φ:Int->Int->Int->Bool->Int->Int->Int->Sl->Prop):Prop:=ldI w (a.add 0) .u8 λx0=>ldI w (a.add 1) .i64 λx1=>ldI w (a.add 2) .i64 λx2=>ldB w (a.add 3) λx3=>ldI w (a.add 4) .u32 λx4=>ldI w (a.add 5) .u32 λx5=>ldI w (a.add 6) .i64 λx6=>ldS w (a.add 7) λx7=>φ x0 x1 x2 x3 x4 x5 x6 x7
abbrev dP(w:World)(z:Array Value)(T:Nat)(v0 v1 v2 v3 v4 v5 v6 v7:Value)(K:World->Prop):Prop:=Nw (w.alloc (.cells z T)) λw0=>Wr w0 (blk w.heap.size)/\Nw (w0.setCell (blk w.heap.size) v0) λw1=>Wr w1 ((blk w.heap.size).add 1)/\Nw (w1.setCell ((blk w.heap.size).add 1) v1) λw2=>Wr w2 ((blk w.heap.size).add 2)/\Nw (w2.setCell ((blk w.heap.size).add 2) v2) λw3=>Wr w3 ((blk w.heap.size).add 3)/\Nw (w3.setCell ((blk w.heap.size).add 3) v3) λw4=>Wr w4 ((blk w.heap.size).add 4)/\Nw (w4.setCell ((blk w.heap.size).add 4) v4) λw5=>Wr w5 ((blk w.heap.size).add 5)/\Nw (w5.setCell ((blk w.heap.size).add 5) v5) λw6=>Wr w6 ((blk w.heap.size).add 6)/\Nw (w6.setCell ((blk w.heap.size).add 6) v6) λw7=>Wr w7 ((blk w.heap.size).add 7)/\Nw (w7.setCell ((blk w.heap.size).add 7) v7) λw8=>K w8
abbrev dQ(f:Nat)(args:Array Value)(w:World)(φ:(Int×Int×Int×Bool×Int×Int×Int×Sl×Unit)->(Bool)->(Int)->World->Prop):Prop:=cR f args w λv w2=>∃x0:(Int×Int×Int×Bool×Int×Int×Int×Sl×Unit),∃x1:Bool,∃x2:Int,v=(.tuple #[.agg #[zb x0.1,zi x0.2.1,zi x0.2.2.1,.bool x0.2.2.2.1,zu x0.2.2.2.2.1,zu x0.2.2.2.2.2.1,zi x0.2.2.2.2.2.2.1,x0.2.2.2.2.2.2.2.1.zw],.bool x1,zi x2])/\φ x0 x1 x2 w2
abbrev dR(f:Nat)(args:Array Value)(w:World)(φ:(Int×Int×Int×Bool×Int×Int×Int×Sl×Unit)->World->Prop):Prop:=cR f args w λv w2=>∃x0:(Int×Int×Int×Bool×Int×Int×Int×Sl×Unit),v=(.agg #[zb x0.1,zi x0.2.1,zi x0.2.2.1,.bool x0.2.2.2.1,zu x0.2.2.2.2.1,zu x0.2.2.2.2.2.1,zi x0.2.2.2.2.2.2.1,x0.2.2.2.2.2.2.2.1.zw])/\φ x0 w2
abbrev dS(f:Nat)(args:Array Value)(w:World)(φ:(Int×Int×Int×Bool×Int×Int×Int×Sl×Unit)->(Int)->World->Prop):Prop:=cR f args w λv w2=>∃x0:(Int×Int×Int×Bool×Int×Int×Int×Sl×Unit),∃x1:Int,v=(.tuple #[.agg #[zb x0.1,zi x0.2.1,zi x0.2.2.1,.bool x0.2.2.2.1,zu x0.2.2.2.2.1,zu x0.2.2.2.2.2.1,zi x0.2.2.2.2.2.2.1,x0.2.2.2.2.2.2.2.1.zw],zi x1])/\φ x0 x1 w2
abbrev dT(w:World)(z:Array Value)(T:Nat)(v0 v1 v2:Value)(K:World->Prop):Prop:=Nw (w.alloc (.cells z T)) λw0=>Wr w0 (blk w.heap.size)/\Nw (w0.setCell (blk w.heap.size) v0) λw1=>Wr w1 ((blk w.heap.size).add 1)/\Nw (w1.setCell ((blk w.heap.size).add 1) v1) λw2=>Wr w2 ((blk w.heap.size).add 2)/\Nw (w2.setCell ((blk w.heap.size).add 2) v2) λw3=>K w3
abbrev dU(f:Nat)(args:Array Value)(w:World)(φ:(Int×Int×Sl×Unit)->(Int)->World->Prop):Prop:=cR f args w λv w2=>∃x0:(Int×Int×Sl×Unit),∃x1:Int,v=(.tuple #[.agg #[zu x0.1,zu x0.2.1,x0.2.2.1.zw],zi x1])/\φ x0 x1 w2
abbrev dV(f:Nat)(args:Array Value)(w:World)(φ:(Int)->(Bool)->World->Prop):Prop:=cR f args w λv w2=>∃x0:Int,∃x1:Bool,v=(.tuple #[zu x0,.bool x1])/\φ x0 x1 w2
abbrev dW(w:World)(a:Addr)(φ:Int->Int->Int->Int->Int->Bool->Prop):Prop:=ldI w (a.add 0) .u32 λx0=>ldI w (a.add 1) .i64 λx1=>ldI w (a.add 2) .i64 λx2=>ldI w (a.add 3) .u32 λx3=>ldI w (a.add 4) .i64 λx4=>ldB w (a.add 5) λx5=>φ x0 x1 x2 x3 x4 x5
abbrev dX(w:World)(a:Addr)(φ:Int->Int->Sl->Prop):Prop:=ldI w (a.add 0) .i64 λx0=>ldI w (a.add 1) .i64 λx1=>ldS w (a.add 2) λx2=>φ x0 x1 x2
abbrev dY(w:World)(z:Array Value)(T:Nat)(v0 v1 v2 v3 v4 v5:Value)(K:World->Prop):Prop:=Nw (w.alloc (.cells z T)) λw0=>Wr w0 (blk w.heap.size)/\Nw (w0.setCell (blk w.heap.size) v0) λw1=>Wr w1 ((blk w.heap.size).add 1)/\Nw (w1.setCell ((blk w.heap.size).add 1) v1) λw2=>Wr w2 ((blk w.heap.size).add 2)/\Nw (w2.setCell ((blk w.heap.size).add 2) v2) λw3=>Wr w3 ((blk w.heap.size).add 3)/\Nw (w3.setCell ((blk w.heap.size).add 3) v3) λw4=>Wr w4 ((blk w.heap.size).add 4)/\Nw (w4.setCell ((blk w.heap.size).add 4) v4) λw5=>Wr w5 ((blk w.heap.size).add 5)/\Nw (w5.setCell ((blk w.heap.size).add 5) v5) λw6=>K w6
abbrev dZ(w:World)(z:Array Value)(T:Nat)(v0 v1 v2 v3 v4:Value)(K:World->Prop):Prop:=Nw (w.alloc (.cells z T)) λw0=>Wr w0 (blk w.heap.size)/\Nw (w0.setCell (blk w.heap.size) v0) λw1=>Wr w1 ((blk w.heap.size).add 1)/\Nw (w1.setCell ((blk w.heap.size).add 1) v1) λw2=>Wr w2 ((blk w.heap.size).add 2)/\Nw (w2.setCell ((blk w.heap.size).add 2) v2) λw3=>Wr w3 ((blk w.heap.size).add 3)/\Nw (w3.setCell ((blk w.heap.size).add 3) v3) λw4=>Wr w4 ((blk w.heap.size).add 4)/\Nw (w4.setCell ((blk w.heap.size).add 4) v4) λw5=>K w5
abbrev dx51(f:Nat)(args:Array Value)(w:World)(φ:(Option Addr)->World->Prop):Prop:=cR f args w λv w2=>∃x0:Option Addr,v=(.pointer x0)/\φ x0 w2
abbrev dx52(w:World)(a:Addr)(φ:Int->Int->ByteArray->Sl->Prop):Prop:=ldI w (a.add 0) .u32 λx0=>ldI w (a.add 1) .u32 λx1=>zs w (a.add 2) λx2=>ldS w (a.add 3) λx3=>φ x0 x1 x2 x3
abbrev dx53(w:World)(a:Addr)(v0 v1 v2 v3:Value)(K:World->Prop):Prop:=Wr w a/\Nw (w.setCell a v0) λw1=>Wr w1 (a.add 1)/\Nw (w1.setCell (a.add 1) v1) λw2=>Wr w2 (a.add 2)/\Nw (w2.setCell (a.add 2) v2) λw3=>Wr w3 (a.add 3)/\Nw (w3.setCell (a.add 3) v3) λw4=>K w4
abbrev dx54(f:Nat)(args:Array Value)(w:World)(φ:(Int×Int×Int×Int×Int×Bool×Unit)->World->Prop):Prop:=cR f args w λv w2=>∃x0:(Int×Int×Int×Int×Int×Bool×Unit),v=(.agg #[zu x0.1,zi x0.2.1,zi x0.2.2.1,zu x0.2.2.2.1,zi x0.2.2.2.2.1,.bool x0.2.2.2.2.2.1])/\φ x0 w2
abbrev dx55(f:Nat)(args:Array Value)(w:World)(φ:(Int)->(Int)->(Sl)->(Bool)->World->Prop):Prop:=cR f args w λv w2=>∃x0:Int,∃x1:Int,∃x2:Sl,∃x3:Bool,v=(.tuple #[zu x0,zu x1,x2.zw,.bool x3])/\φ x0 x1 x2 x3 w2
abbrev dx56(f:Nat)(args:Array Value)(w:World)(φ:(Int×Int×ByteArray×Sl×Unit)->World->Prop):Prop:=cR f args w λv w2=>∃x0:(Int×Int×ByteArray×Sl×Unit),v=(.agg #[zu x0.1,zu x0.2.1,.string x0.2.2.1,x0.2.2.2.1.zw])/\φ x0 w2
abbrev dx57(w:World)(a:Addr)(φ:Int->Int->Int->Int->Prop):Prop:=ldI w (a.add 0) .u32 λx0=>ldI w (a.add 1) .u32 λx1=>ldI w (a.add 2) .i64 λx2=>ldI w (a.add 3) .i64 λx3=>φ x0 x1 x2 x3
abbrev dx58(w:World)(a:Addr)(φ:Value->Int->Prop):Prop:=ldR w (a.add 0) λx0=>ldI w (a.add 1) .i64 λx1=>φ x0 x1
abbrev dx59(w:World)(a:Addr)(φ:ByteArray->Int->Int->Sl->Sl->Prop):Prop:=zs w (a.add 0) λx0=>ldI w (a.add 1) .u32 λx1=>ldI w (a.add 2) .u32 λx2=>ldS w (a.add 3) λx3=>ldS w (a.add 4) λx4=>φ x0 x1 x2 x3 x4
abbrev dx60(f:Nat)(args:Array Value)(w:World)(φ:(ByteArray×Int×Int×Sl×Sl×Unit)->World->Prop):Prop:=cR f args w λv w2=>∃x0:(ByteArray×Int×Int×Sl×Sl×Unit),v=(.agg #[.string x0.1,zu x0.2.1,zu x0.2.2.1,x0.2.2.2.1.zw,x0.2.2.2.2.1.zw])/\φ x0 w2
abbrev dx61(f:Nat)(args:Array Value)(w:World)(φ:(Int×Int×Sl×Unit)->World->Prop):Prop:=cR f args w λv w2=>∃x0:(Int×Int×Sl×Unit),v=(.agg #[zu x0.1,zu x0.2.1,x0.2.2.1.zw])/\φ x0 w2
abbrev dx62(f:Nat)(args:Array Value)(w:World)(φ:(ByteArray×Int×Int×Sl×Sl×Unit)->(Int)->World->Prop):Prop:=cR f args w λv w2=>∃x0:(ByteArray×Int×Int×Sl×Sl×Unit),∃x1:Int,v=(.tuple #[.agg #[.string x0.1,zu x0.2.1,zu x0.2.2.1,x0.2.2.2.1.zw,x0.2.2.2.2.1.zw],zi x1])/\φ x0 x1 w2
abbrev dx63(f:Nat)(args:Array Value)(w:World)(φ:(Int×Int×ByteArray×Unit)->World->Prop):Prop:=cR f args w λv w2=>∃x0:(Int×Int×ByteArray×Unit),v=(.agg #[zb x0.1,zu x0.2.1,.string x0.2.2.1])/\φ x0 w2
abbrev _root_.BM:=ByteArray.mk
theorem lwC{f:Nat}{fn:Func}(an:Ann){args:List Value}{w:World}{R:VWP}{L:Prop}(hf:Tryz.prog.funcs[f]? =some fn)(hn:((match fn.body with |some c=>zng fn.ntmps c |none=>false)&&Nat.ble args.length fn.ntmps)=true)(e:lwFn Tryz.prog Tryz.fs fn an args w R=L)(h:L):Calls Tryz.prog f args.toArray w (Ret R):=
 zf Tryz.fsOK Tryz.mixed hf (Bool.and_eq_true_iff.1 hn).1 (Bool.and_eq_true_iff.1 hn).2 (Eq.mpr e h)
end Go.Proofs
namespace Go.Proofs
open Go.Gk Go.RowKit
theorem zn(a:Addr)(n m:Nat):(a.add n).add m=a.add (n+m):=by
 unfold Addr.add
 by_cases hn:n=0
 ·subst hn;simp
 ·by_cases hm:m=0
  ·subst hm;simp[hn]
  ·rw[if_neg hn,if_neg hm,if_neg (by omega)]
   simp[Nat.add_assoc]
section
variable {α:Type} {sz:Nat} {f:α->List Value}
abbrev flat(f:α->List Value)(l:List α):List Value:=l.flatMap f
theorem zP(hf:∀x,(f x).length=sz):∀l:List α,(flat f l).length=l.length*sz
 | []=>by simp[flat]
 |x::l=>by
  have:=zP hf l
  simp only[flat]at this
  simp only[flat,List.flatMap_cons,List.length_append,List.length_cons,hf,this,Nat.add_mul,Nat.one_mul]
  omega
theorem zo9(hf:∀x,(f x).length=sz):∀(l:List α) (k:Nat) (h:k<l.length) (j:Nat),j<sz->(flat f l)[k*sz+j]? =(f l[k])[j]?
 |x::l,0,_,j,hj=>by
  simp only[flat,List.flatMap_cons,Nat.zero_mul,Nat.zero_add,List.getElem_cons_zero]
  rw[List.getElem?_append_left (by rw[hf];exact hj)]
 |x::l,k+1,h,j,hj=>by
  have:=zo9 hf l k (by simpa using h) j hj
  simp only[flat,List.flatMap_cons,List.getElem_cons_succ]at this⊢
  rw[List.getElem?_append_right (by rw[hf,Nat.add_mul];omega),hf,<-this]
  congr 1
  rw[Nat.add_mul]
  omega
structure IsC (sz:Nat) (f:α->List Value) (w:World) (s:Sl) (l:List α):Prop where
 len:s.l=l.length
 cap:s.l<=s.c
 max:s.c<=9223372036854775807
 nil:s.a=none->s.c=0
 cell:∀a,s.a=some a->∀(k:Nat) (h:k<l.length) (j:Nat),j<sz->w.cell? (a.add (k*sz+j))=(f l[k])[j]?
variable {w w':World} {s:Sl} {l:List α}
theorem IsC.base(h:IsC sz f w s l){i:Nat}(hi:i<l.length):∃a,s.a=some a:=by
 cases ha:s.a with
 |none=>have:=h.nil ha;have:=h.len;have:=h.cap;omega
 |some a=>exact⟨a,rfl⟩
theorem IsC.of_block(hf:∀x,(f x).length=sz)(h:IsC sz f w s l)(hb:∀a,s.a=some a->a.block<w.heap.size->w'.heap[a.block]? =w.heap[a.block]?):IsC sz f w' s l:=by
 refine⟨h.len,h.cap,h.max,h.nil,λa ha k hk j hj=>?_⟩
 have hc:=h.cell a ha k hk j hj
 have hlt:j<(f l[k]).length:=by rw[hf];exact hj
 have hc':=hc
 rw[List.getElem?_eq_getElem hlt]at hc'
 have:=World.block_lt_of_cell? w _ hc'
 rw[Zg]at this
 rw[World.cell?_of_block (w:=w) (by rw[Zg];exact hb a ha this)]
 exact hc
theorem IsC.below(hf:∀x,(f x).length=sz)(h:IsC sz f w s l)(hb:Below w.heap.size w w'):IsC sz f w' s l:=h.of_block hf λ_ _ hlt=>hb.block _ hlt
theorem IsC.bound(h:IsC sz f w s l):l.length<=9223372036854775807:=by have:=h.len;have:=h.cap;have:=h.max;omega
theorem Own.isC{T:TypeId}(hf:∀x,(f x).length=sz)(h0:0<sz)(h:Own w T sz s (flat f l)):IsC sz f w s l:=by
 obtain⟨h1,h2⟩:=h
 rw[zP hf]at h1
 have hl:s.l=l.length:=(Nat.mul_right_cancel h0 h1).symm
 rcases h2 with rfl | ⟨b,cs,ha,hB,hc,hm,hcs,ht⟩
 ·have:l=[]:=List.eq_nil_of_length_eq_zero hl.symm
  subst this
  exact⟨rfl,Nat.le_refl _,Nat.zero_le _,λ_=>rfl,(λa ha=>by cases ha)⟩
 ·refine⟨hl,hc,hm,(λh=>by rw[h]at ha;cases ha),λa ha' k hk j hj=>?_⟩
  rw[ha]at ha'
  cases ha'
  have hlt:k*sz+j<s.l*sz:=by
   have:(k+1)*sz<=s.l*sz:=Nat.mul_le_mul_right _ (by omega)
   rw[Nat.add_mul]at this
   omega
  have hg:=zo9 hf l k hk j hj
  have hjl:j<(f l[k]).length:=by rw[hf];exact hj
  rw[<-ht,List.getElem?_take_of_lt hlt]at hg
  rw[List.getElem?_eq_getElem hjl]at hg⊢
  exact hB.cell hg
theorem Blk.isC{T:TypeId}{b:Nat}(hf:∀x,(f x).length=sz)(h0:0<sz)(h:Blk w b T (flat f l))(hm:l.length<=9223372036854775807):IsC sz f w ⟨some (Gk.blk b),l.length,l.length⟩ l:=
 Own.isC (T:=T) hf h0 ⟨zP hf l,.inr ⟨b,_,rfl,h,Nat.le_refl _,hm,zP hf l,by rw[<-zP hf l,List.take_length]⟩⟩
end
structure Chg (b:Nat) (w w':World):Prop where
 os:w'.os=w.os
 tape:w'.tape=w.tape
 output:w'.output=w.output
 size:w'.heap.size=w.heap.size
 block:∀k,k≠b->w'.heap[k]? =w.heap[k]?
theorem Chg.refl(b:Nat)(w:World):Chg b w w:=⟨rfl,rfl,rfl,rfl,λ_ _=>rfl⟩
theorem Chg.trans{b:Nat}{w w' w2:World}(h:Chg b w w')(k:Chg b w' w2):Chg b w w2:=
 ⟨k.os.trans h.os,k.tape.trans h.tape,k.output.trans h.output,k.size.trans h.size,λi hi=>(k.block i hi).trans (h.block i hi)⟩
theorem Chg.set(b n:Nat)(w:World)(v:Value):Chg b w (w.setCell ((blk b).add n) v):=
 ⟨rfl,rfl,rfl,by simp[World.setCell],λk hk=>Below.heap_setCell _ _ _ _ (by rw[Zg];exact λe=>hk e)⟩
theorem Chg.iter(b:Nat)(w:World)(s:ByteArray)(p:Nat):Chg b w (YX w b s p):=
 ⟨rfl,rfl,rfl,by simp[YX],λk hk=>by simp[YX,Array.getElem?_setIfInBounds_ne (Ne.symm hk)]⟩
theorem Chg.below{b B:Nat}{w0 w w':World}(h:Chg b w w')(hb:Below B w0 w)(hB:B<=b):Below B w0 w':=
 hb.trans ⟨h.os,h.tape,h.output,by rw[h.size];exact Nat.le_refl _,λk hk=>h.block k (by omega)⟩
theorem Chg.blk{b c:Nat}{w w':World}{T:TypeId}{cs:List Value}(h:Chg b w w')(hB:Blk w c T cs)(hne:c≠b):Blk w' c T cs:=hB.of_block (h.block _ hne)
theorem _root_.Go.Gk.Blk.rT{w:World}{b:Nat}{T:TypeId}{cs:List Value}(h:Blk w b T cs){n:Nat}{x:ByteArray}(hn:cs[n]? =some (.string x)){φ:ByteArray->Prop}(hφ:φ x):zs w ((blk b).add n) φ:=⟨x,h.cell hn,hφ⟩
theorem _root_.Go.Gk.Blk.rI{w:World}{b:Nat}{T:TypeId}{cs:List Value}(h:Blk w b T cs){n:Nat}{κ:IntKind}{x:Int}(hn:cs[n]? =some (.int κ x)){φ:Int->Prop}(hφ:φ x):ldI w ((blk b).add n) κ φ:=⟨x,h.cell hn,hφ⟩
theorem _root_.Go.Gk.Blk.rB{w:World}{b:Nat}{T:TypeId}{cs:List Value}(h:Blk w b T cs){n:Nat}{x:Bool}(hn:cs[n]? =some (.bool x)){φ:Bool->Prop}(hφ:φ x):ldB w ((blk b).add n) φ:=⟨x,h.cell hn,hφ⟩
theorem _root_.Go.Gk.Blk.rS{w:World}{b:Nat}{T:TypeId}{cs:List Value}(h:Blk w b T cs){n:Nat}{x:Sl}(hn:cs[n]? =some (.slice x.a x.l x.c)){φ:Sl->Prop}(hφ:φ x):ldS w ((blk b).add n) φ:=⟨x,h.cell hn,hφ⟩
theorem zm{T:TypeId}{k:World->Prop}{w:World}{cs:Array Value}(hK:∀w',Blk w' w.heap.size T cs.toList->Below w.heap.size w w'->w'.heap.size=w.heap.size+1->k w'):Nw (w.alloc (.cells cs T)) k:=
 hK _ (Blk.new w T cs) ((Below.refl _ _).alloc (Nat.le_refl _) _) (by simp)
theorem _root_.Go.RowKit.Below.on{w0 w w':World}(h:Below w0.heap.size w0 w)(k:Below w.heap.size w w'):Below w0.heap.size w0 w':=h.trans (k.mono h.size)
def stC(a:Addr):Nat->List Value->World->(World->Prop)->Prop
 |_,[],w,k=>k w
 |i,v::r,w,k=>Wr w (a.add i)/\Nw (w.setCell (a.add i) v) λw'=>stC a (i+1) r w' k
theorem znE{b:Nat}{T:TypeId}{K:World->Prop}:∀(vs:List Value) (i:Nat) {w:World} {cs:List Value},Blk w b T cs->i+vs.length<=cs.length->
  (∀w',Blk w' b T (cs.take i++(vs++cs.drop (i+vs.length)))->Chg b w w'->K w')->stC (blk b) i vs w K
 | [],i,w,cs,hB,_,hK=>hK w (by simpa using hB) (Chg.refl _ _)
 |v::r,i,w,cs,hB,hl,hK=>by
  simp only[List.length_cons]at hl
  refine⟨hB.wr (by omega),znE r (i+1) (hB.set i v) (by rw[List.length_set];omega) λw' h1 h2=>hK w' ?_ ((Chg.set b i w v).trans h2)⟩
  have e1:(cs.set i v).take (i+1)=cs.take i++[v]:=by
   rw[List.take_succ_eq_append_getElem (by rw[List.length_set];omega),List.take_set_of_le (Nat.le_refl _),List.getElem_set_self]
  have e2:(cs.set i v).drop (i+1+r.length)=cs.drop (i+(r.length+1)):=by
   rw[List.drop_set_of_lt (by omega)]
   congr 1
   omega
  rw[e1,e2]at h1
  simpa using h1
theorem ZK{b:Nat}{T:TypeId}{K:World->Prop}{vs:List Value}{w:World}{cs:List Value}(hB:Blk w b T cs)(hl:cs.length=vs.length)
  (hK:∀w',Blk w' b T vs->Chg b w w'->K w'):stC (blk b) 0 vs w K:=
 znE vs 0 hB (by omega) λw' h1 h2=>hK w' (by rw[Nat.zero_add,<-hl,List.drop_length]at h1;simpa using h1) h2
theorem zfV{T:TypeId}{K:World->Prop}{vs:List Value}{w:World}{cs:Array Value}(hl:cs.size=vs.length)
  (hK:∀w',Blk w' w.heap.size T vs->Below w.heap.size w w'->w'.heap.size=w.heap.size+1->K w'):Nw (w.alloc (.cells cs T)) λw1=>stC (blk w.heap.size) 0 vs w1 K:=by
 refine ZK (Blk.new w T cs) (by simpa using hl) λw' h1 h2=>hK w' h1 (h2.below ((Below.refl _ _).alloc (Nat.le_refl _) _) (Nat.le_refl _)) ?_
 rw[h2.size]
 simp
theorem st2{b:Nat}{T:TypeId}{cs:List Value}{v0 v1:Value}{K:World->Prop}{w:World}(hB:Blk w b T cs)(hl:cs.length=2)(hK:∀w',Blk w' b T [v0,v1]->Chg b w w'->K w') :
  Wr w (blk b)/\Nw (w.setCell (blk b) v0) λw1=>Wr w1 ((blk b).add 1)/\Nw (w1.setCell ((blk b).add 1) v1) λw2=>K w2:=
 ZK (vs:=[v0,v1]) hB hl hK
theorem box2{T:TypeId}{cs:Array Value}{v0 v1:Value}{K:World->Prop}{w:World}(hl:cs.size=2)(hK:∀w',Blk w' w.heap.size T [v0,v1]->Below w.heap.size w w'->w'.heap.size=w.heap.size+1->K w') :
  Nw (w.alloc (.cells cs T)) λw0=>Wr w0 (blk w.heap.size)/\Nw (w0.setCell (blk w.heap.size) v0) λw1=>Wr w1 ((blk w.heap.size).add 1)/\Nw (w1.setCell ((blk w.heap.size).add 1) v1) λw2=>K w2:=
 zfV (vs:=[v0,v1]) hl hK
theorem st3{b:Nat}{T:TypeId}{cs:List Value}{v0 v1 v2:Value}{K:World->Prop}{w:World}(hB:Blk w b T cs)(hl:cs.length=3)(hK:∀w',Blk w' b T [v0,v1,v2]->Chg b w w'->K w') :
  Wr w (blk b)/\Nw (w.setCell (blk b) v0) λw1=>Wr w1 ((blk b).add 1)/\Nw (w1.setCell ((blk b).add 1) v1) λw2=>Wr w2 ((blk b).add 2)/\Nw (w2.setCell ((blk b).add 2) v2) λw3=>K w3:=
 ZK (vs:=[v0,v1,v2]) hB hl hK
theorem box3{T:TypeId}{cs:Array Value}{v0 v1 v2:Value}{K:World->Prop}{w:World}(hl:cs.size=3)(hK:∀w',Blk w' w.heap.size T [v0,v1,v2]->Below w.heap.size w w'->w'.heap.size=w.heap.size+1->K w') :
  Nw (w.alloc (.cells cs T)) λw0=>Wr w0 (blk w.heap.size)/\Nw (w0.setCell (blk w.heap.size) v0) λw1=>Wr w1 ((blk w.heap.size).add 1)/\Nw (w1.setCell ((blk w.heap.size).add 1) v1) λw2=>Wr w2 ((blk w.heap.size).add 2)/\Nw (w2.setCell ((blk w.heap.size).add 2) v2) λw3=>K w3:=
 zfV (vs:=[v0,v1,v2]) hl hK
theorem st4{b:Nat}{T:TypeId}{cs:List Value}{v0 v1 v2 v3:Value}{K:World->Prop}{w:World}(hB:Blk w b T cs)(hl:cs.length=4)(hK:∀w',Blk w' b T [v0,v1,v2,v3]->Chg b w w'->K w') :
  Wr w (blk b)/\Nw (w.setCell (blk b) v0) λw1=>Wr w1 ((blk b).add 1)/\Nw (w1.setCell ((blk b).add 1) v1) λw2=>Wr w2 ((blk b).add 2)/\Nw (w2.setCell ((blk b).add 2) v2) λw3=>Wr w3 ((blk b).add 3)/\Nw (w3.setCell ((blk b).add 3) v3) λw4=>K w4:=
 ZK (vs:=[v0,v1,v2,v3]) hB hl hK
theorem box4{T:TypeId}{cs:Array Value}{v0 v1 v2 v3:Value}{K:World->Prop}{w:World}(hl:cs.size=4)(hK:∀w',Blk w' w.heap.size T [v0,v1,v2,v3]->Below w.heap.size w w'->w'.heap.size=w.heap.size+1->K w') :
  Nw (w.alloc (.cells cs T)) λw0=>Wr w0 (blk w.heap.size)/\Nw (w0.setCell (blk w.heap.size) v0) λw1=>Wr w1 ((blk w.heap.size).add 1)/\Nw (w1.setCell ((blk w.heap.size).add 1) v1) λw2=>Wr w2 ((blk w.heap.size).add 2)/\Nw (w2.setCell ((blk w.heap.size).add 2) v2) λw3=>Wr w3 ((blk w.heap.size).add 3)/\Nw (w3.setCell ((blk w.heap.size).add 3) v3) λw4=>K w4:=
 zfV (vs:=[v0,v1,v2,v3]) hl hK
theorem st6{b:Nat}{T:TypeId}{cs:List Value}{v0 v1 v2 v3 v4 v5:Value}{K:World->Prop}{w:World}(hB:Blk w b T cs)(hl:cs.length=6)(hK:∀w',Blk w' b T [v0,v1,v2,v3,v4,v5]->Chg b w w'->K w') :
  Wr w (blk b)/\Nw (w.setCell (blk b) v0) λw1=>Wr w1 ((blk b).add 1)/\Nw (w1.setCell ((blk b).add 1) v1) λw2=>Wr w2 ((blk b).add 2)/\Nw (w2.setCell ((blk b).add 2) v2) λw3=>Wr w3 ((blk b).add 3)/\Nw (w3.setCell ((blk b).add 3) v3) λw4=>Wr w4 ((blk b).add 4)/\Nw (w4.setCell ((blk b).add 4) v4) λw5=>Wr w5 ((blk b).add 5)/\Nw (w5.setCell ((blk b).add 5) v5) λw6=>K w6:=
 ZK (vs:=[v0,v1,v2,v3,v4,v5]) hB hl hK
theorem box6{T:TypeId}{cs:Array Value}{v0 v1 v2 v3 v4 v5:Value}{K:World->Prop}{w:World}(hl:cs.size=6)(hK:∀w',Blk w' w.heap.size T [v0,v1,v2,v3,v4,v5]->Below w.heap.size w w'->w'.heap.size=w.heap.size+1->K w') :
  Nw (w.alloc (.cells cs T)) λw0=>Wr w0 (blk w.heap.size)/\Nw (w0.setCell (blk w.heap.size) v0) λw1=>Wr w1 ((blk w.heap.size).add 1)/\Nw (w1.setCell ((blk w.heap.size).add 1) v1) λw2=>Wr w2 ((blk w.heap.size).add 2)/\Nw (w2.setCell ((blk w.heap.size).add 2) v2) λw3=>Wr w3 ((blk w.heap.size).add 3)/\Nw (w3.setCell ((blk w.heap.size).add 3) v3) λw4=>Wr w4 ((blk w.heap.size).add 4)/\Nw (w4.setCell ((blk w.heap.size).add 4) v4) λw5=>Wr w5 ((blk w.heap.size).add 5)/\Nw (w5.setCell ((blk w.heap.size).add 5) v5) λw6=>K w6:=
 zfV (vs:=[v0,v1,v2,v3,v4,v5]) hl hK
theorem st8{b:Nat}{T:TypeId}{cs:List Value}{v0 v1 v2 v3 v4 v5 v6 v7:Value}{K:World->Prop}{w:World}(hB:Blk w b T cs)(hl:cs.length=8)(hK:∀w',Blk w' b T [v0,v1,v2,v3,v4,v5,v6,v7]->Chg b w w'->K w') :
  Wr w (blk b)/\Nw (w.setCell (blk b) v0) λw1=>Wr w1 ((blk b).add 1)/\Nw (w1.setCell ((blk b).add 1) v1) λw2=>Wr w2 ((blk b).add 2)/\Nw (w2.setCell ((blk b).add 2) v2) λw3=>Wr w3 ((blk b).add 3)/\Nw (w3.setCell ((blk b).add 3) v3) λw4=>Wr w4 ((blk b).add 4)/\Nw (w4.setCell ((blk b).add 4) v4) λw5=>Wr w5 ((blk b).add 5)/\Nw (w5.setCell ((blk b).add 5) v5) λw6=>Wr w6 ((blk b).add 6)/\Nw (w6.setCell ((blk b).add 6) v6) λw7=>Wr w7 ((blk b).add 7)/\Nw (w7.setCell ((blk b).add 7) v7) λw8=>K w8:=
 ZK (vs:=[v0,v1,v2,v3,v4,v5,v6,v7]) hB hl hK
theorem box8{T:TypeId}{cs:Array Value}{v0 v1 v2 v3 v4 v5 v6 v7:Value}{K:World->Prop}{w:World}(hl:cs.size=8)(hK:∀w',Blk w' w.heap.size T [v0,v1,v2,v3,v4,v5,v6,v7]->Below w.heap.size w w'->w'.heap.size=w.heap.size+1->K w') :
  Nw (w.alloc (.cells cs T)) λw0=>Wr w0 (blk w.heap.size)/\Nw (w0.setCell (blk w.heap.size) v0) λw1=>Wr w1 ((blk w.heap.size).add 1)/\Nw (w1.setCell ((blk w.heap.size).add 1) v1) λw2=>Wr w2 ((blk w.heap.size).add 2)/\Nw (w2.setCell ((blk w.heap.size).add 2) v2) λw3=>Wr w3 ((blk w.heap.size).add 3)/\Nw (w3.setCell ((blk w.heap.size).add 3) v3) λw4=>Wr w4 ((blk w.heap.size).add 4)/\Nw (w4.setCell ((blk w.heap.size).add 4) v4) λw5=>Wr w5 ((blk w.heap.size).add 5)/\Nw (w5.setCell ((blk w.heap.size).add 5) v5) λw6=>Wr w6 ((blk w.heap.size).add 6)/\Nw (w6.setCell ((blk w.heap.size).add 6) v6) λw7=>Wr w7 ((blk w.heap.size).add 7)/\Nw (w7.setCell ((blk w.heap.size).add 7) v7) λw8=>K w8:=
 zfV (vs:=[v0,v1,v2,v3,v4,v5,v6,v7]) hl hK
abbrev Ag:=Int×Int×ByteArray
abbrev agV(x:Ag):List Value:=[.int .u8 x.1,.int .u32 x.2.1,.string x.2.2]
theorem zG(x:Ag):(agV x).length=3:=rfl
abbrev IsAg(w:World)(s:Sl)(l:List Ag):Prop:=IsC 3 agV w s l
section
variable {w w':World} {s:Sl} {l:List Ag}
theorem IsAg.below(h:IsAg w s l)(hb:Below w.heap.size w w'):IsAg w' s l:=IsC.below zG h hb
theorem IsAg.drew(h:IsAg w s l):IsAg w.drew s l:=IsC.below zG h (Below.refl _ _).drew
theorem zjm(h:IsAg w s l){k:Nat}(hk:k<l.length){φ:Int->Int->ByteArray->Prop}(hφ:φ l[k].1 l[k].2.1 l[k].2.2) :
  (0<=(k:Int)/\(k:Int)<(s.l:Int))/\zc s.a λa=>ldI w ((a.add (Int.toNat (k:Int)*3)).add 0) .u8 λx=>ldI w ((a.add (Int.toNat (k:Int)*3)).add 1) .u32 λy=>zs w ((a.add (Int.toNat (k:Int)*3)).add 2) λz=>φ x y z:=by
 obtain⟨a,ha⟩:=h.base hk
 have hc:=λj hj=>h.cell a ha k hk j hj
 refine⟨⟨by omega,by have:=h.len;omega⟩,ze ha ⟨_,?_,_,?_,_,?_,hφ⟩⟩
 ·rw[zn];exact hc 0 (by omega)
 ·rw[zn];exact hc 1 (by omega)
 ·rw[zn];exact hc 2 (by omega)
theorem zkV(h:IsAg w s l){k:Nat}(hk:k<l.length){φ:Int->Prop}(hφ:φ l[k].2.1) :
  (0<=(k:Int)/\(k:Int)<(s.l:Int))/\zc s.a λa=>ldI w ((a.add (Int.toNat (k:Int)*3)).add 1) .u32 φ:=by
 obtain⟨a,ha⟩:=h.base hk
 exact⟨⟨by omega,by have:=h.len;omega⟩,ze ha ⟨_,by rw[zn];exact h.cell a ha k hk 1 (by omega),hφ⟩⟩
end
abbrev Ins:=Int×Int×Int×Sl×Unit
abbrev inV(x:Ins):List Value:=[.int .u16 x.1,.int .u32 x.2.1,.int .u32 x.2.2.1,.slice x.2.2.2.1.a x.2.2.2.1.l x.2.2.2.1.c]
abbrev inA(x:Ins):Value:=.agg #[.int .u16 x.1,.int .u32 x.2.1,.int .u32 x.2.2.1,.slice x.2.2.2.1.a x.2.2.2.1.l x.2.2.2.1.c]
theorem znt(x:Ins):(inV x).length=4:=rfl
theorem Ins.load{w:World}{b:Nat}{T:TypeId}{x:Ins}(h:Blk w b T (inV x)){φ:Int->Int->Int->Sl->Prop}(hφ:φ x.1 x.2.1 x.2.2.1 x.2.2.2.1) :
  ldI w ((blk b).add 0) .u16 λx1=>ldI w ((blk b).add 1) .u32 λx2=>ldI w ((blk b).add 2) .u32 λx3=>ldS w ((blk b).add 3) λx4=>φ x1 x2 x3 x4:=
 h.rI (n:=0) rfl (h.rI (n:=1) rfl (h.rI (n:=2) rfl (h.rS (n:=3) rfl hφ)))
theorem _root_.Go.Gk.Blk.rI0{w:World}{b:Nat}{T:TypeId}{cs:List Value}(h:Blk w b T cs){κ:IntKind}{x:Int}(hn:cs[0]? =some (.int κ x)){φ:Int->Prop}(hφ:φ x):ldI w (blk b) κ φ:=⟨x,h.cell0 hn,hφ⟩
abbrev PI:=Int×Int×Int×List Ag
abbrev mkIn(p:PI)(t:Sl):Ins:=(p.1,p.2.1,p.2.2.1,t,())
structure IsPl (w:World) (s:Sl) (pl:List PI):Prop where
 len:s.l=pl.length
 cap:s.l<=s.c
 max:s.c<=9223372036854775807
 nil:s.a=none->s.c=0
 elem:∀a,s.a=some a->∀(k:Nat) (h:k<pl.length),∃t:Sl,(∀j,j<4->w.cell? (a.add (k*4+j))=(inV (mkIn pl[k] t))[j]?)/\IsAg w t pl[k].2.2.2
section
variable {w w':World} {s:Sl} {pl:List PI}
theorem IsPl.below(h:IsPl w s pl)(hb:Below w.heap.size w w'):IsPl w' s pl:=by
 refine⟨h.len,h.cap,h.max,h.nil,λa ha k hk=>?_⟩
 obtain⟨t,h1,h2⟩:=h.elem a ha k hk
 refine⟨t,λj hj=>?_,h2.below hb⟩
 have hc:=h1 j hj
 have hlt:j<(inV (mkIn pl[k] t)).length:=hj
 rw[List.getElem?_eq_getElem hlt]at hc⊢
 have hb1:=World.block_lt_of_cell? w _ hc
 rw[World.cell?_of_block (w:=w) (hb.block _ hb1)]
 exact hc
theorem IsPl.bound(h:IsPl w s pl):pl.length<=9223372036854775807:=by have:=h.len;have:=h.cap;have:=h.max;omega
theorem IsPl.base(h:IsPl w s pl){i:Nat}(hi:i<pl.length):∃a,s.a=some a:=by
 cases ha:s.a with
 |none=>have:=h.nil ha;have:=h.len;have:=h.cap;omega
 |some a=>exact⟨a,rfl⟩
theorem zjo(h:IsPl w s pl){k:Nat}(hk:k<pl.length){φ:Int->Int->Int->Sl->Prop}(hφ:∀t,IsAg w t pl[k].2.2.2->φ pl[k].1 pl[k].2.1 pl[k].2.2.1 t) :
  (0<=(k:Int)/\(k:Int)<(s.l:Int))/\zc s.a λa=>ldI w ((a.add (Int.toNat (k:Int)*4)).add 0) .u16 λx=>ldI w ((a.add (Int.toNat (k:Int)*4)).add 1) .u32 λy=>ldI w ((a.add (Int.toNat (k:Int)*4)).add 2) .u32 λz=>ldS w ((a.add (Int.toNat (k:Int)*4)).add 3) λt=>φ x y z t:=by
 obtain⟨a,ha⟩:=h.base hk
 obtain⟨t,h1,h2⟩:=h.elem a ha k hk
 refine⟨⟨by omega,by have:=h.len;omega⟩,ze ha ⟨_,?_,_,?_,_,?_,t,?_,hφ t h2⟩⟩
 ·rw[zn];exact h1 0 (by omega)
 ·rw[zn];exact h1 1 (by omega)
 ·rw[zn];exact h1 2 (by omega)
 ·rw[zn];exact h1 3 (by omega)
theorem zsX(h:IsPl w s pl){k:Nat}(hk:k<pl.length){φ:Int->Prop}(hφ:φ pl[k].1) :
  (0<=(k:Int)/\(k:Int)<(s.l:Int))/\zc s.a λa=>ldI w (a.add (Int.toNat (k:Int)*4)) .u16 φ:=by
 obtain⟨a,ha⟩:=h.base hk
 obtain⟨t,h1,h2⟩:=h.elem a ha k hk
 exact⟨⟨by omega,by have:=h.len;omega⟩,ze ha ⟨_,h1 0 (by omega),hφ⟩⟩
end
structure PlOk (pl:List PI):Prop where
 len:40*pl.length<=140737488351232
 args:∀p∈pl,24*p.2.2.2.length<=140737488351232
 text:∀p∈pl,∀x∈p.2.2.2,x.2.2.size<=9223372036854775807
 nums:∀p∈pl,(0<=p.2.1/\p.2.1<=4294967295)/\(0<=p.2.2.1/\p.2.2.1<=4294967295)/\∀x∈p.2.2.2,0<=x.2.1/\x.2.1<=4294967295
abbrev Mo:=Int×Int×Sl×Unit
abbrev moV(x:Mo):List Value:=[.int .u32 x.1,.int .u32 x.2.1,.slice x.2.2.1.a x.2.2.1.l x.2.2.1.c]
abbrev moA(x:Mo):Value:=.agg #[.int .u32 x.1,.int .u32 x.2.1,.slice x.2.2.1.a x.2.2.1.l x.2.2.1.c]
theorem Mo.load{w:World}{b:Nat}{T:TypeId}{x:Mo}(h:Blk w b T (moV x)){φ:Int->Int->Sl->Prop}(hφ:φ x.1 x.2.1 x.2.2.1) :
  ldI w ((blk b).add 0) .u32 λx1=>ldI w ((blk b).add 1) .u32 λx2=>ldS w ((blk b).add 2) λx3=>φ x1 x2 x3:=
 h.rI (n:=0) rfl (h.rI (n:=1) rfl (h.rS (n:=2) rfl hφ))
theorem Sp.load{w:World}{b:Nat}{T:TypeId}{x y:Int}(h:Blk w b T [.int .i64 x,.int .i64 y]){φ:Int->Int->Prop}(hφ:φ x y) :
  ldI w ((blk b).add 0) .i64 λx1=>ldI w ((blk b).add 1) .i64 λx2=>φ x1 x2:=h.rI (n:=0) rfl (h.rI (n:=1) rfl hφ)
structure Fr (B:Nat) (X:Nat->Prop) (w w':World):Prop where
 os:w'.os=w.os
 tape:w'.tape=w.tape
 output:w'.output=w.output
 size:w.heap.size<=w'.heap.size
 block:∀k,k<B->¬X k->w'.heap[k]? =w.heap[k]?
theorem Fr.refl(B:Nat)(X:Nat->Prop)(w:World):Fr B X w w:=⟨rfl,rfl,rfl,Nat.le_refl _,λ_ _ _=>rfl⟩
theorem Fr.trans{B:Nat}{X:Nat->Prop}{a b c:World}(h:Fr B X a b)(k:Fr B X b c):Fr B X a c:=
 ⟨k.os.trans h.os,k.tape.trans h.tape,k.output.trans h.output,Nat.le_trans h.size k.size,λi hi hx=>(k.block i hi hx).trans (h.block i hi hx)⟩
theorem Fr.of_below{B:Nat}{X:Nat->Prop}{w w':World}(h:Below B w w'):Fr B X w w':=⟨h.os,h.tape,h.output,h.size,λk hk _=>h.block k hk⟩
theorem Fr.set{B:Nat}{X:Nat->Prop}{w w':World}(h:Fr B X w w'){a:Addr}(ha:B<=a.block\/X a.block)(v:Value):Fr B X w (w'.setCell a v):=
 h.trans ⟨rfl,rfl,rfl,by simp[World.setCell],λk hk hx=>Below.heap_setCell _ _ _ _ (λe=>by
  rcases ha with ha |ha
  ·omega
  ·exact hx (e▸ha))⟩
theorem Fr.drew{B:Nat}{X:Nat->Prop}{w w':World}(h:Fr B X w w'):Fr B X w w'.drew:=h.trans ⟨rfl,rfl,rfl,Nat.le_refl _,λ_ _ _=>rfl⟩
theorem Fr.mono{B B':Nat}{X X':Nat->Prop}{w w':World}(h:Fr B X w w')(hB:B'<=B)(hX:∀k,k<B'->X k->X' k):Fr B' X' w w':=
 ⟨h.os,h.tape,h.output,h.size,λk hk hx=>h.block k (by omega) (λhh=>hx (hX k hk hh))⟩
theorem eInt:Yq Tryz.prog 99 3 1 8:=⟨by kernel_rfl,Tryz.t3,.int .i64 0,by kernel_rfl,rfl,rfl,rfl,rfl⟩
end Go.Proofs
namespace Go.Proofs
open Go.Gk Go.RowKit Go.ChangeShapes Go.WideShapes Go.Deep
namespace Jn
section
variable {H:Type} {enc:TypeId×Value->H}
theorem uI{W:World}{fuel:Nat}{cs:List Value}{t:TypeId}{κ:IntKind}{x:DataW H×List MemPlace}(ht:Tryz.prog.underlying t=some (.int κ))(hf:DataW.trod enc Tryz.prog W 0 (λ_=>true) true fuel t cs=some x) :
  ∃n:Int,cs=[.int κ n]/\κ.min<=n/\n<=κ.max:=by
 obtain⟨n,h,_,w⟩:=DataW.trod_int ht hf
 have h1:=Bool.and_eq_true_iff.1 w
 exact⟨n,h,of_decide_eq_true h1.1,of_decide_eq_true h1.2⟩
end
end Jn
end Go.Proofs
namespace Go.Proofs
open Go.Gk Go.RowKit Go.ChangeShapes Go.WideShapes Go.Deep
namespace Jn
end Jn
end Go.Proofs
namespace Go.Proofs
open Go.Gk Go.RowKit Go.ChangeShapes Go.WideShapes Go.Deep
namespace Jn
end Jn
end Go.Proofs
namespace Go.Proofs
open Go.Gk
set_option linter.unusedVariables false
set_option maxRecDepth 100000
def zjH:Ann:=(.q (.one (.q (.seq none (.q (.cond (.q .nil) .nil)) (.q (.q (.q (.seq none (.q (.one (.loop ⟨[2,5,6,29,30],[(31,(.b (.int .i64)))]⟩ (.q (.seq none .c (.seq (some ⟨[2,5,6,29,30,31],[]⟩) (.one (.q (.seq (some ⟨[2,5,6,7,8,29,30,31],[]⟩) (.q (.cond (.q .nil) .nil)) (.q (.seq none (.q (.one (.loop ⟨[2,5,6,7,29,30,31,50,51],[(9,(.b .bool)),(52,(.b (.int .i64)))]⟩ (.q (.seq none .c (.seq (some ⟨[2,5,6,7,29,30,31,50,51,52],[(9,(.b .bool))]⟩) (.one (.q (.q (.seq none (.q (.cond (.q .nil) .nil)) .nil)))) .nil)))))) (.seq (some ⟨[2,7],[]⟩) (.q .c) (.q .nil))))))) .nil)))))) (.q .nil)))))))))
def zjC(p0:(Int×Int×Sl×Unit))(R:VWP)(w:World):Prop:=Nw (w.alloc (.cells #[zu p0.1,zu p0.2.1,p0.2.2.1.zw] 25)) λw1=>Nw (w1.alloc (.cells #[zi 0,zi 0] 29)) λw2=>da w2 (zB w) λx1 x2 x3=>dh 35 #[.agg #[zu x1,zu x2,x3.zw]] w2 λx5 x6 w3=>Nw (w3.alloc (.cells (List.toArray (List.replicate 20 (zi 0))) 82)) λw4=>Nw (w4.alloc (.cells #[zi 0,zi 0] 29)) λw5=>dd w5 (zB w3) (zi x5.1) (zi x5.2.1) (zi x5.2.2.1) (zi x5.2.2.2.1) (zi x5.2.2.2.2.1) (zi x5.2.2.2.2.2.1) (zi x5.2.2.2.2.2.2.1) (zi x5.2.2.2.2.2.2.2.1) (zi x5.2.2.2.2.2.2.2.2.1) (zi x5.2.2.2.2.2.2.2.2.2.1) (zi x5.2.2.2.2.2.2.2.2.2.2.1) (zi x5.2.2.2.2.2.2.2.2.2.2.2.1) (zi x5.2.2.2.2.2.2.2.2.2.2.2.2.1) (zi x5.2.2.2.2.2.2.2.2.2.2.2.2.2.1) (zi x5.2.2.2.2.2.2.2.2.2.2.2.2.2.2.1) (zi x5.2.2.2.2.2.2.2.2.2.2.2.2.2.2.2.1) (zi x5.2.2.2.2.2.2.2.2.2.2.2.2.2.2.2.2.1) (zi x5.2.2.2.2.2.2.2.2.2.2.2.2.2.2.2.2.2.1) (zi x5.2.2.2.2.2.2.2.2.2.2.2.2.2.2.2.2.2.2.1) (zi x5.2.2.2.2.2.2.2.2.2.2.2.2.2.2.2.2.2.2.2.1) λw25=>de w25 (zB w4) (zi x6.1) (zi x6.2.1) λw27=>ldI w27 (zB w4) .i64 λx7=>ifB (x7 !=0) (db w27 (zB w4) λx8 x9=>de w27 (zB w1) (zi x8) (zi x9) λw29=>db w29 (zB w1) λx10 x11=>R (.agg #[zi x10,zi x11]) w29) (ldS w27 ((zB w).add 2) λx12=>di 72 #[x12.zw] w27 λx14 w30=>(0<=(7:Int)/\(7:Int)<10)/\db w30 ((zB w3).add (7*2)) λx15 x16=>df w30 #[zi 0,zi 0] 81 (zi x15) (zi x16) λw33=>ldS w33 ((zB w).add 2) λx17=>zl (S:=Int×Unit) (λs18 w34 n19=>ifB (decide (s18.1<(x17.l:Int))) (zo (S:=Unit) (λm20=>(0<=s18.1/\s18.1<(x17.l:Int))/\zc x17.a λa22=>dc w34 (a22.add (s18.1.toNat *4)) λx23 x24 x25 x26=>dg w34 #[zh 0,zu 0,zu 0,.slice none 0 0] 44 (zh x23) (zu x24) (zu x25) (x26.zw) λw39=>zo (S:=Unit) (λm27=>ldI w39 ((zB w34).add 2) .u32 λx29=>ifB (x29 !=0) (ldI w39 ((zB w34).add 2) .u32 λx30=>zax Tryz.prog 98 (.map x14) (zu x30) (BK.int .i64) w39 λ(x31:Int)=>ifB (decide (x31<s18.1)) (de w39 (zB w1) (zi 90) (zi s18.1) λw41=>db w41 (zB w1) λx32 x33=>R (.agg #[zi x32,zi x33]) w41) (m27 () w39)) (m27 () w39)) (λs28 w42=>dc w42 (zB w34) λx34 x35 x36 x37=>dj 73 #[.agg #[zh x34,zu x35,zu x36,x37.zw]] w42 λx39 w43=>zl (S:=Bool×Int×Unit) (λs40 w44 n41=>ifB (decide (s40.2.1<(x39.l:Int))) (zo (S:=Bool×Unit) (λm42=>(0<=s40.2.1/\s40.2.1<(x39.l:Int))/\zc x39.a λa44=>ldI w44 (a44.add s40.2.1.toNat) .u32 λx45=>lookOk Tryz.prog 98 (.map x14) (zu x45) (BK.int .i64) w44 λ(x46:Int) (b47:Bool)=>ifB (!b47) (de w44 (zB w1) (zi 91) (zi s18.1) λw46=>db w46 (zB w1) λx48 x49=>R (.agg #[zi x48,zi x49]) w46) (ifB s40.1 (m42 (true,()) w44) (m42 ((decide (x46≥s18.1)),()) w44))) (λs43 w47=>n41 (s43.1,(IntKind.i64.wrap (s40.2.1+(1:Int))),()) w47)) (zo (S:=Unit) (λm50=>ifB (!s40.1) (m20 () w44) (ldI w44 (zB w30) .i64 λx52=>ifB (decide (s18.1<x52)) (m20 () w44) (ldI w44 ((zB w30).add 1) .i64 λx53=>ifB (decide (s18.1≥x53)) (m20 () w44) (m50 () w44)))) (λs51 w48=>de w48 (zB w1) (zi 92) (zi s18.1) λw50=>db w50 (zB w1) λx54 x55=>R (.agg #[zi x54,zi x55]) w50))) (false,0,()) w43)) (λs21 w51=>n19 ((IntKind.i64.wrap (s18.1+(1:Int))),()) w51)) (de w34 (zB w1) (zi 0) (zi 0) λw53=>db w53 (zB w1) λx56 x57=>R (.agg #[zi x56,zi x57]) w53)) (0,()) w33)
theorem zkm(p0)(R)(w)(h:zjC p0 R w):Calls Tryz.prog 40 #[.agg #[.int .u32 p0.1,.int .u32 p0.2.1,.slice p0.2.2.1.a p0.2.2.1.l p0.2.2.1.c]] w (Ret R):=lwC zjH Tryz.func40 (by kernel_rfl) (by kernel_rfl) h
end Go.Proofs
