/- FlowWays, part 9; made small by a program. -/
import Derived.Deep.CondSized
import Derived.JoinedCond
import Derived.Test.YtijgeifjccoieaaGreatPFlowWays8
namespace Go.Proofs.YtijgeifjccoieaaGreat
open Go.ChangeShapes Go.WideShapes Go.RowKit Go.Gk Go.Deep
section
variable {H:Type} {enc:TypeId×Value->H}
theorem znt(d:DataW H):1<=Rows.uptoBulk d:=by
 cases d with
 |lit l=>cases l<;>simp[Rows.uptoBulk]
 |_=>simp[Rows.uptoBulk]
theorem zgj{d:DataW H}{l:List (DataW H)}(h:d∈l):Rows.uptoBulk d<=Rows.uptoBulkAll l:=by
 induction l with
 |nil=>cases h
 |cons x r ih=>
  simp only[Rows.uptoBulkAll]
  cases List.mem_cons.1 h with
  |inl e=>subst e;omega
  |inr e=>have:=ih e;omega
theorem zns(l:List (DataW H)):l.length<=Rows.uptoBulkAll l:=by
 induction l with
 |nil=>simp[Rows.uptoBulkAll]
 |cons x r ih=>have:=znt x;simp only[Rows.uptoBulkAll,List.length_cons];omega
theorem zh8{W:World}{t e:TypeId}(hu:Tryz.prog.underlying t=some (.slice e)){fuel:Nat}{cs:List Value}{d:DataW H}{p:List MemPlace}(hf:DataW.trod enc Tryz.prog W 0 (λ_=>true) true fuel t cs=some (d,p)){a:Option Addr}{l c:Nat}(hc:cs=[.slice a l c]):l<=Rows.uptoBulk d:=by
 rcases Deep.open_slice hu hf with⟨hcs0,hx⟩ | ⟨a',len,cap,m,n,D,Pl,hcs0,_,hl,hm,hmm,hx,hrows⟩
 ·rw[hc]at hcs0
  simp only[List.cons.injEq,Value.slice.injEq,and_true]at hcs0
  omega
 ·rw[hc]at hcs0
  simp only[List.cons.injEq,Value.slice.injEq,and_true]at hcs0
  simp only[Prod.mk.injEq]at hx
  obtain⟨rfl,_⟩:=hx
  have:=zns ((List.range len).map D)
  rw[List.length_map,List.length_range]at this
  simp only[Rows.uptoBulk]
  omega
theorem zlm{W:World}{d:DataW H}{p:List MemPlace}{s:Sl}(h0:DataW.Trod enc Tryz.prog W 0 (λ_=>true) true 33 (.slice s.a s.l s.c) d p):s.l<=Rows.uptoBulk d:=by
 obtain⟨fuel,hf⟩:=h0
 exact zh8 Tryz.underlying33 hf (a:=s.a) (c:=s.c) (by simp[Value.cells])
theorem zjS{W:World}{d:DataW H}{p:List MemPlace}{x:Mo}(h0:DataW.Trod enc Tryz.prog W 0 (λ_=>true) true 25 (moA x) d p):x.2.2.1.l<=Rows.uptoBulk d:=by
 obtain⟨fuel,hf⟩:=h0
 obtain⟨y0,y1,y2,n,hx,hl,f0,f1,f2⟩:=trod_struct3 Tryz.underlying25 hf
 have c3:Tryz.prog.cellsOf 23=1:=by kernel_rfl
 have hce:(moA x).cells.toList=[.int .u32 x.1,.int .u32 x.2.1,.slice x.2.2.1.a x.2.2.1.l x.2.2.1.c]:=by simp[moA,Value.cells]
 rw[hce]at f2
 have f2':DataW.trod enc Tryz.prog W 0 (λ_=>true) true n 23 [.slice x.2.2.1.a x.2.2.1.l x.2.2.1.c]=some (y2.1,y2.2):=by simpa[c3] using f2
 have h:=zh8 Tryz.underlying23 f2' rfl
 simp only[Prod.mk.injEq]at hx
 obtain⟨rfl,_⟩:=hx
 simp only[Rows.uptoBulk]
 have:=zgj (d:=y2.1) (l:=[y0.1,y1.1,y2.1]) (by simp)
 omega
end
set_option maxRecDepth 100000 in
theorem zhg(os:Os)(started:os.Started)(H:Type)(enc:TypeId×Value->H)(F:Stop.Interp) :
  ReturnsInHanded {} Tryz.checked os 4 .any ((Rows.OpenSpec.upto Rows.flowWaysSpec).pre6 enc Tryz.prog Tryz.f4 Rows.flowWaysUptoRow.domain false) (((Rows.OpenSpec.upto Rows.flowWaysSpec).at F).post enc Tryz.prog Tryz.f4 false true false false):=by
 refine returnsInHanded_of_cond_sized (C:=Tryz.checked) (s:=Rows.OpenSpec.upto Rows.flowWaysSpec) (k:=Rows.uptoSmall) rfl Jn.own started (by kernel_rfl) Tryz.func4
  (OpenSpec.witness (enc:=enc) (C:=Tryz.checked) (s:=Rows.OpenSpec.upto Rows.flowWaysSpec) (k:=Rows.uptoSmall) rfl false ⟨#[],#[.agg #[.int .u32 0,.int .u32 0,.slice none 0 0],.int .i64 0,.slice none 0 0],[]⟩ 8 (by kernel_rfl) (by kernel_rfl) (by kernel_rfl)
   (x:=([.agg [.lit (.int .u32 0),.lit (.int .u32 0),.nil],.lit (.int .i64 0),.nil],[],[])) (by kernel_rfl) rfl (by kernel_rfl)) ?_
 intro W base args ds gs before hval0 hW _ hk0 hz0 _
 have hval:∀(j:Nat) t v,Tryz.f4.params[j]? =some t->args[j]? =some v->Value.okWide Tryz.prog W .any base t v:=hval0
 have hz:(DataW.weightsEach Tryz.prog (Tryz.f4.params.toList++Rows.flowWaysSpec.plain.varTypes Tryz.prog) (ds++gs)).all (·<=reachBytes)=true:=hz0
 have hW':=hW
 obtain⟨p,q,hA0,hV,hbef,hfz,hnd⟩:=hW
 have hA:DataW.TrodAll enc Tryz.prog W 0 (λ_=>true) true Tryz.f4.params.toList args.toList ds p:=hA0
 rw[Tryz.params4]at hA hval hz
 obtain⟨v0,vs0,d0,ds0,p0,q0,hargs,rfl,rfl,h0,r0⟩:=trodAll_cons hA
 obtain⟨v1,vs1,d1,ds1,p1,q1,rfl,rfl,rfl,h1,r1⟩:=trodAll_cons r0
 obtain⟨v2,vs2,d2,ds2,p2,q2,rfl,rfl,rfl,h2,r2⟩:=trodAll_cons r1
 obtain⟨rfl,rfl,rfl⟩:=trodAll_nil r2
 obtain rfl:args=#[v0,v1,v2]:=by cases args;simp_all
 obtain⟨x0,pl0,rfl,hN0,hp0,hbd0⟩:=Jn.open_module (hval 0 25 v0 rfl rfl) h0 (λn hn=>by
  have:=List.all_eq_true.1 hz _ (DataW.weights_mem_each (j:=0) (t:=25) rfl rfl n hn)
  simpa using this)
 obtain⟨s2,tl2,rfl,hs2,h42,hr2⟩:=Jn.open_bytes (hval 2 33 v2 rfl rfl) h2 (λn hn=>by
  have:=List.all_eq_true.1 hz _ (DataW.weights_mem_each (j:=2) (t:=33) rfl rfl n hn)
  simpa using this)
 obtain⟨i1,rfl,rfl,rfl,wi1⟩:=open_int Tryz.underlying3 (hval 1 3 v1 rfl rfl) h1
 have hk:Rows.uptoBulkAll _<=1048576:=of_decide_eq_true hk0
 have m0:=zjS h0
 have m2:=zlm h2
 have e0:=zgj (d:=d0) (l:=[d0,.lit (.int .i64 i1),d2]++gs) (by simp)
 have e2:=zgj (d:=d2) (l:=[d0,.lit (.int .i64 i1),d2]++gs) (by simp)
 have l0:=hN0.len
 have l2:=hs2.len
 refine Calls.mono (zin hN0 hp0 hbd0 hs2 hr2 (by omega) (by omega) (R:=λv w'=>v =.bool true/\Below W.heap.size W w') λw' hb=>⟨rfl,hb⟩) λe W' h=>?_
 cases e with
 |returned v=>
  obtain⟨rfl,hb⟩:=h
  exact⟨_,rfl,Jn.post_true (by kernel_rfl) (by rw[Tryz.params4];intro t ht;simp at ht;rcases ht with rfl |rfl |rfl<;>exact⟨by kernel_rfl,of_decide_eq_true (by kernel_rfl)⟩) rfl rfl hW' hb⟩
 |_=>exact h.elim
theorem zhK:joinedFacts Tryz.prog 4 Tryz.f4 (Rows.OpenSpec.upto Rows.flowWaysSpec).bare Rows.flowWaysUptoRow=true:=by
 unfold joinedFacts
 rw[Jn.mayEnterE,Jn.liftsE,Jn.makeE]
 kernel_rfl
theorem flowWaysUpto_holds:Rows.FlowWaysUptoSaid:=
 OpenClaim.holds_of_cond 4 Tryz.f4 rfl rfl rfl rfl rfl rfl rfl ⟨rfl,rfl,rfl,rfl,rfl⟩ rfl rfl rfl rfl rfl (by kernel_rfl) Tryz.func4 zhK
  (of_decide_eq_true (by kernel_rfl)) (by unfold Func.isWrapper;first | (rw[if_pos (by decide +kernel)];kernel_rfl) | (rw[if_neg (by decide +kernel)];exact⟨rfl,rfl⟩))
  (λos started H enc _ F=>zhg os started H enc F)
end Go.Proofs.YtijgeifjccoieaaGreat
