/- FlowRenamed, part 9; made small by a program. -/
import Derived.Test.YtgkgagmdkgdjdaaGreatPFlowRenamed8
namespace Go.Proofs.YtgkgagmdkgdjdaaGreat
open Go.ChangeShapes Go.WideShapes Go.RowKit Go.Gk
set_option maxRecDepth 100000 in
theorem zgk(os:Os)(started:os.Started)(H:Type)(enc:TypeId×Value->H) :
  ReturnsInHanded {} Tryz.checked os 5 .any (Rows.flowRenamedSpec.pre6 enc Tryz.prog Tryz.f5 Rows.flowRenamedRow.domain false) (Rows.flowRenamedSpec.post enc Tryz.prog Tryz.f5 false true false false):=by
 refine returnsInHanded_of_change_sized (C:=Tryz.checked) Jn.own started (by kernel_rfl) Tryz.func5
  (ChangeSpec.witness6 (enc:=enc) (C:=Tryz.checked) false ⟨#[],#[.agg #[.int .u32 0,.int .u32 0,.slice none 0 0],.slice none 0 0,.int .u32 0],[]⟩ 8 (by kernel_rfl) (by kernel_rfl) (by kernel_rfl) (by kernel_rfl)) ?_
 intro W base args ds gs before hval0 hW _ hz0 _
 have hval:∀(j:Nat) t v,Tryz.f5.params[j]? =some t->args[j]? =some v->Value.okWide Tryz.prog W .any base t v:=hval0
 have hz:(DataW.weightsEach Tryz.prog (Tryz.f5.params.toList++Rows.flowRenamedSpec.plain.varTypes Tryz.prog) (ds++gs)).all (·<=reachBytes)=true:=hz0
 have hW':=hW
 obtain⟨p,q,hA0,hV,hbef,hfz,hnd⟩:=hW
 have hA:DataW.TrodAll enc Tryz.prog W 0 (λ_=>true) true Tryz.f5.params.toList args.toList ds p:=hA0
 rw[Tryz.params5]at hA hval hz
 obtain⟨v0,vs0,d0,ds0,p0,q0,hargs,rfl,rfl,h0,r0⟩:=trodAll_cons hA
 obtain⟨v1,vs1,d1,ds1,p1,q1,rfl,rfl,rfl,h1,r1⟩:=trodAll_cons r0
 obtain⟨v2,vs2,d2,ds2,p2,q2,rfl,rfl,rfl,h2,r2⟩:=trodAll_cons r1
 obtain⟨rfl,rfl,rfl⟩:=trodAll_nil r2
 obtain rfl:args=#[v0,v1,v2]:=by cases args;simp_all
 obtain⟨x0,pl0,rfl,hN0,hp0,hbd0⟩:=Jn.open_module (hval 0 25 v0 rfl rfl) h0 (λn hn=>by
  have:=List.all_eq_true.1 hz _ (DataW.weights_mem_each (j:=0) (t:=25) rfl rfl n hn)
  simpa using this)
 obtain⟨s1,tl1,rfl,hs1,h41⟩:=Jn.open_words (hval 1 26 v1 rfl rfl) h1 (λn hn=>by
  have:=List.all_eq_true.1 hz _ (DataW.weights_mem_each (j:=1) (t:=26) rfl rfl n hn)
  simpa using this)
 obtain⟨i2,rfl,rfl,rfl,wi2⟩:=open_int Tryz.underlying22 (hval 2 22 v2 rfl rfl) h2
 refine Calls.mono (zh9 hN0 hp0 hbd0 hs1 h41 (Jn.u32_range wi2) (R:=λv w'=>v =.bool true/\Below W.heap.size W w') λw' hb=>⟨rfl,hb⟩) λe W' h=>?_
 cases e with
 |returned v=>
  obtain⟨rfl,hb⟩:=h
  exact⟨_,rfl,Jn.post_true (by kernel_rfl) (by rw[Tryz.params5];intro t ht;simp at ht;rcases ht with rfl |rfl |rfl<;>exact⟨by kernel_rfl,of_decide_eq_true (by kernel_rfl)⟩) rfl rfl hW' hb⟩
 |_=>exact h.elim
theorem zgZ:joinedFacts Tryz.prog 5 Tryz.f5 Rows.flowRenamedSpec Rows.flowRenamedRow=true:=by
 unfold joinedFacts
 rw[Jn.mayEnterE,Jn.liftsE,Jn.makeE]
 kernel_rfl
theorem flowRenamed_holds:Rows.FlowRenamedSaid:=
 OpenClaim.holds_of_wide 5 Tryz.f5 rfl rfl rfl rfl rfl rfl rfl ⟨rfl,rfl,rfl,rfl,rfl⟩ rfl rfl rfl rfl rfl (by kernel_rfl) Tryz.func5 zgZ
  (of_decide_eq_true (by kernel_rfl)) (by unfold Func.isWrapper;first | (rw[if_pos (by decide +kernel)];kernel_rfl) | (rw[if_neg (by decide +kernel)];exact⟨rfl,rfl⟩))
  (λos started H enc _=>zgk os started H enc)
end Go.Proofs.YtgkgagmdkgdjdaaGreat
