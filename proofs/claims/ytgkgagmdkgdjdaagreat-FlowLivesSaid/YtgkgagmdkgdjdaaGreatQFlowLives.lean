/- FlowLives, part 11; made small by a program. -/
import Derived.Test.YtgkgagmdkgdjdaaGreatPFlowLives10
namespace Go.Proofs.YtgkgagmdkgdjdaaGreat
open Go.ChangeShapes Go.WideShapes Go.RowKit Go.Gk
set_option maxRecDepth 100000 in
theorem zjM(os:Os)(started:os.Started)(H:Type)(enc:TypeId×Value->H) :
  ReturnsInHanded {} Tryz.checked os 3 .any (Rows.flowLivesSpec.pre6 enc Tryz.prog Tryz.f3 Rows.flowLivesRow.domain false) (Rows.flowLivesSpec.post enc Tryz.prog Tryz.f3 false true false false):=by
 refine returnsInHanded_of_change_sized (C:=Tryz.checked) Jn.own started (by kernel_rfl) Tryz.func3
  (ChangeSpec.witness6 (enc:=enc) (C:=Tryz.checked) false ⟨#[],#[.agg #[.int .u32 0,.int .u32 0,.slice none 0 0],.int .u32 0],[]⟩ 8 (by kernel_rfl) (by kernel_rfl) (by kernel_rfl) (by kernel_rfl)) ?_
 intro W base args ds gs before hval0 hW _ hz0 _
 have hval:∀(j:Nat) t v,Tryz.f3.params[j]? =some t->args[j]? =some v->Value.okWide Tryz.prog W .any base t v:=hval0
 have hz:(DataW.weightsEach Tryz.prog (Tryz.f3.params.toList++Rows.flowLivesSpec.plain.varTypes Tryz.prog) (ds++gs)).all (·<=reachBytes)=true:=hz0
 have hW':=hW
 obtain⟨p,q,hA0,hV,hbef,hfz,hnd⟩:=hW
 have hA:DataW.TrodAll enc Tryz.prog W 0 (λ_=>true) true Tryz.f3.params.toList args.toList ds p:=hA0
 rw[Tryz.params3]at hA hval hz
 obtain⟨v0,vs0,d0,ds0,p0,q0,hargs,rfl,rfl,h0,r0⟩:=trodAll_cons hA
 obtain⟨v1,vs1,d1,ds1,p1,q1,rfl,rfl,rfl,h1,r1⟩:=trodAll_cons r0
 obtain⟨rfl,rfl,rfl⟩:=trodAll_nil r1
 obtain rfl:args=#[v0,v1]:=by cases args;simp_all
 obtain⟨x0,pl0,rfl,hN0,hp0,hbd0⟩:=Jn.open_module (hval 0 25 v0 rfl rfl) h0 (λn hn=>by
  have:=List.all_eq_true.1 hz _ (DataW.weights_mem_each (j:=0) (t:=25) rfl rfl n hn)
  simpa using this)
 obtain⟨i1,rfl,rfl,rfl,wi1⟩:=open_int Tryz.underlying22 (hval 1 22 v1 rfl rfl) h1
 refine Calls.mono (zle hN0 hp0 hbd0 (R:=λv w'=>v =.bool true/\Below W.heap.size W w') λw' hb=>⟨rfl,hb⟩) λe W' h=>?_
 cases e with
 |returned v=>
  obtain⟨rfl,hb⟩:=h
  exact⟨_,rfl,Jn.post_true (by kernel_rfl) (by rw[Tryz.params3];intro t ht;simp at ht;rcases ht with rfl |rfl<;>exact⟨by kernel_rfl,of_decide_eq_true (by kernel_rfl)⟩) rfl rfl hW' hb⟩
 |_=>exact h.elim
theorem zkM:joinedFacts Tryz.prog 3 Tryz.f3 Rows.flowLivesSpec Rows.flowLivesRow=true:=by
 unfold joinedFacts
 rw[Jn.mayEnterE,Jn.liftsE,Jn.makeE]
 kernel_rfl
theorem flowLives_holds:Rows.FlowLivesSaid:=
 OpenClaim.holds_of_wide 3 Tryz.f3 rfl rfl rfl rfl rfl rfl rfl ⟨rfl,rfl,rfl,rfl,rfl⟩ rfl rfl rfl rfl rfl (by kernel_rfl) Tryz.func3 zkM
  (of_decide_eq_true (by kernel_rfl)) (by unfold Func.isWrapper;first | (rw[if_pos (by decide +kernel)];kernel_rfl) | (rw[if_neg (by decide +kernel)];exact⟨rfl,rfl⟩))
  (λos started H enc _=>zjM os started H enc)
end Go.Proofs.YtgkgagmdkgdjdaaGreat
