/- FaceRenamed, part 11; made small by a program. -/
import Derived.Test.YtnpdnjmpmeikiaaGreatDoorPFaceRenamed10
set_option linter.unusedVariables false
namespace Go.Proofs.YtnpdnjmpmeikiaaGreatDoor
open Go.ChangeShapes Go.WideShapes Go.RowKit Go.Gk
theorem zjq(os:Os):laidMet Tryz.prog Rows.faceRenamedRow.laid ((Jd.laidWorld os).forCall (λ_ _=>0) ⟨#[],#[.agg #[.int .u32 0,.int .u32 0,.slice none 0 0]],[]⟩).memory:=
 laidMet_of_run' 8 (by kernel_rfl) (by kernel_rfl)
theorem zi3(os:Os){H:Type}(enc:TypeId×Value->H):∃YV,DataW.whole enc Tryz.prog ((Jd.laidWorld os).forCall (λ_ _=>0) ⟨#[],#[.agg #[.int .u32 0,.int .u32 0,.slice none 0 0]],[]⟩).memory Tryz.f6.params.toList Rows.faceRenamedSpec.vars false #[(.agg #[.int .u32 0,.int .u32 0,.slice none 0 0]:Value)].toList 8=some ([.agg [.lit (.int .u32 0),.lit (.int .u32 0),.nil]],[],YV):=
 ⟨[],by kernel_rfl⟩
set_option maxRecDepth 100000 in
theorem zh0(os:Os)(started:os.Started)(H:Type)(enc:TypeId×Value->H)(Fi:Stop.Interp) :
  ReturnsInHanded {} Tryz.checked os 6 .any ((OpenSpec.ofChange Rows.faceRenamedSpec).preRow enc Tryz.prog Tryz.f6 Rows.faceRenamedRow.domain false Rows.faceRenamedRow.laid) (((OpenSpec.ofChange Rows.faceRenamedSpec).at Fi).post enc Tryz.prog Tryz.f6 false true false false):=by
 obtain⟨YV,hx⟩:=zi3 os enc
 refine returnsInHanded_of_row (C:=Tryz.checked) (s:=OpenSpec.ofChange Rows.faceRenamedSpec) Jn.own started (by kernel_rfl) Tryz.func6
  (witness_row_at (enc:=enc) (C:=Tryz.checked) false (Jd.laidWorld os) #[(.agg #[.int .u32 0,.int .u32 0,.slice none 0 0]:Value)] rfl (by kernel_rfl) (by kernel_rfl) (by kernel_rfl)
   (OpenSpec.preRow_of_cond 8 hx (by kernel_rfl) (λk hk=>by cases hk) (by kernel_rfl) (zjq os))) ?_
 intro W base args ds gs before hval0 hW0 _ _ hz0 hL _ _
 have hval:∀(j:Nat) t v,Tryz.f6.params[j]? =some t->args[j]? =some v->Value.okWide Tryz.prog W .any base t v:=hval0
 have hz:(DataW.weightsEach Tryz.prog (Tryz.f6.params.toList++Rows.faceRenamedSpec.plain.varTypes Tryz.prog) (ds++gs)).all (·<=reachBytes)=true:=hz0
 have htab:Tab W:=Jd.tab hL
 have hW:DataW.Whole enc Tryz.prog Tryz.f6.params.toList Rows.faceRenamedSpec.vars false W args.toList ds gs before:=hW0
 have hW':=hW
 obtain⟨p,q,hA0,hV,hbef,hfz,hnd⟩:=hW
 have hA:DataW.TrodAll enc Tryz.prog W 0 (λ_=>true) true Tryz.f6.params.toList args.toList ds p:=hA0
 rw[Tryz.params6]at hA hval hz
 obtain⟨v0,vs0,d0,ds0,p0,q0,hargs,rfl,rfl,h0,r0⟩:=trodAll_cons hA
 obtain⟨rfl,rfl,rfl⟩:=trodAll_nil r0
 obtain rfl:args=#[v0]:=by cases args;simp_all
 obtain⟨x0,pl0,rfl,hN0,hp0,hbd0⟩:=Jn.open_module (hval 0 25 v0 rfl rfl) h0 (λn hn=>by
  have:=List.all_eq_true.1 hz _ (DataW.weights_mem_each (j:=0) (t:=25) rfl rfl n hn)
  simpa using this)
 refine Calls.mono (zjb hN0 hp0 hbd0 htab (R:=λv w'=>v =.bool true/\Below W.heap.size W w') λw' hb=>⟨rfl,hb⟩) λe W' h=>?_
 cases e with
 |returned v=>
  obtain⟨rfl,hb⟩:=h
  exact⟨_,rfl,Jn.post_true (s:=Rows.faceRenamedSpec) (by kernel_rfl) (by rw[Tryz.params6];intro t ht;simp at ht;subst ht;exact⟨by kernel_rfl,of_decide_eq_true (by kernel_rfl)⟩) rfl rfl hW' hb⟩
 |_=>exact h.elim
theorem zi1:joinedFacts Tryz.prog 6 Tryz.f6 (OpenSpec.ofChange Rows.faceRenamedSpec).bare Rows.faceRenamedRow=true:=by
 unfold joinedFacts
 rw[Jn.mayEnterE,Jn.liftsE,Jn.makeE]
 kernel_rfl
theorem zjr:Rows.FaceRenamedSaid:=
 OpenClaim.holds_of_cond 6 Tryz.f6 rfl rfl rfl rfl rfl rfl rfl ⟨rfl,rfl,rfl,rfl,rfl⟩ rfl rfl rfl rfl rfl (by kernel_rfl) Tryz.func6 zi1
  (of_decide_eq_true (by kernel_rfl)) (by unfold Func.isWrapper;first | (rw[if_pos (by decide +kernel)];kernel_rfl) | (rw[if_neg (by decide +kernel)];exact⟨rfl,rfl⟩))
  (λos started H enc _ Fi=>by rw[OpenClaim.pre_eq_preRow];exact zh0 os started H enc Fi)
theorem zi2 (f : FuncId) (fn : Func) (hf : Tryz.pinned.checked.prog.funcNamed "intaglio/intagliolaw20.FaceRenamed" = some f) (hfn : Tryz.pinned.checked.prog.funcs[f]? = some fn) :
  false=Tryz.pinned.checked.prog.looks []/\∀(j:Nat) t,fn.params[j]? =some t->Tryz.pinned.checked.prog.wantsStandIn t=false:=by
 obtain rfl : f = 6 := Option.some.inj ((show Tryz.prog.funcNamed "intaglio/intagliolaw20.FaceRenamed" = some 6 by kernel_rfl).symm.trans hf) |>.symm
 obtain rfl:fn=Tryz.f6:=(Option.some.inj (Tryz.func6.symm.trans hfn)).symm
 refine⟨by kernel_rfl,λj t ht=>?_⟩
 rw[Tryz.params6]at ht
 have ht:=Array.mem_of_getElem? ht
 simp at ht
 subst ht;exact(show Tryz.prog.wantsStandIn 25=false by kernel_rfl)
theorem faceRenamed_card:Rows.FaceRenamedCardSaid:=
 Claim7.holds_tied_plain_at .later [] _ _ _ _ zjr (λ_ h=>by cases h) (by kernel_rfl) (λ_ h=>by cases h) faceRenamed_row_tie rfl ⟨rfl,rfl⟩ (by kernel_rfl) rfl zi2 (by kernel_rfl)
end Go.Proofs.YtnpdnjmpmeikiaaGreatDoor
