/- FaceSlots, part 11; made small by a program. -/
import Derived.Test.YtnpdnjmpmeikiaaGreatDoorPFaceSlots10
set_option linter.unusedVariables false
namespace Go.Proofs.YtnpdnjmpmeikiaaGreatDoor
open Go.ChangeShapes Go.WideShapes Go.RowKit Go.Gk
theorem zkH(os:Os):laidMet Tryz.prog Rows.faceSlotsRow.laid ((Jd.laidWorld os).forCall (λ_ _=>0) ⟨#[],#[.agg #[.int .u32 0,.int .u32 0,.slice none 0 0],.int .u32 0,.int .i64 0],[]⟩).memory:=
 laidMet_of_run' 8 (by kernel_rfl) (by kernel_rfl)
theorem zjW(os:Os){H:Type}(enc:TypeId×Value->H):∃YY,DataW.whole enc Tryz.prog ((Jd.laidWorld os).forCall (λ_ _=>0) ⟨#[],#[.agg #[.int .u32 0,.int .u32 0,.slice none 0 0],.int .u32 0,.int .i64 0],[]⟩).memory Tryz.f7.params.toList Rows.faceSlotsSpec.vars false #[(.agg #[.int .u32 0,.int .u32 0,.slice none 0 0]:Value),(.int .u32 0:Value),(.int .i64 0:Value)].toList 8=some ([.agg [.lit (.int .u32 0),.lit (.int .u32 0),.nil],.lit (.int .u32 0),.lit (.int .i64 0)],[],YY):=
 ⟨[],by kernel_rfl⟩
set_option maxRecDepth 100000 in
theorem zjc(os:Os)(started:os.Started)(H:Type)(enc:TypeId×Value->H)(Fi:Stop.Interp) :
  ReturnsInHanded {} Tryz.checked os 7 .any ((OpenSpec.ofChange Rows.faceSlotsSpec).preRow enc Tryz.prog Tryz.f7 Rows.faceSlotsRow.domain false Rows.faceSlotsRow.laid) (((OpenSpec.ofChange Rows.faceSlotsSpec).at Fi).post enc Tryz.prog Tryz.f7 false true false false):=by
 obtain⟨YY,hx⟩:=zjW os enc
 refine returnsInHanded_of_row (C:=Tryz.checked) (s:=OpenSpec.ofChange Rows.faceSlotsSpec) Jn.own started (by kernel_rfl) Tryz.func7
  (witness_row_at (enc:=enc) (C:=Tryz.checked) false (Jd.laidWorld os) #[(.agg #[.int .u32 0,.int .u32 0,.slice none 0 0]:Value),(.int .u32 0:Value),(.int .i64 0:Value)] rfl (by kernel_rfl) (by kernel_rfl) (by kernel_rfl)
   (OpenSpec.preRow_of_cond 8 hx (by kernel_rfl) (λk hk=>by cases hk) (by kernel_rfl) (zkH os))) ?_
 intro W base args ds gs before hval0 hW0 _ _ hz0 hL _ _
 have hval:∀(j:Nat) t v,Tryz.f7.params[j]? =some t->args[j]? =some v->Value.okWide Tryz.prog W .any base t v:=hval0
 have hz:(DataW.weightsEach Tryz.prog (Tryz.f7.params.toList++Rows.faceSlotsSpec.plain.varTypes Tryz.prog) (ds++gs)).all (·<=reachBytes)=true:=hz0
 have htab:Tab W:=Jd.tab hL
 have hW:DataW.Whole enc Tryz.prog Tryz.f7.params.toList Rows.faceSlotsSpec.vars false W args.toList ds gs before:=hW0
 have hW':=hW
 obtain⟨p,q,hA0,hV,hbef,hfz,hnd⟩:=hW
 have hA:DataW.TrodAll enc Tryz.prog W 0 (λ_=>true) true Tryz.f7.params.toList args.toList ds p:=hA0
 rw[Tryz.params7]at hA hval hz
 obtain⟨v0,vs0,d0,ds0,p0,q0,hargs,rfl,rfl,h0,r0⟩:=trodAll_cons hA
 obtain⟨v1,vs1,d1,ds1,p1,q1,rfl,rfl,rfl,h1,r1⟩:=trodAll_cons r0
 obtain⟨v2,vs2,d2,ds2,p2,q2,rfl,rfl,rfl,h2,r2⟩:=trodAll_cons r1
 obtain⟨rfl,rfl,rfl⟩:=trodAll_nil r2
 obtain rfl:args=#[v0,v1,v2]:=by cases args;simp_all
 obtain⟨x0,pl0,rfl,hN0,hp0,hbd0⟩:=Jn.open_module (hval 0 25 v0 rfl rfl) h0 (λn hn=>by
  have:=List.all_eq_true.1 hz _ (DataW.weights_mem_each (j:=0) (t:=25) rfl rfl n hn)
  simpa using this)
 obtain⟨i1,rfl,rfl,rfl,wi1⟩:=open_int Tryz.underlying22 (hval 1 22 v1 rfl rfl) h1
 obtain⟨i2,rfl,rfl,rfl,wi2⟩:=open_int Tryz.underlying3 (hval 2 3 v2 rfl rfl) h2
 refine Calls.mono (zkr hN0 hp0 hbd0 htab (R:=λv w'=>v =.bool true/\Below W.heap.size W w') λw' hb=>⟨rfl,hb⟩) λe W' h=>?_
 cases e with
 |returned v=>
  obtain⟨rfl,hb⟩:=h
  exact⟨_,rfl,Jn.post_true (s:=Rows.faceSlotsSpec) (by kernel_rfl) (by rw[Tryz.params7];intro t ht;simp at ht;rcases ht with rfl |rfl |rfl<;>exact⟨by kernel_rfl,of_decide_eq_true (by kernel_rfl)⟩) rfl rfl hW' hb⟩
 |_=>exact h.elim
theorem zjU:joinedFacts Tryz.prog 7 Tryz.f7 (OpenSpec.ofChange Rows.faceSlotsSpec).bare Rows.faceSlotsRow=true:=by
 unfold joinedFacts
 rw[Jn.mayEnterE,Jn.liftsE,Jn.makeE]
 kernel_rfl
theorem zkI:Rows.FaceSlotsSaid:=
 OpenClaim.holds_of_cond 7 Tryz.f7 rfl rfl rfl rfl rfl rfl rfl ⟨rfl,rfl,rfl,rfl,rfl⟩ rfl rfl rfl rfl rfl (by kernel_rfl) Tryz.func7 zjU
  (of_decide_eq_true (by kernel_rfl)) (by unfold Func.isWrapper;first | (rw[if_pos (by decide +kernel)];kernel_rfl) | (rw[if_neg (by decide +kernel)];exact⟨rfl,rfl⟩))
  (λos started H enc _ Fi=>by rw[OpenClaim.pre_eq_preRow];exact zjc os started H enc Fi)
theorem zjV (f : FuncId) (fn : Func) (hf : Tryz.pinned.checked.prog.funcNamed "intaglio/intagliolaw20.FaceSlots" = some f) (hfn : Tryz.pinned.checked.prog.funcs[f]? = some fn) :
  false=Tryz.pinned.checked.prog.looks []/\∀(j:Nat) t,fn.params[j]? =some t->Tryz.pinned.checked.prog.wantsStandIn t=false:=by
 obtain rfl : f = 7 := Option.some.inj ((show Tryz.prog.funcNamed "intaglio/intagliolaw20.FaceSlots" = some 7 by kernel_rfl).symm.trans hf) |>.symm
 obtain rfl:fn=Tryz.f7:=(Option.some.inj (Tryz.func7.symm.trans hfn)).symm
 refine⟨by kernel_rfl,λj t ht=>?_⟩
 rw[Tryz.params7]at ht
 have ht:=Array.mem_of_getElem? ht
 simp at ht
 rcases ht with rfl |rfl |rfl
 ·exact(show Tryz.prog.wantsStandIn 25=false by kernel_rfl)
 ·exact(show Tryz.prog.wantsStandIn 22=false by kernel_rfl)
 ·exact(show Tryz.prog.wantsStandIn 3=false by kernel_rfl)
theorem faceSlots_card:Rows.FaceSlotsCardSaid:=
 Claim7.holds_tied_plain_at .later [] _ _ _ _ zkI (λ_ h=>by cases h) (by kernel_rfl) (λ_ h=>by cases h) faceSlots_row_tie rfl ⟨rfl,rfl⟩ (by kernel_rfl) rfl zjV (by kernel_rfl)
end Go.Proofs.YtnpdnjmpmeikiaaGreatDoor
