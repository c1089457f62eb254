/- ConstsRenamed, part 8; made small by a program. -/
import Derived.Test.YtnplhdcedgcdhaaGreatDoorPConstsRenamed7
namespace Go.Proofs.YtnplhdcedgcdhaaGreatDoor
open Go.ChangeShapes Go.WideShapes Go.RowKit Go.Gk
theorem zeF(os:Os):laidMet Tryz.prog Rows.constsRenamedRow.laid ((Jd.laidWorld os).forCall (λ_ _=>0) ⟨#[],#[.agg #[.int .u32 0,.int .u32 0,.slice none 0 0],.slice none 0 0],[]⟩).memory:=
 laidMet_of_run' 8 (by kernel_rfl) (by kernel_rfl)
theorem zek(os:Os){H:Type}(enc:TypeId×Value->H):∃Ys,DataW.whole enc Tryz.prog ((Jd.laidWorld os).forCall (λ_ _=>0) ⟨#[],#[.agg #[.int .u32 0,.int .u32 0,.slice none 0 0],.slice none 0 0],[]⟩).memory Tryz.f8.params.toList Rows.constsRenamedSpec.vars false #[(.agg #[.int .u32 0,.int .u32 0,.slice none 0 0]:Value),(.slice none 0 0:Value)].toList 8=some ([.agg [.lit (.int .u32 0),.lit (.int .u32 0),.nil],.nil],[],Ys):=
 ⟨[],by kernel_rfl⟩
set_option maxRecDepth 100000 in
theorem zd7(os:Os)(started:os.Started)(H:Type)(enc:TypeId×Value->H)(Fi:Stop.Interp) :
  ReturnsInHanded {} Tryz.checked os 8 .any ((OpenSpec.ofChange Rows.constsRenamedSpec).preRow enc Tryz.prog Tryz.f8 Rows.constsRenamedRow.domain false Rows.constsRenamedRow.laid) (((OpenSpec.ofChange Rows.constsRenamedSpec).at Fi).post enc Tryz.prog Tryz.f8 false true false false):=by
 obtain⟨Ys,hx⟩:=zek os enc
 refine returnsInHanded_of_row (C:=Tryz.checked) (s:=OpenSpec.ofChange Rows.constsRenamedSpec) Jn.own started (by kernel_rfl) Tryz.func8
  (witness_row_at (enc:=enc) (C:=Tryz.checked) false (Jd.laidWorld os) #[(.agg #[.int .u32 0,.int .u32 0,.slice none 0 0]:Value),(.slice none 0 0:Value)] rfl (by kernel_rfl) (by kernel_rfl) (by kernel_rfl)
   (OpenSpec.preRow_of_cond 8 hx (by kernel_rfl) (λk hk=>by cases hk) (by kernel_rfl) (zeF os))) ?_
 intro W base args ds gs before hval0 hW0 _ _ hz0 hL _ _
 have hval:∀(j:Nat) t v,Tryz.f8.params[j]? =some t->args[j]? =some v->Value.okWide Tryz.prog W .any base t v:=hval0
 have hz:(DataW.weightsEach Tryz.prog (Tryz.f8.params.toList++Rows.constsRenamedSpec.plain.varTypes Tryz.prog) (ds++gs)).all (·<=reachBytes)=true:=hz0
 have htab:Tab W:=Jd.tab hL
 have hW:DataW.Whole enc Tryz.prog Tryz.f8.params.toList Rows.constsRenamedSpec.vars false W args.toList ds gs before:=hW0
 have hW':=hW
 obtain⟨p,q,hA0,hV,hbef,hfz,hnd⟩:=hW
 have hA:DataW.TrodAll enc Tryz.prog W 0 (λ_=>true) true Tryz.f8.params.toList args.toList ds p:=hA0
 rw[Tryz.params8]at hA hval hz
 obtain⟨v0,vs0,d0,ds0,p0,q0,hargs,rfl,rfl,h0,r0⟩:=trodAll_cons hA
 obtain⟨v1,vs1,d1,ds1,p1,q1,rfl,rfl,rfl,h1,r1⟩:=trodAll_cons r0
 obtain⟨rfl,rfl,rfl⟩:=trodAll_nil r1
 obtain rfl:args=#[v0,v1]:=by cases args;simp_all
 obtain⟨x0,pl0,rfl,hN0,hp0,hbd0⟩:=Jn.open_module (hval 0 25 v0 rfl rfl) h0 (λn hn=>by
  have:=List.all_eq_true.1 hz _ (DataW.weights_mem_each (j:=0) (t:=25) rfl rfl n hn)
  simpa using this)
 obtain⟨s1,tl1,rfl,hs1,h41⟩:=Jn.open_words (hval 1 30 v1 rfl rfl) h1 (λn hn=>by
  have:=List.all_eq_true.1 hz _ (DataW.weights_mem_each (j:=1) (t:=30) rfl rfl n hn)
  simpa using this)
 refine Calls.mono (zeC hN0 hp0 hbd0 hs1 h41 htab (R:=λv w'=>v =.bool true/\Below W.heap.size W w') λw' hb=>⟨rfl,hb⟩) λe W' h=>?_
 cases e with
 |returned v=>
  obtain⟨rfl,hb⟩:=h
  exact⟨_,rfl,Jn.post_true (s:=Rows.constsRenamedSpec) (by kernel_rfl) (by rw[Tryz.params8];intro t ht;simp at ht;rcases ht with rfl |rfl<;>exact⟨by kernel_rfl,of_decide_eq_true (by kernel_rfl)⟩) rfl rfl hW' hb⟩
 |_=>exact h.elim
theorem zei:joinedFacts Tryz.prog 8 Tryz.f8 (OpenSpec.ofChange Rows.constsRenamedSpec).bare Rows.constsRenamedRow=true:=by
 unfold joinedFacts
 rw[Jn.mayEnterE,Jn.liftsE,Jn.makeE]
 kernel_rfl
theorem zeG:Rows.ConstsRenamedSaid:=
 OpenClaim.holds_of_cond 8 Tryz.f8 rfl rfl rfl rfl rfl rfl rfl ⟨rfl,rfl,rfl,rfl,rfl⟩ rfl rfl rfl rfl rfl (by kernel_rfl) Tryz.func8 zei
  (of_decide_eq_true (by kernel_rfl)) (by unfold Func.isWrapper;first | (rw[if_pos (by decide +kernel)];kernel_rfl) | (rw[if_neg (by decide +kernel)];exact⟨rfl,rfl⟩))
  (λos started H enc _ Fi=>by rw[OpenClaim.pre_eq_preRow];exact zd7 os started H enc Fi)
theorem zej (f : FuncId) (fn : Func) (hf : Tryz.pinned.checked.prog.funcNamed "intaglio/intagliolaw11.ConstsRenamed" = some f) (hfn : Tryz.pinned.checked.prog.funcs[f]? = some fn) :
  false=Tryz.pinned.checked.prog.looks []/\∀(j:Nat) t,fn.params[j]? =some t->Tryz.pinned.checked.prog.wantsStandIn t=false:=by
 obtain rfl : f = 8 := Option.some.inj ((show Tryz.prog.funcNamed "intaglio/intagliolaw11.ConstsRenamed" = some 8 by kernel_rfl).symm.trans hf) |>.symm
 obtain rfl:fn=Tryz.f8:=(Option.some.inj (Tryz.func8.symm.trans hfn)).symm
 refine⟨by kernel_rfl,λj t ht=>?_⟩
 rw[Tryz.params8]at ht
 have ht:=Array.mem_of_getElem? ht
 simp at ht
 rcases ht with rfl |rfl
 ·exact(show Tryz.prog.wantsStandIn 25=false by kernel_rfl)
 ·exact(show Tryz.prog.wantsStandIn 30=false by kernel_rfl)
theorem constsRenamed_card : Rows.ConstsRenamedCardSaid:=
 Claim7.holds_tied_plain_at .later [] _ _ _ _ zeG (λ_ h=>by cases h) (by kernel_rfl) (λ_ h=>by cases h) constsRenamed_row_tie rfl ⟨rfl,rfl⟩ (by kernel_rfl) rfl zej (by kernel_rfl)
end Go.Proofs.YtnplhdcedgcdhaaGreatDoor
