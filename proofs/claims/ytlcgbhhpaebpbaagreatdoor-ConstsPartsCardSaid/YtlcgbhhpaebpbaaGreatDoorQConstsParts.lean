/-
  ConstsParts: the given statement holds for every input.
-/
import Derived.Test.YtlcgbhhpaebpbaaGreatDoorPConstsParts6
namespace Go.Proofs.YtlcgbhhpaebpbaaGreatDoor
open Go.ChangeShapes Go.WideShapes Go.RowKit Go.Gk

theorem constsParts_laid (os : Os) : laidMet Tryz.prog Rows.constsPartsRow.laid ((Jd.laidWorld os).forCall (fun _ _ => 0) ⟨#[], #[.agg #[.int .u32 0, .int .u32 0, .slice none 0 0]], []⟩).memory :=
  laidMet_of_run' 8 (by kernel_rfl) (by kernel_rfl)
theorem constsParts_reads (os : Os) {H : Type} (enc : TypeId × Value → H) : ∃ places, DataW.whole enc Tryz.prog ((Jd.laidWorld os).forCall (fun _ _ => 0) ⟨#[], #[.agg #[.int .u32 0, .int .u32 0, .slice none 0 0]], []⟩).memory Tryz.f6.params.toList Rows.constsPartsSpec.vars false #[(.agg #[.int .u32 0, .int .u32 0, .slice none 0 0] : Value)].toList 8 = some ([.agg [.lit (.int .u32 0), .lit (.int .u32 0), .nil]], [], places) :=
  ⟨[], by kernel_rfl⟩
set_option maxRecDepth 100000 in
theorem constsParts_lifted (os : Os) (started : os.Started) (H : Type) (enc : TypeId × Value → H) (Fi : Stop.Interp) :
    ReturnsInHanded {} Tryz.checked os 6 .any ((OpenSpec.ofChange Rows.constsPartsSpec).preRow enc Tryz.prog Tryz.f6 Rows.constsPartsRow.domain false Rows.constsPartsRow.laid) (((OpenSpec.ofChange Rows.constsPartsSpec).at Fi).post enc Tryz.prog Tryz.f6 false true false false) := by
  obtain ⟨places, hx⟩ := constsParts_reads os enc
  refine returnsInHanded_of_row (C := Tryz.checked) (s := OpenSpec.ofChange Rows.constsPartsSpec) Jn.own started (by kernel_rfl) Tryz.func6
    (witness_row_at (enc := enc) (C := Tryz.checked) false (Jd.laidWorld os) #[(.agg #[.int .u32 0, .int .u32 0, .slice none 0 0] : Value)] rfl (by kernel_rfl) (by kernel_rfl) (by kernel_rfl)
      (OpenSpec.preRow_of_cond 8 hx (by kernel_rfl) (fun k hk => by cases hk) (by kernel_rfl) (constsParts_laid os))) ?_
  intro W base args ds gs before hval0 hW0 _ _ hz0 hL _ _
  have hval : ∀ (j : Nat) t v, Tryz.f6.params[j]? = some t → args[j]? = some v → Value.okWide Tryz.prog W .any base t v := hval0
  have hz : (DataW.weightsEach Tryz.prog (Tryz.f6.params.toList ++ Rows.constsPartsSpec.plain.varTypes Tryz.prog) (ds ++ gs)).all (· ≤ reachBytes) = true := hz0
  have htab : Tab W := Jd.tab hL
  have hW : DataW.Whole enc Tryz.prog Tryz.f6.params.toList Rows.constsPartsSpec.vars false W args.toList ds gs before := hW0
  have hW' := hW
  obtain ⟨p, q, hA0, hV, hbef, hfz, hnd⟩ := hW
  have hA : DataW.TrodAll enc Tryz.prog W 0 (fun _ => true) true Tryz.f6.params.toList args.toList ds p := hA0
  rw [Tryz.params6] at hA hval hz
  obtain ⟨v0, vs0, d0, ds0, p0, q0, hargs, rfl, rfl, h0, r0⟩ := trodAll_cons hA
  obtain ⟨rfl, rfl, rfl⟩ := trodAll_nil r0
  obtain rfl : args = #[v0] := by cases args; simp_all
  obtain ⟨x0, pl0, rfl, hN0, hp0, hbd0⟩ := Jn.open_module (hval 0 25 v0 rfl rfl) h0 (fun n hn => by
    have := List.all_eq_true.1 hz _ (DataW.weights_mem_each (j := 0) (t := 25) rfl rfl n hn)
    simpa using this)
  refine Calls.mono (ConstsParts_spec hN0 hp0 hbd0.1 htab (R := fun v w' => v = .bool true ∧ Below W.heap.size W w') fun w' hb => ⟨rfl, hb⟩) fun e W' h => ?_
  cases e with
  | returned v =>
    obtain ⟨rfl, hb⟩ := h
    exact ⟨_, rfl, Jn.post_true (s := Rows.constsPartsSpec) (by kernel_rfl) (by rw [Tryz.params6]; intro t ht; simp at ht; subst ht; exact ⟨by kernel_rfl, of_decide_eq_true (by kernel_rfl)⟩) rfl rfl hW' hb⟩
  | _ => exact h.elim

theorem constsParts_facts : joinedFacts Tryz.prog 6 Tryz.f6 (OpenSpec.ofChange Rows.constsPartsSpec).bare Rows.constsPartsRow = true := by
  unfold joinedFacts
  rw [Jn.mayEnterE, Jn.liftsE, Jn.makeE]
  kernel_rfl
theorem constsParts_said : Rows.ConstsPartsSaid :=
  OpenClaim.holds_of_cond 6 Tryz.f6 rfl rfl rfl rfl rfl rfl rfl ⟨rfl, rfl, rfl, rfl, rfl⟩ rfl rfl rfl rfl rfl (by kernel_rfl) Tryz.func6 constsParts_facts
    (of_decide_eq_true (by kernel_rfl)) (by unfold Func.isWrapper; first | (rw [if_pos (by decide +kernel)]; kernel_rfl) | (rw [if_neg (by decide +kernel)]; exact ⟨rfl, rfl⟩))
    (fun os started H enc _ Fi => by rw [OpenClaim.pre_eq_preRow]; exact constsParts_lifted os started H enc Fi)
theorem constsParts_plain (f : FuncId) (fn : Func) (hf : Tryz.pinned.checked.prog.funcNamed "intaglio/intagliolaw11.ConstsParts" = some f) (hfn : Tryz.pinned.checked.prog.funcs[f]? = some fn) :
    false = Tryz.pinned.checked.prog.looks [] ∧ ∀ (j : Nat) t, fn.params[j]? = some t → Tryz.pinned.checked.prog.wantsStandIn t = false := by
  obtain rfl : f = 6 := Option.some.inj ((show Tryz.prog.funcNamed "intaglio/intagliolaw11.ConstsParts" = some 6 by kernel_rfl).symm.trans hf) |>.symm
  obtain rfl : fn = Tryz.f6 := (Option.some.inj (Tryz.func6.symm.trans hfn)).symm
  refine ⟨by kernel_rfl, fun j t ht => ?_⟩
  rw [Tryz.params6] at ht
  have ht := Array.mem_of_getElem? ht
  simp at ht
  subst ht; first | exact (show Tryz.prog.wantsStandIn 25 = false by kernel_rfl)
theorem constsParts_card : Rows.ConstsPartsCardSaid :=
  Claim7.holds_tied_plain_at .later [] _ _ _ _ constsParts_said (fun _ h => by cases h) (by kernel_rfl) (fun _ h => by cases h) constsParts_row_tie rfl ⟨rfl, rfl⟩ (by kernel_rfl) rfl constsParts_plain (by kernel_rfl)

end Go.Proofs.YtlcgbhhpaebpbaaGreatDoor
