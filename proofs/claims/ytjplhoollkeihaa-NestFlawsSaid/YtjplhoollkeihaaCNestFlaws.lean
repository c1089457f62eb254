/-
  NestFlaws: the given statement.
-/
import Derived.Test.YtjplhoollkeihaaJM
import Derived.Test.Ytjplhoollkeihaa16w
namespace Go.Proofs.Ytjplhoollkeihaa
open Go.ChangeShapes Go.WideShapes Go.RowKit Go.Gk

set_option maxRecDepth 100000 in
theorem nestFlaws_lifted (os : Os) (started : os.Started) (H : Type) (enc : TypeId × Value → H) :
    ReturnsInHanded {} Try.checked os 14 .any (Rows.nestFlawsSpec.pre6 enc Try.prog Try.f14 Rows.nestFlawsRow.domain false) (Rows.nestFlawsSpec.post enc Try.prog Try.f14 false true false false) := by
  refine returnsInHanded_of_change_sized (C := Try.checked) Jn.own started (by kernel_rfl) Try.func14
    (ChangeSpec.witness6 (enc := enc) (C := Try.checked) false ⟨#[], #[.slice none 0 0, .slice none 0 0], []⟩ 8 (by kernel_rfl) (by kernel_rfl) (by kernel_rfl) (by kernel_rfl)) ?_
  intro W base args ds gs before hval0 hW _ hz0 _
  have hval : ∀ (j : Nat) t v, Try.f14.params[j]? = some t → args[j]? = some v → Value.okWide Try.prog W .any base t v := hval0
  have hz : (DataW.weightsEach Try.prog (Try.f14.params.toList ++ Rows.nestFlawsSpec.plain.varTypes Try.prog) (ds ++ gs)).all (· ≤ reachBytes) = true := hz0
  have hW' := hW
  obtain ⟨p, q, hA0, hV, hbef, hfz, hnd⟩ := hW
  have hA : DataW.TrodAll enc Try.prog W 0 (fun _ => true) true Try.f14.params.toList args.toList ds p := hA0
  rw [Try.params14] at hA hval hz
  obtain ⟨v0, vs0, d0, ds0, p0, q0, hargs, rfl, rfl, h0, r0⟩ := trodAll_cons hA
  obtain ⟨v1, vs1, d1, ds1, p1, q1, rfl, rfl, rfl, h1, r1⟩ := trodAll_cons r0
  obtain ⟨rfl, rfl, rfl⟩ := trodAll_nil r1
  obtain rfl : args = #[v0, v1] := by cases args; simp_all
  obtain ⟨s0, hs0, ll0, rfl, hII0, h240, h80⟩ := Jn.open_rows (hval 0 22 v0 rfl rfl) h0 (fun n hn => by
    have := List.all_eq_true.1 hz _ (DataW.weights_mem_each (j := 0) (t := 22) rfl rfl n hn)
    simpa using this)
  obtain ⟨s1, ml1, rfl, hM1, h241, hk1⟩ := Jn.open_merges (hval 1 66 v1 rfl rfl) h1 (fun n hn => by
    have := List.all_eq_true.1 hz _ (DataW.weights_mem_each (j := 1) (t := 66) rfl rfl n hn)
    simpa using this)
  refine Calls.mono (NestFlaws_spec hII0 h240 h80 hM1 h241 hk1 (R := fun v w' => v = .bool true ∧ Below W.heap.size W w') fun w' hb => ⟨rfl, hb⟩) fun e W' h => ?_
  cases e with
  | returned v =>
    obtain ⟨rfl, hb⟩ := h
    exact ⟨_, rfl, Jn.post_true (by kernel_rfl) (by rw [Try.params14]; intro t ht; simp at ht; rcases ht with rfl | rfl <;> exact ⟨by kernel_rfl, of_decide_eq_true (by kernel_rfl)⟩) rfl rfl hW' hb⟩
  | _ => exact h.elim

theorem nestFlaws_facts : joinedFacts Try.prog 14 Try.f14 Rows.nestFlawsSpec Rows.nestFlawsRow = true := by
  unfold joinedFacts
  rw [Jn.mayEnterE, Jn.liftsE, Jn.makeE]
  kernel_rfl
theorem nestFlaws_holds : Rows.NestFlawsSaid :=
  OpenClaim.holds_of_wide 14 Try.f14 rfl rfl rfl rfl rfl rfl rfl ⟨rfl, rfl, rfl, rfl, rfl⟩ rfl rfl rfl rfl rfl (by kernel_rfl) Try.func14 nestFlaws_facts
    (of_decide_eq_true (by kernel_rfl)) (by unfold Func.isWrapper; first | (rw [if_pos (by decide +kernel)]; kernel_rfl) | (rw [if_neg (by decide +kernel)]; exact ⟨rfl, rfl⟩))
    (fun os started H enc _ => nestFlaws_lifted os started H enc)

end Go.Proofs.Ytjplhoollkeihaa
