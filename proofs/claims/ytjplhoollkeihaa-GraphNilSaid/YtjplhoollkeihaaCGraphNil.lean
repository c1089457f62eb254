/-
  GraphNil: the given statement.
-/
import Derived.Test.YtjplhoollkeihaaJ
import Derived.Test.Ytjplhoollkeihaa14x
namespace Go.Proofs.Ytjplhoollkeihaa
open Go.ChangeShapes Go.WideShapes Go.RowKit Go.Gk

set_option maxRecDepth 100000 in
theorem graphNil_lifted (os : Os) (started : os.Started) (H : Type) (enc : TypeId × Value → H) :
    ReturnsInHanded {} Try.checked os 7 .any (Rows.graphNilSpec.pre6 enc Try.prog Try.f7 Rows.graphNilRow.domain false) (Rows.graphNilSpec.post enc Try.prog Try.f7 false true false false) := by
  refine returnsInHanded_of_change_sized (C := Try.checked) Jn.own started (by kernel_rfl) Try.func7
    (ChangeSpec.witness6 (enc := enc) (C := Try.checked) false ⟨#[], #[.int .i64 0], []⟩ 8 (by kernel_rfl) (by kernel_rfl) (by kernel_rfl) (by kernel_rfl)) ?_
  intro W base args ds gs before hval0 hW _ _ _
  have hval : ∀ (j : Nat) t v, Try.f7.params[j]? = some t → args[j]? = some v → Value.okWide Try.prog W .any base t v := hval0
  have hW' := hW
  obtain ⟨p, q, hA0, hV, hbef, hfz, hnd⟩ := hW
  have hA : DataW.TrodAll enc Try.prog W 0 (fun _ => true) true Try.f7.params.toList args.toList ds p := hA0
  rw [Try.params7] at hA hval
  obtain ⟨v0, vs0, d0, ds0, p0, q0, hargs, rfl, rfl, h0, r0⟩ := trodAll_cons hA
  obtain ⟨rfl, rfl, rfl⟩ := trodAll_nil r0
  obtain rfl : args = #[v0] := by cases args; simp_all
  obtain ⟨i, rfl, rfl, rfl, wi⟩ := open_int Try.underlying3 (hval 0 3 v0 rfl rfl) h0
  refine Calls.mono (GraphNil_spec (i := i) (R := fun v w' => v = .bool true ∧ Below W.heap.size W w') fun w' hb => ⟨rfl, hb⟩) fun e W' h => ?_
  cases e with
  | returned v =>
    obtain ⟨rfl, hb⟩ := h
    exact ⟨_, rfl, Jn.post_true (by kernel_rfl) (by rw [Try.params7]; intro t ht; simp at ht; subst ht; exact ⟨by kernel_rfl, of_decide_eq_true (by kernel_rfl)⟩) rfl rfl hW' hb⟩
  | _ => exact h.elim

theorem graphNil_facts : joinedFacts Try.prog 7 Try.f7 Rows.graphNilSpec Rows.graphNilRow = true := by
  unfold joinedFacts
  rw [Jn.mayEnterE, Jn.liftsE, Jn.makeE]
  kernel_rfl
theorem graphNil_holds : Rows.GraphNilSaid :=
  OpenClaim.holds_of_wide 7 Try.f7 rfl rfl rfl rfl rfl rfl rfl ⟨rfl, rfl, rfl, rfl, rfl⟩ rfl rfl rfl rfl rfl (by kernel_rfl) Try.func7 graphNil_facts
    (of_decide_eq_true (by kernel_rfl)) (by unfold Func.isWrapper; first | (rw [if_pos (by decide +kernel)]; kernel_rfl) | (rw [if_neg (by decide +kernel)]; exact ⟨rfl, rfl⟩))
    (fun os started H enc _ => graphNil_lifted os started H enc)

end Go.Proofs.Ytjplhoollkeihaa
