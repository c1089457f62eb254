/-
  NestConstructs: the given statement.
-/
import Derived.Test.YtjplhoollkeihaaJM
import Derived.Test.Ytjplhoollkeihaa16t
namespace Go.Proofs.Ytjplhoollkeihaa
open Go.ChangeShapes Go.WideShapes Go.RowKit Go.Gk

set_option maxRecDepth 100000 in
theorem nestConstructs_lifted (os : Os) (started : os.Started) (H : Type) (enc : TypeId × Value → H) :
    ReturnsInHanded {} Try.checked os 18 .any (Rows.nestConstructsSpec.pre6 enc Try.prog Try.f18 Rows.nestConstructsRow.domain false) (Rows.nestConstructsSpec.post enc Try.prog Try.f18 false true false false) := by
  refine returnsInHanded_of_change_sized (C := Try.checked) Jn.own started (by kernel_rfl) Try.func18
    (ChangeSpec.witness6 (enc := enc) (C := Try.checked) false ⟨#[], #[.slice none 0 0, .slice none 0 0, .int .i64 0], []⟩ 8 (by kernel_rfl) (by kernel_rfl) (by kernel_rfl) (by kernel_rfl)) ?_
  intro W base args ds gs before hval0 hW _ hz0 _
  have hval : ∀ (j : Nat) t v, Try.f18.params[j]? = some t → args[j]? = some v → Value.okWide Try.prog W .any base t v := hval0
  have hz : (DataW.weightsEach Try.prog (Try.f18.params.toList ++ Rows.nestConstructsSpec.plain.varTypes Try.prog) (ds ++ gs)).all (· ≤ reachBytes) = true := hz0
  have hW' := hW
  obtain ⟨p, q, hA0, hV, hbef, hfz, hnd⟩ := hW
  have hA : DataW.TrodAll enc Try.prog W 0 (fun _ => true) true Try.f18.params.toList args.toList ds p := hA0
  rw [Try.params18] at hA hval hz
  obtain ⟨v0, vs0, d0, ds0, p0, q0, hargs, rfl, rfl, h0, r0⟩ := trodAll_cons hA
  obtain ⟨v1, vs1, d1, ds1, p1, q1, rfl, rfl, rfl, h1, r1⟩ := trodAll_cons r0
  obtain ⟨v2, vs2, d2, ds2, p2, q2, rfl, rfl, rfl, h2, r2⟩ := trodAll_cons r1
  obtain ⟨rfl, rfl, rfl⟩ := trodAll_nil r2
  obtain rfl : args = #[v0, v1, v2] := by cases args; simp_all
  obtain ⟨s0, hs0, ll0, rfl, hII0, h240, h80⟩ := Jn.open_rows (hval 0 22 v0 rfl rfl) h0 (fun n hn => by
    have := List.all_eq_true.1 hz _ (DataW.weights_mem_each (j := 0) (t := 22) rfl rfl n hn)
    simpa using this)
  obtain ⟨s1, ml1, rfl, hM1, h241, hk1⟩ := Jn.open_merges (hval 1 66 v1 rfl rfl) h1 (fun n hn => by
    have := List.all_eq_true.1 hz _ (DataW.weights_mem_each (j := 1) (t := 66) rfl rfl n hn)
    simpa using this)
  obtain ⟨i2, rfl, rfl, rfl, wi2⟩ := open_int Try.underlying3 (hval 2 3 v2 rfl rfl) h2
  refine Calls.mono (NestConstructs_spec hII0 h240 h80 hM1 h241 hk1 (R := fun v w' => v = .bool true ∧ Below W.heap.size W w') fun w' hb => ⟨rfl, hb⟩) fun e W' h => ?_
  cases e with
  | returned v =>
    obtain ⟨rfl, hb⟩ := h
    exact ⟨_, rfl, Jn.post_true (by kernel_rfl) (by rw [Try.params18]; intro t ht; simp at ht; rcases ht with rfl | rfl | rfl <;> exact ⟨by kernel_rfl, of_decide_eq_true (by kernel_rfl)⟩) rfl rfl hW' hb⟩
  | _ => exact h.elim

theorem nestConstructs_facts : joinedFacts Try.prog 18 Try.f18 Rows.nestConstructsSpec Rows.nestConstructsRow = true := by
  unfold joinedFacts
  rw [Jn.mayEnterE, Jn.liftsE, Jn.makeE]
  kernel_rfl
theorem nestConstructs_holds : Rows.NestConstructsSaid :=
  OpenClaim.holds_of_wide 18 Try.f18 rfl rfl rfl rfl rfl rfl rfl ⟨rfl, rfl, rfl, rfl, rfl⟩ rfl rfl rfl rfl rfl (by kernel_rfl) Try.func18 nestConstructs_facts
    (of_decide_eq_true (by kernel_rfl)) (by unfold Func.isWrapper; first | (rw [if_pos (by decide +kernel)]; kernel_rfl) | (rw [if_neg (by decide +kernel)]; exact ⟨rfl, rfl⟩))
    (fun os started H enc _ => nestConstructs_lifted os started H enc)

end Go.Proofs.Ytjplhoollkeihaa
