/-
  A given row's argument that is a list of merges.
-/
import Derived.Test.YtjplhoollkeihaaJ
import Derived.Test.Ytjplhoollkeihaa16a
import Derived.Deep.Strs
namespace Go.Proofs
open Go.Gk Go.RowKit Go.ChangeShapes Go.WideShapes Go.Deep

namespace Jn
section
variable {H : Type} {enc : TypeId × Value → H}
set_option maxRecDepth 100000 in
/-- A []api.Merge that is handed in. -/
theorem open_merges {W : World} {base : Nat} {v : Value} {d : DataW H} {p : List MemPlace} (hv : Value.okWide Try.prog W .any base 66 v) (h0 : DataW.Trod enc Try.prog W 0 (fun _ => true) true 66 v d p)
    (hz : ∀ n ∈ d.weights Try.prog 66, n ≤ reachBytes) :
    ∃ (s : Sl) (l : List Mg), v = .slice s.a s.l s.c ∧ IsM W s l ∧ 24 * l.length ≤ 281474976710656 ∧ ∀ x ∈ l, 0 ≤ x.1 := by
  obtain ⟨a0, len, cap, rfl⟩ := okWide_slice Try.underlying66 hv
  obtain ⟨fuel0, hf⟩ := h0
  have b24 : Try.prog.bytesOf 82 = 24 := by kernel_rfl
  have c3 : Try.prog.cellsOf 82 = 3 := by kernel_rfl
  have cu : Try.prog.cellsOf 5 = 1 := by kernel_rfl
  have ci : Try.prog.cellsOf 3 = 1 := by kernel_rfl
  have hr : reachBytes = 140737488351232 := by decide +kernel
  have hm63 : maxLen = 9223372036854775807 := by decide +kernel
  rcases open_slice Try.underlying66 hf with ⟨hcs0, hx⟩ | ⟨a, len', cap', m, n, D, Pl, hcs0, _, hl, hm, hmm, hx, hrows⟩
  · simp [Value.cells] at hcs0
    obtain ⟨rfl, rfl, rfl⟩ := hcs0
    exact ⟨⟨none, 0, 0⟩, [], rfl, ⟨rfl, Nat.le_refl _, Nat.zero_le _, fun _ => rfl, fun a ha => by cases ha⟩, by simp, by simp⟩
  · simp [Value.cells] at hcs0
    obtain ⟨rfl, rfl, rfl⟩ := hcs0
    simp only [Prod.mk.injEq] at hx
    obtain ⟨rfl, _⟩ := hx
    have hmm : m = cap := by simpa using hmm
    subst hmm
    have each : ∀ i, i < len → ∃ x : Mg, 0 ≤ x.1 ∧ ∀ j, j < 3 → W.cell? (a.add (i * 3 + j)) = (mgV x)[j]? := by
      intro i hi
      obtain ⟨cs', h1, h2⟩ := hrows i (by omega)
      rw [c3] at h1
      obtain ⟨_, hlen, hcell⟩ := World.cells?_some h1
      obtain ⟨y0, y1, y2, k, _, _, g0, g1, g2⟩ := trod_struct3 Try.underlying82 h2
      match cs', hlen with
      | [v0, v1, v2], _ =>
        have g0' : DataW.trod enc Try.prog W 0 (fun _ => true) true k 5 [v0] = some y0 := by simpa [cu] using g0
        have g1' : DataW.trod enc Try.prog W 0 (fun _ => true) true k 3 [v1] = some y1 := by simpa [ci] using g1
        have g2' : DataW.trod enc Try.prog W 0 (fun _ => true) true k 3 [v2] = some y2 := by simpa [ci] using g2
        obtain ⟨n0, e0, _, w0⟩ := DataW.trod_int Try.underlying5 g0'
        obtain ⟨n1, e1, _, _⟩ := DataW.trod_int Try.underlying3 g1'
        obtain ⟨n2, e2, _, _⟩ := DataW.trod_int Try.underlying3 g2'
        simp only [List.cons.injEq, and_true] at e0 e1 e2
        subst e0 e1 e2
        refine ⟨(n0, n1, n2), ?_, fun j hj => ?_⟩
        · have h0 := of_decide_eq_true (Bool.and_eq_true_iff.1 w0).1
          have h1 : IntKind.u8.min = 0 := by decide +kernel
          rw [h1] at h0
          exact h0
        · have := hcell j hj
          rw [add_add'] at this
          exact this
    obtain ⟨q, hq⟩ := choose_lt each
    refine ⟨⟨some a, len, m⟩, (List.range len).map q, rfl, ⟨by simp, hl, by rw [← hm63]; exact hm, (fun h => by cases h), ?_⟩, ?_, ?_⟩
    · intro a' ha i hi j hj
      cases ha
      have hi' : i < len := by simpa using hi
      rw [(hq i hi').2 j hj]
      simp
    · have := hz (((List.range len).map D).length * 24 + ((List.range (m - len)).map fun j => D (len + j)).length * 24)
        (by simp only [DataW.weights, Try.underlying66, b24, ← Nat.add_mul]; exact List.mem_cons_self)
      simp only [List.length_map, List.length_range] at this ⊢
      omega
    · intro x hx
      obtain ⟨i, hi, rfl⟩ := List.mem_map.1 hx
      exact (hq i (List.mem_range.1 hi)).1
end
end Jn
end Go.Proofs
