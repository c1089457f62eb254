/-
  A given row's argument that is a list of words.
-/
import Derived.Test.YtpeonjpjphhenaaJMo
namespace Go.Proofs
open Go.Gk Go.RowKit Go.ChangeShapes Go.WideShapes Go.Deep

namespace Jn
section
variable {H : Type} {enc : TypeId × Value → H}
set_option maxRecDepth 100000 in
/-- A []uint32 that is handed in. -/
theorem open_words {W : World} {base : Nat} {v : Value} {d : DataW H} {p : List MemPlace} (hv : Value.okWide Try.prog W .any base 36 v) (h0 : DataW.Trod enc Try.prog W 0 (fun _ => true) true 36 v d p)
    (hz : ∀ n ∈ d.weights Try.prog 36, n ≤ reachBytes) :
    ∃ (s : Sl) (T : List Int), v = .slice s.a s.l s.c ∧ IsS (Value.int .u32) W s T ∧ 4 * T.length ≤ 140737488351232 := by
  obtain ⟨a0, len, cap, rfl⟩ := okWide_slice Try.underlying36 hv
  obtain ⟨fuel, hf⟩ := h0
  have b4 : Try.prog.bytesOf 22 = 4 := by kernel_rfl
  have c1 : Try.prog.cellsOf 22 = 1 := by kernel_rfl
  have hr : reachBytes = 140737488351232 := by decide +kernel
  have hm63 : maxLen = 9223372036854775807 := by decide +kernel
  rcases open_slice Try.underlying36 hf with ⟨hcs0, hx⟩ | ⟨a, len', cap', m, n, D, Pl, hcs0, _, hl, hm, hmm, hx, hrows⟩
  · simp [Value.cells] at hcs0
    obtain ⟨rfl, rfl, rfl⟩ := hcs0
    exact ⟨⟨none, 0, 0⟩, [], rfl, ⟨rfl, Nat.le_refl _, Nat.zero_le _, fun _ => rfl, fun a ha => by cases ha⟩, by simp⟩
  · simp [Value.cells] at hcs0
    obtain ⟨rfl, rfl, rfl⟩ := hcs0
    simp only [Prod.mk.injEq] at hx
    obtain ⟨rfl, _⟩ := hx
    have hmm : m = cap := by simpa using hmm
    subst hmm
    have hw := hz (((List.range len).map D).length * 4 + ((List.range (m - len)).map fun j => D (len + j)).length * 4)
        (by simp only [DataW.weights, Try.underlying36, b4, ← Nat.add_mul]; exact List.mem_cons_self)
    have each : ∀ i, i < len → ∃ q : Int, True ∧ W.cell? (a.add i) = some (.int .u32 q) := by
      intro i hi
      obtain ⟨cs', h1, h2⟩ := hrows i (by omega)
      rw [c1] at h1
      obtain ⟨_, hlen, hcell⟩ := World.cells?_some h1
      have hc0 := hcell 0 (by omega)
      rw [add_add', Nat.mul_one, Nat.add_zero] at hc0
      match cs', hlen with
      | [u0], _ =>
        obtain ⟨q, hq, _⟩ := uI Try.underlying22 h2
        simp only [List.cons.injEq, and_true] at hq
        subst hq
        exact ⟨q, trivial, hc0⟩
    obtain ⟨q, hq⟩ := choose_lt each
    refine ⟨⟨some a, len, m⟩, (List.range len).map q, rfl, ⟨by simp, hl, by rw [← hm63]; exact hm, (fun h => by cases h), ?_⟩, ?_⟩
    · intro a' ha i hi
      cases ha
      have hi' : i < len := by simpa using hi
      simp only [List.getElem_map, List.getElem_range]
      exact (hq i hi').2
    · simp only [List.length_map, List.length_range] at hw ⊢
      omega
end
end Jn
end Go.Proofs
