/-
  A given row's argument that is a [][]int, with the finer bounds.
-/
import Derived.Test.YtjplhoollkeihaaJ
namespace Go.Proofs
open Go.Gk Go.RowKit Go.ChangeShapes Go.WideShapes Go.Deep

namespace Jn
section
variable {H : Type} {enc : TypeId × Value → H}
set_option maxRecDepth 20000 in
/-- A [][]int that is handed in. -/
theorem open_rowsF {W : World} {base : Nat} {v : Value} {d : DataW H} {p : List MemPlace} (hv : Value.okWide Try.prog W .any base 22 v) (h0 : DataW.Trod enc Try.prog W 0 (fun _ => true) true 22 v d p)
    (hz : ∀ n ∈ d.weights Try.prog 22, n ≤ reachBytes) :
    ∃ s hs ll, v = .slice s.a s.l s.c ∧ IsII W s hs ll ∧ 24 * ll.length ≤ 140737488351232 ∧ ∀ l ∈ ll, 8 * l.length ≤ 140737488351232 := by
  obtain ⟨a0, len, cap, rfl⟩ := okWide_slice Try.underlying22 hv
  obtain ⟨fuel0, hf⟩ := h0
  have b24 : Try.prog.bytesOf 32 = 24 := by kernel_rfl
  have b8 : Try.prog.bytesOf 3 = 8 := by kernel_rfl
  have hr : reachBytes = 140737488351232 := by decide +kernel
  have hm63 : maxLen = 9223372036854775807 := by decide +kernel
  rcases open_int_rows Try.underlying22 Try.underlying32 Try.underlying3 (by kernel_rfl) (by kernel_rfl) hf with ⟨hcs0, hx⟩ | ⟨a, len', cap', A, L, C, Z, hcs0, _, hl, hm, hx, hrows⟩
  · simp [Value.cells] at hcs0
    obtain ⟨rfl, rfl, rfl⟩ := hcs0
    exact ⟨⟨none, 0, 0⟩, [], [], rfl, ⟨⟨rfl, Nat.le_refl _, Nat.zero_le _, fun _ => rfl, fun a ha => by cases ha⟩, rfl, fun i hi => by cases hi⟩, by simp, by simp⟩
  · simp [Value.cells] at hcs0
    obtain ⟨rfl, rfl, rfl⟩ := hcs0
    simp only [Prod.mk.injEq] at hx
    obtain ⟨rfl, _⟩ := hx
    have each : ∀ r, r < cap → IsI W ⟨A r, L r, C r⟩ ((Z r).take (L r)) := by
      intro r hr'
      obtain ⟨_, h1, h2, h3, _, h5, h6⟩ := hrows r hr'
      refine ⟨by rw [List.length_take]; show L r = _; omega, h1, by rw [← hm63]; exact h2, h5, fun a' ha i hi => ?_⟩
      have hi' : i < L r := by rw [List.length_take] at hi; omega
      have := (h6 a' ha).2 i (by omega)
      rw [this]
      simp [List.getD, show i < (Z r).length by omega]
    refine ⟨⟨some a, len, cap⟩, (List.range len).map fun r => ⟨A r, L r, C r⟩, (List.range len).map fun r => (Z r).take (L r), rfl, ⟨⟨by simp, hl, by rw [← hm63]; exact hm, (fun h => by cases h), ?_⟩, by simp, ?_⟩, ?_, ?_⟩
    · intro a' ha i hi
      cases ha
      have hi' : i < len := by simpa using hi
      rw [(hrows i (by omega)).1]
      simp [Sl.val]
    · intro i hi hi'
      have hi'' : i < len := by simpa using hi
      simp only [List.getElem_map, List.getElem_range]
      exact each i (by omega)
    · have := hz (((List.range len).map fun r => intRow (H := H) .i64 (A r) (L r) (Z r)).length * 24 + ((List.range (cap - len)).map fun j => intRow (H := H) .i64 (A (len + j)) (L (len + j)) (Z (len + j))).length * 24)
        (by simp only [DataW.weights, Try.underlying22, b24, ← Nat.add_mul]; exact List.mem_cons_self)
      simp only [List.length_map, List.length_range] at this ⊢
      omega
    · intro l hl'
      obtain ⟨r, hr', rfl⟩ := List.mem_map.1 hl'
      have hr' := List.mem_range.1 hr'
      rw [List.length_take]
      obtain ⟨_, h1, h2, h3, _, h5, h6⟩ := hrows r (by omega)
      cases hA : A r with
      | none => have := h5 hA; omega
      | some a' =>
        have hmem : intRow (H := H) .i64 (A r) (L r) (Z r) ∈ (List.range len).map fun r => intRow (H := H) .i64 (A r) (L r) (Z r) := List.mem_map.2 ⟨r, List.mem_range.2 hr', rfl⟩
        have hn : ((lits (H := H) .i64 ((Z r).take (L r))).length + (lits (H := H) .i64 ((Z r).drop (L r))).length) * 8 ∈ (intRow (H := H) .i64 (A r) (L r) (Z r)).weights Try.prog 32 := by
          rw [hA]
          simp only [intRow, DataW.weights, Try.underlying32, b8]
          exact List.mem_cons_self
        have := hz _ (by
          simp only [DataW.weights, Try.underlying22]
          exact List.mem_cons_of_mem _ (List.mem_append.2 (.inl (weights_all hn hmem))))
        simp only [lits, List.length_map, List.length_take, List.length_drop] at this
        omega
end
end Jn
end Go.Proofs
