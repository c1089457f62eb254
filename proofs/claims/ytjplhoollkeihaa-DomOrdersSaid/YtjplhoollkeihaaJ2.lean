/-
  A given row's argument that is a struct of a [][]int and three ints.
-/
import Derived.Test.YtjplhoollkeihaaJ
import Derived.Deep.Strs
namespace Go.Proofs
open Go.Gk Go.RowKit Go.ChangeShapes Go.WideShapes Go.Deep

namespace Jn
section
variable {H : Type} {enc : TypeId × Value → H}
theorem open_rowsC {W : World} {fuel0 : Nat} {cs : List Value} {d : DataW H} {p : List MemPlace} (hf : DataW.trod enc Try.prog W 0 (fun _ => true) true fuel0 22 cs = some (d, p))
    (hz : ∀ n ∈ d.weights Try.prog 22, n ≤ reachBytes) :
    ∃ (s : Sl) (hs : List Sl) (ll : List (List Int)), cs = [.slice s.a s.l s.c] ∧ IsII W s hs ll ∧ 24 * ll.length ≤ 281474976710656 ∧ ∀ l ∈ ll, 8 * l.length ≤ 281474976710656 := by
  have b24 : Try.prog.bytesOf 32 = 24 := by kernel_rfl
  have b8 : Try.prog.bytesOf 3 = 8 := by kernel_rfl
  have hr : reachBytes = 140737488351232 := by decide +kernel
  have hm63 : maxLen = 9223372036854775807 := by decide +kernel
  rcases open_int_rows Try.underlying22 Try.underlying32 Try.underlying3 (by kernel_rfl) (by kernel_rfl) hf with ⟨hcs0, hx⟩ | ⟨a, len, cap, A, L, C, Z, hcs0, _, hl, hm, hx, hrows⟩
  · exact ⟨⟨none, 0, 0⟩, [], [], hcs0, ⟨⟨rfl, Nat.le_refl _, Nat.zero_le _, fun _ => rfl, fun a ha => by cases ha⟩, rfl, fun i hi => by cases hi⟩, by simp, by simp⟩
  · simp only [Prod.mk.injEq] at hx
    obtain ⟨rfl, _⟩ := hx
    have each : ∀ r, r < cap → IsI W ⟨A r, L r, C r⟩ ((Z r).take (L r)) := by
      intro r hr'
      obtain ⟨_, h1, h2, h3, _, h5, h6⟩ := hrows r hr'
      refine ⟨by rw [List.length_take]; show L r = _; omega, h1, by rw [← hm63]; exact h2, h5, fun a' ha i hi => ?_⟩
      have hi' : i < L r := by rw [List.length_take] at hi; omega
      have := (h6 a' ha).2 i (by omega)
      rw [this]
      simp [List.getD, show i < (Z r).length by omega]
    refine ⟨⟨some a, len, cap⟩, (List.range len).map fun r => ⟨A r, L r, C r⟩, (List.range len).map fun r => (Z r).take (L r), hcs0, ⟨⟨by simp, hl, by rw [← hm63]; exact hm, (fun h => by cases h), ?_⟩, by simp, ?_⟩, ?_, ?_⟩
    · intro a' ha i hi
      cases ha
      have hi' : i < len := by simpa using hi
      rw [(hrows i (by omega)).1]
      simp [Sl.val]
    · intro i hi hi'
      have hi'' : i < len := by simpa using hi
      simp only [List.getElem_map, List.getElem_range]
      exact each i (by omega)
    · have := hz (((List.range len).map fun r => intRow (H := H) .i64 (A r) (L r) (Z r)).length * 24 + ((List.range (cap - len)).map fun j => intRow (H := H) .i64 (A (len + j)) (L (len + j)) (Z (len + j))).length * 24)
        (by simp only [DataW.weights, Try.underlying22, b24, ← Nat.add_mul]; exact List.mem_cons_self)
      simp only [List.length_map, List.length_range] at this ⊢
      omega
    · intro l hl'
      obtain ⟨r, hr', rfl⟩ := List.mem_map.1 hl'
      have hr' := List.mem_range.1 hr'
      rw [List.length_take]
      obtain ⟨_, h1, h2, h3, _, h5, h6⟩ := hrows r (by omega)
      cases hA : A r with
      | none => have := h5 hA; omega
      | some a' =>
        have hmem : intRow (H := H) .i64 (A r) (L r) (Z r) ∈ (List.range len).map fun r => intRow (H := H) .i64 (A r) (L r) (Z r) := List.mem_map.2 ⟨r, List.mem_range.2 hr', rfl⟩
        have hn : ((lits (H := H) .i64 ((Z r).take (L r))).length + (lits (H := H) .i64 ((Z r).drop (L r))).length) * 8 ∈ (intRow (H := H) .i64 (A r) (L r) (Z r)).weights Try.prog 32 := by
          rw [hA]
          simp only [intRow, DataW.weights, Try.underlying32, b8]
          exact List.mem_cons_self
        have := hz _ (by
          simp only [DataW.weights, Try.underlying22]
          exact List.mem_cons_of_mem _ (List.mem_append.2 (.inl (weights_all hn hmem))))
        simp only [lits, List.length_map, List.length_take, List.length_drop] at this
        omega
theorem intC {W : World} {fuel : Nat} {cs : List Value} {x : DataW H × List MemPlace} (hf : DataW.trod enc Try.prog W 0 (fun _ => true) true fuel 3 cs = some x) : ∃ n : Int, cs = [.int .i64 n] := by
  obtain ⟨n', h, _, _⟩ := DataW.trod_int Try.underlying3 hf
  exact ⟨n', h⟩
set_option maxRecDepth 100000 in
theorem open_three {W : World} {base : Nat} {v : Value} {d : DataW H} {p : List MemPlace} (hv : Value.okWide Try.prog W .any base 61 v) (h0 : DataW.Trod enc Try.prog W 0 (fun _ => true) true 61 v d p)
    (hz : ∀ n ∈ d.weights Try.prog 61, n ≤ reachBytes) :
    ∃ (s : Sl) (hs : List Sl) (ll : List (List Int)) (a b c : Int), v = .agg #[.slice s.a s.l s.c, .int .i64 a, .int .i64 b, .int .i64 c] ∧ IsII W s hs ll ∧ 24 * ll.length ≤ 281474976710656 ∧ ∀ l ∈ ll, 8 * l.length ≤ 281474976710656 := by
  obtain ⟨cs, rfl, hcs⟩ := okWide_struct Try.underlying61 hv
  obtain ⟨fuel, hf⟩ := h0
  obtain ⟨xs, n, _, hx, hl, hlen, hff⟩ := DataW.trod_struct Try.underlying61 hf
  have hsz : Try.prog.cellsOf 61 = 4 := by kernel_rfl
  have c0 : Try.prog.cellsOf 22 = 1 := by kernel_rfl
  have c1 : Try.prog.cellsOf 3 = 1 := by kernel_rfl
  rw [hsz] at hcs
  match xs, hlen with
  | [y0, y1, y2, y3], _ =>
    have f0 := hff 0 _ rfl
    have f1 := hff 1 _ rfl
    have f2 := hff 2 _ rfl
    have f3 := hff 3 _ rfl
    obtain ⟨u0, u1, u2, u3, hu⟩ : ∃ u0 u1 u2 u3, cs.toList = [u0, u1, u2, u3] := by
      have hl4 : cs.toList.length = 4 := by simpa using hcs
      match cs.toList, hl4 with
      | [u0, u1, u2, u3], _ => exact ⟨u0, u1, u2, u3, rfl⟩
    have hce : (Value.agg cs).cells.toList = [u0, u1, u2, u3] := by simpa [Value.cells] using hu
    simp only [hce, List.getElem?_cons_zero, List.getElem?_cons_succ] at f0 f1 f2 f3
    obtain ⟨z0, e0, f0⟩ : ∃ z, some y0 = some z ∧ DataW.trod enc Try.prog W 0 (fun _ => true) true n 22 [u0] = some z := ⟨y0, rfl, by simpa [c0] using f0⟩
    cases e0
    have f1' : DataW.trod enc Try.prog W 0 (fun _ => true) true n 3 [u1] = some y1 := by simpa [c1] using f1
    have f2' : DataW.trod enc Try.prog W 0 (fun _ => true) true n 3 [u2] = some y2 := by simpa [c1] using f2
    have f3' : DataW.trod enc Try.prog W 0 (fun _ => true) true n 3 [u3] = some y3 := by simpa [c1] using f3
    obtain ⟨a, ha⟩ := intC f1'
    obtain ⟨b, hb⟩ := intC f2'
    obtain ⟨c, hc⟩ := intC f3'
    simp only [Prod.mk.injEq] at hx
    obtain ⟨rfl, _⟩ := hx
    obtain ⟨s, hs, ll, h1, h2, h3, h4⟩ := open_rowsC (d := y0.1) (p := y0.2) f0 (fun m hm => hz m (by
      simp only [DataW.weights, Try.underlying61]
      exact DataW.weights_mem_each (j := 0) (t := 22) rfl rfl m hm))
    refine ⟨s, hs, ll, a, b, c, ?_, h2, h3, h4⟩
    have : cs = cs.toList.toArray := by simp
    rw [this, hu]
    simp only [List.cons.injEq, and_true] at ha hb hc h1
    rw [ha, hb, hc, h1]
end
end Jn
end Go.Proofs
