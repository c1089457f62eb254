/-
  A given row's argument that is a module.
-/
import Derived.Test.YtpeonjpjphhenaaJI
namespace Go.Proofs
open Go.Gk Go.RowKit Go.ChangeShapes Go.WideShapes Go.Deep

namespace Jn
section
variable {H : Type} {enc : TypeId × Value → H}
set_option maxRecDepth 100000 in
/-- An api.Inst in the cells cs. -/
theorem open_instC {W : World} {fuel : Nat} {cs : List Value} {d : DataW H} {p : List MemPlace} (hf : DataW.trod enc Try.prog W 0 (fun _ => true) true fuel 45 cs = some (d, p))
    (hz : ∀ n ∈ d.weights Try.prog 45, n ≤ reachBytes) :
    ∃ (q : PI) (t : Sl), cs = inV (mkIn q t) ∧ IsAg W t q.2.2.2 ∧ 24 * q.2.2.2.length ≤ 140737488351232 ∧ (∀ x ∈ q.2.2.2, x.2.2.size ≤ 9223372036854775807) ∧
      ((0 ≤ q.2.1 ∧ q.2.1 ≤ 4294967295) ∧ (0 ≤ q.2.2.1 ∧ q.2.2.1 ≤ 4294967295) ∧ ∀ x ∈ q.2.2.2, 0 ≤ x.2.1 ∧ x.2.1 ≤ 4294967295) := by
  obtain ⟨xs, n, _, hx, hl, hlen, hff⟩ := DataW.trod_struct Try.underlying45 hf
  have hsz : Try.prog.cellsOf 45 = 4 := by kernel_rfl
  have c0 : Try.prog.cellsOf 42 = 1 := by kernel_rfl
  have c1 : Try.prog.cellsOf 22 = 1 := by kernel_rfl
  have c3 : Try.prog.cellsOf 43 = 1 := by kernel_rfl
  rw [hsz] at hl
  match xs, hlen, cs, hl with
  | [y0, y1, y2, y3], _, [u0, u1, u2, u3], _ =>
    have f0 := hff 0 _ rfl
    have f1 := hff 1 _ rfl
    have f2 := hff 2 _ rfl
    have f3 := hff 3 _ rfl
    simp only [List.getElem?_cons_zero, List.getElem?_cons_succ] at f0 f1 f2 f3
    have f0' : DataW.trod enc Try.prog W 0 (fun _ => true) true n 42 [u0] = some y0 := by simpa [c0] using f0
    have f1' : DataW.trod enc Try.prog W 0 (fun _ => true) true n 22 [u1] = some y1 := by simpa [c1] using f1
    have f2' : DataW.trod enc Try.prog W 0 (fun _ => true) true n 22 [u2] = some y2 := by simpa [c1] using f2
    have f3' : DataW.trod enc Try.prog W 0 (fun _ => true) true n 43 [u3] = some y3 := by simpa [c3] using f3
    obtain ⟨a, ha, _⟩ := uI Try.underlying42 f0'
    obtain ⟨b, hb, b0, b1⟩ := uI Try.underlying22 f1'
    obtain ⟨c, hc, c0', c1'⟩ := uI Try.underlying22 f2'
    simp only [Prod.mk.injEq] at hx
    obtain ⟨rfl, _⟩ := hx
    obtain ⟨s, l, h1, h2, h3, h4⟩ := open_argsC (d := y3.1) (p := y3.2) f3' (fun m hm => hz m (by
      simp only [DataW.weights, Try.underlying45]
      exact DataW.weights_mem_each (j := 3) (t := 43) rfl rfl m hm))
    rw [show IntKind.u32.min = 0 by decide +kernel] at b0 c0'
    rw [show IntKind.u32.max = 4294967295 by decide +kernel] at b1 c1'
    refine ⟨(a, b, c, l), s, ?_, h2, h3, fun x hx => (h4 x hx).2.2, ⟨b0, b1⟩, ⟨c0', c1'⟩, fun x hx => (h4 x hx).2.1⟩
    simp only [List.cons.injEq, and_true] at ha hb hc h1
    rw [ha, hb, hc, h1]
set_option maxRecDepth 100000 in
/-- A []api.Inst in the cells cs. -/
theorem open_instsC {W : World} {fuel0 : Nat} {cs : List Value} {d : DataW H} {p : List MemPlace} (hf : DataW.trod enc Try.prog W 0 (fun _ => true) true fuel0 23 cs = some (d, p))
    (hz : ∀ n ∈ d.weights Try.prog 23, n ≤ reachBytes) :
    ∃ (s : Sl) (pl : List PI), cs = [.slice s.a s.l s.c] ∧ IsPl W s pl ∧ PlOk pl := by
  have b40 : Try.prog.bytesOf 45 = 40 := by kernel_rfl
  have c4 : Try.prog.cellsOf 45 = 4 := by kernel_rfl
  have hr : reachBytes = 140737488351232 := by decide +kernel
  have hm63 : maxLen = 9223372036854775807 := by decide +kernel
  rcases open_slice Try.underlying23 hf with ⟨hcs0, hx⟩ | ⟨a, len, cap, m, n, D, Pl, hcs0, _, hl, hm, hmm, hx, hrows⟩
  · exact ⟨⟨none, 0, 0⟩, [], hcs0, ⟨rfl, Nat.le_refl _, Nat.zero_le _, fun _ => rfl, fun a ha => by cases ha⟩, ⟨by simp, by simp, by simp, by simp⟩⟩
  · simp only [Prod.mk.injEq] at hx
    obtain ⟨rfl, _⟩ := hx
    have hmm : m = cap := by simpa using hmm
    subst hmm
    have hw := hz (((List.range len).map D).length * 40 + ((List.range (m - len)).map fun j => D (len + j)).length * 40)
        (by simp only [DataW.weights, Try.underlying23, b40, ← Nat.add_mul]; exact List.mem_cons_self)
    have each : ∀ i, i < len → ∃ q : PI, (24 * q.2.2.2.length ≤ 140737488351232 ∧ (∀ x ∈ q.2.2.2, x.2.2.size ≤ 9223372036854775807) ∧
        ((0 ≤ q.2.1 ∧ q.2.1 ≤ 4294967295) ∧ (0 ≤ q.2.2.1 ∧ q.2.2.1 ≤ 4294967295) ∧ ∀ x ∈ q.2.2.2, 0 ≤ x.2.1 ∧ x.2.1 ≤ 4294967295)) ∧ ∃ t : Sl, (∀ j, j < 4 → W.cell? (a.add (i * 4 + j)) = (inV (mkIn q t))[j]?) ∧ IsAg W t q.2.2.2 := by
      intro i hi
      obtain ⟨cs', h1, h2⟩ := hrows i (by omega)
      rw [c4] at h1
      obtain ⟨_, hlen, hcell⟩ := World.cells?_some h1
      have hmem : D i ∈ (List.range len).map D := List.mem_map.2 ⟨i, List.mem_range.2 hi, rfl⟩
      obtain ⟨q, t, e, g1, g2, g3, g4⟩ := open_instC h2 (fun n hn => hz n (by
        simp only [DataW.weights, Try.underlying23]
        exact List.mem_cons_of_mem _ (List.mem_append.2 (.inl (weights_all hn hmem)))))
      subst e
      refine ⟨q, ⟨g2, g3, g4⟩, t, fun j hj => ?_, g1⟩
      have := hcell j hj
      rw [add_add'] at this
      exact this
    obtain ⟨q, hq⟩ := choose_lt each
    refine ⟨⟨some a, len, m⟩, (List.range len).map q, hcs0, ⟨by simp, hl, by rw [← hm63]; exact hm, (fun h => by cases h), ?_⟩, ?_, ?_, ?_, ?_⟩
    · intro a' ha i hi
      cases ha
      have hi' : i < len := by simpa using hi
      obtain ⟨t, h1, h2⟩ := (hq i hi').2
      simp only [List.getElem_map, List.getElem_range]
      exact ⟨t, h1, h2⟩
    · simp only [List.length_map, List.length_range] at hw ⊢
      omega
    · intro x hx
      obtain ⟨i, hi, rfl⟩ := List.mem_map.1 hx
      exact (hq i (List.mem_range.1 hi)).1.1
    · intro x hx
      obtain ⟨i, hi, rfl⟩ := List.mem_map.1 hx
      exact (hq i (List.mem_range.1 hi)).1.2.1
    · intro x hx
      obtain ⟨i, hi, rfl⟩ := List.mem_map.1 hx
      exact (hq i (List.mem_range.1 hi)).1.2.2
set_option maxRecDepth 100000 in
/-- An api.Module that is handed in. -/
theorem open_module {W : World} {base : Nat} {v : Value} {d : DataW H} {p : List MemPlace} (hv : Value.okWide Try.prog W .any base 25 v) (h0 : DataW.Trod enc Try.prog W 0 (fun _ => true) true 25 v d p)
    (hz : ∀ n ∈ d.weights Try.prog 25, n ≤ reachBytes) :
    ∃ (x : Mo) (pl : List PI), v = moA x ∧ IsPl W x.2.2.1 pl ∧ PlOk pl ∧ (0 ≤ x.2.1 ∧ x.2.1 ≤ 4294967295) := by
  obtain ⟨cs, rfl, hcs⟩ := okWide_struct Try.underlying25 hv
  obtain ⟨fuel, hf⟩ := h0
  obtain ⟨y0, y1, y2, n, hx, hl, f0, f1, f2⟩ := trod_struct3 Try.underlying25 hf
  have hsz : Try.prog.cellsOf 25 = 3 := by kernel_rfl
  have c1 : Try.prog.cellsOf 22 = 1 := by kernel_rfl
  have c3 : Try.prog.cellsOf 23 = 1 := by kernel_rfl
  rw [hsz] at hcs
  obtain ⟨u0, u1, u2, hu⟩ : ∃ u0 u1 u2, cs.toList = [u0, u1, u2] := by
    have hl3 : cs.toList.length = 3 := by simpa using hcs
    match cs.toList, hl3 with
    | [u0, u1, u2], _ => exact ⟨u0, u1, u2, rfl⟩
  have hce : (Value.agg cs).cells.toList = [u0, u1, u2] := by simpa [Value.cells] using hu
  rw [hce] at f0 f1 f2
  have f0' : DataW.trod enc Try.prog W 0 (fun _ => true) true n 22 [u0] = some y0 := by simpa [c1] using f0
  have f1' : DataW.trod enc Try.prog W 0 (fun _ => true) true n 22 [u1] = some y1 := by simpa [c1] using f1
  have f2' : DataW.trod enc Try.prog W 0 (fun _ => true) true n 23 [u2] = some y2 := by simpa [c3] using f2
  obtain ⟨a, ha, _⟩ := uI Try.underlying22 f0'
  obtain ⟨b, hb, b0, b1⟩ := uI Try.underlying22 f1'
  simp only [Prod.mk.injEq] at hx
  obtain ⟨rfl, _⟩ := hx
  obtain ⟨s, pl, h1, h2, h3⟩ := open_instsC (d := y2.1) (p := y2.2) f2' (fun m hm => hz m (by
    simp only [DataW.weights, Try.underlying25]
    exact DataW.weights_mem_each (j := 2) (t := 23) rfl rfl m hm))
  rw [show IntKind.u32.min = 0 by decide +kernel] at b0
  rw [show IntKind.u32.max = 4294967295 by decide +kernel] at b1
  refine ⟨(a, b, s, ()), pl, ?_, h2, h3, b0, b1⟩
  have : cs = cs.toList.toArray := by simp
  rw [this, hu]
  simp only [List.cons.injEq, and_true] at ha hb h1
  rw [ha, hb, h1]
end
end Jn
end Go.Proofs
