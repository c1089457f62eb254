/-
  A given row's argument that is an instruction.
-/
import Derived.Test.YtpeonjpjphhenaaJ
import Derived.Test.YtpeonjpjphhenaaGkC
import Derived.Deep.Strs
namespace Go.Proofs
open Go.Gk Go.RowKit Go.ChangeShapes Go.WideShapes Go.Deep

namespace Jn
section
variable {H : Type} {enc : TypeId × Value → H}
theorem uI {W : World} {fuel : Nat} {cs : List Value} {t : TypeId} {κ : IntKind} {x : DataW H × List MemPlace} (ht : Try.prog.underlying t = some (.int κ)) (hf : DataW.trod enc Try.prog W 0 (fun _ => true) true fuel t cs = some x) :
    ∃ n : Int, cs = [.int κ n] ∧ κ.min ≤ n ∧ n ≤ κ.max := by
  obtain ⟨n, h, _, w⟩ := DataW.trod_int ht hf
  have h1 := Bool.and_eq_true_iff.1 w
  exact ⟨n, h, of_decide_eq_true h1.1, of_decide_eq_true h1.2⟩
set_option maxRecDepth 100000 in
/-- A []api.Arg in the cells cs. -/
theorem open_argsC {W : World} {fuel0 : Nat} {cs : List Value} {d : DataW H} {p : List MemPlace} (hf : DataW.trod enc Try.prog W 0 (fun _ => true) true fuel0 43 cs = some (d, p))
    (hz : ∀ n ∈ d.weights Try.prog 43, n ≤ reachBytes) :
    ∃ (s : Sl) (l : List Ag), cs = [.slice s.a s.l s.c] ∧ IsAg W s l ∧ 24 * l.length ≤ 140737488351232 ∧ ∀ x ∈ l, (0 ≤ x.1 ∧ x.1 ≤ 255) ∧ (0 ≤ x.2.1 ∧ x.2.1 ≤ 4294967295) ∧ x.2.2.size ≤ 9223372036854775807 := by
  have b24 : Try.prog.bytesOf 87 = 24 := by kernel_rfl
  have c3 : Try.prog.cellsOf 87 = 3 := by kernel_rfl
  have cu : Try.prog.cellsOf 5 = 1 := by kernel_rfl
  have cw : Try.prog.cellsOf 22 = 1 := by kernel_rfl
  have ci : Try.prog.cellsOf 9 = 1 := by kernel_rfl
  have hr : reachBytes = 140737488351232 := by decide +kernel
  have hm63 : maxLen = 9223372036854775807 := by decide +kernel
  rcases open_slice Try.underlying43 hf with ⟨hcs0, hx⟩ | ⟨a, len, cap, m, n, D, Pl, hcs0, _, hl, hm, hmm, hx, hrows⟩
  · exact ⟨⟨none, 0, 0⟩, [], hcs0, ⟨rfl, Nat.le_refl _, Nat.zero_le _, fun _ => rfl, fun a ha => by cases ha⟩, by simp, by simp⟩
  · simp only [Prod.mk.injEq] at hx
    obtain ⟨rfl, _⟩ := hx
    have hmm : m = cap := by simpa using hmm
    subst hmm
    have each : ∀ i, i < len → ∃ x : Ag, ((0 ≤ x.1 ∧ x.1 ≤ 255) ∧ (0 ≤ x.2.1 ∧ x.2.1 ≤ 4294967295) ∧ x.2.2.size ≤ 9223372036854775807) ∧ ∀ j, j < 3 → W.cell? (a.add (i * 3 + j)) = (agV x)[j]? := by
      intro i hi
      obtain ⟨cs', h1, h2⟩ := hrows i (by omega)
      rw [c3] at h1
      obtain ⟨_, hlen, hcell⟩ := World.cells?_some h1
      obtain ⟨y0, y1, y2, k, _, _, g0, g1, g2⟩ := trod_struct3 Try.underlying87 h2
      match cs', hlen with
      | [v0, v1, v2], _ =>
        have g0' : DataW.trod enc Try.prog W 0 (fun _ => true) true k 5 [v0] = some y0 := by simpa [cu] using g0
        have g1' : DataW.trod enc Try.prog W 0 (fun _ => true) true k 22 [v1] = some y1 := by simpa [cw] using g1
        have g2' : DataW.trod enc Try.prog W 0 (fun _ => true) true k 9 [v2] = some y2 := by simpa [ci] using g2
        obtain ⟨n0, e0, a0, b0⟩ := uI Try.underlying5 g0'
        obtain ⟨n1, e1, a1, b1⟩ := uI Try.underlying22 g1'
        obtain ⟨n2, e2, _, w2⟩ := DataW.trod_string Try.underlying9 g2'
        simp only [List.cons.injEq, and_true] at e0 e1 e2
        subst e0 e1 e2
        refine ⟨(n0, n1, n2), ⟨⟨?_, ?_⟩, ⟨?_, ?_⟩, ?_⟩, fun j hj => ?_⟩
        · rw [show IntKind.u8.min = 0 by decide +kernel] at a0; exact a0
        · rw [show IntKind.u8.max = 255 by decide +kernel] at b0; exact b0
        · rw [show IntKind.u32.min = 0 by decide +kernel] at a1; exact a1
        · rw [show IntKind.u32.max = 4294967295 by decide +kernel] at b1; exact b1
        · rw [← hm63]; exact w2
        · have := hcell j hj
          rw [add_add'] at this
          exact this
    obtain ⟨q, hq⟩ := choose_lt each
    refine ⟨⟨some a, len, m⟩, (List.range len).map q, hcs0, ⟨by simp, hl, by rw [← hm63]; exact hm, (fun h => by cases h), ?_⟩, ?_, ?_⟩
    · intro a' ha i hi j hj
      cases ha
      have hi' : i < len := by simpa using hi
      rw [(hq i hi').2 j hj]
      simp
    · have := hz (((List.range len).map D).length * 24 + ((List.range (m - len)).map fun j => D (len + j)).length * 24)
        (by simp only [DataW.weights, Try.underlying43, b24, ← Nat.add_mul]; exact List.mem_cons_self)
      simp only [List.length_map, List.length_range] at this ⊢
      omega
    · intro x hx
      obtain ⟨i, hi, rfl⟩ := List.mem_map.1 hx
      exact (hq i (List.mem_range.1 hi)).1
set_option maxRecDepth 100000 in
/-- An api.Inst that is handed in. -/
theorem open_inst {W : World} {base : Nat} {v : Value} {d : DataW H} {p : List MemPlace} (hv : Value.okWide Try.prog W .any base 45 v) (h0 : DataW.Trod enc Try.prog W 0 (fun _ => true) true 45 v d p)
    (hz : ∀ n ∈ d.weights Try.prog 45, n ≤ reachBytes) :
    ∃ (s : Sl) (l : List Ag) (a b c : Int), v = .agg #[.int .u16 a, .int .u32 b, .int .u32 c, .slice s.a s.l s.c] ∧ IsAg W s l ∧ 24 * l.length ≤ 140737488351232 ∧ (∀ x ∈ l, (0 ≤ x.1 ∧ x.1 ≤ 255) ∧ (0 ≤ x.2.1 ∧ x.2.1 ≤ 4294967295) ∧ x.2.2.size ≤ 9223372036854775807) ∧ (0 ≤ a ∧ a ≤ 65535) := by
  obtain ⟨cs, rfl, hcs⟩ := okWide_struct Try.underlying45 hv
  obtain ⟨fuel, hf⟩ := h0
  obtain ⟨xs, n, _, hx, hl, hlen, hff⟩ := DataW.trod_struct Try.underlying45 hf
  have hsz : Try.prog.cellsOf 45 = 4 := by kernel_rfl
  have c0 : Try.prog.cellsOf 42 = 1 := by kernel_rfl
  have c1 : Try.prog.cellsOf 22 = 1 := by kernel_rfl
  have c3 : Try.prog.cellsOf 43 = 1 := by kernel_rfl
  rw [hsz] at hcs
  match xs, hlen with
  | [y0, y1, y2, y3], _ =>
    have f0 := hff 0 _ rfl
    have f1 := hff 1 _ rfl
    have f2 := hff 2 _ rfl
    have f3 := hff 3 _ rfl
    obtain ⟨u0, u1, u2, u3, hu⟩ : ∃ u0 u1 u2 u3, cs.toList = [u0, u1, u2, u3] := by
      have hl4 : cs.toList.length = 4 := by simpa using hcs
      match cs.toList, hl4 with
      | [u0, u1, u2, u3], _ => exact ⟨u0, u1, u2, u3, rfl⟩
    have hce : (Value.agg cs).cells.toList = [u0, u1, u2, u3] := by simpa [Value.cells] using hu
    simp only [hce, List.getElem?_cons_zero, List.getElem?_cons_succ] at f0 f1 f2 f3
    have f0' : DataW.trod enc Try.prog W 0 (fun _ => true) true n 42 [u0] = some y0 := by simpa [c0] using f0
    have f1' : DataW.trod enc Try.prog W 0 (fun _ => true) true n 22 [u1] = some y1 := by simpa [c1] using f1
    have f2' : DataW.trod enc Try.prog W 0 (fun _ => true) true n 22 [u2] = some y2 := by simpa [c1] using f2
    have f3' : DataW.trod enc Try.prog W 0 (fun _ => true) true n 43 [u3] = some y3 := by simpa [c3] using f3
    obtain ⟨a, ha, a0, a1⟩ := uI Try.underlying42 f0'
    obtain ⟨b, hb, _⟩ := uI Try.underlying22 f1'
    obtain ⟨c, hc, _⟩ := uI Try.underlying22 f2'
    simp only [Prod.mk.injEq] at hx
    obtain ⟨rfl, _⟩ := hx
    obtain ⟨s, l, h1, h2, h3, h4⟩ := open_argsC (d := y3.1) (p := y3.2) f3' (fun m hm => hz m (by
      simp only [DataW.weights, Try.underlying45]
      exact DataW.weights_mem_each (j := 3) (t := 43) rfl rfl m hm))
    refine ⟨s, l, a, b, c, ?_, h2, h3, h4, ⟨?_, ?_⟩⟩
    · have : cs = cs.toList.toArray := by simp
      rw [this, hu]
      simp only [List.cons.injEq, and_true] at ha hb hc h1
      rw [ha, hb, hc, h1]
    · rw [show IntKind.u16.min = 0 by decide +kernel] at a0; exact a0
    · rw [show IntKind.u16.max = 65535 by decide +kernel] at a1; exact a1
end
end Jn
end Go.Proofs
