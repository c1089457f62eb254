/-
  The law's own graph of three nodes: what is in its construct, what is wrong with it.
-/
import Derived.Test.Ytjplhoollkeihaa16i
namespace Go.Proofs
open Go.Gk Go.RowKit Go.Gr Go.Dm

abbrev awL : List (List Int) := [[1, 2], [2], []]
abbrev awX : List (List Nat) := [[1, 2], [2], []]
abbrev awM (k : Int) : List Mg := [(k, 2, -1), (0, 0, 0), (0, 0, 0)]
theorem aw_edges : edges awL = awX := by decide +kernel
theorem aw_good : Good awL := by unfold Good; decide +kernel
theorem aw_ok : NxOk awX := by rw [← aw_edges]; exact edges_ok (by decide) (by decide) aw_good
theorem aw_wide1 : wideX awX (awM 1) = awX := by decide +kernel
theorem aw_wide0 : wideX awX (awM 0) = awX := by decide +kernel
theorem aw_order : orderOf awX = [0, 1, 2] := by decide +kernel
theorem aw_row {i t : Nat} (h : t ∈ awX.getD i []) : (i = 0 ∧ t = 1) ∨ (i = 0 ∧ t = 2) ∨ (i = 1 ∧ t = 2) := by
  match i with
  | 0 => simp at h; omega
  | 1 => simp at h; omega
  | 2 => simp at h
  | i + 3 => simp at h
theorem aw_reach {wo : Int} {t : Nat} (h : ReachN awX wo t) : wo ≠ 0 ∧ t ≤ 2 ∧ ((t : Int) = wo → False) := by
  induction h with
  | zero h _ => exact ⟨h, by omega, fun e => h e.symm⟩
  | step _ h h1 ih => rcases aw_row h with e | e | e <;> exact ⟨ih.1, by omega, h1⟩
theorem aw_mk {wo : Int} {t : Nat} (h0 : wo ≠ 0) (ht : t ≤ 2) (h : (t : Int) ≠ wo) : ReachN awX wo t := by
  have z : ReachN awX wo 0 := .zero h0 (by decide)
  match t, ht with
  | 0, _ => exact z
  | 1, _ => exact .step z (by decide) h
  | 2, _ => exact .step z (by decide) h
theorem aw_dom {a b : Nat} : DomR awX a b ↔ b ≤ 2 ∧ (a = b ∨ a = 0) := by
  refine ⟨fun ⟨h1, h2⟩ => ⟨(aw_reach h1).2.1, ?_⟩, fun ⟨h1, h2⟩ => ⟨aw_mk (by omega) h1 (by omega), ?_⟩⟩
  · rcases h2 with h2 | h2
    · exact .inl h2
    · by_cases e : a = b
      · exact .inl e
      · by_cases e0 : a = 0
        · exact .inr e0
        · exact absurd (aw_mk (by omega) (aw_reach h1).2.1 (by omega)) h2
  · rcases h2 with h2 | h2
    · exact .inl h2
    · subst h2; exact .inr fun h => (aw_reach h).1 (by simp)
theorem aw_DW {a b : Int} : DW awX a b ↔ 0 ≤ b ∧ b ≤ 2 ∧ (a = b ∨ a = 0) := by
  refine ⟨fun ⟨a', b', e1, e2, h⟩ => ?_, fun ⟨h1, h2, h3⟩ => ⟨a.toNat, b.toNat, by omega, by omega, aw_dom.2 (by omega)⟩⟩
  have := aw_dom.1 h
  omega

section
variable {w : World} {nb gb : Nat} {k : Int} {g : Nst}
theorem Nd.D_iff {nx : List (List Nat)} {ml : List Mg} (h : Nd w nb gb nx ml g) {a b : Int} : g.D a b ↔ DW g.wx a b := by
  obtain ⟨_, _, _, _, _, h0, _⟩ := h.ne.ex
  exact h0.D_iff a b
theorem Nd.hd_mem {nx : List (List Nat)} {ml : List Mg} (h : Nd w nb gb nx ml g) {x i : Nat} : x ∈ g.hd i ↔ g.In x i := by
  obtain ⟨_, _, _, _, _, h0, _⟩ := h.ne.ex
  exact h0.hd_mem
theorem Nd.hd_nodup {nx : List (List Nat)} {ml : List Mg} (h : Nd w nb gb nx ml g) (i : Nat) : (g.hd i).Nodup := by
  obtain ⟨_, _, _, _, _, h0, _⟩ := h.ne.ex
  exact h0.hd_nodup i
theorem only_one {l : List Nat} (hn : l.Nodup) {x : Nat} (h : ∀ y, y ∈ l ↔ y = x) : l = [x] := by
  match l, hn with
  | [], _ => exact absurd ((h x).2 rfl) (by simp)
  | [y], _ => rw [(h y).1 (by simp)]
  | y :: z :: r, hn =>
    have e1 := (h y).1 (by simp)
    have e2 := (h z).1 (by simp)
    simp [e1, e2] at hn

structure Aw (g : Nst) (k : Int) : Prop where
  nx : g.nx = awX
  wx : g.wx = awX
  kd0 : g.kd 0 = k
  to0 : g.to 0 = 2
  kd : ∀ i, i ≠ 0 → g.kd i = 0
  D : ∀ a b, g.D a b ↔ 0 ≤ b ∧ b ≤ 2 ∧ (a = b ∨ a = 0)
  hd : ∀ x i, x ∈ g.hd i ↔ g.In x i
  nd : ∀ i, (g.hd i).Nodup
theorem Aw.of (h : Nd w nb gb awX (awM k) g) (hw : wideX awX (awM k) = awX) : Aw g k := by
  have hwx : g.wx = awX := h.wxe.trans hw
  refine ⟨h.nxe, hwx, by simp [Nst.kd, h.mle], by simp [Nst.to, h.mle], fun i hi => ?_, fun a b => by rw [h.D_iff, hwx]; exact aw_DW, fun x i => h.hd_mem, fun i => h.hd_nodup i⟩
  unfold Nst.kd
  rw [h.mle]
  match i, hi with
  | 1, _ => simp
  | 2, _ => simp
  | i + 3, _ => simp
theorem Aw.in_iff (h : Aw g 1) {x i : Nat} : g.In x i ↔ x = 0 ∧ i ≤ 1 := by
  unfold Nst.In
  by_cases e : x = 0
  · subst e
    rw [h.kd0, h.to0, h.D, h.D]
    omega
  · rw [h.kd x e]
    constructor
    · exact fun h => absurd rfl h.1
    · exact fun h => absurd h.1 e
theorem Aw.hd01 (h : Aw g 1) {i : Nat} (hi : i ≤ 1) : g.hd i = [0] := only_one (h.nd i) fun y => by rw [h.hd, h.in_iff]; omega
theorem Aw.hd2 (h : Aw g 1) : g.hd 2 = [] := by
  cases e : g.hd 2 with
  | nil => rfl
  | cons x r =>
    have := (h.hd x 2).1 (by rw [e]; simp)
    rw [h.in_iff] at this
    omega
theorem Aw.cons (h : Aw g 1) : consL g 0 3 = [0, 1] := by
  have e0 : inB g 0 0 = true := inB_iff.2 (h.in_iff.2 ⟨rfl, by omega⟩)
  have e1 : inB g 0 1 = true := inB_iff.2 (h.in_iff.2 ⟨rfl, by omega⟩)
  have e2 : inB g 0 2 = false := by
    rw [← Bool.not_eq_true, inB_iff, h.in_iff]; omega
  unfold consL
  rw [show List.range 3 = [0, 1, 2] by decide]
  simp [e0, e1, e2]
theorem Aw.fe (h : Aw g 1) {a b : Nat} (hw : Way (FE g) a b) : a ≤ b := by
  induction hw with
  | refl => exact Nat.le_refl _
  | step _ e ih =>
    have := e.1
    rw [h.nx] at this
    have := aw_row this
    omega
theorem Aw.may (h : Aw g 1) {i t : Nat} (ht : t ∈ awX.getD i []) : MayP g i t := by
  have hr := aw_row ht
  refine ⟨fun x hx hxt => ?_, ?_⟩
  · rw [h.hd, h.in_iff] at hx
    exact h.in_iff.2 (by omega)
  · unfold leftL
    rw [h.hd01 (by omega)]
    by_cases e : t = 1
    · left
      have : leftB g t 0 = false := by rw [← Bool.not_eq_true, leftB_iff, h.in_iff]; omega
      simp [this]
    · right
      have : leftB g t 0 = true := by rw [leftB_iff, h.in_iff]; omega
      refine ⟨0, by simp [this], .inl ⟨?_, .inl (by simp [this])⟩⟩
      rw [h.to0]
      omega
theorem Aw.none (h : Aw g 1) {i r : Nat} (hr : r < 4) : ¬ ruleP g i r := by
  match r, hr with
  | 0, _ =>
    rintro ⟨h1, h2⟩
    rw [h.nx] at h2
    match i with
    | 0 => rw [h.kd0] at h1; omega
    | 1 => simp at h2
    | 2 => simp at h2
    | i + 3 => simp at h2
  | 1, _ =>
    rintro ⟨h1, h2⟩
    by_cases e : i = 0
    · subst e
      rw [h.to0, h.kd0] at h2
      rcases h2 with h2 | h2 | h2 | ⟨o, _, h3, h4, _⟩
      · omega
      · exact h2 ((h.D _ _).2 (by omega))
      · omega
      · exact h4 (h.kd o h3)
    · exact h1 (h.kd i e)
  | 2, _ =>
    rintro (⟨v, hv, h1⟩ | h1)
    · rw [h.nx] at hv
      have hr := aw_row hv
      rcases h1 with ⟨h2, _⟩ | ⟨_, h2⟩
      · rw [h.D] at h2; omega
      · have := h.fe h2; omega
    · have : ((aheadOf g.nx).getD i []).countP (backB g i) = 0 := by
        rw [List.countP_eq_zero]
        intro u hu
        rw [h.nx] at hu
        have hr := aw_row ((edge_iff aw_ok).1 hu)
        rw [backB_iff, h.D]
        omega
      omega
  | 3, _ =>
    rintro ⟨t, ht, hm⟩
    rw [h.nx] at ht
    exact hm (h.may ht)
theorem Aw.flaws (h : Aw g 1) : flawsL g 3 = [] := by
  have : ∀ i, flawsAt g i 4 = [] := fun i => by
    unfold flawsAt
    have : (List.range 4).filter (brk g i) = [] := by
      rw [List.filter_eq_nil_iff]
      intro r hr
      rw [brk_iff]
      exact fun hh => h.none (List.mem_range.1 hr) hh.2
    rw [this]; rfl
  unfold flawsL
  simp [this, List.flatMap]
theorem Aw.flaws0 (h : Aw g 0) : spotOf (flawsL g 3) = (163, 0) := by
  have hb : brk g 0 0 = true := by
    rw [brk_iff, h.wx, aw_order]
    refine ⟨by simp, h.kd0, ?_⟩
    rw [h.nx]
    decide
  have e : ∃ r, flawsL g 3 = (0, 163) :: r := by
    unfold flawsL
    rw [show List.range 3 = [0, 1, 2] by decide]
    have e1 : ∃ r, flawsAt g 0 4 = (0, 163) :: r := by
      unfold flawsAt
      rw [show List.range 4 = [0, 1, 2, 3] by decide, List.filter_cons, if_pos hb]
      exact ⟨_, rfl⟩
    obtain ⟨r, e1⟩ := e1
    rw [List.flatMap_cons, e1]
    exact ⟨_, rfl⟩
  obtain ⟨r, e⟩ := e
  rw [e]
  rfl
end

end Go.Proofs
