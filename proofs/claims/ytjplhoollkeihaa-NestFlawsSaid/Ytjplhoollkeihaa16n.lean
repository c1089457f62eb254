/-
  What holds where nothing is wrong: edges into constructs, rings.
-/
import Derived.Test.Ytjplhoollkeihaa16l
namespace Go.Proofs
open Go.Gk Go.RowKit Go.Gr Go.Dm

section
variable {w : World} {nb gb : Nat} {nx : List (List Nat)} {ml : List Mg} {g : Nst}
theorem Nd.rule (h : Nd w nb gb nx ml g) (hf : flawsL g nx.length = []) {i : Nat} (hi : i ∈ orderOf (wideX nx ml)) : ¬ BareP g i ∧ ¬ MergeP g i ∧ ¬ BackP g i ∧ ¬ ExitP g i := by
  have hlt := h.dok.lt hi
  have := flawsL_nil.1 hf i hlt (by rw [h.wxe]; exact hi)
  exact ⟨this 0 (by omega), this 1 (by omega), this 2 (by omega), this 3 (by omega)⟩
/-- A head, where it merges, where it goes on. -/
theorem Nd.head_in (h : Nd w nb gb nx ml g) (hf : flawsL g nx.length = []) {x : Nat} (hk : (ml.getD x (0, 0, 0)).1 ≠ 0) (hx : x ∈ orderOf (wideX nx ml)) :
    InM nx ml x x ∧ (∀ t : Nat, (ml.getD x (0, 0, 0)).2.1 = (t : Int) → ¬ InM nx ml x t) ∧ ((ml.getD x (0, 0, 0)).1 = 2 → ∃ c : Nat, (ml.getD x (0, 0, 0)).2.2 = (c : Int) ∧ InM nx ml x c) := by
  have hd := h.dok
  have hlt := hd.lt hx
  have hm := (h.rule hf hx).2.1
  unfold MergeP at hm
  have hkd : g.kd x = (ml.getD x (0, 0, 0)).1 := by unfold Nst.kd; rw [h.mle]
  have hto : g.to x = (ml.getD x (0, 0, 0)).2.1 := by unfold Nst.to; rw [h.mle]
  have hco : g.co x = (ml.getD x (0, 0, 0)).2.2 := by unfold Nst.co; rw [h.mle]
  rw [hkd, hto, hco, h.D_iff', h.D_iff'] at hm
  simp only [not_and, not_or, Classical.not_not] at hm
  obtain ⟨m1, m2, m3, _⟩ := hm hk
  have nt : ¬ DW (wideX nx ml) (ml.getD x (0, 0, 0)).2.1 (x : Int) := fun hh => m1 (hd.anti hh m2)
  refine ⟨⟨hk, hd.refl hx, nt⟩, fun t e hh => hh.2.2 (by rw [← e]; exact (hd.refl_of m2).2), fun e2 => ?_⟩
  obtain ⟨m4, m5⟩ := m3 e2
  obtain ⟨c, e, hc⟩ := co_ext hd hlt e2
  refine ⟨c, e, hk, by rw [← e]; exact m5, fun hh => ?_⟩
  exact nt (hd.edge hx hc hh (by rw [← e]; exact fun e' => m4 e'.symm))
theorem Nd.enter (h : Nd w nb gb nx ml g) (hf : flawsL g nx.length = []) {x i t : Nat} (hi : i ∈ orderOf nx) (ht : t ∈ nx.getD i []) (h1 : ¬ InM nx ml x i) (h2 : InM nx ml x t) : t = x := by
  have he := (h.rule hf (h.dok.narrow hi)).2.2.2
  by_cases e : t = x
  · exact e
  · exfalso
    refine he ⟨t, by rw [h.nxe]; exact ht, fun hm => h1 ?_⟩
    exact h.in_iff.1 (hm.1 x (h.hd_mem.2 (h.in_iff.2 h2)) (fun e' => e e'.symm))
theorem Nd.two (h : Nd w nb gb nx ml g) (hf : flawsL g nx.length = []) {i : Nat} (hi : i ∈ orderOf nx) (ht : 1 < (nx.getD i []).length) : (ml.getD i (0, 0, 0)).1 ≠ 0 := fun e =>
  (h.rule hf (h.dok.narrow hi)).1 ⟨by unfold Nst.kd; rw [h.mle]; exact e, by rw [h.nxe]; exact ht⟩
theorem Nd.backs (h : Nd w nb gb nx ml g) (hf : flawsL g nx.length = []) {x : Nat} (hx : x ∈ orderOf (wideX nx ml)) : ((aheadOf nx).getD x []).countP (inM nx ml x) ≤ 1 := by
  have hb := (h.rule hf hx).2.2.1
  unfold BackP at hb
  rw [not_or, h.nxe] at hb
  have : ((aheadOf nx).getD x []).countP (inM nx ml x) ≤ ((aheadOf nx).getD x []).countP (backB g x) := List.countP_mono_left fun u _ hu => by
    rw [backB_iff, h.D_iff']
    exact (inM_iff.1 hu).2.1
  omega
theorem countP_lt {p q : Nat → Bool} (h : ∀ x, p x = true → q x = true) {i : Nat} (hq : q i = true) (hp : p i = false) : ∀ {l : List Nat}, i ∈ l → l.countP p < l.countP q
  | a :: l, hi => by
    rw [List.countP_cons, List.countP_cons]
    have hle : l.countP p ≤ l.countP q := List.countP_mono_left fun x _ => h x
    rcases List.mem_cons.1 hi with rfl | hi
    · rw [hq, hp]
      simp only [if_true, Bool.false_eq_true, if_false]
      omega
    · have := countP_lt h hq hp hi
      have h' := h a
      have e : (if p a = true then 1 else 0) ≤ (if q a = true then 1 else 0 : Nat) := by
        by_cases c : p a = true
        · rw [if_pos c, if_pos (h' c)]; exact Nat.le_refl _
        · rw [if_neg c]; exact Nat.zero_le _
      omega
open Classical in
/-- How many nodes come behind one, by edges that are none back. -/
noncomputable def rankR (g : Nst) (i : Nat) : Nat := (List.range g.nx.length).countP fun k => decide (Way (FE g) i k)
theorem rankR_le (g : Nst) (i : Nat) : rankR g i ≤ g.nx.length := by
  unfold rankR
  have := List.countP_le_length (p := fun k => @decide (Way (FE g) i k) (Classical.propDecidable _)) (l := List.range g.nx.length)
  simpa using this
theorem rankR_pos {g : Nst} {i : Nat} (hi : i < g.nx.length) : 0 < rankR g i := by
  unfold rankR
  rw [List.countP_pos_iff]
  exact ⟨i, List.mem_range.2 hi, by simpa using Way.refl⟩
theorem Nd.rank (h : Nd w nb gb nx ml g) (hf : flawsL g nx.length = []) {i t : Nat} (hi : i ∈ orderOf nx) (ht : t ∈ nx.getD i []) (hk : (ml.getD t (0, 0, 0)).1 ≠ 2) : rankR g t < rankR g i := by
  have hb := (h.rule hf (h.dok.narrow hi)).2.2.1
  have hkd : g.kd t = (ml.getD t (0, 0, 0)).1 := by unfold Nst.kd; rw [h.mle]
  have hE : ¬ BackE g i t := fun hE => hb (.inl ⟨t, by rw [h.nxe]; exact ht, hE⟩)
  unfold BackE at hE
  rw [not_or, hkd] at hE
  have nd : ¬ g.D (t : Int) (i : Int) := fun hd => hE.1 ⟨hd, .inl hk⟩
  have nw : ¬ Way (FE g) t i := fun hw => hE.2 ⟨nd, hw⟩
  have fe : FE g i t := ⟨by rw [h.nxe]; exact ht, nd⟩
  unfold rankR
  refine countP_lt (i := i) (fun k hk => ?_) ?_ ?_ ?_
  · simp only [decide_eq_true_eq] at hk ⊢
    exact Way.head fe hk
  · simpa using Way.refl
  · simpa using nw
  · rw [h.nxe]
    exact List.mem_range.2 (h.dok.lt (h.dok.narrow hi))
end

end Go.Proofs
