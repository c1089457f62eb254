/-
  What the document asks of a node, and that it comes to what the program finds.
-/
import Derived.Test.Ytjplhoollkeihaa16n
namespace Go.Proofs
open Go.Gk Go.RowKit Go.Gr Go.Dm

section
variable {w : World} {nb gb : Nat} {nx : List (List Nat)} {ml : List Mg} {g : Nst}
abbrev kdM (ml : List Mg) (x : Nat) : Int := (ml.getD x (0, 0, 0)).1
abbrev toM (ml : List Mg) (x : Nat) : Int := (ml.getD x (0, 0, 0)).2.1
abbrev coM (ml : List Mg) (x : Nat) : Int := (ml.getD x (0, 0, 0)).2.2
theorem Nd.kdE (h : Nd w nb gb nx ml g) (x : Nat) : g.kd x = kdM ml x := by unfold Nst.kd; rw [h.mle]
theorem Nd.toE (h : Nd w nb gb nx ml g) (x : Nat) : g.to x = toM ml x := by unfold Nst.to; rw [h.mle]
theorem Nd.coE (h : Nd w nb gb nx ml g) (x : Nat) : g.co x = coM ml x := by unfold Nst.co; rw [h.mle]
/-- A head that stands. -/
def HeadM (nx : List (List Nat)) (ml : List Mg) (h : Nat) : Prop := h ∈ orderOf (wideX nx ml) ∧ kdM ml h ≠ 0
def OfM (nx : List (List Nat)) (ml : List Mg) (kind : Int) (h : Nat) : Prop := HeadM nx ml h ∧ (kind = 0 ∨ kdM ml h = 2 ∨ (kind = 3 ∧ kdM ml h = 3))
def WithinM (nx : List (List Nat)) (ml : List Mg) (h i : Nat) (kind : Int) : Prop := OfM nx ml kind h ∧ InM nx ml h i ∧ ∀ o, o < nx.length → o ≠ h → OfM nx ml kind o → InM nx ml o i → ¬ DW (wideX nx ml) (h : Int) (o : Int)
theorem InM.head (hd : DOk nx ml) {x i : Nat} (h : InM nx ml x i) : HeadM nx ml x := by
  obtain ⟨a, b, e1, _, h3, _⟩ := hd.ends h.2.1
  have : x = a := by omega
  subst this
  exact ⟨h3, h.1⟩
theorem Nd.hdp (h : Nd w nb gb nx ml g) (i : Nat) : (g.hd i).Pairwise fun (a b : Nat) => a ≠ b ∧ DW (wideX nx ml) (a : Int) (b : Int) := by
  obtain ⟨_, _, _, _, _, h0, _⟩ := h.ne.ex
  exact (h0.hd_pairwise i).imp fun hh => ⟨hh.1, h.D_iff'.1 hh.2⟩
theorem Nd.within (h : Nd w nb gb nx ml g) {kl : List Int} {kind : Int} (hkl : ∀ x, x < nx.length → kdM ml x ≠ 0 → (kl.contains (kdM ml x) = true ↔ (kind = 0 ∨ kdM ml x = 2 ∨ (kind = 3 ∧ kdM ml x = 3)))) (i z : Nat) :
    lastK g i kl = (z : Int) ↔ WithinM nx ml z i kind := by
  have hd := h.dok
  have mem : ∀ x, x ∈ (g.hd i).filter (fun x => kl.contains (g.kd x)) ↔ InM nx ml x i ∧ OfM nx ml kind x := fun x => by
    rw [List.mem_filter, h.hd_mem, h.in_iff, h.kdE]
    constructor
    · exact fun ⟨h1, h2⟩ => ⟨h1, h1.head hd, (hkl x (h1.lt hd).1 h1.1).1 h2⟩
    · exact fun ⟨h1, h2⟩ => ⟨h1, (hkl x (h1.lt hd).1 h1.1).2 h2.2⟩
  have hp : ((g.hd i).filter (fun x => kl.contains (g.kd x))).Pairwise fun (a b : Nat) => a ≠ b ∧ DW (wideX nx ml) (a : Int) (b : Int) := (h.hdp i).sublist List.filter_sublist
  unfold lastK
  generalize (g.hd i).filter (fun x => kl.contains (g.kd x)) = l at *
  unfold lastI
  cases e : l.getLast? with
  | none =>
    rw [List.getLast?_eq_none_iff] at e
    subst e
    refine ⟨fun h => by simp only at h; omega, fun hz => ?_⟩
    have := (mem z).2 ⟨hz.2.1, hz.1⟩
    cases this
  | some y =>
    have hy := (mem y).1 (List.mem_of_getLast? e)
    constructor
    · intro e1
      have : y = z := by simp only at e1; omega
      subst this
      refine ⟨hy.2, hy.1, fun o _ hne ho hi hdo => ?_⟩
      rcases pairwise_last hp e o ((mem o).2 ⟨hi, ho⟩) with e2 | e2
      · exact hne e2
      · have := hd.anti hdo e2.2
        omega
    · intro hz
      rcases pairwise_last hp e z ((mem z).2 ⟨hz.2.1, hz.1⟩) with e2 | e2
      · rw [e2]
      · exact absurd e2.2 (hz.2.2 y (hy.1.lt hd).1 (fun e' => e2.1 e'.symm) hy.2 hy.1)
theorem Nd.within3 (h : Nd w nb gb nx ml g) (i z : Nat) : lastK g i [2, 3] = (z : Int) ↔ WithinM nx ml z i 3 := h.within (fun x _ _ => by
  rw [List.contains_iff_mem]
  simp) i z
theorem Nd.within2 (h : Nd w nb gb nx ml g) (i z : Nat) : lastK g i [2] = (z : Int) ↔ WithinM nx ml z i 2 := h.within (fun x _ _ => by
  rw [List.contains_iff_mem]
  simp) i z
theorem Nd.within0 (h : Nd w nb gb nx ml g) (hk : ∀ x ∈ ml, 0 ≤ x.1) (i z : Nat) : lastK g i [1, 2, 3] = (z : Int) ↔ WithinM nx ml z i 0 := h.within (fun x hx h0 => by
  have := h.kd_in hk hx
  rw [h.kdE] at this
  rw [List.contains_iff_mem]
  simp
  omega) i z
theorem lastK_cases (g : Nst) (i : Nat) (kl : List Int) : lastK g i kl = -1 ∨ ∃ z : Nat, lastK g i kl = (z : Int) := by
  unfold lastK
  rcases lastI_cases ((g.hd i).filter fun x => kl.contains (g.kd x)) with h | ⟨x, _, h⟩
  · exact .inl h.1
  · exact .inr ⟨x, h⟩
/-- The innermost head: as the document finds it. -/
theorem Nd.inner_first (h : Nd w nb gb nx ml g) (hk : ∀ x ∈ ml, 0 ≤ x.1) (i : Nat) {v : Int} (hv : (v = -1 ∧ ∀ x, x < nx.length → ¬ WithinM nx ml x i 0) ∨ ∃ z : Nat, v = (z : Int) ∧ WithinM nx ml z i 0) : lastK g i [1, 2, 3] = v := by
  rcases hv with ⟨rfl, hv⟩ | ⟨z, rfl, hv⟩
  · rcases lastK_cases g i [1, 2, 3] with e | ⟨z, e⟩
    · exact e
    · have := (h.within0 hk i z).1 e
      exact absurd this (hv z (this.2.1.lt h.dok).1)
  · exact (h.within0 hk i z).2 hv

/-- How many constructs are left by an edge. -/
noncomputable def leftN (nx : List (List Nat)) (ml : List Mg) (i t k : Nat) : Nat := (List.range k).countP fun h => inM nx ml h i && !inM nx ml h t
def OuterM (nx : List (List Nat)) (ml : List Mg) (i t o k : Nat) : Prop := o < k ∧ InM nx ml o i ∧ ¬ InM nx ml o t ∧ ∀ x, x < k → InM nx ml x i → ¬ InM nx ml x t → DW (wideX nx ml) (o : Int) (x : Int)
def MayM (nx : List (List Nat)) (ml : List Mg) (i t : Nat) : Prop :=
  (∀ h, h < nx.length → InM nx ml h t → ¬ InM nx ml h i → t = h) ∧ (leftN nx ml i t nx.length = 0 ∨ ((∃ o, OuterM nx ml i t o nx.length ∧ (t : Int) = toM ml o ∧ (leftN nx ml i t nx.length = 1 ∨ WithinM nx ml o i 3)) ∨ ∃ h, h < nx.length ∧ WithinM nx ml h i 2 ∧ (t : Int) = coM ml h ∧ InM nx ml h t))
theorem nodup_sub : ∀ {a b : List Nat}, a.Nodup → (∀ x ∈ a, x ∈ b) → a.length ≤ b.length
  | [], _, _, _ => by simp
  | x :: r, b, ha, h => by
    rw [List.nodup_cons] at ha
    have h1 := nodup_sub (b := b.erase x) ha.2 fun y hy => (List.mem_erase_of_ne (fun e => ha.1 (by rw [← e]; exact hy))).2 (h y (by simp [hy]))
    have hx := h x (by simp)
    rw [List.length_erase_of_mem hx] at h1
    have := List.length_pos_of_mem hx
    simp only [List.length_cons]
    omega
theorem Nd.leftL_mem (h : Nd w nb gb nx ml g) {i t x : Nat} : x ∈ leftL g i t ↔ InM nx ml x i ∧ ¬ InM nx ml x t := by
  unfold leftL
  rw [List.mem_filter, h.hd_mem, leftB_iff, h.in_iff, h.in_iff]
theorem Nd.leftL_len (h : Nd w nb gb nx ml g) (i t : Nat) : (leftL g i t).length = leftN nx ml i t nx.length := by
  have n1 : (leftL g i t).Nodup := by unfold leftL; exact (h.hd_nodup i).sublist List.filter_sublist
  unfold leftN
  rw [List.countP_eq_length_filter]
  have n2 : ((List.range nx.length).filter fun h => inM nx ml h i && !inM nx ml h t).Nodup := List.nodup_range.sublist List.filter_sublist
  have e : ∀ x, x ∈ leftL g i t ↔ x ∈ (List.range nx.length).filter fun h => inM nx ml h i && !inM nx ml h t := fun x => by
    rw [h.leftL_mem, List.mem_filter, List.mem_range, Bool.and_eq_true, Bool.not_eq_true', ← Bool.not_eq_true, inM_iff, inM_iff]
    exact ⟨fun hh => ⟨(hh.1.lt h.dok).1, hh⟩, fun hh => hh.2⟩
  exact Nat.le_antisymm (nodup_sub n1 fun x hx => (e x).1 hx) (nodup_sub n2 fun x hx => (e x).2 hx)
theorem Nd.outer (h : Nd w nb gb nx ml g) {i t o : Nat} (ho : (leftL g i t).head? = some o) : OuterM nx ml i t o nx.length := by
  have hp : (leftL g i t).Pairwise fun (a b : Nat) => a ≠ b ∧ DW (wideX nx ml) (a : Int) (b : Int) := by unfold leftL; exact (h.hdp i).sublist List.filter_sublist
  have hm : ∀ x, x ∈ leftL g i t ↔ InM nx ml x i ∧ ¬ InM nx ml x t := fun x => h.leftL_mem
  generalize leftL g i t = l at *
  cases l with
  | nil => cases ho
  | cons y r =>
    simp only [List.head?_cons, Option.some.injEq] at ho
    subst ho
    have hy := (hm y).1 (List.mem_cons_self (a := y) (l := r))
    refine ⟨(hy.1.lt h.dok).1, hy.1, hy.2, fun x _ h1 h2 => ?_⟩
    rcases List.mem_cons.1 ((hm x).2 ⟨h1, h2⟩) with e | e
    · rw [e]; exact (h.dok.refl_of hy.1.2.1).1
    · exact ((List.pairwise_cons.1 hp).1 x e).2
theorem OuterM.uniq (h : DOk nx ml) {i t o o' k : Nat} (h1 : OuterM nx ml i t o k) (h2 : OuterM nx ml i t o' k) : o = o' := by
  have := h.anti (h1.2.2.2 o' h2.1 h2.2.1 h2.2.2.1) (h2.2.2.2 o h1.1 h1.2.1 h1.2.2.1)
  omega
theorem Nd.may_iff (h : Nd w nb gb nx ml g) (i t : Nat) : MayP g i t ↔ MayM nx ml i t := by
  have hd := h.dok
  have hlen := h.leftL_len i t
  unfold MayP MayM
  have first : (∀ x ∈ g.hd t, x ≠ t → g.In x i) ↔ ∀ x, x < nx.length → InM nx ml x t → ¬ InM nx ml x i → t = x := by
    constructor
    · intro hh x _ h1 h2
      by_cases e : t = x
      · exact e
      · exact absurd (h.in_iff.1 (hh x (h.hd_mem.2 (h.in_iff.2 h1)) fun e' => e e'.symm)) h2
    · intro hh x hx hne
      have h1 := h.in_iff.1 (h.hd_mem.1 hx)
      rw [h.in_iff]
      by_cases h2 : InM nx ml x i
      · exact h2
      · exact absurd (hh x (h1.lt hd).1 h1 h2).symm hne
  rw [first, ← hlen]
  refine and_congr_right fun _ => ?_
  rw [List.length_eq_zero_iff]
  by_cases e0 : leftL g i t = []
  · exact ⟨fun _ => .inl e0, fun _ => .inl e0⟩
  refine or_congr_right ?_
  constructor
  · rintro ⟨o, ho, ⟨h1, h2⟩ | ⟨z, h1, h2, h3⟩⟩
    · left
      refine ⟨o, h.outer ho, by rw [← h.toE]; exact h1, h2.imp_right fun e => ?_⟩
      exact (h.within3 i o).1 e.symm
    · right
      have hw := (h.within2 i z).1 h1
      exact ⟨z, (hw.2.1.lt hd).1, hw, by rw [← h.coE]; exact h2, h.in_iff.1 h3⟩
  · intro hh
    have : ∃ o, (leftL g i t).head? = some o := by
      cases e1 : leftL g i t with
      | nil => exact absurd e1 e0
      | cons y r => exact ⟨y, rfl⟩
    obtain ⟨o, ho⟩ := this
    refine ⟨o, ho, ?_⟩
    rcases hh with ⟨o', h1, h2, h3⟩ | ⟨z, _, h1, h2, h3⟩
    · left
      have := h1.uniq hd (h.outer ho)
      subst this
      exact ⟨by rw [h.toE]; exact h2, h3.imp_right fun e => ((h.within3 i o').2 e).symm⟩
    · right
      exact ⟨z, (h.within2 i z).2 h1, by rw [h.coE]; exact h2, h.in_iff.2 h3⟩
/-! The rules. -/
def MergeM (nx : List (List Nat)) (ml : List Mg) (i : Nat) : Prop := kdM ml i ≠ 0 ∧ (toM ml i = (i : Int) ∨ ¬ DW (wideX nx ml) (i : Int) (toM ml i) ∨ (kdM ml i = 2 ∧ (coM ml i = toM ml i ∨ ¬ DW (wideX nx ml) (i : Int) (coM ml i))) ∨
  ∃ o, o < nx.length ∧ o ≠ i ∧ HeadM nx ml o ∧ (toM ml o = toM ml i ∨ (kdM ml i = 2 ∧ kdM ml o = 2 ∧ coM ml o = coM ml i)))
/-- Edges that are none back. -/
def FEM (nx : List (List Nat)) (ml : List Mg) (i k : Nat) : Prop := k ∈ nx.getD i [] ∧ ¬ DW (wideX nx ml) (k : Int) (i : Int)
def BackEM (nx : List (List Nat)) (ml : List Mg) (i v : Nat) : Prop := (DW (wideX nx ml) (v : Int) (i : Int) ∧ (kdM ml v ≠ 2 ∨ ¬ DW (wideX nx ml) (coM ml v) (i : Int))) ∨ (¬ DW (wideX nx ml) (v : Int) (i : Int) ∧ Way (FEM nx ml) v i)
open Classical in
noncomputable def dwB (nx : List (List Nat)) (ml : List Mg) (a b : Nat) : Bool := decide (DW (wideX nx ml) (a : Int) (b : Int))
theorem dwB_iff {a b : Nat} : dwB nx ml a b = true ↔ DW (wideX nx ml) (a : Int) (b : Int) := by simp [dwB]
def BackM (nx : List (List Nat)) (ml : List Mg) (i : Nat) : Prop := (∃ v ∈ nx.getD i [], BackEM nx ml i v) ∨ 2 ≤ ((aheadOf nx).getD i []).countP (dwB nx ml i)
def ruleM (nx : List (List Nat)) (ml : List Mg) (i : Nat) : Nat → Prop
  | 0 => kdM ml i = 0 ∧ 2 ≤ (nx.getD i []).length
  | 1 => MergeM nx ml i
  | 2 => BackM nx ml i
  | _ => ∃ t ∈ nx.getD i [], ¬ MayM nx ml i t
theorem Nd.fe (h : Nd w nb gb nx ml g) : FE g = FEM nx ml := by
  funext i k
  unfold FE FEM
  rw [h.nxe, h.D_iff']
theorem Nd.rule_iff (h : Nd w nb gb nx ml g) (i : Nat) : ∀ r, ruleP g i r ↔ ruleM nx ml i r
  | 0 => by
    show BareP g i ↔ (kdM ml i = 0 ∧ 2 ≤ (nx.getD i []).length)
    unfold BareP
    rw [h.kdE, h.nxe]
  | 1 => by
    show MergeP g i ↔ MergeM nx ml i
    unfold MergeP MergeM
    simp only [h.kdE, h.toE, h.coE, h.D_iff', h.nxe]
    refine and_congr_right fun _ => or_congr_right (or_congr_right (or_congr_right (exists_congr fun o => and_congr_right fun _ => ?_)))
    unfold MergeO HeadM
    rw [h.wxe, h.kdE, h.kdE, h.toE, h.toE, h.coE, h.coE]
    constructor
    · exact fun ⟨a, b, c, d⟩ => ⟨a, ⟨c, b⟩, d⟩
    · exact fun ⟨a, ⟨b, c⟩, d⟩ => ⟨a, c, b, d⟩
  | 2 => by
    show BackP g i ↔ BackM nx ml i
    unfold BackP BackM
    rw [h.nxe]
    refine or_congr (exists_congr fun v => and_congr_right fun _ => ?_) ?_
    · unfold BackE BackEM
      rw [h.D_iff', h.D_iff', h.kdE, h.coE, h.fe]
    · rw [List.countP_congr (q := dwB nx ml i) fun u _ => by rw [backB_iff, dwB_iff, h.D_iff']]
  | r + 3 => by
    show ExitP g i ↔ ∃ t ∈ nx.getD i [], ¬ MayM nx ml i t
    unfold ExitP
    rw [h.nxe]
    exact exists_congr fun t => and_congr_right fun _ => not_congr (h.may_iff i t)
open Classical in
noncomputable def brkM (nx : List (List Nat)) (ml : List Mg) (i r : Nat) : Bool := decide (i ∈ orderOf (wideX nx ml) ∧ ruleM nx ml i r)
theorem brkM_iff {i r : Nat} : brkM nx ml i r = true ↔ i ∈ orderOf (wideX nx ml) ∧ ruleM nx ml i r := by simp [brkM]
noncomputable def flawsAtM (nx : List (List Nat)) (ml : List Mg) (i m : Nat) : List (Int × Int) := ((List.range m).filter (brkM nx ml i)).map fun r => ((i : Int), errOf r)
noncomputable def flawsM (nx : List (List Nat)) (ml : List Mg) (k : Nat) : List (Int × Int) := (List.range k).flatMap fun i => flawsAtM nx ml i 4
theorem Nd.flawsE (h : Nd w nb gb nx ml g) (k : Nat) : flawsL g k = flawsM nx ml k := by
  have : ∀ i, flawsAt g i 4 = flawsAtM nx ml i 4 := fun i => by
    unfold flawsAt flawsAtM
    congr 1
    refine List.filter_congr fun r _ => ?_
    rw [Bool.eq_iff_iff, brk_iff, brkM_iff, h.wxe, h.rule_iff]
  unfold flawsL flawsM
  simp only [this]
end

end Go.Proofs
