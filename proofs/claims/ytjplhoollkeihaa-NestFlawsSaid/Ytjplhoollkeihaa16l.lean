/-
  Which node is over which, by the wide graph alone; constructs lie within one another or apart; the innermost one.
-/
import Derived.Test.Ytjplhoollkeihaa16j
namespace Go.Proofs
open Go.Gk Go.RowKit Go.Gr Go.Dm

/-- The laws of what is over what. -/
structure DOk (nx : List (List Nat)) (ml : List Mg) : Prop where
  ok : NxOk nx
  okw : NxOk (wideX nx ml)
  fit : Fit nx.length ml
  anti : ∀ {a b : Int}, DW (wideX nx ml) a b → DW (wideX nx ml) b a → a = b
  trans : ∀ {a b c : Int}, DW (wideX nx ml) a b → DW (wideX nx ml) b c → DW (wideX nx ml) a c
  lin : ∀ {a b c : Int}, DW (wideX nx ml) a b → DW (wideX nx ml) c b → DW (wideX nx ml) a c ∨ DW (wideX nx ml) c a
  re : ∀ x : Nat, ReachN (wideX nx ml) (-1) x ↔ x ∈ orderOf (wideX nx ml)
  ends : ∀ {a b : Int}, DW (wideX nx ml) a b → ∃ x y : Nat, a = (x : Int) ∧ b = (y : Int) ∧ x ∈ orderOf (wideX nx ml) ∧ y ∈ orderOf (wideX nx ml)
/-! By definition: what is come to when nothing goes by a node. -/
section
variable {nx : List (List Nat)} {a b c : Nat}
theorem _root_.Go.Gr.ReachN.self (h : ReachN nx (a : Int) b) : b ≠ a := by
  cases h with
  | zero h _ => omega
  | step _ _ h => omega
theorem _root_.Go.Gr.ReachN.top {wo : Int} (h : ReachN nx wo c) : ReachN nx (-1) c := by
  induction h with
  | zero _ h => exact .zero (by omega) h
  | step _ h _ ih => exact .step ih h (by omega)
theorem _root_.Go.Gr.ReachN.cut (a : Nat) (h : ReachN nx (-1) c) : ReachN nx (a : Int) c ∨ ReachN nx (-1) a := by
  generalize hwo : (-1 : Int) = wo at h
  induction h with
  | zero _ h =>
    by_cases e : a = 0
    · right; rw [e, ← hwo]; exact .zero (by omega) h
    · left; exact .zero (by omega) h
  | step h1 h2 h9 ih =>
    rename_i i t
    rcases ih with ih | ih
    · by_cases e : t = a
      · right; rw [← e, ← hwo]; subst hwo; exact .step h1 h2 (by omega)
      · left; exact .step ih h2 (by omega)
    · right; exact ih
theorem _root_.Go.Gr.ReachN.via (b : Nat) (h : ReachN nx (a : Int) c) : ReachN nx (b : Int) c ∨ ReachN nx (a : Int) b := by
  generalize hwo : (a : Int) = wo at h
  induction h with
  | zero h0 h =>
    by_cases e : b = 0
    · right; rw [e]; exact .zero h0 h
    · left; exact .zero (by omega) h
  | step h1 h2 h3 ih =>
    rename_i i t
    rcases ih with ih | ih
    · by_cases e : t = b
      · right; rw [← e]; exact .step h1 h2 h3
      · left; exact .step ih h2 (by omega)
    · right; exact ih
theorem _root_.Go.Gr.ReachN.either (hab : a ≠ b) (h : ReachN nx (-1) c) : (ReachN nx (a : Int) c ∧ ReachN nx (b : Int) c) ∨ ReachN nx (b : Int) a ∨ ReachN nx (a : Int) b := by
  generalize hwo : (-1 : Int) = wo at h
  induction h with
  | zero _ h =>
    by_cases e : a = 0
    · right; left; rw [e]; exact .zero (by omega) h
    · by_cases e' : b = 0
      · right; right; rw [e']; exact .zero (by omega) h
      · left; exact ⟨.zero (by omega) h, .zero (by omega) h⟩
  | step h1 h2 h3 ih =>
    rename_i i t
    rcases ih with ⟨i1, i2⟩ | ih
    · by_cases e : t = a
      · right; left; rw [← e]; exact .step i2 h2 (by omega)
      · by_cases e' : t = b
        · right; right; rw [← e']; exact .step i1 h2 (by omega)
        · left; exact ⟨.step i1 h2 (by omega), .step i2 h2 (by omega)⟩
    · right; exact ih
theorem _root_.Go.Gr.ReachN.or (hab : a ≠ b) (h1 : ReachN nx (a : Int) b) (h2 : ReachN nx (b : Int) a) (h : ReachN nx (-1) c) : ReachN nx (a : Int) c ∨ ReachN nx (b : Int) c := by
  generalize hwo : (-1 : Int) = wo at h
  induction h with
  | zero _ h =>
    by_cases e : a = 0
    · right; exact .zero (by omega) h
    · left; exact .zero (by omega) h
  | step h8 h3 h9 ih =>
    rename_i i t
    rcases ih with ih | ih
    · by_cases e : t = a
      · right; rw [e]; exact h2
      · left; exact .step ih h3 (by omega)
    · by_cases e : t = b
      · left; rw [e]; exact h1
      · right; exact .step ih h3 (by omega)
theorem DomR.trans (h : DomR nx a b) (k : DomR nx b c) : DomR nx a c := by
  refine ⟨k.1, ?_⟩
  rcases h.2 with rfl | h2
  · exact k.2
  · rcases k.2 with rfl | k2
    · exact .inr h2
    · exact .inr fun hr => (hr.via b).elim k2 h2
theorem DomR.anti (h : DomR nx a b) (k : DomR nx b a) : a = b := by
  rcases h.2 with rfl | h2
  · rfl
  · rcases k.2 with rfl | k2
    · rfl
    · by_cases e : a = b
      · exact e
      · rcases h.1.either e with h3 | h3 | h3
        · exact absurd rfl h3.2.self
        · exact absurd h3 k2
        · exact absurd h3 h2
theorem DomR.top (h : DomR nx a b) : ReachN nx (-1) a := by
  rcases h.2 with rfl | h2
  · exact h.1
  · exact (h.1.cut a).resolve_left h2
theorem DomR.lin (h : DomR nx a c) (k : DomR nx b c) : DomR nx a b ∨ DomR nx b a := by
  by_cases e : a = b
  · left; exact ⟨k.top, .inl e⟩
  · rcases h.2 with rfl | h2
    · exact .inr k
    · rcases k.2 with rfl | k2
      · exact .inl h
      · by_cases h3 : ReachN nx (a : Int) b
        · by_cases h4 : ReachN nx (b : Int) a
          · rcases Go.Gr.ReachN.or e h3 h4 h.1 with h5 | h5
            · exact absurd h5 h2
            · exact absurd h5 k2
          · exact .inr ⟨h.top, .inr h4⟩
        · exact .inl ⟨k.top, .inr h3⟩
end
section
variable {w : World} {nb gb : Nat} {nx : List (List Nat)} {ml : List Mg} {g : Nst}
theorem DOk.of (ok : NxOk nx) (fit : Fit nx.length ml) : DOk nx ml := by
  have hlw : (wideI nx ml).length = nx.length := by simp [wideI, wideL]
  have hp := ok.pos
  have hm := ok.max
  have okw : NxOk (wideX nx ml) := by rw [← edges_wide]; exact edges_ok (by omega) (by omega) (wideI_good ok fit)
  have re : ∀ x : Nat, ReachN (wideX nx ml) (-1) x ↔ x ∈ orderOf (wideX nx ml) := fun x => by rw [okw.walkOk.mem x]; exact (walk_reach okw.rows okw.pos x).symm
  refine ⟨ok, okw, fit, fun ⟨a, b, e1, e2, h⟩ ⟨b', a', e3, e4, k⟩ => ?_, fun ⟨a, b, e1, e2, h⟩ ⟨b', c, e3, e4, k⟩ => ?_, fun ⟨a, b, e1, e2, h⟩ ⟨c, b', e3, e4, k⟩ => ?_, re, fun ⟨a, b, e1, e2, h⟩ => ⟨a, b, e1, e2, (re a).1 h.top, (re b).1 h.1⟩⟩
  · have : b' = b := by omega
    have : a' = a := by omega
    subst_vars
    rw [h.anti k]
  · have : b' = b := by omega
    subst_vars
    exact ⟨a, c, rfl, rfl, h.trans k⟩
  · have : b' = b := by omega
    subst_vars
    exact (h.lin k).imp (fun q => ⟨a, c, rfl, rfl, q⟩) fun q => ⟨c, a, rfl, rfl, q⟩
theorem Nd.dok (h : Nd w nb gb nx ml g) : DOk nx ml := by
  obtain ⟨hsl, hh, wb, tb, ms, h0, _⟩ := h.ne.ex
  exact DOk.of (h.nxe ▸ h0.ok) (h.nxe ▸ h.mle ▸ h0.fit)
theorem wide_len : (wideX nx ml).length = nx.length := by simp [wideX, wideL]
theorem wide_row {x t : Nat} (hx : x < nx.length) : t ∈ (wideX nx ml).getD x [] ↔ t ∈ nx.getD x [] ∨ t ∈ extL (ml.getD x (0, 0, 0)) := by
  have : (wideX nx ml).getD x [] = dedup (wrow nx ml x) := by simp [wideX, wideL, List.getD, hx]
  rw [this, mem_dedup]
  unfold wrow
  rw [List.mem_append]
namespace DOk
variable (h : DOk nx ml)
include h
theorem refl {x : Nat} (hx : x ∈ orderOf (wideX nx ml)) : DW (wideX nx ml) (x : Int) (x : Int) := ⟨x, x, rfl, rfl, (h.re x).2 hx, .inl rfl⟩
theorem refl_of {a b : Int} (hd : DW (wideX nx ml) a b) : DW (wideX nx ml) a a ∧ DW (wideX nx ml) b b := by
  obtain ⟨x, y, rfl, rfl, h1, h2⟩ := h.ends hd
  exact ⟨h.refl h1, h.refl h2⟩
theorem lt {x : Nat} (hx : x ∈ orderOf (wideX nx ml)) : x < nx.length := by rw [← wide_len (nx := nx) (ml := ml)]; exact od_lt h.okw x hx
/-- What is over an edge's end, and is not it, is over its start. -/
theorem edge {a b : Nat} {c : Int} (ha : a ∈ orderOf (wideX nx ml)) (hb : b ∈ (wideX nx ml).getD a []) (hd : DW (wideX nx ml) c (b : Int)) (hne : c ≠ (b : Int)) : DW (wideX nx ml) c (a : Int) := by
  obtain ⟨c', b', rfl, e, h1, h2⟩ := hd
  have : b' = b := by omega
  subst this
  have ha' := (h.re a).2 ha
  refine ⟨c', a, rfl, rfl, ha', ?_⟩
  rcases h2 with rfl | h2
  · exact absurd rfl hne
  · exact .inr fun hr => h2 (.step hr hb (by omega))
theorem step {a b : Nat} (ha : a ∈ orderOf (wideX nx ml)) (hb : b ∈ (wideX nx ml).getD a []) : b ∈ orderOf (wideX nx ml) := (h.re b).1 (.step ((h.re a).2 ha) hb (by omega))
theorem narrow {x : Nat} (hx : x ∈ orderOf nx) : x ∈ orderOf (wideX nx ml) := by
  have hre : ReachN nx (-1) x := (walk_reach h.ok.rows h.ok.pos x).1 ((h.ok.walkOk.mem x).1 hx)
  clear hx
  generalize hwo : (-1 : Int) = wo at hre
  induction hre with
  | zero _ h0 => exact (h.re 0).1 (.zero (by omega) (by rw [wide_len]; exact h0))
  | step h1 h2 h3 ih =>
    rename_i i t
    by_cases hi : i < nx.length
    · exact h.step ih ((wide_row hi).2 (.inl h2))
    · simp [List.getD, List.getElem?_eq_none (show nx.length ≤ i by omega)] at h2
end DOk

/-- In a head's construct. -/
def InM (nx : List (List Nat)) (ml : List Mg) (x i : Nat) : Prop := (ml.getD x (0, 0, 0)).1 ≠ 0 ∧ DW (wideX nx ml) (x : Int) (i : Int) ∧ ¬ DW (wideX nx ml) (ml.getD x (0, 0, 0)).2.1 (i : Int)
theorem Nd.D_iff' (h : Nd w nb gb nx ml g) {a b : Int} : g.D a b ↔ DW (wideX nx ml) a b := by rw [h.D_iff, h.wxe]
theorem Nd.in_iff (h : Nd w nb gb nx ml g) {x i : Nat} : g.In x i ↔ InM nx ml x i := by
  unfold Nst.In InM Nst.kd Nst.to
  rw [h.D_iff', h.D_iff', h.mle]
open Classical in
noncomputable def inM (nx : List (List Nat)) (ml : List Mg) (x i : Nat) : Bool := decide (InM nx ml x i)
theorem inM_iff {x i : Nat} : inM nx ml x i = true ↔ InM nx ml x i := by simp [inM]
/-- A construct's nodes. -/
noncomputable def consM (nx : List (List Nat)) (ml : List Mg) (x : Nat) : List Nat := (List.range nx.length).filter (inM nx ml x)
theorem mem_consM {x i : Nat} : i ∈ consM nx ml x ↔ i < nx.length ∧ InM nx ml x i := by simp [consM, inM_iff]
theorem Nd.consE (h : Nd w nb gb nx ml g) (x : Nat) : consL g x nx.length = consM nx ml x := by
  unfold consL consM
  refine List.filter_congr fun i _ => ?_
  rw [Bool.eq_iff_iff, inB_iff, inM_iff, h.in_iff]
theorem consM_none (h : DOk nx ml) {x : Nat} (hx : ¬ ((ml.getD x (0, 0, 0)).1 ≠ 0 ∧ x ∈ orderOf (wideX nx ml))) : consM nx ml x = [] := by
  unfold consM
  rw [List.filter_eq_nil_iff]
  intro i _
  rw [inM_iff]
  rintro ⟨h1, h2, _⟩
  obtain ⟨a, b, e1, _, h3, _⟩ := h.ends h2
  have : x = a := by omega
  subst this
  exact hx ⟨h1, h3⟩
theorem InM.lt (h : DOk nx ml) {x i : Nat} (hi : InM nx ml x i) : x < nx.length ∧ i < nx.length := by
  obtain ⟨a, b, e1, e2, h3, h4⟩ := h.ends hi.2.1
  have h5 := h.lt h3
  have h6 := h.lt h4
  omega
theorem to_ext {x : Nat} (h : DOk nx ml) (hx : x < nx.length) (hk : (ml.getD x (0, 0, 0)).1 ≠ 0) : ∃ t : Nat, (ml.getD x (0, 0, 0)).2.1 = (t : Int) ∧ t ∈ (wideX nx ml).getD x [] := by
  have hf := (getD_fit h.fit hx).2.1 hk
  refine ⟨(ml.getD x (0, 0, 0)).2.1.toNat, by omega, (wide_row hx).2 (.inr ?_)⟩
  unfold extL
  rw [if_neg hk]
  split <;> simp
theorem co_ext {x : Nat} (h : DOk nx ml) (hx : x < nx.length) (hk : (ml.getD x (0, 0, 0)).1 = 2) : ∃ t : Nat, (ml.getD x (0, 0, 0)).2.2 = (t : Int) ∧ t ∈ (wideX nx ml).getD x [] := by
  have hf := (getD_fit h.fit hx).2.2 hk
  refine ⟨(ml.getD x (0, 0, 0)).2.2.toNat, by omega, (wide_row hx).2 (.inr ?_)⟩
  unfold extL
  rw [if_neg (by omega), if_pos hk]
  simp
/-- Of two constructs with a node in common, the one whose head is over the other's has all of the other. -/
theorem DOk.within (h : DOk nx ml) {x y i : Nat} (hx : InM nx ml x i) (hy : InM nx ml y i) (hd : DW (wideX nx ml) (x : Int) (y : Int)) {j : Nat} (hj : InM nx ml y j) : InM nx ml x j := by
  refine ⟨hx.1, h.trans hd hj.2.1, fun ht => ?_⟩
  rcases h.lin hj.2.1 ht with h1 | h1
  · obtain ⟨a, b, e1, _, h3, _⟩ := h.ends hd
    have : x = a := by omega
    subst this
    obtain ⟨t, e2, h5⟩ := to_ext h (h.lt h3) hx.1
    rw [e2] at h1 ht
    by_cases e : (y : Int) = (t : Int)
    · exact hx.2.2 (by rw [e2, ← e]; exact hy.2.1)
    · have h6 := h.edge h3 h5 h1 e
      have := h.anti hd h6
      have : x = y := by omega
      subst this
      exact hj.2.2 (by rw [e2]; exact ht)
  · exact hx.2.2 (h.trans h1 hy.2.1)
theorem countP_sub {p q : Nat → Bool} (l : List Nat) (h : ∀ x, q x = true → p x = true) : (l.filter p).countP q = (l.filter q).length := by
  rw [List.countP_filter, ← List.countP_eq_length_filter]
  refine List.countP_congr fun x _ => ?_
  simp only [Bool.and_eq_true]
  exact ⟨fun hh => hh.1, fun hh => ⟨hh, h x hh⟩⟩
theorem consM_contains {x i : Nat} (hi : i < nx.length) : (consM nx ml x).contains i = inM nx ml x i := by
  rw [Bool.eq_iff_iff, List.contains_iff_mem, mem_consM, inM_iff]
  exact ⟨fun h => h.2, fun h => ⟨hi, h⟩⟩
/-- How many nodes two constructs have in common. -/
theorem DOk.common (h : DOk nx ml) (x y : Nat) :
    (consM nx ml x).countP (consM nx ml y).contains = 0 ∨ (consM nx ml x).countP (consM nx ml y).contains = (consM nx ml x).length ∨ (consM nx ml x).countP (consM nx ml y).contains = (consM nx ml y).length := by
  have e : (consM nx ml x).countP (consM nx ml y).contains = (consM nx ml x).countP (inM nx ml y) := List.countP_congr fun i hi => by rw [consM_contains (mem_consM.1 hi).1]
  rw [e]
  by_cases hc : ∃ i, InM nx ml x i ∧ InM nx ml y i
  · obtain ⟨i, h1, h2⟩ := hc
    rcases h.lin h1.2.1 h2.2.1 with hd | hd
    · right; right
      exact countP_sub _ fun j hj => inM_iff.2 (h.within h1 h2 hd (inM_iff.1 hj))
    · right; left
      rw [List.countP_eq_length]
      exact fun j hj => inM_iff.2 (h.within h2 h1 hd (mem_consM.1 hj).2)
  · left
    rw [List.countP_eq_zero]
    exact fun i hi hh => hc ⟨i, (mem_consM.1 hi).2, inM_iff.1 hh⟩
theorem consM_le (h : DOk nx ml) {x y i : Nat} (hx : InM nx ml x i) (hy : InM nx ml y i) (hd : DW (wideX nx ml) (x : Int) (y : Int)) : (consM nx ml y).length ≤ (consM nx ml x).length := by
  unfold consM
  rw [← List.countP_eq_length_filter, ← List.countP_eq_length_filter]
  exact List.countP_mono_left fun j _ hj => inM_iff.2 (h.within hx hy hd (inM_iff.1 hj))

/-- The innermost head around a node. -/
def InnP (nx : List (List Nat)) (ml : List Mg) (i : Nat) (v : Int) : Prop := (v = -1 ∧ ∀ x, ¬ InM nx ml x i) ∨ ∃ z : Nat, v = (z : Int) ∧ InM nx ml z i ∧ ∀ x, InM nx ml x i → DW (wideX nx ml) (x : Int) (z : Int)
theorem pairwise_last {R : Nat → Nat → Prop} : ∀ {l : List Nat} {z : Nat}, l.Pairwise R → l.getLast? = some z → ∀ x ∈ l, x = z ∨ R x z
  | [], _, _, h, _, _ => by simp at h
  | [a], z, _, h, x, hx => by simp at h hx; left; omega
  | a :: b :: r, z, hp, h, x, hx => by
    rw [List.getLast?_cons_cons] at h
    rcases List.mem_cons.1 hx with rfl | hx
    · right
      rw [List.pairwise_cons] at hp
      exact hp.1 z (List.mem_of_getLast? h)
    · exact pairwise_last (List.pairwise_cons.1 hp).2 h x hx
theorem Nd.kd_in (h : Nd w nb gb nx ml g) (hk : ∀ x ∈ ml, 0 ≤ x.1) {x : Nat} (hx : x < nx.length) : 0 ≤ g.kd x ∧ g.kd x ≤ 3 := by
  have hf := (getD_fit h.dok.fit hx).1
  unfold Nst.kd
  rw [h.mle]
  refine ⟨?_, hf⟩
  have hl := h.dok.fit.1
  have : ml.getD x (0, 0, 0) = ml[x]'(by omega) := by simp [List.getD, show x < ml.length by omega]
  rw [this]
  exact hk _ (List.getElem_mem _)
theorem Nd.last_all (h : Nd w nb gb nx ml g) (hk : ∀ x ∈ ml, 0 ≤ x.1) (i : Nat) : lastK g i [1, 2, 3] = lastI (g.hd i) := by
  unfold lastK
  congr 1
  rw [List.filter_eq_self]
  intro x hx
  have hi := h.hd_mem.1 hx
  have h1 := h.kd_in hk (InM.lt h.dok (h.in_iff.1 hi)).1
  have h0 := hi.1
  rw [List.contains_iff_mem]
  have : g.kd x = 1 ∨ g.kd x = 2 ∨ g.kd x = 3 := by omega
  rcases this with e | e | e <;> rw [e] <;> simp
theorem Nd.inner (h : Nd w nb gb nx ml g) (hk : ∀ x ∈ ml, 0 ≤ x.1) (i : Nat) : InnP nx ml i (lastK g i [1, 2, 3]) := by
  rw [h.last_all hk]
  unfold lastI
  cases e : (g.hd i).getLast? with
  | none =>
    left
    refine ⟨rfl, fun x hx => ?_⟩
    have := h.hd_mem.2 (h.in_iff.2 hx)
    rw [List.getLast?_eq_none_iff] at e
    rw [e] at this
    cases this
  | some z =>
    right
    have hz := h.in_iff.1 (h.hd_mem.1 (List.mem_of_getLast? e))
    refine ⟨z, rfl, hz, fun x hx => ?_⟩
    obtain ⟨_, _, _, _, _, h0, _⟩ := h.ne.ex
    rcases pairwise_last (h0.hd_pairwise i) e x (h.hd_mem.2 (h.in_iff.2 hx)) with rfl | h1
    · exact (h.dok.refl_of hz.2.1).1
    · exact h.D_iff'.1 h1.2
end

/-! No flaw. -/
section
variable {g : Nst}
theorem flawsL_nil {n : Nat} : flawsL g n = [] ↔ ∀ i, i < n → i ∈ orderOf g.wx → ∀ r, r < 4 → ¬ ruleP g i r := by
  unfold flawsL
  rw [List.flatMap_eq_nil_iff]
  constructor
  · intro h i hi ho r hr hh
    have := h i (List.mem_range.2 hi)
    unfold flawsAt at this
    rw [List.map_eq_nil_iff, List.filter_eq_nil_iff] at this
    exact this r (List.mem_range.2 hr) (brk_iff.2 ⟨ho, hh⟩)
  · intro h i hi
    unfold flawsAt
    rw [List.map_eq_nil_iff, List.filter_eq_nil_iff]
    intro r hr
    rw [brk_iff]
    exact fun hh => h i (List.mem_range.1 hi) hh.1 r (List.mem_range.1 hr) hh.2
theorem errOf_pos (r : Nat) : 0 < errOf r := by
  unfold errOf
  split <;> decide
theorem spotOf_nil {n : Nat} (h : (spotOf (flawsL g n)).1 = 0) : flawsL g n = [] := by
  cases e : flawsL g n with
  | nil => rfl
  | cons x r =>
    have hx : x ∈ flawsL g n := by rw [e]; simp
    rw [e] at h
    unfold flawsL at hx
    obtain ⟨i, _, hx⟩ := List.mem_flatMap.1 hx
    unfold flawsAt at hx
    obtain ⟨r', _, rfl⟩ := List.mem_map.1 hx
    have := errOf_pos r'
    simp only [spotOf] at h
    omega
end

end Go.Proofs
