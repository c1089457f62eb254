/-
  Plain: what dom.settle keeps up, and what it ends with.
-/
import Derived.Test.Ytjplhoollkeihaa15a
namespace Go.Dm
open Go.Gr

abbrev Ed (nx : List (List Nat)) (p x : Nat) : Prop := x ∈ nx.getD p []
/-- What dominates a node stands over it. -/
structure DI (nx : List (List Nat)) (rk : Nat → Nat) (ov : Nat → Option Nat) : Prop where
  b : ∀ x y, ov x = some y → ∀ d : Nat, rk d < rk y → ReachN nx (d : Int) y → ReachN nx (d : Int) x
  dom : ∀ x, PR ov x → ∀ d : Nat, d ≠ x → ¬ ReachN nx (d : Int) x → Anc ov d x
section
variable {nx : List (List Nat)} {rk : Nat → Nat} {ov : Nat → Option Nat}
theorem DI.down (h : DI nx rk ov) (t : Tr rk ov) {y x d : Nat} (ha : Anc ov y x) (hd : rk d < rk y) (hr : ReachN nx (d : Int) y) : ReachN nx (d : Int) x := by
  induction ha with
  | refl => exact hr
  | step h1 h2 ih =>
    refine h.b _ _ h1 d ?_ ih
    rcases h2.le t with e | e
    · subst e; exact hd
    · omega
theorem DI.empty (h0 : ∀ x, ov x = none) (hn : 0 < nx.length) : DI nx rk ov := by
  refine ⟨fun x y h => (by rw [h0] at h; cases h), fun x hx d hd hr => ?_⟩
  rcases hx with rfl | hx
  · exact absurd (.zero (by omega) hn) hr
  · exact absurd (h0 x) hx
theorem DI.pt (h : DI nx rk ov) (t : Tr rk ov) {k m : Nat} (hm : IsMeet ov (fun p => Ed nx p k ∧ PR ov p) m) (hex : ∃ p, Ed nx p k ∧ PR ov p) (hlt : rk m < rk k) : DI nx rk (pt ov k m) := by
  -- above m nothing has turned
  have keepm : ∀ {d z}, rk z < rk k → Anc ov d z → Anc (Dm.pt ov k m) d z := fun hz ha => by
    induction ha with
    | refl => exact .refl
    | step h1 _ ih =>
      rename_i x y _
      have e : x ≠ k := by rintro rfl; omega
      have := (t.up x y h1).1
      exact .step (by rw [pt_ne e]; exact h1) (ih (by omega))
  have atk : ∀ d : Nat, d ≠ k → ¬ ReachN nx (d : Int) k → Anc (Dm.pt ov k m) d k := fun d hd hr => by
    refine .step (pt_same _ _ _) (keepm hlt ((hm d).2 fun p hp => ?_))
    by_cases e : d = p
    · subst e; exact .refl
    · exact h.dom p hp.2 d e fun hw => hr (.step hw hp.1 (by omega))
  have move : ∀ {d x}, Anc ov d x → ¬ ReachN nx (d : Int) x → Anc (Dm.pt ov k m) d x := fun ha => by
    induction ha with
    | refl => exact fun _ => .refl
    | step h1 h2 ih =>
      rename_i d _ x y
      intro hr
      by_cases e : x = k
      · subst e
        by_cases ed : d = x
        · subst ed; exact .refl
        · exact atk d ed hr
      · refine .step (by rw [pt_ne e]; exact h1) ?_
        rcases h2.le t with ed | ed
        · subst ed; exact .refl
        · exact ih fun hw => hr (h.b _ _ h1 d ed hw)
  refine ⟨fun x y hy d hd hr => ?_, fun x hx d hd hr => ?_⟩
  · by_cases e : x = k
    · subst e
      rw [pt_same] at hy
      cases hy
      obtain ⟨p, hp⟩ := hex
      exact .step (h.down t ((hm m).1 .refl p hp) hd hr) hp.1 (fun e => by
        have e : x = d := by omega
        subst e
        omega)
    · rw [pt_ne e] at hy
      exact h.b x y hy d hd hr
  · by_cases e : x = k
    · subst e; exact atk d hd hr
    · exact move (h.dom x (hx.imp id fun h => by rw [pt_ne e] at h; exact h) d hd hr) hr
/-- At the end: what stands over a node is what dominates it. -/
theorem DI.iff (h : DI nx rk ov) (t : Tr rk ov) (hpr : ∀ x, ReachN nx (-1) x → PR ov x) (hfix : ∀ x c, ov x = some c → IsMeet ov (fun p => Ed nx p x ∧ PR ov p) c) {d x : Nat} (hx : ReachN nx (-1) x) :
    Anc ov d x ↔ d = x ∨ ¬ ReachN nx (d : Int) x := by
  constructor
  · intro ha
    refine Classical.or_iff_not_imp_left.2 fun hne hw => ?_
    have all : ∀ {wo : Int} {z : Nat}, ReachN nx wo z → wo = (d : Int) → ReachN nx (-1) z := fun {wo z} hz => by
      induction hz with
      | zero _ h2 => exact fun _ => .zero (by decide) h2
      | step _ ht _ ih => exact fun e => .step (ih e) ht (by omega)
    have key : ∀ {wo : Int} {z : Nat}, ReachN nx wo z → wo = (d : Int) → d ≠ z → ¬ Anc ov d z := fun {wo z} hz => by
      induction hz with
      | zero h1 h2 => exact fun e hdz ha => hdz (ha.none t.root)
      | step hi ht hw ih =>
        rename_i i u
        intro e hdu ha
        rcases ha.inv with e' | ⟨c, hc, ha⟩
        · exact hdu e'
        · have hdi : d ≠ i := by
            rintro rfl
            cases hi with
            | zero h1 h2 => exact h1 (by omega)
            | step _ _ h3 => exact h3 (by omega)
          exact ih e hdi ((hfix u c hc d).1 ha i ⟨ht, hpr i (all hi e)⟩)
    exact key hw rfl hne ha
  · rintro (rfl | hw)
    · exact .refl
    · by_cases e : d = x
      · subst e; exact .refl
      · exact h.dom x (hpr x hx) d e hw
end

/-! ### The rounds -/
theorem countP_lt {p q : Nat → Bool} : ∀ {l : List Nat}, (∀ x, p x = true → q x = true) → (∃ x ∈ l, q x = true ∧ p x = false) → l.countP p < l.countP q
  | [], _, ⟨_, h, _⟩ => by cases h
  | y :: r, hpq, ⟨x, hx, h1, h2⟩ => by
    have hle : r.countP p ≤ r.countP q := List.countP_mono_left fun x _ h => hpq x h
    rcases List.mem_cons.1 hx with rfl | hx
    · rw [List.countP_cons_of_neg (by simp [h2]), List.countP_cons_of_pos h1]
      omega
    · have := countP_lt hpq ⟨x, hx, h1, h2⟩
      by_cases hp : p y = true
      · rw [List.countP_cons_of_pos hp, List.countP_cons_of_pos (hpq y hp)]
        omega
      · rw [List.countP_cons_of_neg hp]
        by_cases hq : q y = true
        · rw [List.countP_cons_of_pos hq]; omega
        · rw [List.countP_cons_of_neg hq]; exact this

def rkOf (od : List Nat) (x : Nat) : Nat := od.idxOf x
/-- The state of dom.settle, with a number that each change lowers. -/
structure SS (nx : List (List Nat)) (od : List Nat) (ov : Nat → Option Nat) (j : Nat) : Prop where
  di : DI nx (rkOf od) ov
  ph : ∃ v ov0 K, Ph (rkOf od) (Ed nx) v ov0 ov ∧ 1 ≤ K ∧ K ≤ od.length ∧ (∀ x, PR ov x ↔ x ∈ od.take K) ∧ j = (od.length - K) * (od.length + 1) + od.countP fun x => decide (ov x = ov0 x)
/-- What is asked of the order. -/
structure OdOk (nx : List (List Nat)) (od : List Nat) : Prop where
  head : ∃ l, od = 0 :: l
  nodup : od.Nodup
  par : ∀ k (hk : k < od.length), 0 < k → ∃ j, ∃ hj : j < k, od[k] ∈ nx.getD (od[j]'(by omega)) []
section
variable {nx : List (List Nat)} {od : List Nat} {ov : Nat → Option Nat} {j : Nat}
theorem rkOf_get (h : od.Nodup) {k : Nat} (hk : k < od.length) : rkOf od od[k] = k := List.Nodup.idxOf_getElem h k hk
theorem SS.tr (h : SS nx od ov j) : Tr (rkOf od) ov := let ⟨_, _, _, h1, _⟩ := h.ph; h1.tr
theorem SS.start (ok : OdOk nx od) (hn : 0 < nx.length) (h0 : ∀ x, ov x = none) : ∃ j, SS nx od ov j := by
  obtain ⟨l, hl⟩ := ok.head
  refine ⟨_, .empty h0 hn, 0, ov, 1, .empty h0, Nat.le_refl _, by rw [hl]; simp, fun x => ?_, rfl⟩
  rw [hl]
  simp [PR, h0]
/-- The next change: at node od[i], all ahead of it being settled. -/
theorem SS.next (ok : OdOk nx od) (h : SS nx od ov j) {i m : Nat} (hi : i < od.length) (h0 : od[i] ≠ 0)
    (hpre : ∀ k (hk : k < i), od[k] ≠ 0 → ∃ c, ov od[k] = some c ∧ IsMeet ov (fun p => Ed nx p od[k] ∧ PR ov p) c)
    (hm : IsMeet ov (fun p => Ed nx p od[i] ∧ PR ov p) m) (hpm : PR ov m) (hne : ov od[i] ≠ some m) : ∃ j', j' < j ∧ SS nx od (pt ov od[i] m) j' := by
  obtain ⟨hdi, v, ov0, K, hph, hK1, hK, hpr, rfl⟩ := h
  have t := hph.tr
  have hi0 : 0 < i := by
    obtain ⟨l, hl⟩ := ok.head
    rcases Nat.eq_zero_or_pos i with e | e
    · subst e; exact absurd (by simp [hl]) h0
    · exact e
  have hprei : ∀ k (hk : k < i), PR ov od[k] := fun k hk => by
    by_cases e : od[k] = 0
    · exact .inl e
    · obtain ⟨c, hc, _⟩ := hpre k hk e
      exact .inr (by rw [hc]; simp)
  obtain ⟨q, hq, hqe⟩ := ok.par i hi hi0
  have hex : ∃ p, Ed nx p od[i] ∧ PR ov p := ⟨_, hqe, hprei q hq⟩
  have hlt : rkOf od m < rkOf od od[i] := by
    rw [rkOf_get ok.nodup hi]
    have ha := (hm m).1 .refl _ ⟨hqe, hprei q hq⟩
    rcases ha.le t with e | e
    · rw [e, rkOf_get ok.nodup]; exact hq
    · rw [rkOf_get ok.nodup] at e; omega
  have hdi' := hdi.pt t hm hex hlt
  have memtake : ∀ k (hk : k < od.length), od[k] ∈ od.take K ↔ k < K := fun k hk => by
    constructor
    · intro hh
      obtain ⟨k', hk', e⟩ := List.mem_iff_getElem.1 hh
      rw [List.getElem_take] at e
      have h1 := rkOf_get ok.nodup hk
      have h2 := rkOf_get ok.nodup (k := k') (by rw [List.length_take] at hk'; omega)
      rw [e, h1] at h2
      rw [List.length_take] at hk'
      omega
    · intro hh
      exact List.mem_iff_getElem.2 ⟨k, by rw [List.length_take]; omega, by simp⟩
  have hmul : (od.length - K) * (od.length + 1) = (od.length - K) * od.length + (od.length - K) := Nat.mul_succ _ _
  by_cases hiK : i < K
  · -- a change of an old value
    have hpi : PR ov od[i] := (hpr _).2 ((memtake i hi).2 hiK)
    obtain ⟨c, hc⟩ : ∃ c, ov od[i] = some c := by
      rcases hpi with e | e
      · exact absurd e h0
      · cases e' : ov od[i] with
        | none => exact absurd e' e
        | some c => exact ⟨c, rfl⟩
    obtain ⟨g1, g2, _, _⟩ := hph.move hc hm (fun e => hne (by rw [hc, e]))
    refine ⟨_, ?_, hdi', v, ov0, K, g2, hK1, hK, fun x => ?_, rfl⟩
    · refine Nat.add_lt_add_left (countP_lt (fun x hx => ?_) ⟨od[i], List.getElem_mem hi, by simp [g1], ?_⟩) _
      · by_cases e : x = od[i]
        · subst e
          simp [g1]
        · simpa [pt_ne e] using hx
      · rw [pt_same, decide_eq_false_iff_not, ← g1]
        exact fun e => hne e.symm
    · rw [← hpr x]
      unfold PR
      by_cases e : x = od[i]
      · subst e; rw [pt_same, hc]; simp
      · rw [pt_ne e]
  · -- a new node
    have hiK' : i = K := by
      have : ¬ K < i := fun hKi => by
        have := (memtake K (by omega)).1 ((hpr _).1 (hprei K hKi))
        omega
      omega
    have hnone : ov od[i] = none := by
      have : ¬ PR ov od[i] := fun hh => hiK ((memtake i hi).1 ((hpr _).1 hh))
      cases e : ov od[i] with
      | none => rfl
      | some c => exact absurd (.inr (by rw [e]; simp)) this
    have hall : ∀ x c, ov x = some c → IsMeet ov (fun p => Ed nx p x ∧ PR ov p) c := fun x c hc => by
      obtain ⟨k, hk, e⟩ := List.mem_iff_getElem.1 ((hpr x).1 (.inr (by rw [hc]; simp)))
      rw [List.getElem_take] at e
      rw [List.length_take] at hk
      have hx0 : x ≠ 0 := by rintro rfl; rw [t.root] at hc; cases hc
      obtain ⟨c', hc', hm'⟩ := hpre k (by omega) (by rw [e]; exact hx0)
      simp only [e] at hc' hm'
      rw [hc] at hc'
      cases hc'
      exact hm'
    refine ⟨_, ?_, hdi', od[i], pt ov od[i] m, K + 1, Ph.start t hall hnone h0 hm hpm hlt, by omega, by omega, fun x => ?_, rfl⟩
    · have hcl : od.countP (fun x => decide (pt ov od[i] m x = pt ov od[i] m x)) ≤ od.length := List.countP_le_length
      have h2 : (od.length - K) * (od.length + 1) = (od.length - (K + 1)) * (od.length + 1) + (od.length + 1) := by
        rw [show od.length - K = od.length - (K + 1) + 1 by omega, Nat.succ_mul]
      omega
    · have e1 : od.take (K + 1) = od.take K ++ [od[i]] := by
        subst hiK'
        exact List.take_succ_eq_append_getElem hi
      rw [e1, List.mem_append, List.mem_singleton, ← hpr x]
      unfold PR
      by_cases e : x = od[i]
      · subst e; rw [pt_same]; simp
      · rw [pt_ne e]; simp [e]
end

end Go.Dm
