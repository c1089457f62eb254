/-
  Plain: rows that are rotated, and merged runs (as slices.SortStableFunc does it).
-/
import Derived.Test.YtjplhoollkeihaaGkN
namespace Go.St

/-- The n from a on and the n from b on, swapped. -/
def swr (d : Nat → Nat) (a b n : Nat) : Nat → Nat := fun k => if a ≤ k ∧ k < a + n then d (k - a + b) else if b ≤ k ∧ k < b + n then d (k - b + a) else d k
/-- [a, m) and [m, b), the other way round. -/
def rot (d : Nat → Nat) (a m b : Nat) : Nat → Nat := fun k => if a ≤ k ∧ k < a + (b - m) then d (k + (m - a)) else if a + (b - m) ≤ k ∧ k < b then d (k - (b - m)) else d k
def upd (d : Nat → Nat) (k v : Nat) : Nat → Nat := fun i => if i = k then v else d i

theorem rot_gt {d : Nat → Nat} {m i j : Nat} (hi : i ≤ m) (hj : 0 < j) (h : j < i) : rot (swr d (m - i) m j) (m - i + j) m (m + j) = rot d (m - i) m (m + j) := by
  funext k
  simp only [rot, swr]
  repeat' split
  all_goals first | omega | (congr 1; omega)
theorem rot_lt {d : Nat → Nat} {m i j : Nat} (hi : i ≤ m) (h0 : 0 < i) (h : i < j) : rot (swr d (m - i) (m + j - i) i) (m - i) m (m + j - i) = rot d (m - i) m (m + j) := by
  funext k
  simp only [rot, swr]
  repeat' split
  all_goals first | omega | (congr 1; omega)
theorem rot_eq {d : Nat → Nat} {m i : Nat} (hi : i ≤ m) : swr d (m - i) m i = rot d (m - i) m (m + i) := by
  funext k
  simp only [rot, swr]
  repeat' split
  all_goals first | omega | (congr 1; omega)
theorem rot_id1 {d : Nat → Nat} {m e : Nat} : rot d m m e = d := by
  funext k
  simp only [rot]
  repeat' split
  all_goals first | omega | (congr 1; omega)
theorem rot_id2 {d : Nat → Nat} {s m : Nat} (h : s ≤ m) : rot d s m m = d := by
  funext k
  simp only [rot]
  repeat' split
  all_goals first | omega | (congr 1; omega)

section
variable (dp : Nat → Int)
/-- The order: by depth, then by number. -/
def lt (x y : Nat) : Prop := dp x < dp y ∨ (dp x = dp y ∧ x < y)
theorem lt_trans {x y z : Nat} (h : lt dp x y) (k : lt dp y z) : lt dp x z := by unfold lt at *; omega
theorem lt_tot {x y : Nat} (h : x ≠ y) : lt dp x y ∨ lt dp y x := by unfold lt; omega
theorem lt_irr {x : Nat} : ¬ lt dp x x := by unfold lt; omega
def So (d : Nat → Nat) (a b : Nat) : Prop := ∀ i j, a ≤ i → i < j → j < b → lt dp (d i) (d j)
/-- The same numbers, in another order, within [a, b). -/
structure Per (d d' : Nat → Nat) (a b : Nat) : Prop where
  out : ∀ k, k < a ∨ b ≤ k → d' k = d k
  old : ∀ k, a ≤ k → k < b → ∃ i, a ≤ i ∧ i < b ∧ d' k = d i
theorem Per.refl (d : Nat → Nat) (a b : Nat) : Per d d a b := ⟨fun _ _ => rfl, fun k h1 h2 => ⟨k, h1, h2, rfl⟩⟩
theorem Per.trans {d d' d'' : Nat → Nat} {a b : Nat} (h : Per d d' a b) (k : Per d' d'' a b) : Per d d'' a b :=
  ⟨fun i hi => (k.out i hi).trans (h.out i hi), fun i h1 h2 => by
    obtain ⟨j, j1, j2, e⟩ := k.old i h1 h2
    obtain ⟨l, l1, l2, e'⟩ := h.old j j1 j2
    exact ⟨l, l1, l2, e.trans e'⟩⟩
theorem Per.wide {d d' : Nat → Nat} {a b a' b' : Nat} (h : Per d d' a b) (ha : a' ≤ a) (hb : b ≤ b') : Per d d' a' b' :=
  ⟨fun i hi => h.out i (by omega), fun i h1 h2 => by
    by_cases hh : a ≤ i ∧ i < b
    · obtain ⟨j, j1, j2, e⟩ := h.old i hh.1 hh.2
      exact ⟨j, by omega, by omega, e⟩
    · exact ⟨i, h1, h2, h.out i (by omega)⟩⟩
theorem rot_per {d : Nat → Nat} {a s m e b : Nat} (h1 : a ≤ s) (h2 : s ≤ m) (h3 : m ≤ e) (h4 : e ≤ b) : Per d (rot d s m e) a b := by
  refine ⟨fun k hk => ?_, fun k k1 k2 => ?_⟩
  · simp only [rot]
    repeat' split
    all_goals first | omega | rfl
  · simp only [rot]
    split
    · exact ⟨_, by omega, by omega, rfl⟩
    · split
      · exact ⟨_, by omega, by omega, rfl⟩
      · exact ⟨_, k1, k2, rfl⟩
variable {dp}
/-- Where runs are merged by one rotation. -/
theorem rot_so {d : Nat → Nat} {a s m e b : Nat} (h1 : a ≤ s) (h2 : s ≤ m) (h3 : m ≤ e) (h4 : e ≤ b) (hl : So dp d a m) (hr : So dp d m b)
    (hA : ∀ i j, s ≤ i → i < m → m ≤ j → j < e → lt dp (d j) (d i)) (hB : ∀ i j, a ≤ i → i < s → e ≤ j → j < b → lt dp (d i) (d j))
    (hC : ∀ i j, a ≤ i → i < s → m ≤ j → j < e → lt dp (d i) (d j)) (hD : ∀ i j, s ≤ i → i < m → e ≤ j → j < b → lt dp (d i) (d j)) : So dp (rot d s m e) a b := by
  intro i j hi hij hj
  by_cases c1 : i < s <;> by_cases c2 : j < s <;> by_cases c3 : i < e <;> by_cases c4 : j < e
  all_goals
   simp only [rot]
   repeat' split
  all_goals first
    | omega
    | exact hl _ _ (by omega) (by omega) (by omega)
    | exact hr _ _ (by omega) (by omega) (by omega)
    | exact hA _ _ (by omega) (by omega) (by omega) (by omega)
    | exact hB _ _ (by omega) (by omega) (by omega) (by omega)
    | exact hC _ _ (by omega) (by omega) (by omega) (by omega)
    | exact hD _ _ (by omega) (by omega) (by omega) (by omega)
/-- The four runs behind a rotation. -/
theorem rot_four {d : Nat → Nat} {a s m e b : Nat} (h1 : a ≤ s) (h2 : s ≤ m) (h3 : m ≤ e) (h4 : e ≤ b) (hl : So dp d a m) (hr : So dp d m b)
    (hA : ∀ i j, s ≤ i → i < m → m ≤ j → j < e → lt dp (d j) (d i)) (hB : ∀ i j, a ≤ i → i < s → e ≤ j → j < b → lt dp (d i) (d j)) :
    So dp (rot d s m e) a s ∧ So dp (rot d s m e) s (s + (e - m)) ∧ So dp (rot d s m e) (s + (e - m)) e ∧ So dp (rot d s m e) e b ∧
      ∀ i j, a ≤ i → i < s + (e - m) → s + (e - m) ≤ j → j < b → lt dp (rot d s m e i) (rot d s m e j) := by
  refine ⟨fun i j hi hij hj => ?_, fun i j hi hij hj => ?_, fun i j hi hij hj => ?_, fun i j hi hij hj => ?_, fun i j hi h5 h6 hj => ?_⟩
  all_goals
    by_cases c1 : i < s <;> by_cases c2 : j < s <;> by_cases c3 : i < e <;> by_cases c4 : j < e
  all_goals
    simp only [rot]
    repeat' split
    all_goals first
      | omega
      | exact hl _ _ (by omega) (by omega) (by omega)
      | exact hr _ _ (by omega) (by omega) (by omega)
      | exact hA _ _ (by omega) (by omega) (by omega) (by omega)
      | exact hB _ _ (by omega) (by omega) (by omega) (by omega)
/-- Two halves, one all ahead of the other, each put in order. -/
theorem so_join {d d' : Nat → Nat} {a m b : Nat} (hp1 : ∀ k, a ≤ k → k < m → ∃ i, a ≤ i ∧ i < m ∧ d' k = d i) (hp2 : ∀ k, m ≤ k → k < b → ∃ i, m ≤ i ∧ i < b ∧ d' k = d i)
    (hs1 : So dp d' a m) (hs2 : So dp d' m b) (hh : ∀ i j, a ≤ i → i < m → m ≤ j → j < b → lt dp (d i) (d j)) : So dp d' a b := by
  intro i j hi hij hj
  by_cases c1 : j < m
  · exact hs1 i j hi hij c1
  · by_cases c2 : i < m
    · obtain ⟨i', a1, a2, e⟩ := hp1 i hi c2
      obtain ⟨j', b1, b2, e'⟩ := hp2 j (by omega) hj
      rw [e, e']
      exact hh i' j' a1 a2 b1 b2
    · exact hs2 i j (by omega) hij hj
/-- Blocks in order, each of its own numbers. -/
structure Bk (dp : Nat → Int) (d : Nat → Nat) (a b : Nat) : Prop where
  so : So dp d a b
  own : ∀ k, a ≤ k → k < b → a ≤ d k ∧ d k < b
theorem Bk.merge {d d' : Nat → Nat} {a m b : Nat} (h : Bk dp d a m) (k : Bk dp d m b) (hm : a ≤ m) (hb : m ≤ b) (hp : Per d d' a b) (hs : So dp d' a b) : Bk dp d' a b :=
  ⟨hs, fun i h1 h2 => by
    obtain ⟨j, j1, j2, e⟩ := hp.old i h1 h2
    rw [e]
    by_cases c : j < m
    · have := h.own j j1 c; omega
    · have := k.own j (by omega) j2; omega⟩
theorem Bk.of_out {d d' : Nat → Nat} {a b : Nat} (h : Bk dp d a b) (ho : ∀ k, a ≤ k → k < b → d' k = d k) : Bk dp d' a b :=
  ⟨fun i j hi hij hj => by rw [ho i hi (by omega), ho j (by omega) hj]; exact h.so i j hi hij hj, fun k h1 h2 => by rw [ho k h1 h2]; exact h.own k h1 h2⟩
end

end Go.St
