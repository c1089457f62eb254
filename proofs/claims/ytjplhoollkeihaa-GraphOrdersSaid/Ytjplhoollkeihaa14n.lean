/-
  Plain law: where edges lead to greater nodes alone, the order is one of the edges.
-/
import Derived.Test.Ytjplhoollkeihaa14m
namespace Go.Gr

/-- Edges lead to greater nodes. -/
def Fwd (nx : List (List Nat)) : Prop := ∀ i, ∀ t ∈ nx.getD i [], i < t ∧ t < nx.length
/-- What has been left: each once, its edges' ends ahead of it. -/
structure LeftOk (nx : List (List Nat)) (l : List Nat) : Prop where
  nodup : l.Nodup
  ahead : ∀ k (h : k < l.length), ∀ t ∈ nx.getD l[k] [], t ∈ l.take k
theorem LeftOk.snoc {nx : List (List Nat)} {l : List Nat} {i : Nat} (h : LeftOk nx l) (hi : i ∉ l) (ht : ∀ t ∈ nx.getD i [], t ∈ l) : LeftOk nx (l ++ [i]) := by
  refine ⟨?_, fun k hk t htk => ?_⟩
  · rw [List.nodup_append]
    exact ⟨h.nodup, by simp, fun a ha b hb e => by simp at hb; subst hb; subst e; exact hi ha⟩
  · by_cases hl : k < l.length
    · rw [List.getElem_append_left hl] at htk
      rw [List.take_append_of_le_length (by omega)]
      exact h.ahead k hl t htk
    · have hk' : k = l.length := by rw [List.length_append] at hk; simp at hk; omega
      subst hk'
      rw [List.getElem_append_right (Nat.le_refl _)] at htk
      simp only [Nat.sub_self, List.getElem_cons_zero] at htk
      rw [List.take_append_of_le_length (Nat.le_refl _), List.take_length]
      exact ht t htk

/-- From state s to state s' all that has come anew has been left. -/
structure Step (nx : List (List Nat)) (s s' : List Nat × List Nat) : Prop where
  ok : LeftOk nx s'.2
  came : ∀ x ∈ s.1, x ∈ s'.1
  left : ∀ x ∈ s.2, x ∈ s'.2
  new : ∀ x ∈ s'.1, x ∈ s.1 ∨ x ∈ s'.2
  sub : ∀ x ∈ s'.2, x ∈ s'.1
  fresh : ∀ x ∈ s'.2, x ∈ s.2 ∨ x ∉ s.1
theorem visit_fwd {nx : List (List Nat)} (hf : Fwd nx) : ∀ (f i : Nat) (s : List Nat × List Nat), i < nx.length → nx.length ≤ f + i → i ∉ s.1 → (∀ x ∈ s.1, x ∉ s.2 → x < i) → (∀ x ∈ s.2, x ∈ s.1) → LeftOk nx s.2 →
    Step nx s (visit nx f i s) ∧ i ∈ (visit nx f i s).2 := by
  intro f
  induction f with
  | zero => intro i s h1 h2; omega
  | succ f ih =>
    intro i s hi hfu hni hst hsub hok
    have all : ∀ (l : List Nat) (s1 : List Nat × List Nat), (∀ t ∈ l, i < t ∧ t < nx.length) → (∀ x ∈ s1.1, x ∉ s1.2 → x < i + 1) → (∀ x ∈ s1.2, x ∈ s1.1) → LeftOk nx s1.2 →
        Step nx s1 (visitAll nx f l s1) ∧ ∀ t ∈ l, t ∈ (visitAll nx f l s1).2 := by
      intro l
      induction l with
      | nil => intro s1 _ _ h3 h4; exact ⟨⟨h4, fun _ h => h, fun _ h => h, fun _ h => .inl h, h3, fun _ h => .inl h⟩, by simp⟩
      | cons t r ihl =>
        intro s1 hl h2 h3 h4
        have hlt := hl t (by simp)
        have e : visitAll nx f (t :: r) s1 = visitAll nx f r (if s1.1.contains t then s1 else visit nx f t s1) := rfl
        rw [e]
        by_cases hc : t ∈ s1.1
        · rw [if_pos (by simpa using hc)]
          obtain ⟨g1, g2⟩ := ihl s1 (fun u hu => hl u (by simp [hu])) h2 h3 h4
          refine ⟨g1, fun u hu => ?_⟩
          rcases List.mem_cons.1 hu with rfl | hu
          · refine g1.left _ ?_
            by_cases hx : u ∈ s1.2
            · exact hx
            · have := h2 u hc hx; omega
          · exact g2 u hu
        · rw [if_neg (by simpa using hc)]
          obtain ⟨v1, v2⟩ := ih t s1 hlt.2 (by omega) hc (fun x hx hx' => by have := h2 x hx hx'; omega) h3 h4
          obtain ⟨g1, g2⟩ := ihl (visit nx f t s1) (fun u hu => hl u (by simp [hu])) (fun x hx hx' => by
            rcases v1.new x hx with h | h
            · refine h2 x h fun h' => hx' (v1.left x h')
            · exact absurd h hx') v1.sub v1.ok
          refine ⟨⟨g1.ok, fun x hx => g1.came x (v1.came x hx), fun x hx => g1.left x (v1.left x hx), fun x hx => ?_, g1.sub, fun x hx => ?_⟩, fun u hu => ?_⟩
          · rcases g1.new x hx with h | h
            · rcases v1.new x h with h | h
              · exact .inl h
              · exact .inr (g1.left x h)
            · exact .inr h
          · rcases g1.fresh x hx with h | h
            · exact v1.fresh x h
            · exact .inr fun h' => h (v1.came x h')
          · rcases List.mem_cons.1 hu with rfl | hu
            · exact g1.left _ v2
            · exact g2 u hu
    rw [visit_succ]
    obtain ⟨a1, a2⟩ := all (nx.getD i []) (s.1 ++ [i], s.2) (hf i) (fun x hx hx' => by
      rcases List.mem_append.1 hx with h | h
      · have := hst x h hx'; omega
      · simp at h; omega) (fun x hx => List.mem_append.2 (.inl (hsub x hx))) hok
    have hni' : i ∉ (visitAll nx f (nx.getD i []) (s.1 ++ [i], s.2)).2 := by
      intro h
      rcases a1.fresh i h with h | h
      · exact hni (hsub i h)
      · exact h (by simp)
    refine ⟨⟨a1.ok.snoc hni' a2, fun x hx => a1.came x (by simp [hx]), fun x hx => List.mem_append.2 (.inl (a1.left x hx)), fun x hx => ?_, fun x hx => ?_, fun x hx => ?_⟩, by simp⟩
    · rcases a1.new x hx with h | h
      · rcases List.mem_append.1 h with h | h
        · exact .inl h
        · exact .inr (List.mem_append.2 (.inr h))
      · exact .inr (List.mem_append.2 (.inl h))
    · rcases List.mem_append.1 hx with h | h
      · exact a1.sub x h
      · simp at h; subst h; exact a1.came _ (by simp)
    · rcases List.mem_append.1 hx with h | h
      · rcases a1.fresh x h with h | h
        · exact .inl h
        · exact .inr fun h' => h (by simp [h'])
      · simp at h; subst h; exact .inr hni

/-- The place of a node. -/
theorem findIdx_nodup {l : List Int} (h : l.Nodup) {k : Nat} (hk : k < l.length) : l.findIdx? (· == l[k]) = some k := by
  rw [List.findIdx?_eq_some_iff_getElem]
  refine ⟨hk, by simp, fun j hj => ?_⟩
  have := List.pairwise_iff_getElem.1 h j k (by omega) hk hj
  simpa using this
theorem nodup_cast {l : List Nat} (h : l.Nodup) : (l.map fun (x : Nat) => (x : Int)).Nodup := by
  refine List.pairwise_map.2 (h.imp fun {a b} hab e => hab ?_)
  omega

/-- In the order a node that is reached stands ahead of its edges' ends. -/
theorem order_fwd {nx : List (List Nat)} (hf : Fwd nx) (h0 : 0 < nx.length) {i t : Nat} (hi : i ∈ walkOf nx) (ht : t ∈ nx.getD i []) :
    ∃ a b : Nat, ((orderOf nx).map fun (x : Nat) => (x : Int)).findIdx? (· == (i : Int)) = some a ∧ ((orderOf nx).map fun (x : Nat) => (x : Int)).findIdx? (· == (t : Int)) = some b ∧ a < b := by
  obtain ⟨v, _⟩ := visit_fwd hf nx.length 0 ([], []) h0 (by omega) (by simp) (by simp) (by simp) ⟨by simp, fun k hk => by simp at hk⟩
  have hil : i ∈ (visit nx nx.length 0 ([], [])).2 := by
    rcases v.new i hi with h | h
    · cases h
    · exact h
  obtain ⟨k, hk, rfl⟩ := List.mem_iff_getElem.1 hil
  have hta := v.ok.ahead k hk t ht
  obtain ⟨j, hj, rfl⟩ := List.mem_iff_getElem.1 hta
  have hj' : j < k := by rw [List.length_take] at hj; omega
  have hnd : ((orderOf nx).map fun (x : Nat) => (x : Int)).Nodup := nodup_cast (by unfold orderOf; exact List.pairwise_reverse.2 (v.ok.nodup.imp fun h => h.symm))
  have hlen : (orderOf nx).length = (visit nx nx.length 0 ([], [])).2.length := by simp [orderOf]
  have each : ∀ m (hm : m < (visit nx nx.length 0 ([], [])).2.length), ((orderOf nx).map fun (x : Nat) => (x : Int)).findIdx? (· == (((visit nx nx.length 0 ([], [])).2[m] : Nat) : Int)) = some ((visit nx nx.length 0 ([], [])).2.length - 1 - m) := by
    intro m hm
    have hlt : (visit nx nx.length 0 ([], [])).2.length - 1 - m < ((orderOf nx).map fun (x : Nat) => (x : Int)).length := by rw [List.length_map, hlen]; omega
    have := findIdx_nodup hnd hlt
    have e : ((orderOf nx).map fun (x : Nat) => (x : Int))[(visit nx nx.length 0 ([], [])).2.length - 1 - m] = (((visit nx nx.length 0 ([], [])).2[m] : Nat) : Int) := by
      simp only [List.getElem_map, orderOf, List.getElem_reverse]
      congr 2
      omega
    rw [e] at this
    exact this
  exact ⟨_, (visit nx nx.length 0 ([], [])).2.length - 1 - j, each k hk, by simp only [List.getElem_take]; exact each j (by omega), by omega⟩

end Go.Gr
