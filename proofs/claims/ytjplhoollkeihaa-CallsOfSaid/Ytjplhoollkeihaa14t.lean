/-
  Plain law: the walk comes to what a way leads to from the first node.
-/
import Derived.Test.Ytjplhoollkeihaa14m
namespace Go.Gr

/-- A way leads from the first node to a node, never through wo. -/
inductive ReachN (nx : List (List Nat)) (wo : Int) : Nat → Prop
  | zero : wo ≠ 0 → 0 < nx.length → ReachN nx wo 0
  | step {i t : Nat} : ReachN nx wo i → t ∈ nx.getD i [] → (t : Int) ≠ wo → ReachN nx wo t

/-- What comes anew lies on edges, and has its edges' ends come too. -/
structure Clo (nx : List (List Nat)) (Q : Nat → Prop) (s s' : List Nat × List Nat) : Prop where
  came : ∀ x ∈ s.1, x ∈ s'.1
  closed : ∀ x ∈ s'.1, x ∈ s.1 ∨ ∀ t ∈ nx.getD x [], t ∈ s'.1
  sound : ∀ x ∈ s'.1, x ∈ s.1 ∨ Q x
theorem visit_clo {nx : List (List Nat)} (hnx : ∀ i, ∀ t ∈ nx.getD i [], t < nx.length) {Q : Nat → Prop} (hQ : ∀ i, Q i → ∀ t ∈ nx.getD i [], Q t) :
    ∀ (f i : Nat) (s : List Nat × List Nat), i < nx.length → s.1.Nodup → (∀ x ∈ s.1, x < nx.length) → i ∉ s.1 → nx.length ≤ s.1.length + f → Q i → Clo nx Q s (visit nx f i s) ∧ i ∈ (visit nx f i s).1 := by
  intro f
  induction f with
  | zero =>
    intro i s hi hnd hlt hni hf
    have := nodup_lt hnd hlt hi hni
    omega
  | succ f ih =>
    intro i s hi hnd hlt hni hf hq
    have hslt := nodup_lt hnd hlt hi hni
    have all : ∀ (l : List Nat) (s1 : List Nat × List Nat), (∀ t ∈ l, t < nx.length ∧ Q t) → s1.1.Nodup → (∀ x ∈ s1.1, x < nx.length) → nx.length ≤ s1.1.length + f → Clo nx Q s1 (visitAll nx f l s1) ∧ ∀ t ∈ l, t ∈ (visitAll nx f l s1).1 := by
      intro l
      induction l with
      | nil => intro s1 _ _ _ _; exact ⟨⟨fun _ h => h, fun _ h => .inl h, fun _ h => .inl h⟩, by simp⟩
      | cons t r ihl =>
        intro s1 hl h1 h2 h3
        have e : visitAll nx f (t :: r) s1 = visitAll nx f r (if s1.1.contains t then s1 else visit nx f t s1) := rfl
        rw [e]
        have ht := hl t (by simp)
        by_cases hc : t ∈ s1.1
        · rw [if_pos (by simpa using hc)]
          obtain ⟨g1, g2⟩ := ihl s1 (fun u hu => hl u (by simp [hu])) h1 h2 h3
          refine ⟨g1, fun u hu => ?_⟩
          rcases List.mem_cons.1 hu with rfl | hu
          · exact g1.came _ hc
          · exact g2 u hu
        · rw [if_neg (by simpa using hc)]
          obtain ⟨v1, v2⟩ := ih t s1 ht.1 h1 h2 hc h3 ht.2
          have hv := visit_came hnx f t s1 ht.1 h1 h2 hc
          have hm : s1.1.length ≤ (visit nx f t s1).1.length := by obtain ⟨l, e⟩ := hv.more; rw [e]; simp
          obtain ⟨g1, g2⟩ := ihl (visit nx f t s1) (fun u hu => hl u (by simp [hu])) hv.nodup hv.lt (by omega)
          refine ⟨⟨fun x hx => g1.came x (v1.came x hx), fun x hx => ?_, fun x hx => ?_⟩, fun u hu => ?_⟩
          · rcases g1.closed x hx with h | h
            · rcases v1.closed x h with h | h
              · exact .inl h
              · exact .inr fun u hu => g1.came u (h u hu)
            · exact .inr h
          · rcases g1.sound x hx with h | h
            · exact v1.sound x h
            · exact .inr h
          · rcases List.mem_cons.1 hu with rfl | hu
            · exact g1.came _ v2
            · exact g2 u hu
    rw [visit_succ]
    have hb : (s.1 ++ [i]).Nodup := by
      rw [List.nodup_append]
      exact ⟨hnd, by simp, fun x hx y hy => by simp at hy; subst hy; intro e; subst e; exact hni hx⟩
    obtain ⟨a1, a2⟩ := all (nx.getD i []) (s.1 ++ [i], s.2) (fun t ht => ⟨hnx i t ht, hQ i hq t ht⟩) hb (fun x hx => by
      rcases List.mem_append.1 hx with h | h
      · exact hlt x h
      · simp at h; subst h; exact hi) (by simp; omega)
    refine ⟨⟨fun x hx => a1.came x (List.mem_append.2 (.inl hx)), fun x hx => ?_, fun x hx => ?_⟩, a1.came i (by simp)⟩
    · rcases a1.closed x hx with h | h
      · rcases List.mem_append.1 h with h | h
        · exact .inl h
        · simp at h; subst h; exact .inr a2
      · exact .inr h
    · rcases a1.sound x hx with h | h
      · rcases List.mem_append.1 h with h | h
        · exact .inl h
        · simp at h; subst h; exact .inr hq
      · exact .inr h

theorem walk_reach {nx : List (List Nat)} (hnx : ∀ i, ∀ t ∈ nx.getD i [], t < nx.length) (h0 : 0 < nx.length) (j : Nat) : j ∈ walkOf nx ↔ ReachN nx (-1) j := by
  obtain ⟨c, c0⟩ := visit_clo hnx (Q := ReachN nx (-1)) (fun i hi t ht => .step hi ht (by omega)) nx.length 0 ([], []) h0 (by simp) (by simp) (by simp) (by simp) (.zero (by decide) h0)
  constructor
  · intro h
    rcases c.sound j h with h | h
    · cases h
    · exact h
  · intro h
    induction h with
    | zero => exact c0
    | step _ ht _ ih =>
      rcases c.closed _ ih with h | h
      · cases h
      · exact h _ ht

/-- Marks that hold all that they lead to hold all that is reached. -/
theorem reach_of_closed {nx : List (List Nat)} {wo : Int} {S : Nat → Prop} (h0 : 0 < nx.length → wo ≠ 0 → S 0) (hs : ∀ i, S i → ∀ t ∈ nx.getD i [], (t : Int) ≠ wo → S t) {j : Nat} (h : ReachN nx wo j) : S j := by
  induction h with
  | zero h1 h2 => exact h0 h2 h1
  | step _ ht hw ih => exact hs _ ih _ ht hw

end Go.Gr
