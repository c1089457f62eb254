/-
  Plain: each node of a walk, but the first, has one ahead of it from which an edge leads to it; in the order, too.
-/
import Derived.Test.Ytjplhoollkeihaa14k
import Derived.Test.Ytjplhoollkeihaa14t
namespace Go.Gr

def Pe (nx : List (List Nat)) (l : List Nat) : Prop := ∀ a b x, l = a ++ x :: b → a = [] ∨ ∃ y ∈ a, x ∈ nx.getD y []
def Pl (nx : List (List Nat)) (m : List Nat) : Prop := ∀ a b x, m = a ++ x :: b → b = [] ∨ ∃ y ∈ b, x ∈ nx.getD y []
theorem nodup_app {a b : List Nat} (h : (a ++ b).Nodup) : a.Nodup ∧ b.Nodup ∧ ∀ x ∈ a, x ∉ b := by
  rw [List.nodup_append] at h
  exact ⟨h.1, h.2.1, fun x hx hy => h.2.2 x hx x hy rfl⟩
theorem visit_par {nx : List (List Nat)} (hnx : ∀ i, ∀ t ∈ nx.getD i [], t < nx.length) :
    ∀ (f i : Nat) (s : List Nat × List Nat), i < nx.length → s.1.Nodup → (∀ x ∈ s.1, x < nx.length) → i ∉ s.1 → nx.length ≤ s.1.length + f →
      ∃ l m, (visit nx f i s).1 = s.1 ++ i :: l ∧ (visit nx f i s).2 = s.2 ++ (m ++ [i]) ∧ (∀ x, x ∈ m ↔ x ∈ l) ∧ m.Nodup ∧ Pe nx (i :: l) ∧ Pl nx (m ++ [i]) := by
  intro f
  induction f with
  | zero =>
    intro i s hi hnd hlt hni hf
    have := nodup_lt hnd hlt hi hni
    omega
  | succ f ih =>
    intro i s hi hnd hlt hni hf
    have hslt := nodup_lt hnd hlt hi hni
    have all : ∀ (r : List Nat) (s1 : List Nat × List Nat), (∀ t ∈ r, t < nx.length ∧ t ∈ nx.getD i []) → s1.1.Nodup → (∀ x ∈ s1.1, x < nx.length) → nx.length ≤ s1.1.length + f →
        (∃ l m, s1.1 = s.1 ++ i :: l ∧ s1.2 = s.2 ++ m ∧ (∀ x, x ∈ m ↔ x ∈ l) ∧ m.Nodup ∧ Pe nx (i :: l) ∧ ∀ a b x, m = a ++ x :: b → (∃ y ∈ b, x ∈ nx.getD y []) ∨ x ∈ nx.getD i []) →
        ∃ l m, (visitAll nx f r s1).1 = s.1 ++ i :: l ∧ (visitAll nx f r s1).2 = s.2 ++ m ∧ (∀ x, x ∈ m ↔ x ∈ l) ∧ m.Nodup ∧ Pe nx (i :: l) ∧ ∀ a b x, m = a ++ x :: b → (∃ y ∈ b, x ∈ nx.getD y []) ∨ x ∈ nx.getD i [] := by
      intro r
      induction r with
      | nil => intro s1 _ _ _ _ h; exact h
      | cons t r ihl =>
        intro s1 hl h1 h2 h3 h
        have e : visitAll nx f (t :: r) s1 = visitAll nx f r (if s1.1.contains t then s1 else visit nx f t s1) := rfl
        rw [e]
        have ht := hl t (by simp)
        by_cases hc : t ∈ s1.1
        · rw [if_pos (by simpa using hc)]
          exact ihl s1 (fun u hu => hl u (by simp [hu])) h1 h2 h3 h
        · rw [if_neg (by simpa using hc)]
          obtain ⟨l2, m2, v1, v2, v3, v4, v5, v6⟩ := ih t s1 ht.1 h1 h2 hc h3
          have hv := visit_came hnx f t s1 ht.1 h1 h2 hc
          have hm : s1.1.length ≤ (visit nx f t s1).1.length := by obtain ⟨l, e⟩ := hv.more; rw [e]; simp
          refine ihl (visit nx f t s1) (fun u hu => hl u (by simp [hu])) hv.nodup hv.lt (by omega) ?_
          obtain ⟨l, m, g1, g2, g3, g4, g5, g6⟩ := h
          have hnd' := hv.nodup
          rw [v1, g1] at hnd'
          obtain ⟨_, n2, n3⟩ := nodup_app hnd'
          have n2' := List.nodup_cons.1 n2
          refine ⟨l ++ t :: l2, m ++ (m2 ++ [t]), by rw [v1, g1]; simp, by rw [v2, g2]; simp, fun x => ?_, ?_, ?_, ?_⟩
          · simp only [List.mem_append, List.mem_cons, List.not_mem_nil, or_false, g3 x, v3 x]
            constructor <;> (rintro (h | h | h) <;> simp [h])
          · rw [List.nodup_append]
            refine ⟨g4, ?_, fun x hx y hy => ?_⟩
            · rw [List.nodup_append]
              exact ⟨v4, by simp, fun x hx y hy => by
                simp at hy; subst hy
                intro e; subst e
                exact n2'.1 ((v3 _).1 hx)⟩
            · intro e; subst e
              refine n3 x (by simp [(g3 x).1 hx]) ?_
              rcases List.mem_append.1 hy with hy | hy
              · exact List.mem_cons_of_mem _ ((v3 x).1 hy)
              · simp at hy; subst hy; exact List.mem_cons_self ..
          · intro a b x hx
            have hx : (i :: l) ++ (t :: l2) = a ++ x :: b := by simpa using hx
            rcases List.append_eq_append_iff.1 hx with ⟨a', ha, hb⟩ | ⟨c', ha, hb⟩
            · rcases v5 a' b x hb with e | ⟨y, hy, hxy⟩
              · subst e
                simp at hb
                exact .inr ⟨i, by rw [ha]; simp, by rw [← hb.1]; exact ht.2⟩
              · exact .inr ⟨y, by rw [ha]; simp [hy], hxy⟩
            · cases c' with
              | nil =>
                simp at hb ha
                exact .inr ⟨i, by rw [← ha]; simp, by rw [hb.1]; exact ht.2⟩
              | cons z c' =>
                simp at hb
                rw [← hb.1] at ha
                exact g5 a c' x ha
          · intro a b x hx
            rcases List.append_eq_append_iff.1 hx with ⟨a', ha, hb⟩ | ⟨c', ha, hb⟩
            · rcases v6 a' b x hb with e | h
              · subst e
                have : x = t := by have := congrArg List.getLast? hb; simpa using this.symm
                subst this
                exact .inr ht.2
              · exact .inl h
            · cases c' with
              | nil =>
                simp at hb
                rcases v6 [] b x (by simp [hb]) with e | h
                · subst e
                  have : x = t := by
                    have := congrArg List.getLast? hb
                    simpa using this
                  subst this
                  exact .inr ht.2
                · exact .inl h
              | cons z c' =>
                simp at hb
                obtain ⟨rfl, rfl⟩ := hb
                rcases g6 a c' x ha with ⟨y, hy, hxy⟩ | h
                · exact .inl ⟨y, by simp [hy], hxy⟩
                · exact .inr h
    have hb : (s.1 ++ [i]).Nodup := by
      rw [List.nodup_append]
      exact ⟨hnd, by simp, fun x hx y hy => by simp at hy; subst hy; intro e; subst e; exact hni hx⟩
    rw [visit_succ]
    obtain ⟨l, m, g1, g2, g3, g4, g5, g6⟩ := all (nx.getD i []) (s.1 ++ [i], s.2) (fun t ht => ⟨hnx i t ht, ht⟩) hb (fun x hx => by
      rcases List.mem_append.1 hx with h | h
      · exact hlt x h
      · simp at h; subst h; exact hi) (by simp; omega)
      ⟨[], [], by simp, by simp, by simp, by simp, fun a b x hx => by
        cases a with
        | nil => exact .inl rfl
        | cons _ a => simp at hx, fun a b x hx => by simp at hx⟩
    refine ⟨l, m, g1, by rw [g2]; simp, g3, g4, g5, fun a b x hx => ?_⟩
    rcases List.append_eq_append_iff.1 hx with ⟨a', ha, hb⟩ | ⟨c', ha, hb⟩
    · cases a' with
      | nil => simp at hb; exact .inl hb.2
      | cons z a' => simp at hb
    · cases c' with
      | nil => simp at hb; exact .inl hb.2
      | cons z c' =>
        simp at hb
        obtain ⟨rfl, rfl⟩ := hb
        rcases g6 a c' x ha with ⟨y, hy, hxy⟩ | h
        · exact .inr ⟨y, by simp [hy], hxy⟩
        · exact .inr ⟨i, by simp, h⟩

end Go.Gr
namespace Go.Proofs
open Go.Gk Go.RowKit Go.Gr
/-- The walk and the order of a graph: what they are like. -/
structure WalkOk (nx : List (List Nat)) : Prop where
  head : ∃ l, walkOf nx = 0 :: l
  par : ∀ k (hk : k < (walkOf nx).length), 0 < k → ∃ j, ∃ hj : j < k, (walkOf nx)[k] ∈ nx.getD ((walkOf nx)[j]'(by omega)) []
  ohead : ∃ l, orderOf nx = 0 :: l
  mem : ∀ x, x ∈ orderOf nx ↔ x ∈ walkOf nx
  nodup : (orderOf nx).Nodup
  opar : ∀ k (hk : k < (orderOf nx).length), 0 < k → ∃ j, ∃ hj : j < k, (orderOf nx)[k] ∈ nx.getD ((orderOf nx)[j]'(by omega)) []
  closed : ∀ x ∈ walkOf nx, ∀ t ∈ nx.getD x [], t ∈ walkOf nx
theorem _root_.Go.Proofs.NxOk.walkOk {nx : List (List Nat)} (h : NxOk nx) : WalkOk nx := by
  obtain ⟨l, m, g1, g2, g3, g4, g5, g6⟩ := visit_par h.rows nx.length 0 ([], []) h.pos (by simp) (by simp) (by simp) (by simp)
  have hw : walkOf nx = 0 :: l := by simpa [walkOf] using g1
  have ho : orderOf nx = 0 :: m.reverse := by simp [orderOf, g2]
  have hnd := h.came.nodup
  have hw' : (0 :: l).Nodup := by rw [← hw]; exact hnd
  have hmem : ∀ x, x ∈ orderOf nx ↔ x ∈ walkOf nx := fun x => by rw [ho, hw]; simp [g3 x]
  refine ⟨⟨l, hw⟩, fun k hk h0 => ?_, ⟨_, ho⟩, hmem, ?_, fun k hk h0 => ?_, fun x hx t ht => ?_⟩
  · have hk' : k < (0 :: l).length := by rw [← hw]; exact hk
    have e : (0 :: l) = (0 :: l).take k ++ (0 :: l)[k] :: (0 :: l).drop (k + 1) := by rw [← List.drop_eq_getElem_cons hk', List.take_append_drop]
    rcases g5 _ _ _ e with e | ⟨y, hy, hxy⟩
    · have := congrArg List.length e; simp at this; omega
    · obtain ⟨j, hj, rfl⟩ := List.mem_iff_getElem.1 hy
      have hjk : j < k := by rw [List.length_take] at hj; omega
      refine ⟨j, hjk, ?_⟩
      rw [List.getElem_take] at hxy
      simp only [hw]
      exact hxy
  · rw [ho, List.nodup_cons]
    refine ⟨fun hx => ?_, List.pairwise_reverse.2 (g4.imp fun h => h.symm)⟩
    have := (g3 0).1 (List.mem_reverse.1 hx)
    exact (List.nodup_cons.1 hw').1 this
  · have ho' : orderOf nx = (m ++ [0]).reverse := by simp [ho]
    obtain ⟨q, hq⟩ : ∃ q, q = m ++ [0] := ⟨_, rfl⟩
    rw [← hq] at g6 ho'
    have hl : (orderOf nx).length = q.length := by rw [ho']; simp
    have hk2 : q.length - 1 - k < q.length := by omega
    have e : q = q.take (q.length - 1 - k) ++ q[q.length - 1 - k] :: q.drop (q.length - 1 - k + 1) := by rw [← List.drop_eq_getElem_cons hk2, List.take_append_drop]
    have ek : ∀ j (hj : j < (orderOf nx).length), (orderOf nx)[j] = q[q.length - 1 - j]'(by omega) := fun j hj => by simp only [ho', List.getElem_reverse]
    rcases g6 _ _ _ e with e | ⟨y, hy, hxy⟩
    · have := congrArg List.length e; simp at this; omega
    · obtain ⟨j, hj, rfl⟩ := List.mem_iff_getElem.1 hy
      rw [List.length_drop] at hj
      rw [List.getElem_drop] at hxy
      refine ⟨q.length - 1 - (q.length - 1 - k + 1 + j), by omega, ?_⟩
      rw [ek k hk, ek _ (by omega)]
      have e9 : q.length - 1 - (q.length - 1 - (q.length - 1 - k + 1 + j)) = q.length - 1 - k + 1 + j := by omega
      simp only [e9]
      exact hxy
  · exact (walk_reach h.rows h.pos t).2 (.step ((walk_reach h.rows h.pos x).1 hx) ht (by omega))

end Go.Proofs
