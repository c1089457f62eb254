/-
  Plain: graphs as lists of lists; the walk in the depth.
-/
namespace Go.Gr

def addOnce (acc : List Nat) (x : Nat) : List Nat := if acc.contains x then acc else acc ++ [x]
def dedup (l : List Nat) : List Nat := l.foldl addOnce []
def aheadOf (nx : List (List Nat)) : List (List Nat) := (List.range nx.length).map fun j => (List.range nx.length).filter fun i => (nx.getD i []).contains j
/-- The walk comes to i: what has been come to, what has been left. -/
def visit (nx : List (List Nat)) : Nat → Nat → List Nat × List Nat → List Nat × List Nat
  | 0, _, s => s
  | f + 1, i, s => let r := (nx.getD i []).foldl (fun s t => if s.1.contains t then s else visit nx f t s) (s.1 ++ [i], s.2); (r.1, r.2 ++ [i])
def visitAll (nx : List (List Nat)) (f : Nat) (l : List Nat) (s : List Nat × List Nat) : List Nat × List Nat := l.foldl (fun s t => if s.1.contains t then s else visit nx f t s) s
theorem visit_succ (nx : List (List Nat)) (f i : Nat) (s : List Nat × List Nat) :
    visit nx (f + 1) i s = ((visitAll nx f (nx.getD i []) (s.1 ++ [i], s.2)).1, (visitAll nx f (nx.getD i []) (s.1 ++ [i], s.2)).2 ++ [i]) := rfl
theorem visitAll_snoc (nx : List (List Nat)) (f : Nat) (l : List Nat) (t : Nat) (s : List Nat × List Nat) :
    visitAll nx f (l ++ [t]) s = if (visitAll nx f l s).1.contains t then visitAll nx f l s else visit nx f t (visitAll nx f l s) := by
  simp [visitAll, List.foldl_append]
def walkOf (nx : List (List Nat)) : List Nat := (visit nx nx.length 0 ([], [])).1
def orderOf (nx : List (List Nat)) : List Nat := (visit nx nx.length 0 ([], [])).2.reverse

/-- What holds of what has been come to: each once, all nodes; more comes, nothing goes. -/
structure Came (n : Nat) (s s' : List Nat × List Nat) : Prop where
  nodup : s'.1.Nodup
  lt : ∀ x ∈ s'.1, x < n
  more : ∃ l, s'.1 = s.1 ++ l
theorem visit_came {nx : List (List Nat)} (hnx : ∀ i, ∀ t ∈ nx.getD i [], t < nx.length) : ∀ (f i : Nat) (s : List Nat × List Nat), i < nx.length → s.1.Nodup → (∀ x ∈ s.1, x < nx.length) → i ∉ s.1 →
    Came nx.length s (visit nx f i s) := by
  intro f
  induction f with
  | zero => intro i s _ h1 h2 _; exact ⟨h1, h2, [], by simp [visit]⟩
  | succ f ih =>
    intro i s hi h1 h2 h3
    have base : Came nx.length s (s.1 ++ [i], s.2) := ⟨by
        rw [List.nodup_append]
        exact ⟨h1, by simp, fun x hx y hy => by simp at hy; subst hy; intro e; subst e; exact h3 hx⟩, fun x hx => by
        simp at hx
        rcases hx with hx | rfl
        · exact h2 x hx
        · exact hi, [i], rfl⟩
    have all : ∀ (l : List Nat) (s' : List Nat × List Nat), (∀ t ∈ l, t < nx.length) → Came nx.length s s' → Came nx.length s (visitAll nx f l s') := by
      intro l
      induction l with
      | nil => intro s' _ h; exact h
      | cons t r ihl =>
        intro s' hl h
        show Came nx.length s (visitAll nx f r (if s'.1.contains t then s' else visit nx f t s'))
        refine ihl _ (fun x hx => hl x (List.mem_cons_of_mem _ hx)) ?_
        split
        · exact h
        · rename_i hc
          have hv := ih t s' (hl t (List.mem_cons_self ..)) h.nodup h.lt (by simpa using hc)
          obtain ⟨l1, e1⟩ := h.more
          obtain ⟨l2, e2⟩ := hv.more
          exact ⟨hv.nodup, hv.lt, l1 ++ l2, by rw [e2, e1, List.append_assoc]⟩
    rw [visit_succ]
    have := all (nx.getD i []) _ (hnx i) base
    exact ⟨this.nodup, this.lt, this.more⟩
theorem nodup_le : ∀ {n : Nat} {l : List Nat}, l.Nodup → (∀ x ∈ l, x < n) → l.length ≤ n
  | 0, l, _, hl => by
    cases l with
    | nil => simp
    | cons x r => exact absurd (hl x (List.mem_cons_self ..)) (by omega)
  | n + 1, l, h, hl => by
    by_cases hn : n ∈ l
    · have h1 := nodup_le (n := n) (l := l.erase n) (h.erase n) (fun x hx => by
        have h2 := (h.mem_erase_iff).1 hx
        have := hl x h2.2
        omega)
      rw [List.length_erase_of_mem hn] at h1
      omega
    · have := nodup_le (n := n) (l := l) h (fun x hx => by
        have h1 := hl x hx
        have h2 : x ≠ n := fun e => hn (e ▸ hx)
        omega)
      omega
theorem nodup_lt {n i : Nat} {l : List Nat} (h : l.Nodup) (hl : ∀ x ∈ l, x < n) (hi : i < n) (hni : i ∉ l) : l.length < n := by
  have : (l ++ [i]).length ≤ n := nodup_le (by
    rw [List.nodup_append]
    exact ⟨h, by simp, fun x hx y hy => by simp at hy; subst hy; intro e; subst e; exact hni hx⟩) (fun x hx => by
    simp at hx
    rcases hx with hx | rfl
    · exact hl x hx
    · exact hi)
  simp at this
  omega
/-! ### The edges, row by row -/
/-- The edges once i rows, and k of the next one, have been gone through. -/
def nxP (rows : List (List Nat)) (i k : Nat) : List (List Nat) := (List.range rows.length).map fun j => if j < i then dedup (rows.getD j []) else if j = i then dedup ((rows.getD j []).take k) else []
theorem nxP_length (rows : List (List Nat)) (i k : Nat) : (nxP rows i k).length = rows.length := by simp [nxP]
theorem nxP_getD {rows : List (List Nat)} {i k j : Nat} (hj : j < rows.length) : (nxP rows i k).getD j [] = if j < i then dedup (rows.getD j []) else if j = i then dedup ((rows.getD j []).take k) else [] := by
  simp [nxP, List.getD, hj]
theorem nxP_zero (rows : List (List Nat)) : nxP rows 0 0 = List.replicate rows.length [] := by
  apply List.ext_getElem
  · simp [nxP]
  · intro j h1 h2
    simp only [nxP, List.getElem_map, List.getElem_range, List.getElem_replicate, List.take_zero]
    split
    · omega
    · split <;> rfl
theorem nxP_next (rows : List (List Nat)) (i : Nat) : nxP rows i (rows.getD i []).length = nxP rows (i + 1) 0 := by
  apply List.ext_getElem
  · simp [nxP]
  · intro j h1 h2
    simp only [nxP, List.getElem_map, List.getElem_range, List.take_zero]
    by_cases h : j < i
    · rw [if_pos h, if_pos (by omega)]
    · rw [if_neg h]
      by_cases h' : j = i
      · subst h'; rw [if_pos rfl, if_pos (by omega), List.take_length]
      · rw [if_neg h', if_neg (by omega)]; split <;> rfl
theorem nxP_all (rows : List (List Nat)) : nxP rows rows.length 0 = rows.map dedup := by
  apply List.ext_getElem
  · simp [nxP]
  · intro j h1 h2
    have hj : j < rows.length := by simpa using h2
    simp only [nxP, List.getElem_map, List.getElem_range, if_pos hj]
    simp [List.getD, hj]
theorem dedup_snoc (l : List Nat) (x : Nat) : dedup (l ++ [x]) = addOnce (dedup l) x := by simp [dedup, List.foldl_append]
theorem nxP_skip {rows : List (List Nat)} {i k : Nat} (hi : i < rows.length) (hk : k < (rows.getD i []).length) (h : ((nxP rows i k).getD i []).contains ((rows.getD i [])[k]) = true) : nxP rows i (k + 1) = nxP rows i k := by
  apply List.ext_getElem
  · simp [nxP]
  · intro j h1 h2
    simp only [nxP, List.getElem_map, List.getElem_range]
    by_cases hji : j < i
    · rw [if_pos hji, if_pos hji]
    · rw [if_neg hji, if_neg hji]
      by_cases h' : j = i
      · subst h'
        rw [if_pos rfl, if_pos rfl, List.take_succ_eq_append_getElem hk, dedup_snoc]
        rw [nxP_getD hi, if_neg (by omega), if_pos rfl] at h
        unfold addOnce
        rw [if_pos h]
      · rw [if_neg h', if_neg h']
theorem nxP_push {rows : List (List Nat)} {i k : Nat} (hi : i < rows.length) (hk : k < (rows.getD i []).length) (h : ((nxP rows i k).getD i []).contains ((rows.getD i [])[k]) = false) :
    nxP rows i (k + 1) = (nxP rows i k).set i ((nxP rows i k).getD i [] ++ [(rows.getD i [])[k]]) := by
  apply List.ext_getElem
  · simp [nxP]
  · intro j h1 h2
    by_cases h' : j = i
    · subst h'
      rw [List.getElem_set_self, nxP_getD hi]
      rw [nxP_getD hi, if_neg (by omega), if_pos rfl] at h
      rw [if_neg (by omega), if_pos rfl]
      simp only [nxP, List.getElem_map, List.getElem_range]
      rw [if_neg (by omega), if_pos trivial, List.take_succ_eq_append_getElem hk, dedup_snoc]
      unfold addOnce
      rw [if_neg (by rw [h]; simp)]
    · rw [List.getElem_set_ne (by omega)]
      simp only [nxP, List.getElem_map, List.getElem_range]
      rw [if_neg h', if_neg h']
theorem ahead_length (nx : List (List Nat)) : (aheadOf nx).length = nx.length := by simp [aheadOf]
theorem ahead_getD {nx : List (List Nat)} {j : Nat} (hj : j < nx.length) : (aheadOf nx).getD j [] = (List.range nx.length).filter fun i => (nx.getD i []).contains j := by
  simp [aheadOf, List.getD, hj]
/-- One edge more, from the last row that has any. -/
theorem ahead_push {nx : List (List Nat)} {i x : Nat} (hi : i < nx.length) (hx : x < nx.length) (hni : (nx.getD i []).contains x = false) (hgt : ∀ j, i < j → nx.getD j [] = []) :
    aheadOf (nx.set i (nx.getD i [] ++ [x])) = (aheadOf nx).set x ((aheadOf nx).getD x [] ++ [i]) := by
  have hget : ∀ a, (nx.set i (nx.getD i [] ++ [x])).getD a [] = if a = i then nx.getD i [] ++ [x] else nx.getD a [] := by
    intro a
    by_cases h : a = i
    · subst h; rw [if_pos rfl]; simp [List.getD, hi]
    · rw [if_neg h]; simp only [List.getD]; rw [List.getElem?_set_ne (by omega)]
  apply List.ext_getElem
  · simp [aheadOf]
  · intro j h1 h2
    have hj : j < nx.length := by simpa [aheadOf] using h1
    by_cases h : j = x
    · subst h
      rw [List.getElem_set_self, ahead_getD hj]
      simp only [aheadOf, List.getElem_map, List.getElem_range, List.length_set]
      have e1 : List.range nx.length = List.range i ++ i :: (List.range (nx.length - i - 1)).map (· + (i + 1)) := by
        apply List.ext_getElem
        · simp; omega
        · intro a g1 g2
          rw [List.getElem_range]
          rcases Nat.lt_trichotomy a i with g | g | g
          · rw [List.getElem_append_left (by simpa using g)]; simp
          · subst g; rw [List.getElem_append_right (by simp)]; simp
          · rw [List.getElem_append_right (by simp; omega), List.getElem_cons]
            simp only [List.length_range]
            rw [dif_neg (by omega)]
            simp; omega
      rw [e1, List.filter_append, List.filter_append, List.filter_cons, List.filter_cons, hget i, if_pos rfl, hni]
      have e2 : ∀ (p : Nat → Bool), (∀ a, i < a → p a = false) → ((List.range (nx.length - i - 1)).map (· + (i + 1))).filter p = [] := by
        intro p hp
        rw [List.filter_eq_nil_iff]
        intro a ha
        simp only [List.mem_map] at ha
        obtain ⟨b, _, rfl⟩ := ha
        rw [hp _ (by omega)]
        simp
      rw [e2 _ (fun a ha => by rw [hget a, if_neg (by omega), hgt a ha]; rfl), e2 _ (fun a ha => by rw [hgt a ha]; rfl)]
      have e3 : (List.range i).filter (fun a => ((nx.set i (nx.getD i [] ++ [j])).getD a []).contains j) = (List.range i).filter (fun a => (nx.getD a []).contains j) := by
        apply List.filter_congr
        intro a ha
        have := List.mem_range.1 ha
        rw [hget a, if_neg (by omega)]
      rw [e3]
      simp
    · rw [List.getElem_set_ne (by omega)]
      simp only [aheadOf, List.getElem_map, List.getElem_range, List.length_set]
      apply List.filter_congr
      intro a _
      rw [hget a]
      split
      · rename_i g; subst g
        rw [Bool.eq_iff_iff]
        simp [h]
      · rfl
theorem mem_dedup {l : List Nat} {x : Nat} : x ∈ dedup l ↔ x ∈ l := by
  have : ∀ (l acc : List Nat), x ∈ l.foldl addOnce acc ↔ x ∈ acc ∨ x ∈ l := by
    intro l
    induction l with
    | nil => simp
    | cons y r ih =>
      intro acc
      rw [List.foldl_cons, ih]
      unfold addOnce
      split
      · rename_i h
        have h : y ∈ acc := by simpa using h
        constructor
        · rintro (h1 | h1)
          · exact .inl h1
          · exact .inr (List.mem_cons_of_mem _ h1)
        · rintro (h1 | h1)
          · exact .inl h1
          · cases h1 with
            | head => exact .inl h
            | tail _ h1 => exact .inr h1
      · simp [or_assoc]
  unfold dedup
  simpa using this l []

theorem dedup_nodup (l : List Nat) : (dedup l).Nodup := by
  have : ∀ (l acc : List Nat), acc.Nodup → (l.foldl addOnce acc).Nodup := by
    intro l
    induction l with
    | nil => exact fun _ h => h
    | cons y r ih =>
      intro acc h
      rw [List.foldl_cons]
      refine ih _ ?_
      unfold addOnce
      split
      · exact h
      · rename_i hc
        rw [List.nodup_append]
        refine ⟨h, by simp, fun a ha b hb => ?_⟩
        simp at hb
        subst hb
        intro e
        subst e
        exact hc (by simpa using ha)
  exact this l [] List.nodup_nil
theorem dedup_le {n : Nat} {l : List Nat} (h : ∀ x ∈ l, x < n) : (dedup l).length ≤ n := nodup_le (dedup_nodup l) fun x hx => h x (mem_dedup.1 hx)
theorem ahead_le (nx : List (List Nat)) (j : Nat) : ((aheadOf nx).getD j []).length ≤ nx.length := by
  by_cases hj : j < nx.length
  · rw [ahead_getD hj]
    have := List.length_filter_le (fun i => (nx.getD i []).contains j) (List.range nx.length)
    simpa using this
  · simp [List.getD, ahead_length, hj]

/-- As many come as go. -/
theorem visit_len (nx : List (List Nat)) : ∀ (f i : Nat) (s : List Nat × List Nat), (visit nx f i s).1.length + s.2.length = s.1.length + (visit nx f i s).2.length := by
  intro f
  induction f with
  | zero => intro i s; rfl
  | succ f ih =>
    intro i s
    have all : ∀ (l : List Nat) (s : List Nat × List Nat), (visitAll nx f l s).1.length + s.2.length = s.1.length + (visitAll nx f l s).2.length := by
      intro l
      induction l with
      | nil => intro s; rfl
      | cons t r ihl =>
        intro s
        have h1 := ihl (if s.1.contains t then s else visit nx f t s)
        have h2 : visitAll nx f (t :: r) s = visitAll nx f r (if s.1.contains t then s else visit nx f t s) := rfl
        rw [h2]
        split at h1 <;> split
        · exact h1
        · rename_i a b; exact absurd a b
        · rename_i a b; exact absurd b a
        · have := ih t s; omega
    have := all (nx.getD i []) (s.1 ++ [i], s.2)
    rw [visit_succ]
    simp only [List.length_append, List.length_cons, List.length_nil] at this ⊢
    omega
end Go.Gr
