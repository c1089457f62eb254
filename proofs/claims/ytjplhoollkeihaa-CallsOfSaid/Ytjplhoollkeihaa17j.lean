/-
  The document's Deep, Reached, Order.
-/
import Derived.Test.Ytjplhoollkeihaa17i
namespace Go.Proofs
open Go.Gk Go.RowKit Go.Gr Go.St

theorem eq_of_sortedR {r : Nat → Nat → Prop} (hirr : ∀ x, ¬ r x x) (htr : ∀ x y z, r x y → r y z → r x z) : ∀ {l m : List Nat}, l.Pairwise r → m.Pairwise r → (∀ x, x ∈ l ↔ x ∈ m) → l = m
  | [], [], _, _, _ => rfl
  | [], b :: m, _, _, h => absurd ((h b).2 (by simp)) (by simp)
  | a :: l, [], _, _, h => absurd ((h a).1 (by simp)) (by simp)
  | a :: l, b :: m, hl, hm, h => by
    rw [List.pairwise_cons] at hl hm
    have e : a = b := by
      rcases List.mem_cons.1 ((h a).1 (by simp)) with e | e
      · exact e
      · rcases List.mem_cons.1 ((h b).2 (by simp)) with e' | e'
        · exact e'.symm
        · exact absurd (htr _ _ _ (hm.1 a e) (hl.1 b e')) (hirr b)
    subst e
    congr 1
    refine eq_of_sortedR hirr htr hl.2 hm.2 fun x => ⟨fun hx => ?_, fun hx => ?_⟩
    · rcases List.mem_cons.1 ((h x).1 (by simp [hx])) with e | e
      · subst e; exact absurd (hl.1 x hx) (hirr x)
      · exact e
    · rcases List.mem_cons.1 ((h x).2 (by simp [hx])) with e | e
      · subst e; exact absurd (hm.1 x hx) (hirr x)
      · exact e
/-- By depth, then by number. -/
def ordD (n : Nat) (dp : Nat → Nat) : Nat → List Nat
  | 0 => []
  | d + 1 => ordD n dp d ++ (List.range n).filter fun i => dp i == d
theorem ordD_len {n : Nat} {dp : Nat → Nat} : ∀ {d}, (ordD n dp d).length ≤ d * n
  | 0 => by simp [ordD]
  | d + 1 => by
    have h1 := ordD_len (n := n) (dp := dp) (d := d)
    have h2 := filter_len (fun i => dp i == d) n
    show (ordD n dp d ++ _).length ≤ _
    rw [List.length_append, Nat.add_mul, Nat.one_mul]
    omega
theorem mem_ordD {n : Nat} {dp : Nat → Nat} : ∀ {d x}, x ∈ ordD n dp d ↔ x < n ∧ dp x < d
  | 0, x => by simp [ordD]
  | d + 1, x => by
    show x ∈ ordD n dp d ++ _ ↔ _
    rw [List.mem_append, mem_ordD, List.mem_filter, List.mem_range, beq_iff_eq]
    omega
theorem ordD_sorted {n : Nat} {dp : Nat → Nat} : ∀ {d}, (ordD n dp d).Pairwise (lt fun i => (dp i : Int))
  | 0 => List.Pairwise.nil
  | d + 1 => by
    show (ordD n dp d ++ _).Pairwise _
    rw [List.pairwise_append]
    refine ⟨ordD_sorted, List.Pairwise.imp_of_mem ?_ (List.Pairwise.filter _ List.pairwise_lt_range), fun a ha b hb => ?_⟩
    · intro a b ha hb hab
      have h1 := (List.mem_filter.1 ha).2
      have h2 := (List.mem_filter.1 hb).2
      rw [beq_iff_eq] at h1 h2
      exact .inr ⟨by show (dp a : Int) = (dp b : Int); omega, hab⟩
    · have h1 := mem_ordD.1 ha
      have h2 := (List.mem_filter.1 hb).2
      rw [beq_iff_eq] at h2
      exact .inl (by show (dp a : Int) < (dp b : Int); omega)
theorem rowD_ordD {n : Nat} {d dp : Nat → Nat} (h : Bk (fun i => (dp i : Int)) d 0 n) (hd : ∀ i, i < n → dp i < n) : rowD n d = ordD n dp n := by
  refine eq_of_sortedR (fun x => lt_irr _) (fun x y z => lt_trans _) (l := rowD n d) ?_ ordD_sorted fun x => ?_
  · unfold rowD
    rw [List.pairwise_map]
    refine List.Pairwise.imp_of_mem ?_ List.pairwise_lt_range
    intro a b ha hb hab
    exact h.so a b (by omega) hab (List.mem_range.1 hb)
  · rw [mem_ordD]
    constructor
    · intro hx
      obtain ⟨i, hi, e⟩ := List.mem_map.1 hx
      have := (h.own i (by omega) (List.mem_range.1 hi)).2
      rw [e] at this
      exact ⟨this, hd x this⟩
    · rintro ⟨hx, _⟩
      obtain ⟨i, hi, e⟩ := rowD_all h hx
      exact List.mem_map.2 ⟨i, List.mem_range.2 hi, e⟩
theorem rkC_pos {rows : List (List Nat)} {i : Nat} (hi : i < rows.length) : 0 < rkC rows i := by
  unfold rkC
  exact List.countP_pos_iff.2 ⟨i, List.mem_range.2 hi, by simpa using Wy.refl⟩
theorem dep_rk {rows : List (List Nat)} (hn : NoRound rows) (hr : ∀ i, ∀ t ∈ rows.getD i [], t < rows.length) : ∀ (g i : Nat), rkC rows i ≤ g → i < rows.length → dep rows i + 1 ≤ rkC rows i
  | 0, i, h, hi => by have := rkC_pos hi; omega
  | g + 1, i, h, hi => by
    rcases dep_at hn i with e | ⟨k, hk, e⟩
    · have := rkC_pos hi; omega
    · have h1 := rkC_lt hn hk
      have h2 := dep_rk hn hr g k (by omega) (hr i k hk)
      omega
theorem dep_ltn {rows : List (List Nat)} (hn : NoRound rows) (hr : ∀ i, ∀ t ∈ rows.getD i [], t < rows.length) {i : Nat} (hi : i < rows.length) : dep rows i < rows.length := by
  have := dep_rk hn hr _ i (Nat.le_refl _) hi
  have := rkC_le (rows := rows) i
  omega
section
variable {rc : Nat} {rows : List (List Nat)} {w : World} {R : Value → World → Prop}
theorem cOrder_specO (hmax : rows.length ≤ 4096) (hn : NoRound rows) (hr : ∀ i, ∀ t ∈ rows.getD i [], t < rows.length) (h : IsCl w rc rows) (hR : ∀ r w', Below w.heap.size w w' → Own w' 3 1 r ((ordD rows.length (dep rows) rows.length).map iN) → R (.slice r.a r.l r.c) w') :
    callR Try.prog 62 #[.pointer (some (Gk.blk rc))] w R :=
  cOrder_spec hmax h fun r w' d hb ho hk => hR r w' hb (by rw [← rowD_ordD hk fun i hi => dep_ltn hn hr hi]; exact ho)
end
section
variable {s : Sl} {hs : List Sl} {ll : List (List Int)} {w : World} {R : Value → World → Prop}
theorem rDeep_spec (h : IsII w s hs ll) (h8 : ∀ l ∈ ll, 8 * l.length ≤ 140737488351232) (hmax : ll.length ≤ 4096) (hG : Good ll) (hN : NoRound (riseLL ll)) {i : Int}
    (hR : ∀ w', Below w.heap.size w w' → R (.int .i64 (deepI (riseLL ll) i)) w') : callR Try.prog 144 #[.slice s.a s.l s.c, .int .i64 i] w R := by
  refine callR.of (intaglioref17_Deep_calls s i R w ?_) fun _ _ h => h
  have hsl : s.l = ll.length := by have := h.top.len; have := h.len; omega
  by_cases hi : 0 ≤ i ∧ i < (ll.length : Int)
  · obtain ⟨i, rfl⟩ : ∃ k : Nat, i = (k : Int) := ⟨i.toNat, by omega⟩
    unfold deepI at hR
    rw [if_pos (by rw [riseLL_len]; exact hi)] at hR
    refine JoinW.cut (fun _ w' => w' = w) (ifB_dec (fun h0 => absurd h0 (by omega)) fun _ => ifB_dec (fun h0 => absurd h0 (by omega)) fun _ => rfl) ?_
    rintro _ w1 e1
    have e1 := e1.symm
    subst e1
    refine rDeeps_spec h h8 hmax hG hN fun r w2 b2 h2 => ⟨r, rfl, elemI h2 (k := i) (by simp; omega) ?_⟩
    simp only [List.getElem_map, List.getElem_range]
    exact hR w2 b2
  · unfold deepI at hR
    rw [if_neg (by rw [riseLL_len]; exact hi)] at hR
    have := hR w (Below.refl _ _)
    exact JoinW.cut (fun _ _ => False) (ifB_dec (fun _ => this) fun _ => ifB_dec (fun _ => this) fun _ => absurd ⟨by omega, by omega⟩ hi) fun _ _ q => q.elim
theorem rReached17_spec (h : IsII w s hs ll) (h8 : ∀ l ∈ ll, 8 * l.length ≤ 140737488351232) (hmax : ll.length ≤ 4096) (hG : Good ll) {i : Int}
    (hR : ∀ r w', Below w.heap.size w w' → Own w' 3 1 r ((reachedL (riseLL ll) i).map iN) → R (.slice r.a r.l r.c) w') : callR Try.prog 145 #[.slice s.a s.l s.c, .int .i64 i] w R := by
  refine callR.of (intaglioref17_Reached_calls s i R w ?_) fun _ _ h => h
  have hsl : s.l = ll.length := by have := h.top.len; have := h.len; omega
  refine rReaches_spec h h8 hmax hG fun t w1 b1 hT => ⟨t, rfl, ?_⟩
  have z1 := b1.size
  unfold reachedL at hR
  rw [riseLL_len] at hR
  by_cases hi : 0 ≤ i ∧ i < (ll.length : Int)
  · rw [if_pos hi] at hR
    obtain ⟨i, rfl⟩ : ∃ k : Nat, i = (k : Int) := ⟨i.toNat, by omega⟩
    have hil : i < ll.length := by omega
    have hR' : ∀ r w', Below w.heap.size w w' → Own w' 3 1 r (((List.range ll.length).filter (wyB (riseLL ll) i)).map iN) → R (.slice r.a r.l r.c) w' := hR
    clear hR
    refine LoopW.countS ll.length (by omega) (fun k (l : Sl) w' => Below w1.heap.size w1 w' ∧ w1.heap.size ≤ w'.heap.size ∧ Own w' 3 1 l (((List.range k).filter (wyB (riseLL ll) i)).map iN) ∧ Fresh w1.heap.size l) ⟨Below.refl _ _, Nat.le_refl _, Own.nil _ _ _, fun a ha => by cases ha⟩ ?_
    rintro k l w2 hk ⟨b2, z2, o2, f2⟩ next hnext
    refine JoinW.cut (fun _ w' => w' = w2 ∧ k < ll.length) (ifB_dec (fun hlt => ifB_dec (fun _ => ifB_dec (fun _ => ⟨rfl, by dsimp only at hlt; omega⟩) fun h => absurd (by omega) h) fun h => absurd (by omega) h) fun hge => ?_) ?_
    · have : k = ll.length := by dsimp only at hge; omega
      subst this; exact hR' l w2 (b1.trans (b2.mono z1)) o2
    rintro _ w3 ⟨e3, hkn⟩
    have e3 := e3.symm
    subst e3
    have hcl := filter_len (wyB (riseLL ll) i) k
    refine JoinW.cut (fun (st : Sl × Unit) w' => Below w1.heap.size w1 w' ∧ w1.heap.size ≤ w'.heap.size ∧ Own w' 3 1 st.1 (((List.range (k + 1)).filter (wyB (riseLL ll) i)).map iN) ∧ Fresh w1.heap.size st.1) ?_ fun st w' hh => hnext _ _ hkn hh
    refine (hT.below b2).get (a := i) (b := k) hil hkn fun v hv => ifB_bool (fun eb => push_own rfl b2 z2 o2 f2 (by omega) fun r' w' q1 q2 q3 q4 => ⟨q1, q2, ?_, q4⟩) fun eb => ⟨b2, z2, ?_, f2⟩
    · rw [filter_step, if_pos (wyB_iff.2 (hv.1 eb))]; exact q3
    · rw [filter_step, if_neg (fun q => by rw [hv.2 (wyB_iff.1 q)] at eb; cases eb), List.append_nil]; exact o2
  · rw [if_neg hi] at hR
    have := hR ⟨none, 0, 0⟩ w1 b1 (Own.nil _ _ _)
    refine LoopW.countS ll.length (by omega) (fun k (l : Sl) w' => k = 0 ∧ l = ⟨none, 0, 0⟩ ∧ w' = w1) ⟨rfl, rfl, rfl⟩ ?_
    rintro k l w2 hk ⟨rfl, rfl, e2⟩ next hnext
    have e2 := e2.symm
    subst e2
    exact JoinW.cut (fun _ _ => False) (ifB_dec (fun _ => ifB_dec (fun _ => ifB_dec (fun _ => absurd ⟨by omega, by omega⟩ hi) fun _ => this) fun _ => this) fun _ => this) fun _ _ q => q.elim
theorem rOrder17_spec (h : IsII w s hs ll) (h8 : ∀ l ∈ ll, 8 * l.length ≤ 140737488351232) (hmax : ll.length ≤ 4096) (hG : Good ll) (hN : NoRound (riseLL ll))
    (hR : ∀ r w', Below w.heap.size w w' → Own w' 3 1 r ((ordD ll.length (dep (riseLL ll)) ll.length).map iN) → R (.slice r.a r.l r.c) w') : callR Try.prog 146 #[.slice s.a s.l s.c] w R := by
  refine callR.of (intaglioref17_Order_calls s R w ?_) fun _ _ h => h
  have hsl : s.l = ll.length := by have := h.top.len; have := h.len; omega
  refine rDeeps_spec h h8 hmax hG hN fun x w1 b1 hx => ⟨x, rfl, ?_⟩
  have z1 := b1.size
  generalize riseLL ll = rows at *
  obtain ⟨n, hn⟩ : ∃ n, n = ll.length := ⟨_, rfl⟩
  rw [← hn] at hR hx hsl hmax
  refine LoopW.countS n (by omega) (fun d (l : Sl) w' => Below w1.heap.size w1 w' ∧ w1.heap.size ≤ w'.heap.size ∧ Own w' 3 1 l ((ordD n (dep rows) d).map iN) ∧ Fresh w1.heap.size l) ⟨Below.refl _ _, Nat.le_refl _, Own.nil _ _ _, fun a ha => by cases ha⟩ ?_
  rintro d l w2 hd ⟨b2, z2, o2, f2⟩ next hnext
  refine ifB_dec (fun hlt => ?_) fun hge => ?_
  · have hlt : d < n := by dsimp only at hlt; omega
    refine LoopW.countS n (by omega) (fun k (l : Sl) w' => Below w1.heap.size w1 w' ∧ w1.heap.size ≤ w'.heap.size ∧ Own w' 3 1 l ((ordD n (dep rows) d ++ (List.range k).filter fun i => dep rows i == d).map iN) ∧ Fresh w1.heap.size l) ⟨b2, z2, by simpa using o2, f2⟩ ?_
    rintro k l3 w3 hk ⟨b3, z3, o3, f3⟩ next3 hnext3
    refine ifB_dec (fun hltk => ?_) fun hgek => ?_
    · have hltk : k < n := by dsimp only at hltk; omega
      have h1 := ordD_len (n := n) (dp := dep rows) (d := d)
      have h2 := filter_len (fun i => dep rows i == d) k
      have h3 : d * n ≤ 4096 * 4096 := Nat.mul_le_mul (by omega) (by omega)
      refine JoinW.cut (fun (st : Sl × Unit) w' => Below w1.heap.size w1 w' ∧ w1.heap.size ≤ w'.heap.size ∧ Own w' 3 1 st.1 ((ordD n (dep rows) d ++ (List.range (k + 1)).filter fun i => dep rows i == d).map iN) ∧ Fresh w1.heap.size st.1) ?_ fun st w' hh => hnext3 _ _ hltk hh
      refine elemI (hx.below b3) (k := k) (by simp; exact hltk) ?_
      simp only [List.getElem_map, List.getElem_range]
      refine ifB_bool (fun e => push_own rfl b3 z3 o3 f3 (by rw [List.length_append]; omega) fun r' w' q1 q2 q3 q4 => ⟨q1, q2, ?_, q4⟩) fun e => ⟨b3, z3, ?_, f3⟩
      · have e : dep rows k = d := by have := eq_of_beq e; omega
        rw [filter_step, if_pos (by rw [beq_iff_eq]; exact e), ← List.append_assoc]; exact q3
      · have e : ¬ dep rows k = d := fun q => by rw [q] at e; simp at e
        rw [filter_step, if_neg (by rw [beq_iff_eq]; exact e), List.append_nil]; exact o3
    · have : k = n := by dsimp only at hgek; omega
      subst this
      exact hnext _ _ hlt ⟨b3, z3, o3, f3⟩
  · have : d = n := by dsimp only at hge; omega
    subst this
    exact hR l w2 (b1.trans (b2.mono z1)) o2
end

end Go.Proofs
