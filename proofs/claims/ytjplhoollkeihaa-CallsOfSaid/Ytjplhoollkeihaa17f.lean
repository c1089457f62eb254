/-
  The document's calls: who reaches whom.
-/
import Derived.Test.Ytjplhoollkeihaa17r
namespace Go.Proofs
open Go.Gk Go.RowKit Go.Gr

theorem eBC : ElemT Try.prog 50 126 1 24 := ⟨by kernel_rfl, Try.t126, .slice none 0 0, by kernel_rfl, rfl, rfl, rfl, rfl⟩
/-- A table that the code makes: rows of n in blocks of their own. -/
structure TT (B : Nat) (w : World) (r : Sl) (m n : Nat) (c : Nat → Nat) (T : Nat → List Bool) : Prop where
  own : Own w 126 1 r (((List.range m).map fun j => (⟨some (Gk.blk (c j)), n, n⟩ : Sl)).map Sl.val)
  fr : Fresh B r
  row : ∀ j, j < m → Blk w (c j) 4 ((T j).map Value.bool) ∧ (T j).length = n ∧ B ≤ c j
  inj : ∀ i j, i < m → j < m → c i = c j → i = j
section
variable {B m n : Nat} {w w' : World} {r : Sl} {c : Nat → Nat} {T : Nat → List Bool}
theorem TT.below (h : TT B w r m n c T) (hb : Below w.heap.size w w') : TT B w' r m n c T :=
  ⟨h.own.below hb, h.fr, fun j hj => ⟨(h.row j hj).1.below hb, (h.row j hj).2⟩, h.inj⟩
theorem TT.len (h : TT B w r m n c T) : r.l = m := by have := h.own.1; simp at this; omega
theorem TT.get (h : TT B w r m n c T) (_hn : n ≤ 4096) {i j : Nat} (hi : i < m) (hj : j < n) {φ : Bool → Prop} (hφ : φ ((T i).getD j false)) :
    (0 ≤ (i : Int) ∧ (i : Int) < (r.l : Int)) ∧ derefP r.a fun a => ldS w (a.add (Int.toNat (i : Int))) fun x => (0 ≤ (j : Int) ∧ (j : Int) < (x.l : Int)) ∧ derefP x.a fun a5 => ldB w (a5.add (Int.toNat (j : Int))) φ := by
  refine elemS (Own.isS h.own) (k := i) (by simp; exact hi) ?_
  simp only [List.getElem_map, List.getElem_range]
  obtain ⟨h1, h2, _⟩ := h.row i hi
  exact ⟨⟨by omega, by show (j : Int) < (n : Int); omega⟩, derefP_some rfl ⟨_, h1.cell (n := j) (getD_mapB (by omega)), hφ⟩⟩
theorem TT.put (h : TT B w r m n c T) {i j : Nat} (hi : i < m) (hj : j < n) {K : World → Prop} (hK : ∀ w', Below B w w' → w'.heap.size = w.heap.size → TT B w' r m n c (fun k => if k = i then (T i).set j true else T k) → K w') :
    (0 ≤ (i : Int) ∧ (i : Int) < (r.l : Int)) ∧ derefP r.a fun a => ldS w (a.add (Int.toNat (i : Int))) fun x => (0 ≤ (j : Int) ∧ (j : Int) < (x.l : Int)) ∧ derefP x.a fun a5 => Wr w (a5.add (Int.toNat (j : Int))) ∧ Nw (w.setCell (a5.add (Int.toNat (j : Int))) (.bool true)) K := by
  refine elemS (Own.isS h.own) (k := i) (by simp; exact hi) ?_
  simp only [List.getElem_map, List.getElem_range]
  obtain ⟨h1, h2, h3⟩ := h.row i hi
  refine ⟨⟨by omega, by show (j : Int) < (n : Int); omega⟩, derefP_some rfl ⟨h1.wr (n := j) (by simp; omega), Nw.mk (hK _ ((Below.refl _ _).setCell (by rw [add_block]; exact h3) _) (by simp [World.setCell]) ⟨?_, h.fr, fun k hk => ?_, h.inj⟩)⟩⟩
  · refine h.own.of_block fun a ha => Below.heap_setCell _ _ _ _ fun e => ?_
    obtain ⟨cs, hcs⟩ := h.own.type ha
    have e : a.block = c i := e.trans (add_block _ _)
    rw [e] at hcs
    exact absurd (hcs.type h1) (by decide)
  · obtain ⟨g1, g2, g3⟩ := h.row k hk
    by_cases e : k = i
    · subst e
      simp only [if_true]
      refine ⟨?_, by rw [List.length_set]; exact g2, g3⟩
      rw [List.map_set]
      exact g1.set j _
    · simp only [if_neg e]
      exact ⟨g1.other (by rw [add_block]; exact fun q => e (h.inj k i hk hi q)) _, g2, g3⟩
theorem TT.push (h : TT B w r m n c T) (hB : B ≤ w.heap.size) (hm : m < 1048576) {b : Nat} {bl : List Bool} (hb : Blk w b 4 (bl.map Value.bool)) (hl : bl.length = n) (hbB : B ≤ b) (hne : ∀ j, j < m → c j ≠ b)
    {k : Sl → World → Prop} (hk : ∀ r' w', Below B w w' → B ≤ w'.heap.size → TT B w' r' (m + 1) n (fun j => if j = m then b else c j) (fun j => if j = m then bl else T j) → k r' w') :
    Nw (w.alloc (.cells #[(.slice (some (Gk.blk b)) n n)] 126)) fun w1 => appendS Try.prog 50 (.slice r.a r.l r.c) (.slice (some (Gk.blk w.heap.size)) 1 1) w1 k := by
  refine Nw.gen fun w1 hw1 => ?_
  have hT1 : Blk w1 w.heap.size 126 [.slice (some (Gk.blk b)) n n] := by rw [hw1]; exact Blk.new w 126 #[_]
  have ho1 : Own w1 126 1 r (((List.range m).map fun j => (⟨some (Gk.blk (c j)), n, n⟩ : Sl)).map Sl.val) := by rw [hw1]; exact h.own.alloc _
  have b1 : Below w.heap.size w w1 := by rw [hw1]; exact (Below.refl _ _).alloc (Nat.le_refl _) _
  have z1 : w1.heap.size = w.heap.size + 1 := by rw [hw1]; simp
  have hll := h.len
  refine append_one eBC ho1 rfl hT1 (by omega) (by omega) fun r' w' hr hrl ⟨b', hrb, hbo, hg⟩ => ?_
  have hfb : B ≤ b' := by
    rcases hbo with hb | hb
    · exact h.fr _ hb
    · omega
  have keep : ∀ {q : Nat} {cs : List Value}, Blk w q 4 cs → Blk w' q 4 cs := fun {q cs} hq => by
    have hq1 := hq.below b1
    refine hq1.of_block (hg.block _ hq1.lt fun e => ?_)
    have e : b' = q := (Option.some.inj e).symm
    rcases hbo with hb | hb
    · obtain ⟨cs', hc'⟩ := ho1.type hb
      rw [e] at hc'
      exact absurd (hq1.type hc') (by decide)
    · have := hq.lt; omega
  have zg := hg.size
  refine hk r' w' ((b1.mono hB).trans (below_grown hg hfb (by omega))) (by omega) ⟨?_, fun a ha => by rw [hrb] at ha; cases ha; exact hfb, fun j hj => ?_, fun i j hi hj e => ?_⟩
  · have e : ((List.range (m + 1)).map fun j => (⟨some (Gk.blk (if j = m then b else c j)), n, n⟩ : Sl)).map Sl.val = ((List.range m).map fun j => (⟨some (Gk.blk (c j)), n, n⟩ : Sl)).map Sl.val ++ [.slice (some (Gk.blk b)) n n] := by
      rw [List.range_succ, List.map_append, List.map_append]
      congr 1
      · congr 1
        refine List.map_congr_left fun j hj => ?_
        rw [if_neg (by have := List.mem_range.1 hj; omega)]
      · simp [Sl.val]
    rw [e]
    exact hr
  · by_cases e : j = m
    · simp only [if_pos e]
      exact ⟨keep hb, hl, hbB⟩
    · simp only [if_neg e]
      obtain ⟨g1, g2, g3⟩ := h.row j (by omega)
      exact ⟨keep g1, g2, g3⟩
  · by_cases e1 : i = m
    · by_cases e2 : j = m
      · omega
      · simp only [if_pos e1, if_neg e2] at e
        exact absurd e.symm (hne j (by omega))
    · by_cases e2 : j = m
      · simp only [if_neg e1, if_pos e2] at e
        exact absurd e (hne i (by omega))
      · simp only [if_neg e1, if_neg e2] at e
        exact h.inj i j (by omega) (by omega) e
theorem TT.tb (h : TT B w r n n c T) (hn : n ≤ 4096) {D : Nat → Nat → Prop} (hD : ∀ i, i < n → ∀ j, (T i).getD j false = true ↔ D i j) : Tb w r n D := by
  refine ⟨_, Own.isS h.own, by simp, fun a ha => ?_⟩
  have ha' : a < n := by simpa using ha
  obtain ⟨g1, g2, g3⟩ := h.row a ha'
  refine ⟨T a, ?_, g2, hD a ha'⟩
  simp only [List.getElem_map, List.getElem_range]
  exact Blk.isS g1 rfl g2.symm (Nat.le_refl _) (by show n ≤ _; omega)
end
theorem Wy.lt' {rows : List (List Nat)} {n : Nat} (hr : ∀ i, ∀ t ∈ rows.getD i [], t < n) {a b : Nat} (ha : a < n) (h : Wy rows a b) : b < n := by
  induction h with
  | refl => exact ha
  | step _ e _ => exact hr _ _ e
/-- How many cells of a table are true. -/
def totT (T : Nat → List Bool) : Nat → Nat
  | 0 => 0
  | k + 1 => totT T k + (T k).count true
theorem totT_le {T : Nat → List Bool} {n : Nat} : ∀ {k : Nat}, (∀ i, i < k → (T i).length = n) → totT T k ≤ k * n
  | 0, _ => by simp [totT]
  | k + 1, h => by
    have := totT_le (T := T) (n := n) (k := k) fun i hi => h i (by omega)
    have h2 := List.count_le_length (a := true) (l := T k)
    rw [h k (by omega)] at h2
    rw [Nat.add_mul, Nat.one_mul]
    show totT T k + (T k).count true ≤ _
    omega
theorem totT_up {T : Nat → List Bool} {i j : Nat} (hj : j < (T i).length) (hf : (T i).getD j false = false) : ∀ {k : Nat}, totT (fun q => if q = i then (T i).set j true else T q) k = totT T k + if i < k then ((T i).set j true).count true - (T i).count true else 0
  | 0 => by simp [totT]
  | k + 1 => by
    have ih := totT_up hj hf (k := k)
    have up := count_up hj hf
    show totT (fun q => if q = i then (T i).set j true else T q) k + (if k = i then (T i).set j true else T k).count true = totT T k + (T k).count true + _
    rw [ih]
    by_cases e : k = i
    · subst e
      rw [if_pos rfl, if_neg (by omega), if_pos (by omega)]
      omega
    · rw [if_neg e]
      by_cases q : i < k
      · rw [if_pos q, if_pos (by omega)]; omega
      · rw [if_neg q, if_neg (by omega)]; omega

section
variable {s : Sl} {hs : List Sl} {ll : List (List Int)}
abbrev one1 (n j : Nat) : List Bool := (List.replicate n false).set j true
theorem rep_getD (n j : Nat) : (List.replicate n false).getD j false = false := by
  simp [List.getD, List.getElem?_replicate]
  split <;> rfl
set_option maxHeartbeats 8000000 in
theorem rReaches_spec {w : World} {R : Value → World → Prop} (h : IsII w s hs ll) (h8 : ∀ l ∈ ll, 8 * l.length ≤ 140737488351232) (hmax : ll.length ≤ 4096) (hG : Good ll)
    (hR : ∀ r w', Below w.heap.size w w' → Tb w' r ll.length (Wy (riseLL ll)) → R (.slice r.a r.l r.c) w') : callR Try.prog 141 #[.slice s.a s.l s.c] w R := by
  refine callR.of (intaglioref17_Reaches_calls s R w ?_) fun _ _ h => h
  have hsl : s.l = ll.length := by have := h.top.len; have := h.len; omega
  have hmr : ∀ {i : Nat} (hi : i < ll.length) {x : Nat}, x ∈ (riseLL ll).getD i [] ↔ (x : Int) ∈ ll[i] := fun hi => mem_riseLL hG hi
  have hlt := riseLL_lt (ll := ll)
  rw [riseLL_len] at hlt
  generalize riseLL ll = rows at *
  obtain ⟨n, hn⟩ : ∃ n, n = ll.length := ⟨_, rfl⟩
  have hmax' : n ≤ 4096 := by omega
  rw [← hn] at hlt
  refine LoopW.countS n (by omega) (fun k (C : Sl) w' => Below w.heap.size w w' ∧ w.heap.size ≤ w'.heap.size ∧ ∃ c, TT w.heap.size w' C k n c (fun j => one1 n j)) ⟨Below.refl _ _, Nat.le_refl _, id, ⟨Own.nil _ _ _, (fun a ha => by cases ha), fun j hj => by omega, fun i j hi => by omega⟩⟩ ?_
  rintro k C w1 hk ⟨b1, z1, c, hT⟩ next hnext
  refine ifB_dec (fun hlt1 => ?_) (fun hge => ?_)
  · have hlt1 : k < n := by dsimp only at hlt1; omega
    refine ⟨⟨by omega, by omega, by omega, by omega⟩, Nw.gen fun w2 hw2 => ⟨⟨by dsimp only; omega, by dsimp only; omega⟩, ?_⟩⟩
    have eF : (List.replicate n false).map Value.bool = List.replicate n (.bool false) := List.map_replicate
    have k2 : Blk w2 w1.heap.size 4 ((List.replicate n false).map Value.bool) := by rw [hw2, hsl, ← hn, eF]; exact Blk.made w1 _ _ n
    have b2 : Below w1.heap.size w1 w2 := by rw [hw2]; exact (Below.refl _ _).alloc (Nat.le_refl _) _
    clear hw2
    refine ⟨k2.wr (n := k) (by simp; exact hlt1), Nw.gen fun w3 hw3 => ?_⟩
    have k3 : Blk w3 w1.heap.size 4 ((one1 n k).map Value.bool) := by rw [hw3, List.map_set]; exact k2.set k _
    have b3 : Below w1.heap.size w1 w3 := by rw [hw3]; exact b2.setCell (by rw [add_block]; exact Nat.le_refl _) _
    clear hw3
    have z3 := b3.size
    rw [hsl, ← hn]
    refine (hT.below b3).push (by omega) (by omega) k3 (by simp) z1 (fun j hj => by have := (hT.row j hj).1.lt; omega) fun r5 w5 b5 z5 hT5 => hnext _ _ hlt1 ⟨(b1.trans (b3.mono z1)).trans b5, z5, (fun j => if j = k then w1.heap.size else c j), ?_⟩
    have e : (fun j => if j = k then one1 n k else one1 n j) = fun j => one1 n j := by funext j; split <;> simp [*]
    rw [e] at hT5
    exact hT5
  have hkn : k = n := by dsimp only at hge; omega
  subst hkn
  clear hnext next
  have diag0 : ∀ i, i < k → (one1 k i).getD i false = true := fun i hi => by rw [getD_set (by simp; exact hi)]; simp
  refine LoopW.ghost (fun g (st : Bool × Unit) w' => Below w.heap.size w w' ∧ ∃ T, TT w.heap.size w' C k k c T ∧ (∀ i, i < k → ∀ j, (T i).getD j false = true → Wy rows i j) ∧ (∀ i, i < k → (T i).getD i false = true) ∧
    ((st.1 = true ∧ g = k * k - totT T k + 1) ∨ (st.1 = false ∧ g = 0 ∧ ∀ i, i < k → ∀ x ∈ rows.getD i [], ∀ j, (T x).getD j false = true → (T i).getD j false = true))) _ ⟨b1, _, hT, fun i hi j hj => ?_, diag0, .inl ⟨rfl, rfl⟩⟩ ?_
  · rw [getD_set (by simp; exact hi), rep_getD, Bool.false_or] at hj
    rw [show j = i by simpa using hj]
    exact .refl
  rintro g ⟨more, _⟩ w6 ⟨b6, T0, hT0, hs0, hd0, hst⟩ next hnext
  refine ifB_bool (fun em => ?_) fun em => ?_
  · have em : more = true := em
    subst em
    have hg : g = k * k - totT T0 k + 1 := by
      rcases hst with q | q
      · exact q.2
      · exact absurd q.1 (by simp)
    have hle0 : totT T0 k ≤ k * k := totT_le fun i hi => (hT0.row i hi).2.1
    clear hst
    -- a pass
    let Ok : Bool → (Nat → List Bool) → World → Prop := fun mo T w' => Below w.heap.size w w' ∧ TT w.heap.size w' C k k c T ∧ (∀ i, i < k → ∀ j, (T i).getD j false = true → Wy rows i j) ∧ (∀ i, i < k → (T i).getD i false = true) ∧ (mo = false → T = T0) ∧ (mo = true → totT T0 k < totT T k)
    refine LoopW.countS k (by omega) (fun i (mo : Bool) w' => ∃ T, Ok mo T w' ∧ (mo = false → ∀ i', i' < i → ∀ x ∈ rows.getD i' [], ∀ j, (T x).getD j false = true → (T i').getD j false = true)) ⟨T0, ⟨b6, hT0, hs0, hd0, fun _ => rfl, fun q => by cases q⟩, fun _ i' hi' => by omega⟩ ?_
    rintro i mo w7 hi ⟨T7, hO7, hc7⟩ next2 hnext2
    refine ifB_dec (fun hlti => ?_) (fun hgei => ?_)
    · have hlti : i < k := by dsimp only at hlti; omega
      have hil : i < ll.length := by omega
      have hih : i < hs.length := by have := h.len; omega
      have hl8 := h8 _ (List.getElem_mem hil)
      have xs : ∀ {m : Nat} (hm : m < (ll[i]).length), ∃ x : Nat, (ll[i])[m] = (x : Int) ∧ x < k ∧ x ∈ rows.getD i [] := fun {m} hm => by
        have := hG _ (List.getElem_mem hil) _ (List.getElem_mem hm)
        exact ⟨((ll[i])[m]).toNat, by omega, by omega, (hmr hil).2 (by rw [show ((((ll[i])[m]).toNat : Nat) : Int) = (ll[i])[m] by omega]; exact List.getElem_mem _)⟩
      refine LoopW.countS (ll[i]).length (by omega) (fun m (mo : Bool) w' => ∃ T, Ok mo T w' ∧ (mo = false → (∀ i', i' < i → ∀ x ∈ rows.getD i' [], ∀ j, (T x).getD j false = true → (T i').getD j false = true) ∧ ∀ q (hq : q < (ll[i]).length), q < m → ∀ x : Nat, (ll[i])[q] = (x : Int) → ∀ j, (T x).getD j false = true → (T i).getD j false = true)) ⟨T7, hO7, fun q => ⟨hc7 q, fun _ _ h => by omega⟩⟩ ?_
      rintro m mo w8 hm ⟨T8, hO8, hc8⟩ next3 hnext3
      have h8' := h.below hO8.1
      have hrw := (h8'.row i hih hil).len
      refine elemS h8'.top (k := i) hih (ifB_dec (fun hltm => ?_) fun hgem => ?_)
      · have hltm : m < (ll[i]).length := by dsimp only at hltm; omega
        obtain ⟨x, hx, hxk, hxr⟩ := xs hltm
        refine LoopW.countS k (by omega) (fun j (mo : Bool) w' => ∃ T, Ok mo T w' ∧ (mo = false → ((∀ i', i' < i → ∀ x ∈ rows.getD i' [], ∀ j, (T x).getD j false = true → (T i').getD j false = true) ∧ ∀ q (hq : q < (ll[i]).length), q < m → ∀ x : Nat, (ll[i])[q] = (x : Int) → ∀ j, (T x).getD j false = true → (T i).getD j false = true) ∧ ∀ j', j' < j → (T x).getD j' false = true → (T i).getD j' false = true)) ⟨T8, hO8, fun q => ⟨hc8 q, fun _ h => by omega⟩⟩ ?_
        rintro j mo w9 hj ⟨T9, hO9, hc9⟩ next4 hnext4
        refine ifB_dec (fun hltj => ?_) (fun hgej => ?_)
        · have hltj : j < k := by dsimp only at hltj; omega
          have h9 := h.below hO9.1
          refine JoinW.cut (fun (st : Bool × Unit) w' => ∃ T, Ok st.1 T w' ∧ (st.1 = false → ((∀ i', i' < i → ∀ x ∈ rows.getD i' [], ∀ j, (T x).getD j false = true → (T i').getD j false = true) ∧ ∀ q (hq : q < (ll[i]).length), q < m → ∀ x : Nat, (ll[i])[q] = (x : Int) → ∀ j, (T x).getD j false = true → (T i).getD j false = true) ∧ ∀ j', j' < j + 1 → (T x).getD j' false = true → (T i).getD j' false = true)) ?_ fun st w' hh => hnext4 _ _ hltj hh
          have keep : ((T9 x).getD j false = true → (T9 i).getD j false = true) → ∃ T, Ok mo T w9 ∧ (mo = false → ((∀ i', i' < i → ∀ x ∈ rows.getD i' [], ∀ j, (T x).getD j false = true → (T i').getD j false = true) ∧ ∀ q (hq : q < (ll[i]).length), q < m → ∀ x : Nat, (ll[i])[q] = (x : Int) → ∀ j, (T x).getD j false = true → (T i).getD j false = true) ∧ ∀ j', j' < j + 1 → (T x).getD j' false = true → (T i).getD j' false = true) := fun hh => ⟨T9, hO9, fun q => ⟨(hc9 q).1, fun j' hj' => by
            by_cases e : j' = j
            · rw [e]; exact hh
            · exact (hc9 q).2 j' (by omega)⟩⟩
          refine elemS h9.top (k := i) hih (elemI (h9.row i hih hil) hltm ?_)
          rw [hx]
          refine hO9.2.1.get hmax' hxk hltj (ifB_bool (fun e1 => hO9.2.1.get hmax' hlti hltj (ifB_not (ifB_bool (fun e2 => keep fun _ => e2) fun e2 => ?_))) fun e1 => keep fun q => by rw [q] at e1; cases e1)
          refine hO9.2.1.put hlti hltj fun w10 b10 z10 hT10 => ⟨_, ⟨hO9.1.trans b10, hT10, fun i2 hi2 j2 hj2 => ?_, fun i2 hi2 => ?_, (fun q => by cases q), fun _ => ?_⟩, fun q => by cases q⟩
          · by_cases e : i2 = i
            · subst e
              simp only [if_true] at hj2
              rw [getD_set (by rw [(hO9.2.1.row i2 hi2).2.1]; exact hltj)] at hj2
              by_cases e' : j2 = j
              · rw [e']; exact Wy.head hxr (hO9.2.2.1 x hxk j e1)
              · rw [show (j2 == j) = false by simpa using e', Bool.or_false] at hj2
                exact hO9.2.2.1 i2 hi2 j2 hj2
            · simp only [if_neg e] at hj2
              exact hO9.2.2.1 i2 hi2 j2 hj2
          · by_cases e : i2 = i
            · subst e
              simp only [if_true]
              rw [getD_set (by rw [(hO9.2.1.row i2 hi2).2.1]; exact hltj), hO9.2.2.2.1 i2 hi2]
              rfl
            · simp only [if_neg e]
              exact hO9.2.2.2.1 i2 hi2
          · have hlen := (hO9.2.1.row i hlti).2.1
            have up := totT_up (T := T9) (i := i) (j := j) (by omega) e2 (k := k)
            have cu := count_up (bl := T9 i) (t := j) (by omega) e2
            rw [if_pos hlti] at up
            have base : totT T0 k ≤ totT T9 k := by
              cases mo with
              | true => have := hO9.2.2.2.2.2 rfl; omega
              | false => rw [hO9.2.2.2.2.1 rfl]; exact Nat.le_refl _
            rw [up]
            omega
        · have hjk : j = k := by dsimp only at hgej; omega
          subst hjk
          refine hnext3 _ _ hltm ⟨T9, hO9, fun q => ⟨(hc9 q).1.1, fun p hp hpm y hy j' hj' => ?_⟩⟩
          by_cases e : p = m
          · subst e
            have : y = x := by omega
            subst this
            by_cases e' : j' < j
            · exact (hc9 q).2 j' e' hj'
            · have hl := (hO9.2.1.row y hxk).2.1
              simp [List.getD, List.getElem?_eq_none (show (T9 y).length ≤ j' by omega)] at hj'
          · exact (hc9 q).1.2 p hp (by omega) y hy j' hj'
      · have hme : m = (ll[i]).length := by dsimp only at hgem; omega
        subst hme
        refine hnext2 _ _ hlti ⟨T8, hO8, fun q i' hi' x hx j hj => ?_⟩
        by_cases e : i' = i
        · subst e
          obtain ⟨p, hp, ep⟩ := List.getElem_of_mem ((hmr hil).1 hx)
          exact (hc8 q).2 p hp hp x ep j hj
        · exact (hc8 q).1 i' (by omega) x hx j hj
    · have : i = k := by dsimp only at hgei; omega
      subst this
      have hle7 : totT T7 i ≤ i * i := totT_le fun q hq => (hO7.2.1.row q hq).2.1
      cases mo with
      | true =>
        have := hO7.2.2.2.2.2 rfl
        exact hnext (i * i - totT T7 i + 1) _ _ (by omega) ⟨hO7.1, T7, hO7.2.1, hO7.2.2.1, hO7.2.2.2.1, .inl ⟨rfl, rfl⟩⟩
      | false => exact hnext 0 _ _ (by omega) ⟨hO7.1, T7, hO7.2.1, hO7.2.2.1, hO7.2.2.2.1, .inr ⟨rfl, rfl, hc7 rfl⟩⟩
  · have em : more = false := em
    subst em
    have hcl : ∀ i, i < k → ∀ x ∈ rows.getD i [], ∀ j, (T0 x).getD j false = true → (T0 i).getD j false = true := by
      rcases hst with q | q
      · exact absurd q.1 (by simp)
      · exact q.2.2
    rw [← hn] at hR
    refine hR C w6 b6 (hT0.tb hmax' fun i hi j => ⟨hs0 i hi j, fun hw => ?_⟩)
    have key : ∀ {b : Nat}, Wy rows i b → ∀ q, (T0 b).getD q false = true → (T0 i).getD q false = true := fun hb => by
      induction hb with
      | refl => exact fun q hq => hq
      | step h1 h2 ih =>
        intro q hq
        exact ih q (hcl _ (Wy.lt' hlt hi h1 ) _ h2 q hq)
    exact key hw j (hd0 j (Wy.lt' hlt hi hw))
end

end Go.Proofs
