/-
  The document's dominators: Depth, Over, Under; the statement DomOvers.
-/
import Derived.Test.Ytjplhoollkeihaa15j
namespace Go.Proofs
open Go.Gk Go.RowKit Go.Gr Go.Dm

section
variable {w : World} {tb : Nat} {nx : List (List Nat)} {ov : Nat → Option Nat} {dp : Nat → Int}
theorem Dt.domR (h : Dt w tb nx ov dp) (a b : Nat) : DomR nx a b ↔ b ∈ orderOf nx ∧ Anc ov a b := by
  have hw := h.ok.walkOk
  have hre : ∀ x, ReachN nx (-1) x ↔ x ∈ orderOf nx := fun x => by rw [hw.mem x]; exact (walk_reach h.ok.rows h.ok.pos x).symm
  unfold DomR
  rw [hre b]
  constructor
  · rintro ⟨h1, h2⟩
    exact ⟨h1, (h.s.di.iff h.s.tr (fun x hx => (h.s.pr x).2 ((hre x).1 hx)) h.s.fix ((hre b).2 h1)).2 h2⟩
  · rintro ⟨h1, h2⟩
    exact ⟨h1, (h.s.di.iff h.s.tr (fun x hx => (h.s.pr x).2 ((hre x).1 hx)) h.s.fix ((hre b).2 h1)).1 h2⟩
theorem Dt.ancOd (h : Dt w tb nx ov dp) {a x : Nat} (hx : x ∈ orderOf nx) (ha : Anc ov a x) : a ∈ orderOf nx := (h.s.pr a).1 (ha.pr h.s.tr ((h.s.pr x).2 hx))
theorem Dt.mono (h : Dt w tb nx ov dp) {a x : Nat} (hx : x ∈ orderOf nx) (ha : Anc ov a x) : a = x ∨ dp a < dp x := by
  induction ha with
  | refl => exact .inl rfl
  | step h1 h2 ih =>
    rename_i x y
    have hy : y ∈ orderOf nx := (h.s.pr y).1 (h.s.tr.up x y h1).2
    have := h.dpo.up x hx y h1
    rcases ih hy with rfl | hlt
    · right; omega
    · right; omega
theorem countP_add {p q : Nat → Bool} {x : Nat} (hp : ∀ a, p a = (q a || a == x)) (hq : q x = false) : ∀ k, (List.range k).countP p = (List.range k).countP q + if x < k then 1 else 0
  | 0 => by simp
  | k + 1 => by
    rw [List.range_succ, List.countP_append, List.countP_append, countP_add hp hq k]
    simp only [List.countP_singleton, hp k]
    by_cases e : k = x
    · subst e; simp [hq]
    · have : (k == x) = false := by simpa using e
      rw [this, Bool.or_false]
      by_cases h : x < k
      · rw [if_pos h, if_pos (show x < k + 1 by omega)]; omega
      · rw [if_neg h, if_neg (show ¬ x < k + 1 by omega)]; omega
theorem Dt.count (h : Dt w tb nx ov dp) : ∀ (m : Nat) (x : Nat), rkOf (orderOf nx) x ≤ m → x ∈ orderOf nx → ∀ col : Nat → Bool, (∀ a, col a = true ↔ Anc ov a x) → ((List.range nx.length).countP col : Int) = dp x + 1 := by
  intro m
  induction m using Nat.strongRecOn with
  | _ m ih =>
    intro x hm hx col hcol
    have hxn := h.lt hx
    cases e : ov x with
    | none =>
      rw [h.dpo.root x hx e, countP_add (q := fun _ => false) (x := x) (fun a => ?_) rfl, if_pos hxn]
      · simp
      · rw [Bool.false_or, Bool.eq_iff_iff, hcol a, beq_iff_eq]
        exact ⟨fun ha => ha.none e, fun e' => e' ▸ .refl⟩
    | some y =>
      have hy : y ∈ orderOf nx := (h.s.pr y).1 (h.s.tr.up x y e).2
      have hrk := (h.s.tr.up x y e).1
      obtain ⟨cy, hcy⟩ : ∃ cy : Nat → Bool, ∀ a, cy a = true ↔ Anc ov a y := ⟨fun a => @decide (Anc ov a y) (Classical.propDecidable _), fun a => by simp⟩
      have hnx : cy x = false := by
        rw [← Bool.not_eq_true, hcy x]
        intro ha
        rcases ha.le h.s.tr with e' | e'
        · subst e'; omega
        · omega
      rw [h.dpo.up x hx y e, countP_add (q := cy) (x := x) (fun a => ?_) hnx, if_pos hxn]
      · have := ih (rkOf (orderOf nx) y) (by omega) y (Nat.le_refl _) hy cy hcy
        omega
      · rw [Bool.eq_iff_iff, Bool.or_eq_true, hcol a, hcy a, beq_iff_eq]
        constructor
        · intro ha
          rcases ha.inv with e' | ⟨z, hz, ha⟩
          · exact .inr e'
          · rw [e] at hz; cases hz; exact .inl ha
        · rintro (ha | e')
          · exact .step e ha
          · subst e'; exact .refl
end
/-- The table, of a tree. -/
abbrev TabD (w : World) (t : Sl) (nx : List (List Nat)) (ov : Nat → Option Nat) : Prop := Tab w t nx.length fun a b => b ∈ orderOf nx ∧ Anc ov a b

section
variable {w0 w : World} {tb : Nat} {nx : List (List Nat)} {ov : Nat → Option Nat} {dp : Nat → Int} {t : Sl} {i : Int} {R : Value → World → Prop}
theorem rDepth_spec (hd : Dt w0 tb nx ov dp) (h : TabD w t nx ov) (hR : R (.int .i64 (depthOf (orderOf nx) dp i)) w) : callR Try.prog 48 #[.slice t.a t.l t.c, .int .i64 i] w R := by
  refine callR.of (intaglioref15_Depth_calls t i R w ?_) fun _ _ h => h
  have htl := h.len
  have hmx := hd.ok.max
  have hno : inOd (orderOf nx) i = false → R (.int .i64 (-1)) w := fun hi => by
    unfold depthOf at hR
    rw [if_neg (by rw [hi]; simp)] at hR
    exact hR
  refine JoinW.cut (fun _ w' => w' = w ∧ ∃ x : Nat, i = (x : Int) ∧ x ∈ orderOf nx) (ifB_dec (fun h0 => hno ?_) fun h0 => ifB_dec (fun h1 => hno ?_) fun h1 => ?_) ?_
  · rw [← Bool.not_eq_true, inOd_iff]; rintro ⟨k, rfl, hk⟩; omega
  · rw [← Bool.not_eq_true, inOd_iff]; rintro ⟨k, rfl, hk⟩; have := hd.lt hk; omega
  · obtain ⟨x, rfl⟩ := Int.eq_ofNat_of_zero_le (by omega : 0 ≤ i)
    refine h.get (a := x) (b := x) (by omega) (by omega) fun v hv => ifB_not (ifB_bool (fun hb => ⟨rfl, x, rfl, (hv.1 hb).1⟩) fun hb => hno ?_)
    rw [inOd_nat, ← Bool.not_eq_true, List.contains_iff_mem]
    intro hm
    rw [hv.2 ⟨hm, .refl⟩] at hb; cases hb
  rintro _ wx ⟨ewx, x, rfl, hx⟩
  subst wx
  have hxn := hd.lt hx
  obtain ⟨col, hcol⟩ : ∃ col : Nat → Bool, ∀ a, col a = true ↔ Anc ov a x := ⟨fun a => @decide (Anc ov a x) (Classical.propDecidable _), fun a => by simp⟩
  have hcnt := hd.count _ x (Nat.le_refl _) hx col hcol
  have hcle : ∀ k, (List.range k).countP col ≤ k := fun k => by have := List.countP_le_length (p := col) (l := List.range k); simpa using this
  refine LoopW.ghost (fun j s w' => ∃ k : Nat, k ≤ nx.length ∧ j = nx.length - k ∧ s = (((List.range k).countP col : Int) - 1, (k : Int), ()) ∧ w' = w) nx.length ⟨0, by omega, rfl, by simp, rfl⟩ ?_
  rintro _ _ w2 ⟨k, hk, rfl, rfl, ew⟩ next hnext
  subst w2
  refine ifB_dec (fun hlt => ?_) (fun hge => ?_)
  · have hlt : k < nx.length := by dsimp only at hlt; omega
    have hck := hcle k
    refine JoinW.cut (fun s w' => s = (((List.range (k + 1)).countP col : Int) - 1, ()) ∧ w' = w) ?_ ?_
    · refine h.get (a := k) (b := x) hlt hxn fun v hv => ?_
      have hv' : v = col k := by
        rw [Bool.eq_iff_iff, hv, hcol k]
        exact ⟨fun h => h.2, fun h => ⟨hx, h⟩⟩
      subst hv'
      rw [List.range_succ, List.countP_append, List.countP_singleton]
      refine ifB_bool (fun hb => ⟨?_, rfl⟩) (fun hb => ⟨?_, rfl⟩)
      · rw [if_pos hb]
        dsimp only
        rw [wrap64_in (by omega) (by omega)]
        congr 1
        omega
      · rw [if_neg (by rw [hb]; simp)]; rfl
    · rintro _ wx ⟨rfl, ewx⟩
      subst wx
      dsimp only
      rw [wrap64_succ (by omega)]
      exact hnext (nx.length - (k + 1)) _ _ (by omega) ⟨k + 1, by omega, rfl, rfl, rfl⟩
  · have : k = nx.length := by dsimp only at hge; omega
    subst this
    unfold depthOf at hR
    rw [inOd_nat, if_pos (by rw [List.contains_iff_mem]; exact hx), show Int.toNat (x : Int) = x from rfl] at hR
    rw [show ((List.range nx.length).countP col : Int) - 1 = dp x by omega]
    exact hR
theorem rOver_spec (hd : Dt w0 tb nx ov dp) (h : TabD w t nx ov) (hR : R (.int .i64 (overOf (orderOf nx) ov i)) w) : callR Try.prog 46 #[.slice t.a t.l t.c, .int .i64 i] w R := by
  refine callR.of (intaglioref15_Over_calls t i R w ?_) fun _ _ h => h
  have htl := h.len
  have hmx := hd.ok.max
  refine rDepth_spec hd h ⟨_, rfl, ifB_dec (fun hlt => ?_) (fun hge => ?_)⟩
  · have : overOf (orderOf nx) ov i = -1 := by
      unfold overOf
      split
      · rename_i hi
        obtain ⟨x, rfl, hx⟩ := inOd_iff.1 hi
        unfold depthOf at hlt
        rw [if_pos hi] at hlt
        simp only [Int.toNat_natCast] at hlt ⊢
        rw [ovI_none]
        cases e : ov x with
        | none => rfl
        | some y =>
          have h1 := hd.dpo.up x hx y e
          have h2 := (hd.dpo.mem y ((hd.s.pr y).1 (hd.s.tr.up x y e).2)).1
          omega
      · rfl
    rw [this] at hR; exact hR
  · have hi : inOd (orderOf nx) i = true := by
      rw [← Bool.not_eq_false]
      intro hi
      unfold depthOf at hge
      rw [if_neg (by rw [hi]; simp)] at hge
      omega
    obtain ⟨x, rfl, hx⟩ := inOd_iff.1 hi
    have hxn := hd.lt hx
    have hdx : depthOf (orderOf nx) dp (x : Int) = dp x := by unfold depthOf; rw [if_pos hi]; rfl
    rw [hdx] at hge
    obtain ⟨y, hy⟩ : ∃ y, ov x = some y := by
      cases e : ov x with
      | some y => exact ⟨y, rfl⟩
      | none => have := hd.dpo.root x hx e; omega
    have hyo : y ∈ orderOf nx := (hd.s.pr y).1 (hd.s.tr.up x y hy).2
    have hyn := hd.lt hyo
    have hdy := hd.dpo.up x hx y hy
    have hxy : y ≠ x := by rintro rfl; omega
    have hov : overOf (orderOf nx) ov (x : Int) = (y : Int) := by unfold overOf; rw [if_pos hi]; show ovI (ov x) = _; rw [hy]; rfl
    rw [hov] at hR
    have hle := (hd.dpo.mem x hx).2
    have hrl := List.idxOf_lt_length_of_mem hx
    have hol := order_len nx
    have hwl := hd.ok.walk_le
    have hrk : rkOf (orderOf nx) x < 4096 := by unfold rkOf; omega
    refine LoopW.count nx.length (by omega) (fun k w' => w' = w ∧ k ≤ y) ⟨rfl, Nat.zero_le _⟩ ?_
    rintro k w2 hk ⟨ew, hky⟩ next hnext
    subst w2
    refine ifB_dec (fun hltk => ?_) (fun hgek => ?_)
    · have hltk : k < nx.length := by dsimp only at hltk; omega
      refine JoinW.cut (fun _ w' => w' = w ∧ k ≠ y) ?_ fun _ w' hh => hnext w' hltk ⟨hh.1, by omega⟩
      refine ifB_bne (fun hne => ?_) (fun he => ⟨rfl, fun e => hxy (by have : (k : Int) = (x : Int) := he; omega)⟩)
      have hne : k ≠ x := fun e => hne (by rw [e])
      refine h.get (a := k) (b := x) hltk hxn fun v hv => ifB_bool (fun hb => ?_) (fun hb => ⟨rfl, fun e => ?_⟩)
      · have hak := (hv.1 hb).2
        have hko := hd.ancOd hx hak
        refine rDepth_spec hd h ⟨_, rfl, rDepth_spec hd h ⟨_, rfl, ?_⟩⟩
        have hdk : depthOf (orderOf nx) dp (k : Int) = dp k := by unfold depthOf; rw [if_pos (inOd_iff.2 ⟨k, rfl, hko⟩)]; rfl
        rw [hdx, wrap64_in (by omega) (by omega)]
        dsimp only
        rw [hdk]
        refine ifB_beq (fun he => ?_) (fun hne' => ⟨rfl, fun e => hne' (by rw [e]; omega)⟩)
        have : k = y := by
          rcases hak.inv with e | ⟨z, hz, ha⟩
          · exact absurd e hne
          · rw [hy] at hz
            cases hz
            rcases hd.mono hyo ha with e | e
            · exact e
            · omega
        rw [this]; exact hR
      · subst e
        rw [hv.2 ⟨hx, .step hy .refl⟩] at hb; cases hb
    · dsimp only at hgek; omega
end

/-- What Under tells. -/
def underOf (nx : List (List Nat)) (ov : Nat → Option Nat) (i : Int) : List Nat := (List.range nx.length).filter fun k => decide (0 ≤ i) && (ovI (ov k) == i)
theorem filter_succ (p : Nat → Bool) (k : Nat) : (List.range (k + 1)).filter p = (List.range k).filter p ++ if p k then [k] else [] := by
  rw [List.range_succ, List.filter_append]
  congr 1
  simp only [List.filter_cons, List.filter_nil]
section
variable {w : World} {tb : Nat} {nx : List (List Nat)} {ov : Nat → Option Nat} {dp : Nat → Int} {t : Sl} {i : Int} {R : Value → World → Prop}
theorem overOf_nat (hd : Dt w tb nx ov dp) (k : Nat) : overOf (orderOf nx) ov (k : Int) = ovI (ov k) := by
  unfold overOf
  split
  · rfl
  · rename_i h
    rw [inOd_iff] at h
    rw [hd.out (x := k) fun hk => h ⟨k, rfl, hk⟩]; rfl
theorem rUnder_spec {w0 : World} (hd : Dt w0 tb nx ov dp) (h : TabD w t nx ov) (hR : ∀ r w', Below w.heap.size w w' → Own w' 3 1 r ((underOf nx ov i).map iN) → R (.slice r.a r.l r.c) w') : callR Try.prog 50 #[.slice t.a t.l t.c, .int .i64 i] w R := by
  refine callR.of (intaglioref15_Under_calls t i R w ?_) fun _ _ h => h
  have htl := h.len
  have hmx := hd.ok.max
  obtain ⟨p, hp⟩ : ∃ p : Nat → Bool, p = fun k => decide (0 ≤ i) && (ovI (ov k) == i) := ⟨_, rfl⟩
  have hun : underOf nx ov i = (List.range nx.length).filter p := by rw [hp]; rfl
  have hpl : ∀ k, ((List.range k).filter p).length ≤ k := fun k => by have := List.length_filter_le p (List.range k); simpa using this
  refine LoopW.ghost (fun j s w' => ∃ k : Nat, ∃ l : Sl, k ≤ nx.length ∧ j = nx.length - k ∧ s = (l, (k : Int), ()) ∧ Below w.heap.size w w' ∧ w.heap.size ≤ w'.heap.size ∧ Own w' 3 1 l (((List.range k).filter p).map iN) ∧ Fresh w.heap.size l) nx.length
    ⟨0, ⟨none, 0, 0⟩, by omega, rfl, rfl, Below.refl _ _, Nat.le_refl _, Own.nil _ _ _, fun a ha => by cases ha⟩ ?_
  rintro _ _ w1 ⟨k, l, hk, rfl, rfl, hb, hz, ho, hf⟩ next hnext
  refine ifB_dec (fun hlt => ?_) (fun hge => ?_)
  · have hlt : k < nx.length := by dsimp only at hlt; omega
    refine JoinW.cut (fun s w' => ∃ l : Sl, s = (l, ()) ∧ Below w.heap.size w w' ∧ w.heap.size ≤ w'.heap.size ∧ Own w' 3 1 l (((List.range (k + 1)).filter p).map iN) ∧ Fresh w.heap.size l) ?_ ?_
    · have hskip : p k = false → ∃ l' : Sl, (l, ()) = (l', ()) ∧ Below w.heap.size w w1 ∧ w.heap.size ≤ w1.heap.size ∧ Own w1 3 1 l' (((List.range (k + 1)).filter p).map iN) ∧ Fresh w.heap.size l' := fun hpk =>
        ⟨l, rfl, hb, hz, by rw [filter_succ, hpk]; simpa using ho, hf⟩
      refine ifB_dec (fun h0 => ?_) (fun h0 => hskip (by rw [hp]; simp [show ¬ 0 ≤ i by omega]))
      refine rOver_spec hd (h.below hb) ⟨_, rfl, ?_⟩
      dsimp only
      rw [overOf_nat hd k]
      refine ifB_beq (fun he => ?_) (fun hne => hskip (by rw [hp]; simp [hne]))
      have hpk : p k = true := by rw [hp]; simp [he]; omega
      have := hpl k
      refine push_own (y := k) rfl hb hz ho hf (by omega) fun r w4 g1 g2 g3 g4 => ⟨r, rfl, g1, g2, ?_, g4⟩
      rw [filter_succ, hpk]
      exact g3
    · rintro _ w5 ⟨l', rfl, g1, g2, g3, g4⟩
      dsimp only
      rw [wrap64_succ (by omega)]
      exact hnext (nx.length - (k + 1)) _ _ (by omega) ⟨k + 1, l', by omega, rfl, rfl, g1, g2, g3, g4⟩
  · have : k = nx.length := by dsimp only at hge; omega
    subst this
    rw [← hun] at ho
    exact hR l w1 hb ho
theorem Under_spec (hd : Dt w tb nx ov dp) (hR : ∀ r w', Below w.heap.size w w' → Own w' 3 1 r ((underOf nx ov i).map iN) → R (.slice r.a r.l r.c) w') : callR Try.prog 49 #[.pointer (some (Gk.blk tb)), .int .i64 i] w R := by
  refine callR.of (dom_Tree_Under_calls _ i R w (reached_spec hd ⟨_, rfl, ?_⟩)) fun _ _ h => h
  have hmx := hd.ok.max
  refine ifB_not (ifB_bool (fun hi => ?_) (fun hi => ?_))
  · obtain ⟨x, rfl, hx⟩ := inOd_iff.1 hi
    obtain ⟨gb, ob, db, rb, hT, hG⟩ := hd.d
    refine derefP_some rfl ⟨⟨_, nx.length, nx.length⟩, hT.t.cell (n := 1) rfl, ?_⟩
    obtain ⟨p, hp⟩ : ∃ p : Nat → Bool, p = fun k => decide ((0 : Int) ≤ (x : Int)) && (ovI (ov k) == (x : Int)) := ⟨_, rfl⟩
    have hun : underOf nx ov (x : Int) = (List.range nx.length).filter p := by rw [hp]; rfl
    have hpl : ∀ k, ((List.range k).filter p).length ≤ k := fun k => by have := List.length_filter_le p (List.range k); simpa using this
    refine LoopW.ghost (fun j s w' => ∃ k : Nat, ∃ l : Sl, k ≤ nx.length ∧ j = nx.length - k ∧ s = (l, (k : Int), ()) ∧ Below w.heap.size w w' ∧ w.heap.size ≤ w'.heap.size ∧ Own w' 3 1 l (((List.range k).filter p).map iN) ∧ Fresh w.heap.size l) nx.length
      ⟨0, ⟨none, 0, 0⟩, by omega, rfl, rfl, Below.refl _ _, Nat.le_refl _, Own.nil _ _ _, fun a ha => by cases ha⟩ ?_
    rintro _ _ w1 ⟨k, l, hk, rfl, rfl, hb, hz, ho, hf⟩ next hnext
    refine ifB_dec (fun hlt => ?_) (fun hge => ?_)
    · have hlt : k < nx.length := by dsimp only at hlt; omega
      refine JoinW.cut (fun s w' => ∃ l : Sl, s = (l, ()) ∧ Below w.heap.size w w' ∧ w.heap.size ≤ w'.heap.size ∧ Own w' 3 1 l (((List.range (k + 1)).filter p).map iN) ∧ Fresh w.heap.size l) ?_ ?_
      · have hT1 := hT.below hb
        refine ⟨⟨by first | omega | (dsimp only; omega), by first | omega | (dsimp only; omega)⟩, derefP_some rfl ⟨_, hT1.o.cell (natL_get hlt), ifB_beq (fun he => ?_) (fun hne => ?_)⟩⟩
        · have he : ovI (ov k) = (x : Int) := he
          have hpk : p k = true := by rw [hp]; simp [he]
          have := hpl k
          refine push_own (y := k) rfl hb hz ho hf (by omega) fun r w4 g1 g2 g3 g4 => ⟨r, rfl, g1, g2, ?_, g4⟩
          rw [filter_succ, hpk]
          exact g3
        · have hne : ¬ ovI (ov k) = (x : Int) := hne
          have hpk : p k = false := by rw [hp]; simp [hne]
          exact ⟨l, rfl, hb, hz, by rw [filter_succ, hpk]; simpa using ho, hf⟩
      · rintro _ w5 ⟨l', rfl, g1, g2, g3, g4⟩
        dsimp only
        rw [wrap64_succ (by omega)]
        exact hnext (nx.length - (k + 1)) _ _ (by omega) ⟨k + 1, l', by omega, rfl, rfl, g1, g2, g3, g4⟩
    · have : k = nx.length := by dsimp only at hge; omega
      subst this
      rw [← hun] at ho
      exact hR l w1 hb ho
  · refine hR ⟨none, 0, 0⟩ w (Below.refl _ _) ?_
    have : underOf nx ov i = [] := by
      unfold underOf
      rw [List.filter_eq_nil_iff]
      intro k hk
      rw [Bool.and_eq_true, decide_eq_true_iff, beq_iff_eq]
      rintro ⟨h0, he⟩
      cases e : ov k with
      | none => rw [e] at he; have he : (-1 : Int) = i := he; omega
      | some y =>
        rw [e] at he
        have he : (y : Int) = i := he
        rw [inOd_iff.2 ⟨y, he.symm, (hd.s.pr y).1 (hd.s.tr.up k y e).2⟩] at hi
        cases hi
    rw [this]
    exact Own.nil _ _ _
end

/-- sound: at most 24 nodes, and all edges lead to one of them. -/
theorem sound_spec {s : Sl} {hs : List Sl} {ll : List (List Int)} (h8 : ∀ l ∈ ll, 8 * l.length ≤ 281474976710656) {w : World} {R : Value → World → Prop} (h : IsII w s hs ll) (hno : R (.bool false) w) (hyes : 0 < ll.length → ll.length ≤ 24 → Good ll → R (.bool true) w) :
    callR Try.prog 42 #[.slice s.a s.l s.c] w R := by
  refine callR.of (intagliolaw15_sound_calls s R w ?_) fun _ _ h => h
  have hsl : s.l = ll.length := by have := h.top.len; have := h.len; omega
  refine JoinW.cut (fun _ w' => w' = w ∧ 0 < ll.length ∧ ll.length ≤ 24) (ifB_beq (fun _ => hno) fun hne => ifB_dec (fun _ => hno) fun hgt => ⟨rfl, ?_, by omega⟩) ?_
  · rcases Nat.eq_zero_or_pos ll.length with e | e
    · exact absurd (by rw [hsl, e]; rfl) hne
    · exact e
  rintro _ wx ⟨ewx, h0, h24⟩
  subst wx
  refine LoopW.count ll.length (by omega) (fun i w' => w' = w ∧ ∀ i' (hi' : i' < ll.length), i' < i → ∀ y ∈ ll[i'], 0 ≤ y ∧ y < (ll.length : Int)) ⟨rfl, fun i' _ h => absurd h (by omega)⟩ ?_
  rintro i w1 hi ⟨ew, hg⟩ next hnext
  subst w1
  refine ifB_dec (fun hlt => ?_) (fun hge => hyes h0 h24 fun l hl y hy => ?_)
  · have hlt : i < ll.length := by dsimp only at hlt; omega
    have hil : i < hs.length := by have := h.len; omega
    have hrow := h.row i hil hlt
    have hrn : hs[i].l = ll[i].length := hrow.len
    have h8i := h8 _ (List.getElem_mem hlt)
    refine LoopW.count ll[i].length (by omega) (fun k w' => w' = w ∧ ∀ k' (hk' : k' < ll[i].length), k' < k → 0 ≤ ll[i][k'] ∧ ll[i][k'] < (ll.length : Int)) ⟨rfl, fun k' _ h => absurd h (by omega)⟩ ?_
    rintro k w2 hk ⟨ew2, hgk⟩ nxt hnxt
    subst w2
    obtain ⟨a, ha⟩ := h.top.base hil
    have rd : ∀ {φ : Sl → Prop}, φ hs[i] → (0 ≤ (i : Int) ∧ (i : Int) < (s.l : Int)) ∧ derefP s.a fun a => ldS w (a.add (Int.toNat (i : Int))) φ := fun hφ => elemS h.top hil hφ
    refine rd (ifB_dec (fun hltk => ?_) (fun hgek => ?_))
    · have hltk : k < ll[i].length := by dsimp only at hltk; omega
      refine JoinW.cut (fun _ w' => w' = w ∧ 0 ≤ ll[i][k] ∧ ll[i][k] < (ll.length : Int)) ?_ ?_
      · refine rd (elemI hrow hltk (ifB_dec (fun _ => hno) fun hn0 => rd (elemI hrow hltk (ifB_dec (fun _ => hno) fun hn1 => ⟨rfl, by omega, by omega⟩))))
      · rintro _ w' ⟨ew', g1⟩
        refine hnxt w' hltk ⟨ew', fun k' hk' hlt' => ?_⟩
        by_cases e : k' = k
        · subst e; exact g1
        · exact hgk k' hk' (by omega)
    · refine hnext w hlt ⟨rfl, fun i' hi' hlt' y hy => ?_⟩
      by_cases e : i' = i
      · subst e
        obtain ⟨k', hk', rfl⟩ := List.mem_iff_getElem.1 hy
        exact hgk k' hk' (by dsimp only at hgek; omega)
      · exact hg i' hi' (by omega) y hy
  · obtain ⟨i', hi', rfl⟩ := List.mem_iff_getElem.1 hl
    exact hg i' hi' (by dsimp only at hge; omega) y hy

theorem DomOvers_spec {s : Sl} {hs : List Sl} {ll : List (List Int)} {i : Int} {w : World} {R : Value → World → Prop} (h : IsII w s hs ll) (_h24 : 24 * ll.length ≤ 281474976710656) (h8 : ∀ l ∈ ll, 8 * l.length ≤ 281474976710656)
    (hR : ∀ w', Below w.heap.size w w' → R (.bool true) w') : callR Try.prog 9 #[.slice s.a s.l s.c, .int .i64 i] w R := by
  refine callR.of (intagliolaw15_DomOvers_calls s i R w ?_) fun _ _ h => h
  refine sound_spec h8 h ⟨_, rfl, ifB_true rfl (hR w (Below.refl _ _))⟩ fun h0 h1 hG => ⟨_, rfl, ifB_false rfl ?_⟩
  refine tree_spec h (fun hn => absurd ⟨h0, by omega, hG⟩ hn) fun _ _ _ w2 tb ov dp b2 hd => ⟨_, _, rfl, ?_⟩
  refine Table_spec h0 (by omega) hG h8 (h.below b2) fun w3 t b3 hT => ⟨t, rfl, ifB_true rfl ?_⟩
  have hd3 := hd.below b3
  have hT3 : TabD w3 t (edges ll) ov := by
    have : Tab w3 t (edges ll).length (DomR (edges ll)) := by rw [edges_length]; exact hT
    exact this.congr fun a b _ => hd.domR a b
  refine Over_spec hd3 ⟨_, rfl, rOver_spec hd3 hT3 ⟨_, rfl, ifB_true (by simp) ?_⟩⟩
  refine Depth_spec hd3 ⟨_, rfl, rDepth_spec hd3 hT3 ⟨_, rfl, ifB_true (by simp) ?_⟩⟩
  refine Under_spec hd3 fun r w4 b4 o4 => ⟨r, rfl, rUnder_spec hd3 (hT3.below b4) fun r5 w5 b5 o5 => ⟨r5, rfl, ?_⟩⟩
  refine same_spec (o4.below b5).isS o5.isS fun w6 b6 => ⟨true, rfl, hR w6 ?_⟩
  have z3 := b3.size
  have z2 := b2.size
  have z4 := b4.size
  have z5 := b5.size
  exact (((b2.trans (b3.mono z2)).trans (b4.mono (by omega))).trans (b5.mono (by omega))).trans (b6.mono (by omega))

end Go.Proofs
