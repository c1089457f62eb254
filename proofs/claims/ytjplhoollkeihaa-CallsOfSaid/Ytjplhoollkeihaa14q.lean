/-
  Contracts of the document's graph: Len, Next, Ahead, the walk, Order.
-/
import Derived.Test.Ytjplhoollkeihaa14p
namespace Go.Proofs
open Go.Gk Go.RowKit Go.Gr

theorem rLen_spec {rb : Nat} {nx : List (List Nat)} {w : World} {R : Value → World → Prop} (h : IsR w rb nx) (hR : R (.int .i64 (nx.length : Int)) w) :
    callR Try.prog 97 #[.pointer (some (blk rb))] w R := by
  refine callR.of (intaglioref14_Graph_Len_calls _ R w ?_) fun _ _ h => h
  obtain ⟨s, hs, h1, h2⟩ := h
  refine ⟨s, h1.cell0 rfl, ?_⟩
  have e : s.l = nx.length := by have := h2.top.len; have := h2.len; omega
  show R (.int .i64 (s.l : Int)) w
  rw [e]; exact hR

/-- Read a row of the document's graph. -/
theorem rRow {w : World} {rb : Nat} {s : Sl} {hs : List Sl} {nx : List (List Nat)} (h1 : Blk w rb 113 [s.val]) (h2 : IsNN w s hs nx) {i : Nat} (hi : i < nx.length) {φ : Sl → Prop} (hφ : ∀ (hi' : i < hs.length), φ hs[i]) :
    derefP (some (blk rb)) fun a => ldS w a fun x => (0 ≤ (i : Int) ∧ (i : Int) < (x.l : Int)) ∧ derefP x.a fun a => ldS w (a.add (Int.toNat (i : Int))) φ := by
  have hl := h2.len
  exact ⟨s, h1.cell0 rfl, elemS h2.top (k := i) (by omega) (hφ (by omega))⟩

theorem rNext_spec {rb : Nat} {nx : List (List Nat)} (hx : NxOk nx) {i : Int} {w : World} {R : Value → World → Prop} (h : IsR w rb nx)
    (hR : ∀ r w', Own w' 3 1 r ((rowAt nx i).map iN) → Below w.heap.size w w' → R (.slice r.a r.l r.c) w') :
    callR Try.prog 98 #[.pointer (some (blk rb)), .int .i64 i] w R := by
  refine callR.of (intaglioref14_Graph_Next_calls _ i R w ?_) fun _ _ h => h
  have none : ¬ (0 ≤ i ∧ i < nx.length) → R (.slice none 0 0) w := fun hn => hR ⟨none, 0, 0⟩ w (by rw [rowAt_out hn]; exact Own.nil _ _ _) (Below.refl _ _)
  refine JoinW.cut (fun _ w' => w' = w ∧ 0 ≤ i ∧ i < nx.length) (ifB_dec (fun h0 => none (by omega)) fun h0 => rLen_spec h ⟨_, rfl, ifB_dec (fun h1 => none (by omega)) fun h1 => ⟨rfl, by omega, by omega⟩⟩) ?_
  rintro _ wx ⟨ewx, h0, h1⟩
  subst wx
  obtain ⟨k, rfl⟩ := Int.eq_ofNat_of_zero_le h0
  have hk : k < nx.length := by omega
  have hgd : nx.getD k [] = nx[k] := by simp [List.getD, hk]
  have hrl := hx.row_le k
  have hmx := hx.max
  rw [rowAt_nat] at hR
  obtain ⟨s, hs, g1, g2⟩ := h
  have hrow : ∀ {w' : World}, Below w.heap.size w w' → ∀ (h' : k < hs.length), IsN w' hs[k] (nx.getD k []) := fun hb h' => by rw [hgd]; exact (g2.below hb).row k h' hk
  refine LoopW.countS (nx.getD k []).length (by omega) (fun j l w' => Below w.heap.size w w' ∧ w.heap.size ≤ w'.heap.size ∧ Own w' 3 1 l (((nx.getD k []).take j).map iN) ∧ Fresh w.heap.size l)
    ⟨Below.refl _ _, Nat.le_refl _, by simpa using Own.nil _ _ _, fun a ha => by cases ha⟩ ?_
  rintro j l w2 hj ⟨hb, hz, ho, hf⟩ next hnext
  refine rRow (g1.below hb) (g2.below hb) hk fun hh => ?_
  have hrn : hs[k].l = (nx.getD k []).length := (hrow hb hh).len
  refine ifB_dec (fun hlt => ?_) (fun hge => ?_)
  · have hlt : j < (nx.getD k []).length := by dsimp only at hlt; omega
    refine rRow (g1.below hb) (g2.below hb) hk fun hh => ?_
    refine elemN (hrow hb hh) hlt ?_
    refine push_own rfl hb hz ho hf (by simp; omega) fun r' w' k1 k2 k3 k4 => hnext r' w' hlt ⟨k1, k2, ?_, k4⟩
    rw [List.take_succ_eq_append_getElem hlt]; exact k3
  · have hj' : j = (nx.getD k []).length := by dsimp only at hge; omega
    subst hj'
    rw [List.take_length] at ho
    exact hR l w2 ho hb

theorem ahead_I {nx : List (List Nat)} (hx : NxOk nx) (i : Int) : rowAt (aheadOf nx) i = (List.range nx.length).filter fun k => ((nx.getD k []).map fun (x : Nat) => (x : Int)).contains i := by
  by_cases h : 0 ≤ i ∧ i < nx.length
  · obtain ⟨k, rfl⟩ := Int.eq_ofNat_of_zero_le h.1
    rw [rowAt_nat, ahead_getD (by omega)]
    refine List.filter_congr fun j _ => ?_
    rw [containsN]
  · rw [rowAt_out (by rw [ahead_length]; exact h)]
    symm
    rw [List.filter_eq_nil_iff]
    intro k hk
    rw [List.contains_iff_mem]
    intro hm
    obtain ⟨x, hxm, rfl⟩ := List.mem_map.1 hm
    have := hx.rows k x hxm
    omega

theorem rAhead_spec {rb : Nat} {nx : List (List Nat)} (hx : NxOk nx) {i : Int} {w : World} {R : Value → World → Prop} (h : IsR w rb nx)
    (hR : ∀ r w', Own w' 3 1 r ((rowAt (aheadOf nx) i).map iN) → Below w.heap.size w w' → R (.slice r.a r.l r.c) w') :
    callR Try.prog 99 #[.pointer (some (blk rb)), .int .i64 i] w R := by
  refine callR.of (intaglioref14_Graph_Ahead_calls _ i R w ?_) fun _ _ h => h
  have hmx := hx.max
  rw [ahead_I hx] at hR
  obtain ⟨P, hP⟩ : ∃ P : Nat → Bool, P = fun k => ((nx.getD k []).map fun (x : Nat) => (x : Int)).contains i := ⟨_, rfl⟩
  rw [← hP] at hR
  obtain ⟨s, hs, g1, g2⟩ := h
  refine LoopW.countS nx.length (by omega) (fun j l w' => Below w.heap.size w w' ∧ w.heap.size ≤ w'.heap.size ∧ Own w' 3 1 l (((List.range j).filter P).map iN) ∧ Fresh w.heap.size l)
    ⟨Below.refl _ _, Nat.le_refl _, by simpa using Own.nil _ _ _, fun a ha => by cases ha⟩ ?_
  rintro j l w2 hj ⟨hb, hz, ho, hf⟩ next hnext
  refine rLen_spec ⟨s, hs, g1.below hb, g2.below hb⟩ ⟨_, rfl, ifB_dec (fun hlt => ?_) (fun hge => ?_)⟩
  · have hlt : j < nx.length := by dsimp only at hlt; omega
    refine JoinW.cut (fun st w' => Below w.heap.size w w' ∧ w.heap.size ≤ w'.heap.size ∧ Own w' 3 1 st.1 (((List.range (j + 1)).filter P).map iN) ∧ Fresh w.heap.size st.1) ?_ fun st w' hh => hnext st.1 w' hlt hh
    refine rRow (g1.below hb) (g2.below hb) hlt fun hh => ?_
    have hrow := (g2.below hb).row j hh hlt
    have hgd : nx[j] = nx.getD j [] := by simp [List.getD, hlt]
    rw [hgd] at hrow
    rw [List.range_succ, List.filter_append]
    refine in_spec (IsS.toI hrow) ⟨_, rfl, ifB_bool (fun hc => ?_) (fun hc => ?_)⟩
    · have e : [j].filter P = [j] := by rw [hP]; simp only [List.filter_cons, hc, if_true, List.filter_nil]
      rw [e]
      have hlen := List.length_filter_le P (List.range j)
      simp only [List.length_range] at hlen
      exact push_own rfl hb hz ho hf (by omega) fun r' w' k1 k2 k3 k4 => ⟨k1, k2, k3, k4⟩
    · have e : [j].filter P = [] := by rw [hP]; simp only [List.filter_cons, hc, Bool.false_eq_true, if_false, List.filter_nil]
      rw [e, List.append_nil]
      exact ⟨hb, hz, ho, hf⟩
  · have hj' : j = nx.length := by dsimp only at hge; omega
    subst hj'
    exact hR l w2 ho hb

/-! ### The walk -/
structure CR (w0 w1 : World) (B wb rb : Nat) (s : Sl) (hs : List Sl) (nx : List (List Nat)) : Prop where
  size : w1.heap.size = B
  low : w0.heap.size ≤ wb
  wlt : wb < B
  bel : Below w0.heap.size w0 w1
  g : Blk w0 rb 113 [s.val]
  next : IsNN w0 s hs nx
  ok : NxOk nx
theorem CR.below {w0 w1 w' : World} {B wb rb : Nat} {s : Sl} {hs : List Sl} {nx : List (List Nat)} (cw : CR w0 w1 B wb rb s hs nx) (hf : Fr B (· = wb) w1 w') : Below w0.heap.size w0 w' :=
  cw.bel.trans ((hf.mono (B' := w0.heap.size) (X' := fun _ => False) (by have := cw.low; have := cw.wlt; omega) (fun k hk e => by have := cw.low; omega)).below)
structure SR (w1 : World) (B wb : Nat) (w : World) (s : List Nat × List Nat) : Prop where
  fr : Fr B (· = wb) w1 w
  st : ∃ cm lf, Blk w wb 124 [cm.val, lf.val] ∧ Own w 3 1 cm (s.1.map iN) ∧ Own w 3 1 lf (s.2.map iN) ∧ Fresh B cm ∧ Fresh B lf ∧ ∀ a b, cm.a = some a → lf.a = some b → a.block ≠ b.block

set_option maxHeartbeats 1000000 in
theorem to_spec {w0 w1 : World} {B wb rb : Nat} {s0 : Sl} {hs : List Sl} {nx : List (List Nat)} (cw : CR w0 w1 B wb rb s0 hs nx) :
    ∀ (f i : Nat) (s : List Nat × List Nat) (w : World) (R : Value → World → Prop), i < nx.length → i ∉ s.1 → s.1.Nodup → (∀ x ∈ s.1, x < nx.length) → nx.length ≤ s.1.length + f → s.2.length ≤ s.1.length →
      SR w1 B wb w s → (∀ w', SR w1 B wb w' (visit nx f i s) → R (.tuple #[]) w') →
      callR Try.prog 105 #[.pointer (some (blk wb)), .pointer (some (blk rb)), .int .i64 (i : Int)] w R := by
  intro f
  induction f with
  | zero =>
    intro i s w R hi hni hnd hlt hf
    have := nodup_lt hnd hlt hi hni
    omega
  | succ f ih =>
    intro i s w R hi hni hnd hlt hf h2l hcs hR
    have hmax := cw.ok.max
    have hslt := nodup_lt hnd hlt hi hni
    refine callR.of (intaglioref14_walker_to_calls (some (blk wb)) (some (blk rb)) (i : Int) R w ?_) fun _ _ h => h
    have gg : ∀ {w' : World}, Fr B (· = wb) w1 w' → Blk w' rb 113 [s0.val] := fun hf => cw.g.below (cw.below hf)
    have next : ∀ {w' : World}, Fr B (· = wb) w1 w' → IsNN w' s0 hs nx := fun hf => cw.next.below (cw.below hf)
    obtain ⟨hfr, cm, lf, hG, hcm, hlf, hfc, hfl, hap⟩ := hcs
    have hBsz : ∀ {w' : World}, Fr B (· = wb) w1 w' → B ≤ w'.heap.size := fun hf => by have := hf.size; have := cw.size; omega
    refine ⟨cm, hG.cell0 rfl, Nw.gen fun w3 hw3 => ?_⟩
    have hG3 : Blk w3 wb 124 [cm.val, lf.val] := by rw [hw3]; exact hG.alloc _
    have hfr3 : Fr B (· = wb) w1 w3 := by rw [hw3]; exact hfr.alloc (hBsz hfr) _
    have ht3 : Blk w3 w.heap.size 3 [iN i] := by rw [hw3]; exact Blk.new w 3 #[iN i]
    have hcm3 : Own w3 3 1 cm (s.1.map iN) := by rw [hw3]; exact hcm.alloc _
    have hlf3 : Own w3 3 1 lf (s.2.map iN) := by rw [hw3]; exact hlf.alloc _
    have hsz3 : w3.heap.size = w.heap.size + 1 := by rw [hw3]; simp
    have hcl := own_len hcm3
    refine append_one eInt hcm3 rfl ht3 (by omega) (by omega) fun r w4 hr hrl ⟨b, hrb, hbo, hg⟩ => ?_
    have hbB : B ≤ b := by
      rcases hbo with hb | rfl
      · exact hfc _ hb
      · exact hBsz hfr3
    have hfr4 : Fr B (· = wb) w1 w4 := hfr3.grown hg hbB (hBsz hfr3)
    have hwbb : wb ≠ b := by have := cw.wlt; omega
    have hG4 : Blk w4 wb 124 [cm.val, lf.val] := hG3.of_block (hg.block wb hG3.lt (fun e => hwbb (Option.some.inj e)))
    have hlfne : ∀ a, lf.a = some a → a.block ≠ b := fun a ha e => by
      rcases hbo with hb | hb
      · exact hap _ _ hb ha e.symm
      · have := (hlf3.lt ha).2; omega
    have hlf4 : Own w4 3 1 lf (s.2.map iN) := hlf3.of_block fun a ha => hg.block _ (hlf3.lt ha).2 (fun e => hlfne a ha (Option.some.inj e))
    refine ⟨hG4.wr0 (by simp), Nw.gen fun w5 hw5 => ?_⟩
    have hG5 : Blk w5 wb 124 [r.val, lf.val] := by rw [hw5]; exact hG4.set0 _
    have hfr5 : Fr B (· = wb) w1 w5 := by rw [hw5]; exact hfr4.set (.inr rfl) _
    have stay5 : ∀ {sl : Sl} {xs : List Value}, Own w4 3 1 sl xs → Own w5 3 1 sl xs := fun h => h.of_block fun a ha => by
      rw [hw5]; exact Below.heap_setCell _ _ _ _ (own_ne h hG4 (by decide) ha)
    have hcs5 : SR w1 B wb w5 (s.1 ++ [i], s.2) := by
      refine ⟨hfr5, r, lf, hG5, by simpa using stay5 hr, stay5 hlf4, fun a ha => ?_, hfl, fun a c ha hc => ?_⟩
      · rw [hrb] at ha; cases ha; exact hbB
      · rw [hrb] at ha; cases ha; exact (hlfne c hc).symm
    clear hw3 hG3 hfr3 ht3 hcm3 hlf3 hsz3 hG4 hlf4 hw5 stay5 hr hg hfr4 hfr hG hcm hlf
    have hlen : hs.length = nx.length := (next hfr5).len
    have hrow : ∀ {w' : World}, Fr B (· = wb) w1 w' → ∀ (h' : i < hs.length), IsN w' hs[i] (nx.getD i []) := fun hf h' => by
      have := (next hf).row i h' hi
      simpa [List.getD, hi] using this
    generalize hrl' : nx.getD i [] = row at hrow
    have hrt : ∀ t ∈ row, t < nx.length := fun t ht => cw.ok.rows i t (by rw [hrl']; exact ht)
    have base : Came nx.length s (s.1 ++ [i], s.2) := ⟨by
        rw [List.nodup_append]
        exact ⟨hnd, by simp, fun x hx y hy => by simp at hy; subst hy; intro e; subst e; exact hni hx⟩, fun x hx => by
        simp at hx
        rcases hx with hx | rfl
        · exact hlt x hx
        · exact hi, [i], rfl⟩
    have rowsOk : ∀ i, ∀ t ∈ nx.getD i [], t < nx.length := cw.ok.rows
    have hrle : row.length ≤ nx.length := by rw [← hrl']; exact cw.ok.row_le i
    refine LoopW.count row.length (by omega) (fun k w' => SR w1 B wb w' (visitAll nx f (row.take k) (s.1 ++ [i], s.2)) ∧ Came nx.length (s.1 ++ [i], s.2) (visitAll nx f (row.take k) (s.1 ++ [i], s.2)) ∧
      (visitAll nx f (row.take k) (s.1 ++ [i], s.2)).2.length < (visitAll nx f (row.take k) (s.1 ++ [i], s.2)).1.length) ⟨by simpa [visitAll] using hcs5, ?_, by simp [visitAll]; omega⟩ ?_
    · simp only [List.take_zero]
      exact ⟨base.nodup, base.lt, [], by simp [visitAll]⟩
    rintro k w6 hk ⟨hcs6, hcame, hlen6⟩ nxt hnext
    generalize hst : visitAll nx f (row.take k) (s.1 ++ [i], s.2) = st at hcs6 hcame hlen6
    have hfr6 := hcs6.fr
    refine rRow (gg hfr6) (next hfr6) hi fun hh => ?_
    have hrn : hs[i].l = row.length := (hrow hfr6 hh).len
    refine ifB_dec (fun hlt6 => ?_) (fun hge => ?_)
    · have hlt6 : k < row.length := by dsimp only at hlt6; omega
      have hsnoc : visitAll nx f (row.take (k + 1)) (s.1 ++ [i], s.2) = if st.1.contains row[k] then st else visit nx f row[k] st := by
        rw [List.take_succ_eq_append_getElem hlt6, visitAll_snoc, hst]
      refine JoinW.cut (fun _ w' => SR w1 B wb w' (visitAll nx f (row.take (k + 1)) (s.1 ++ [i], s.2)) ∧ Came nx.length (s.1 ++ [i], s.2) (visitAll nx f (row.take (k + 1)) (s.1 ++ [i], s.2)) ∧
        (visitAll nx f (row.take (k + 1)) (s.1 ++ [i], s.2)).2.length < (visitAll nx f (row.take (k + 1)) (s.1 ++ [i], s.2)).1.length) ?_ fun _ w' h => hnext w' hlt6 h
      have hcs6d : SR w1 B wb w6.drew st := ⟨hfr6.drew, hcs6.st⟩
      obtain ⟨cm6, lf6, hG6, hcm6, _⟩ := hcs6.st
      refine ⟨cm6, hG6.drew.cell0 rfl, ?_⟩
      refine rRow (gg hfr6.drew) (next hfr6.drew) hi fun hh => ?_
      refine elemN (hrow hfr6.drew hh) hlt6 ?_
      have hrk := hrt row[k] (List.getElem_mem hlt6)
      refine in_spec (IsS.toI hcm6.drew.isS) ⟨_, rfl, ifB_not ?_⟩
      rw [containsN, hsnoc]
      cases hc : st.1.contains row[k] with
      | true => exact ⟨hcs6d, hcame, hlen6⟩
      | false =>
        have hnm : row[k] ∉ st.1 := by simpa using hc
        refine rRow (gg hfr6.drew) (next hfr6.drew) hi fun hh => ?_
        refine elemN (hrow hfr6.drew hh) hlt6 ?_
        have hmore : st.1.length ≥ (s.1 ++ [i]).length := by obtain ⟨l, e⟩ := hcame.more; rw [e]; simp
        have hvc := visit_came rowsOk f row[k] st hrk hcame.nodup hcame.lt hnm
        refine ih row[k] st w6.drew _ hrk hnm hcame.nodup hcame.lt (by simp at hmore; omega) (by omega) hcs6d (fun w' h => ⟨rfl, h, ?_, ?_⟩)
        · obtain ⟨l1, e1⟩ := hcame.more
          obtain ⟨l2, e2⟩ := hvc.more
          exact ⟨hvc.nodup, hvc.lt, l1 ++ l2, by simp only [Bool.false_eq_true, if_false]; rw [e2, e1, List.append_assoc]⟩
        · have := visit_len nx f row[k] st
          simp only [Bool.false_eq_true, if_false]
          omega
    · -- i is left
      have hkk : k = row.length := by dsimp only at hge; omega
      subst hkk
      rw [List.take_length] at hst
      have hvis : visit nx (f + 1) i s = (st.1, st.2 ++ [i]) := by rw [visit_succ, hrl', hst]
      rw [hvis] at hR
      clear hst
      obtain ⟨_, cm6, lf6, hG6, hcm6, hlf6, hfc6, hfl6, hap6⟩ := hcs6
      refine ⟨lf6, hG6.cell (n := 1) rfl, Nw.gen fun w7 hw7 => ?_⟩
      have hG7 : Blk w7 wb 124 [cm6.val, lf6.val] := by rw [hw7]; exact hG6.alloc _
      have hfr7 : Fr B (· = wb) w1 w7 := by rw [hw7]; exact hfr6.alloc (hBsz hfr6) _
      have ht7 : Blk w7 w6.heap.size 3 [iN i] := by rw [hw7]; exact Blk.new w6 3 #[iN i]
      have hcm7 : Own w7 3 1 cm6 (st.1.map iN) := by rw [hw7]; exact hcm6.alloc _
      have hlf7 : Own w7 3 1 lf6 (st.2.map iN) := by rw [hw7]; exact hlf6.alloc _
      have hwl := own_len hlf7
      have hsl := nodup_le hcame.nodup hcame.lt
      refine append_one eInt hlf7 rfl ht7 (by omega) (by omega) fun r w8 hr hrl ⟨b, hrb, hbo, hg⟩ => ?_
      have hbB : B ≤ b := by
        rcases hbo with hb | rfl
        · exact hfl6 _ hb
        · exact hBsz hfr7
      have hfr8 : Fr B (· = wb) w1 w8 := hfr7.grown hg hbB (hBsz hfr7)
      have hwbb : wb ≠ b := by have := cw.wlt; omega
      have hG8 : Blk w8 wb 124 [cm6.val, lf6.val] := hG7.of_block (hg.block wb hG7.lt (fun e => hwbb (Option.some.inj e)))
      have hcmne : ∀ a, cm6.a = some a → a.block ≠ b := fun a ha e => by
        rcases hbo with hb | hb
        · exact hap6 _ _ ha hb e
        · have := (hcm7.lt ha).2; omega
      have hcm8 : Own w8 3 1 cm6 (st.1.map iN) := hcm7.of_block fun a ha => hg.block _ (hcm7.lt ha).2 (fun e => hcmne a ha (Option.some.inj e))
      refine ⟨hG8.wr (n := 1) (by simp), Nw.gen fun w9 hw9 => ?_⟩
      have hG9 : Blk w9 wb 124 [cm6.val, r.val] := by rw [hw9]; exact hG8.set 1 _
      have hfr9 : Fr B (· = wb) w1 w9 := by rw [hw9]; exact hfr8.set (.inr (by rw [add_block])) _
      have stay9 : ∀ {sl : Sl} {xs : List Value}, Own w8 3 1 sl xs → Own w9 3 1 sl xs := fun h => h.of_block fun a ha => by
        rw [hw9]; exact Below.heap_setCell _ _ _ _ (by rw [add_block]; exact own_ne h hG8 (by decide) ha)
      refine hR w9 ⟨hfr9, cm6, r, hG9, stay9 hcm8, by simpa using stay9 hr, hfc6, fun a ha => ?_, fun a c ha hc => ?_⟩
      · rw [hrb] at ha; cases ha; exact hbB
      · rw [hrb] at hc; cases hc; exact hcmne a ha

end Go.Proofs
