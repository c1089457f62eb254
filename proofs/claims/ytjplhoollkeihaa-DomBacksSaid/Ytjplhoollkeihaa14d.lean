/-
  Contracts of graph.walked's closure, and of graph.walked.
-/
import Derived.Test.Ytjplhoollkeihaa14c
namespace Go.Proofs
open Go.Gk Go.RowKit Go.Gr

/-- 64 words that hold the set S. -/
def BitsL (bs : List Value) (S : Nat → Bool) : Prop :=
  bs.length = 64 ∧ ∀ j, j < 64 → ∃ x : Nat, x < 2 ^ 64 ∧ bs[j]? = some (.int .u64 (x : Int)) ∧ ∀ k, k < 64 → x.testBit k = S (64 * j + k)
theorem BitsL.zero : BitsL (List.replicate 64 (.int .u64 (0 : Int))) fun _ => false :=
  ⟨List.length_replicate, fun j hj => ⟨0, by decide, by rw [List.getElem?_replicate, if_pos hj]; rfl, fun k _ => Nat.zero_testBit k⟩⟩
theorem BitsL.bits {w : World} {b : Nat} {T : TypeId} {v0 v1 v2 v3 : Value} {bs : List Value} {S : Nat → Bool} (h : Blk w b T (v0 :: v1 :: v2 :: v3 :: bs)) (hb : BitsL bs S) : Bits w ((blk b).add 4) S := by
  refine ⟨by rw [add_blk], fun j hj => ?_⟩
  obtain ⟨x, h1, h2, h3⟩ := hb.2 j hj
  rw [add_add _ _ _ rfl]
  refine ⟨x, h1, h.cell ?_, h.frozen _, h3⟩
  rw [show 4 + j = j + 1 + 1 + 1 + 1 by omega]
  simpa using h2
theorem Bits.list {w : World} {b : Nat} {T : TypeId} {v0 v1 v2 v3 : Value} {bs : List Value} {S : Nat → Bool} (h : Blk w b T (v0 :: v1 :: v2 :: v3 :: bs)) (hl : bs.length = 64) (hb : Bits w ((blk b).add 4) S) : BitsL bs S := by
  refine ⟨hl, fun j hj => ?_⟩
  obtain ⟨x, h1, h2, _, h3⟩ := hb.2 j hj
  rw [add_add _ _ _ rfl] at h2
  have hj' : bs[j]? = some bs[j] := List.getElem?_eq_getElem (by omega)
  have := h.cell (n := 4 + j) (v := bs[j]) (by rw [show 4 + j = j + 1 + 1 + 1 + 1 by omega]; exact hj')
  rw [h2] at this
  exact ⟨x, h1, by rw [hj', ← Option.some.inj this], h3⟩
theorem BitsL.congr {bs : List Value} {S S' : Nat → Bool} (h : BitsL bs S) (hs : ∀ i, S i = S' i) : BitsL bs S' :=
  ⟨h.1, fun j hj => let ⟨x, h1, h2, h3⟩ := h.2 j hj; ⟨x, h1, h2, fun k hk => by rw [h3 k hk, hs]⟩⟩

/-- Slices of slices whose elements are f's cells. -/
structure IsSS {α : Type} (f : α → Value) (w : World) (s : Sl) (hs : List Sl) (ll : List (List α)) : Prop where
  top : IsS Sl.val w s hs
  len : hs.length = ll.length
  row : ∀ (i : Nat) (h : i < hs.length) (h' : i < ll.length), IsS f w hs[i] ll[i]
abbrev IsNN (w : World) (s : Sl) (hs : List Sl) (ll : List (List Nat)) : Prop := IsSS iN w s hs ll
theorem IsSS.below {α : Type} {f : α → Value} {w w' : World} {s : Sl} {hs : List Sl} {ll : List (List α)} (h : IsSS f w s hs ll) (hb : Below w.heap.size w w') : IsSS f w' s hs ll :=
  ⟨h.top.below hb, h.len, fun i h1 h2 => (h.row i h1 h2).below hb⟩
/-- None of these blocks is b. -/
def Avoids (b : Nat) (s : Sl) (hs : List Sl) : Prop := (∀ a, s.a = some a → a.block ≠ b) ∧ ∀ (i : Nat) (h : i < hs.length) a, hs[i].a = some a → a.block ≠ b
theorem _root_.Go.Gk.IsS.fr {α : Type} {f : α → Value} {w w' : World} {s : Sl} {l : List α} (h : IsS f w s l) {B b : Nat} (hb : Fr B (· = b) w w') (hB : w.heap.size ≤ B) (hn : ∀ a, s.a = some a → a.block ≠ b) : IsS f w' s l :=
  h.of_block fun a ha hlt => hb.block _ (by omega) (hn a ha)
theorem IsSS.fr {α : Type} {f : α → Value} {w w' : World} {s : Sl} {hs : List Sl} {ll : List (List α)} (h : IsSS f w s hs ll) {B b : Nat} (hb : Fr B (· = b) w w') (hB : w.heap.size ≤ B) (hn : Avoids b s hs) : IsSS f w' s hs ll :=
  ⟨h.top.fr hb hB hn.1, h.len, fun i h1 h2 => (h.row i h1 h2).fr hb hB (hn.2 i h1)⟩

/-- The graph's block. -/
abbrev gCells (sn sa wk od : Sl) (bs : List Value) : List Value := sn.val :: sa.val :: wk.val :: od.val :: bs
/-- What holds while the walk is under way: of what lay when it began the graph's block alone has turned. -/
structure CS (w1 : World) (B gb : Nat) (sn sa : Sl) (w : World) (s : List Nat × List Nat) : Prop where
  fr : Fr B (· = gb) w1 w
  st : ∃ wk od bs, Blk w gb 118 (gCells sn sa wk od bs) ∧ BitsL bs (fun i => s.1.contains i) ∧ Own w 3 1 wk (s.1.map iN) ∧ Own w 3 1 od (s.2.map iN) ∧
    Fresh B wk ∧ Fresh B od ∧ ∀ a b, wk.a = some a → od.a = some b → a.block ≠ b.block

/-- What holds from the walk's beginning on. -/
structure CW (w1 : World) (B b0 b1 gb : Nat) (sn : Sl) (hs : List Sl) (nx : List (List Nat)) : Prop where
  size : w1.heap.size = B
  gblt : gb < B
  box0 : Blk w1 b0 28 [.pointer (some (blk gb))]
  box1 : Blk w1 b1 119 [.func (.func 147) #[] #[.pointer (some (blk b0)), .pointer (some (blk b1))]]
  ne0 : b0 ≠ gb
  ne1 : b1 ≠ gb
  next : IsNN w1 sn hs nx
  avoid : Avoids gb sn hs
  max : nx.length ≤ 4096
  rows : ∀ i, ∀ t ∈ nx.getD i [], t < nx.length

theorem own_len {w : World} {s : Sl} {l : List Nat} (h : Own w 3 1 s (l.map iN)) : s.l = l.length := by have := h.1; simp at this; omega
theorem own_ne {w : World} {s : Sl} {xs : List Value} (h : Own w 3 1 s xs) {b : Nat} {T : TypeId} {cs : List Value} (hB : Blk w b T cs) (hT : T ≠ 3) {a : Addr} (ha : s.a = some a) : a.block ≠ b := by
  intro e
  obtain ⟨cs', hB'⟩ := h.type ha
  rw [e] at hB'
  exact hT (hB.type hB')

set_option maxHeartbeats 1000000 in
theorem come_spec {w1 : World} {B b0 b1 gb : Nat} {sn sa : Sl} {hs : List Sl} {nx : List (List Nat)} (cw : CW w1 B b0 b1 gb sn hs nx) :
    ∀ (f i : Nat) (s : List Nat × List Nat) (w : World) (R : Value → World → Prop), i < nx.length → i ∉ s.1 → s.1.Nodup → (∀ x ∈ s.1, x < nx.length) → nx.length ≤ s.1.length + f → s.2.length ≤ s.1.length →
      CS w1 B gb sn sa w s → (∀ w', CS w1 B gb sn sa w' (visit nx f i s) → (visit nx f i s).2.length ≤ (visit nx f i s).1.length → R (.tuple #[]) w') →
      callR Try.prog 147 #[.int .i64 (i : Int), .pointer (some (blk b0)), .pointer (some (blk b1))] w R := by
  intro f
  induction f with
  | zero =>
    intro i s w R hi hni hnd hlt hf
    have := nodup_lt hnd hlt hi hni
    omega
  | succ f ih =>
    intro i s w R hi hni hnd hlt hf h2l hcs hR
    have hmax := cw.max
    have hslt := nodup_lt hnd hlt hi hni
    refine callR.of (graph_Graph_walked_1_calls (i : Int) (blk b0) (blk b1) R w ?_) fun _ _ h => h
    -- what is read of the boxes and the edges, whatever the walk has done
    have box0 : ∀ {w' : World}, Fr B (· = gb) w1 w' → Blk w' b0 28 [.pointer (some (blk gb))] := fun hf => cw.box0.of_block (hf.block _ (by have := cw.box0.lt; have := cw.size; omega) cw.ne0)
    have box1 : ∀ {w' : World}, Fr B (· = gb) w1 w' → Blk w' b1 119 [.func (.func 147) #[] #[.pointer (some (blk b0)), .pointer (some (blk b1))]] := fun hf => cw.box1.of_block (hf.block _ (by have := cw.box1.lt; have := cw.size; omega) cw.ne1)
    have next : ∀ {w' : World}, Fr B (· = gb) w1 w' → IsNN w' sn hs nx := fun hf => cw.next.fr hf (by rw [cw.size]; exact Nat.le_refl _) cw.avoid
    obtain ⟨hfr, wk, od, bs, hG, hbits, hwk, hod, hfw, hfo, hap⟩ := hcs
    have hBsz : ∀ {w' : World}, Fr B (· = gb) w1 w' → B ≤ w'.heap.size := fun hf => by have := hf.size; have := cw.size; omega
    refine ⟨some (blk gb), (box0 hfr).cell0 rfl, ?_⟩
    refine add_spec (S := fun i => s.1.contains i) (i := i) (by omega) (hbits.bits hG) fun x hx => ⟨rfl, ?_⟩
    -- the bit is set
    generalize hw2 : w.drew.setCell (((blk gb).add 4).add (i / 64)) (.int .u64 (x : Int)) = w2 at hx ⊢
    have hG2 : Blk w2 gb 118 (gCells sn sa wk od (bs.set (i / 64) (.int .u64 (x : Int)))) := by
      rw [← hw2, add_add _ _ _ rfl]
      have := (hG.drew).set (4 + i / 64) (.int .u64 (x : Int))
      rw [show 4 + i / 64 = i / 64 + 1 + 1 + 1 + 1 by omega] at this ⊢
      exact this
    have hfr2 : Fr B (· = gb) w1 w2 := by rw [← hw2]; exact hfr.drew.set (.inr (by rw [add_block, add_block])) _
    have hb2 := Bits.list hG2 (by rw [List.length_set]; exact hbits.1) hx
    have stay : ∀ {sl : Sl} {xs : List Value}, Own w 3 1 sl xs → Own w2 3 1 sl xs := fun h => h.of_block fun a ha => by
      rw [← hw2]; exact Below.heap_setCell _ _ _ _ (by rw [add_block, add_block]; exact own_ne h hG (by decide) ha)
    have hwk2 := stay hwk
    have hod2 := stay hod
    clear hw2 stay hG hbits hwk hod hx
    generalize bs.set (i / 64) (.int .u64 (x : Int)) = bs2 at hG2 hb2
    -- i is appended to the walk
    refine ⟨some (blk gb), (box0 hfr2).cell0 rfl, ⟨some (blk gb), (box0 hfr2).cell0 rfl, wk, hG2.cell rfl, Nw.gen fun w3 hw3 => ?_⟩⟩
    have hG3 : Blk w3 gb 118 (gCells sn sa wk od bs2) := by rw [hw3]; exact hG2.drew.alloc _
    have hfr3 : Fr B (· = gb) w1 w3 := by rw [hw3]; exact hfr2.drew.alloc (hBsz hfr2.drew) _
    have ht3 : Blk w3 w2.drew.heap.size 3 [iN i] := by rw [hw3]; exact Blk.new w2.drew 3 #[iN i]
    have hwk3 : Own w3 3 1 wk (s.1.map iN) := by rw [hw3]; exact hwk2.drew.alloc _
    have hod3 : Own w3 3 1 od (s.2.map iN) := by rw [hw3]; exact hod2.drew.alloc _
    have hsz3 : w3.heap.size = w2.heap.size + 1 := by rw [hw3]; simp
    refine ⟨hG3.cell rfl, (box0 hfr3).cell0 rfl, (box0 hfr3).cell0 rfl, ?_⟩
    have hwl := own_len hwk3
    refine append_one eInt hwk3 rfl ht3 (by omega) (by omega) fun r w4 hr hrl ⟨b, hrb, hbo, hg⟩ => ?_
    have hbB : B ≤ b := by
      rcases hbo with hb | rfl
      · exact hfw _ hb
      · exact hBsz hfr3
    have hfr4 : Fr B (· = gb) w1 w4 := hfr3.grown hg hbB (hBsz hfr3)
    have hbgb : gb ≠ b := by have := cw.gblt; omega
    have hG4 : Blk w4 gb 118 (gCells sn sa wk od bs2) := hG3.of_block (hg.block gb hG3.lt (fun e => hbgb (Option.some.inj e)))
    have hodne : ∀ a, od.a = some a → a.block ≠ b := fun a ha e => by
      rcases hbo with hb | hb
      · exact hap _ _ hb ha e.symm
      · have := (hod3.lt ha).2; omega
    have hod4 : Own w4 3 1 od (s.2.map iN) := hod3.of_block fun a ha => hg.block _ (hod3.lt ha).2 (fun e => hodne a ha (Option.some.inj e))
    refine ⟨(box0 hfr4).cell0 rfl, hG4.wr (by simp), Nw.gen fun w5 hw5 => ?_⟩
    have hG5 : Blk w5 gb 118 (gCells sn sa r od bs2) := by rw [hw5]; exact hG4.set 2 _
    have hfr5 : Fr B (· = gb) w1 w5 := by rw [hw5]; exact hfr4.set (.inr (by rw [add_block])) _
    have stay5 : ∀ {sl : Sl} {xs : List Value}, Own w4 3 1 sl xs → Own w5 3 1 sl xs := fun h => h.of_block fun a ha => by
      rw [hw5]; exact Below.heap_setCell _ _ _ _ (by rw [add_block]; exact own_ne h hG4 (by decide) ha)
    have hcs5 : CS w1 B gb sn sa w5 (s.1 ++ [i], s.2) := by
      refine ⟨hfr5, r, od, bs2, hG5, hb2.congr fun j => ?_, ?_, stay5 hod4, fun a ha => ?_, hfo, fun a c ha hc => ?_⟩
      · rw [Bool.eq_iff_iff]; simp
      · simpa using stay5 hr
      · rw [hrb] at ha; cases ha; exact hbB
      · rw [hrb] at ha; cases ha; exact (hodne c hc).symm
    clear hw3 hG3 hfr3 ht3 hwk3 hod3 hsz3 hG4 hod4 hw5 stay5 hr hg hG2 hb2 hwk2 hod2 hfr2 hfr4 hfr
    -- the edges
    refine ⟨some (blk gb), (box0 hfr5).cell0 rfl, sn, hG5.cell0 rfl, ?_⟩
    have hnx5 := next hfr5
    have hlen : hs.length = nx.length := hnx5.len
    refine elemS hnx5.top (k := i) (by omega) ?_
    clear hG5 hnx5
    have hrow : ∀ {w' : World}, Fr B (· = gb) w1 w' → IsN w' (hs[i]'(by omega)) (nx.getD i []) := fun hf => by
      have := (next hf).row i (by omega) hi
      simpa [List.getD, hi] using this
    generalize hrl' : nx.getD i [] = row at hrow
    have hrt : ∀ t ∈ row, t < nx.length := fun t ht => cw.rows i t (by rw [hrl']; exact ht)
    have hrn : (hs[i]'(by omega)).l = row.length := (hrow hfr5).len
    have base : Came nx.length s (s.1 ++ [i], s.2) := ⟨by
        rw [List.nodup_append]
        exact ⟨hnd, by simp, fun x hx y hy => by simp at hy; subst hy; intro e; subst e; exact hni hx⟩, fun x hx => by
        simp at hx
        rcases hx with hx | rfl
        · exact hlt x hx
        · exact hi, [i], rfl⟩
    have rowsOk : ∀ i, ∀ t ∈ nx.getD i [], t < nx.length := cw.rows
    refine LoopW.count row.length (hrow hfr5).bound (fun k w' => CS w1 B gb sn sa w' (visitAll nx f (row.take k) (s.1 ++ [i], s.2)) ∧ Came nx.length (s.1 ++ [i], s.2) (visitAll nx f (row.take k) (s.1 ++ [i], s.2)) ∧
      (visitAll nx f (row.take k) (s.1 ++ [i], s.2)).2.length < (visitAll nx f (row.take k) (s.1 ++ [i], s.2)).1.length) ⟨by simpa [visitAll] using hcs5, ?_, by simp [visitAll]; omega⟩ ?_
    · simp only [List.take_zero]
      exact ⟨base.nodup, base.lt, [], by simp [visitAll]⟩
    rintro k w6 hk ⟨hcs6, hcame, hlen6⟩ nxt hnext
    generalize hst : visitAll nx f (row.take k) (s.1 ++ [i], s.2) = st at hcs6 hcame hlen6
    refine ifB_dec (fun hlt6 => ?_) (fun hge => ?_)
    · have hlt6 : k < row.length := by dsimp only at hlt6; omega
      have hsnoc : visitAll nx f (row.take (k + 1)) (s.1 ++ [i], s.2) = if st.1.contains row[k] then st else visit nx f row[k] st := by
        rw [List.take_succ_eq_append_getElem hlt6, visitAll_snoc, hst]
      refine JoinW.cut (fun _ w' => CS w1 B gb sn sa w' (visitAll nx f (row.take (k + 1)) (s.1 ++ [i], s.2)) ∧ Came nx.length (s.1 ++ [i], s.2) (visitAll nx f (row.take (k + 1)) (s.1 ++ [i], s.2)) ∧
        (visitAll nx f (row.take (k + 1)) (s.1 ++ [i], s.2)).2.length < (visitAll nx f (row.take (k + 1)) (s.1 ++ [i], s.2)).1.length) ?_ fun _ w' h => hnext w' hlt6 h
      have hfr6 := hcs6.fr
      obtain ⟨wk6, od6, bs6, hG6, hb6, _⟩ := hcs6.st
      refine elemN (hrow hfr6) hlt6 ⟨some (blk gb), (box0 hfr6).cell0 rfl, ?_⟩
      have hrk := hrt row[k] (List.getElem_mem hlt6)
      refine has_spec (S := fun i => st.1.contains i) (i := row[k]) (by omega) (hb6.bits hG6) ⟨_, rfl, ?_⟩
      rw [hsnoc]
      cases hc : st.1.contains row[k] with
      | true => exact ⟨hcs6, hcame, hlen6⟩
      | false =>
        have hnm : row[k] ∉ st.1 := by simpa using hc
        refine ⟨_, (box1 hfr6).cell0 rfl, ?_⟩
        have hmore : st.1.length ≥ (s.1 ++ [i]).length := by obtain ⟨l, e⟩ := hcame.more; rw [e]; simp
        have hvc := visit_came rowsOk f row[k] st hrk hcame.nodup hcame.lt hnm
        have := ih row[k] st w6 (fun v w' => v = .tuple #[] ∧ CS w1 B gb sn sa w' (visit nx f row[k] st) ∧ Came nx.length (s.1 ++ [i], s.2) (visit nx f row[k] st) ∧ (visit nx f row[k] st).2.length < (visit nx f row[k] st).1.length)
          hrk hnm hcame.nodup hcame.lt (by simp at hmore; omega) (by omega) hcs6 (fun w' h _ => ⟨rfl, h, ?_, ?_⟩)
        · exact this
        · obtain ⟨l1, e1⟩ := hcame.more
          obtain ⟨l2, e2⟩ := hvc.more
          exact ⟨hvc.nodup, hvc.lt, l1 ++ l2, by rw [e2, e1, List.append_assoc]⟩
        · have := visit_len nx f row[k] st
          omega
    · -- i is left
      have hkk : k = row.length := by dsimp only at hge; omega
      subst hkk
      rw [List.take_length] at hst
      have hvis : visit nx (f + 1) i s = (st.1, st.2 ++ [i]) := by rw [visit_succ, hrl', hst]
      rw [hvis] at hR
      clear hst
      obtain ⟨hfr6, wk6, od6, bs6, hG6, hb6, hwk6, hod6, hfw6, hfo6, hap6⟩ := hcs6
      refine ⟨some (blk gb), (box0 hfr6.drew).cell0 rfl, some (blk gb), (box0 hfr6.drew).cell0 rfl, od6, hG6.drew.cell rfl, Nw.gen fun w7 hw7 => ?_⟩
      have hG7 : Blk w7 gb 118 (gCells sn sa wk6 od6 bs6) := by rw [hw7]; exact hG6.drew.alloc _
      have hfr7 : Fr B (· = gb) w1 w7 := by rw [hw7]; exact hfr6.drew.alloc (hBsz hfr6.drew) _
      have ht7 : Blk w7 w6.drew.heap.size 3 [iN i] := by rw [hw7]; exact Blk.new w6.drew 3 #[iN i]
      have hwk7 : Own w7 3 1 wk6 (st.1.map iN) := by rw [hw7]; exact hwk6.drew.alloc _
      have hod7 : Own w7 3 1 od6 (st.2.map iN) := by rw [hw7]; exact hod6.drew.alloc _
      refine ⟨hG7.cell rfl, (box0 hfr7).cell0 rfl, (box0 hfr7).cell0 rfl, ?_⟩
      have hwl := own_len hod7
      have hsl := nodup_le hcame.nodup hcame.lt
      refine append_one eInt hod7 rfl ht7 (by omega) (by omega) fun r w8 hr hrl ⟨b, hrb, hbo, hg⟩ => ?_
      have hbB : B ≤ b := by
        rcases hbo with hb | rfl
        · exact hfo6 _ hb
        · exact hBsz hfr7
      have hfr8 : Fr B (· = gb) w1 w8 := hfr7.grown hg hbB (hBsz hfr7)
      have hbgb : gb ≠ b := by have := cw.gblt; omega
      have hG8 : Blk w8 gb 118 (gCells sn sa wk6 od6 bs6) := hG7.of_block (hg.block gb hG7.lt (fun e => hbgb (Option.some.inj e)))
      have hwkne : ∀ a, wk6.a = some a → a.block ≠ b := fun a ha e => by
        rcases hbo with hb | hb
        · exact hap6 _ _ ha hb e
        · have := (hwk7.lt ha).2; omega
      have hwk8 : Own w8 3 1 wk6 (st.1.map iN) := hwk7.of_block fun a ha => hg.block _ (hwk7.lt ha).2 (fun e => hwkne a ha (Option.some.inj e))
      refine ⟨(box0 hfr8).cell0 rfl, hG8.wr (by simp), Nw.gen fun w9 hw9 => ?_⟩
      have hG9 : Blk w9 gb 118 (gCells sn sa wk6 r bs6) := by rw [hw9]; exact hG8.set 3 _
      have hfr9 : Fr B (· = gb) w1 w9 := by rw [hw9]; exact hfr8.set (.inr (by rw [add_block])) _
      have stay9 : ∀ {sl : Sl} {xs : List Value}, Own w8 3 1 sl xs → Own w9 3 1 sl xs := fun h => h.of_block fun a ha => by
        rw [hw9]; exact Below.heap_setCell _ _ _ _ (by rw [add_block]; exact own_ne h hG8 (by decide) ha)
      refine hR w9 ⟨hfr9, wk6, r, bs6, hG9, hb6, stay9 hwk8, by simpa using stay9 hr, hfw6, fun a ha => ?_, fun a c ha hc => ?_⟩ (by simp; omega)
      · rw [hrb] at ha; cases ha; exact hbB
      · rw [hrb] at hc; cases hc; exact hwkne a ha

end Go.Proofs
