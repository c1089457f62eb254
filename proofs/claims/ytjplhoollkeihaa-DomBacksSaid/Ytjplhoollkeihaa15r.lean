/-
  dom.Backs.
-/
import Derived.Test.Ytjplhoollkeihaa15q
namespace Go.Proofs
open Go.Gk Go.RowKit Go.Gr Go.Dm

theorem eP2 : ElemT Try.prog 102 105 2 16 := ⟨by kernel_rfl, Try.t105, .agg #[.int .i64 0, .int .i64 0], by kernel_rfl, rfl, rfl, rfl, rfl⟩
def cellsP (P : List (Nat × Nat)) : List Value := P.flatMap fun p => [iN p.1, iN p.2]
theorem cellsP_snoc (P : List (Nat × Nat)) (a b : Nat) : cellsP (P ++ [(a, b)]) = cellsP P ++ [iN a, iN b] := by simp [cellsP]
theorem cellsP_len (P : List (Nat × Nat)) : (cellsP P).length = P.length * 2 := by
  induction P with
  | nil => rfl
  | cons p r ih => simp only [cellsP, List.flatMap_cons, List.length_append, List.length_cons, List.length_nil] at *; omega
/-- append(r, [2]int{a, b}), all that is new lying from block B0 on. -/
theorem push_pair {B0 : Nat} {w0 w : World} {r : Sl} {P : List (Nat × Nat)} {a b : Nat} (hb : Below B0 w0 w) (hB : B0 ≤ w.heap.size) (ho : Own w 105 2 r (cellsP P)) (hf : Fresh B0 r) (hl : P.length < 1099511627776)
    {k : Sl → World → Prop} (hk : ∀ r' w', Below B0 w0 w' → B0 ≤ w'.heap.size → Own w' 105 2 r' (cellsP (P ++ [(a, b)])) → Fresh B0 r' → (∀ c cs, Blk w c 3 cs → w'.heap[c]? = w.heap[c]?) → k r' w') :
    Nw (w.alloc (.cells #[.int .i64 (a : Int), .int .i64 (b : Int)] 105)) fun w1 => appendS Try.prog 102 (.slice r.a r.l r.c) (.slice (some (Gk.blk w.heap.size)) 1 1) w1 k := by
  refine Nw.gen fun w1 hw1 => ?_
  have hB1 : Blk w1 w.heap.size 105 [iN a, iN b] := by rw [hw1]; exact Blk.new w _ #[_, _]
  have b1 : Below w.heap.size w w1 := by rw [hw1]; exact (Below.refl _ _).alloc (Nat.le_refl _) _
  have z1 : w1.heap.size = w.heap.size + 1 := by rw [hw1]; simp
  have ho1 := ho.below b1
  have hrl : r.l = P.length := by have := ho.1; rw [cellsP_len] at this; omega
  refine append_own eP2 ho1 (news := [iN a, iN b]) rfl (fun j u hj => ?_) (fun u hu => by
    simp at hu
    rcases hu with rfl | rfl <;> rfl) (by omega) (by omega) fun r' w' h1 h2 h3 => ?_
  · cases j with
    | zero => simp at hj; subst hj; exact hB1.cell rfl
    | succ j =>
      cases j with
      | zero => simp at hj; subst hj; exact hB1.cell (n := 1) rfl
      | succ j => simp at hj
  · rcases h3 with ⟨h4, rfl, rfl⟩ | ⟨g, h4, h5, h6⟩
    · omega
    · have hg : B0 ≤ g := by
        rcases h5 with h5 | h5
        · exact hf _ h5
        · omega
      have hbw : Below B0 w0 w' := (hb.trans (b1.mono hB)).trans (below_grown h6 hg (by omega))
      refine hk r' w' hbw (by have := h6.size; omega) ?_ (fun x hx => by rw [h4] at hx; cases hx; exact hg) fun c cs hc => ?_
      · rw [cellsP_snoc]
        exact h1
      · have hlt := hc.lt
        refine (h6.block c (by omega) fun e => ?_).trans (b1.block c hlt)
        cases e
        rcases h5 with h5 | h5
        · obtain ⟨cs', hc'⟩ := ho.type h5
          exact absurd (hc'.type hc) (by decide)
        · omega
/-- The edges back, node by node. -/
def bkRow (n : Nat) (bk : Nat → Nat → Bool) (i : Nat) : List (Nat × Nat) := ((List.range n).filter (bk i)).map fun k => (i, k)
def bkL (n : Nat) (bk : Nat → Nat → Bool) (m : Nat) : List (Nat × Nat) := (List.range m).flatMap (bkRow n bk)
theorem bkL_succ (n : Nat) (bk : Nat → Nat → Bool) (m : Nat) : bkL n bk (m + 1) = bkL n bk m ++ bkRow n bk m := by simp [bkL, List.range_succ, List.flatMap_append]
theorem bkRow_len (n : Nat) (bk : Nat → Nat → Bool) (i : Nat) : (bkRow n bk i).length ≤ n := by
  have := List.length_filter_le (bk i) (List.range n)
  simpa [bkRow] using this
theorem bkL_len (n : Nat) (bk : Nat → Nat → Bool) : ∀ m, (bkL n bk m).length ≤ m * n
  | 0 => by simp [bkL]
  | m + 1 => by
    have := bkL_len n bk m
    have := bkRow_len n bk m
    rw [bkL_succ, List.length_append, Nat.succ_mul]
    omega
def BkP (nx : List (List Nat)) (ov : Nat → Option Nat) (i k : Nat) : Prop := Ed nx i k ∧ DomP (orderOf nx) ov (k : Int) (i : Int)

set_option maxHeartbeats 2000000 in
theorem Backs_spec {w : World} {tb : Nat} {nx : List (List Nat)} {ov : Nat → Option Nat} {dp : Nat → Int} {R : Value → World → Prop} (hd : Dt w tb nx ov dp) {bk : Nat → Nat → Bool} (hbk : ∀ i k, bk i k = true ↔ BkP nx ov i k)
    (hR : ∀ r w', Below w.heap.size w w' → Own w' 105 2 r (cellsP (bkL nx.length bk nx.length)) → R (.slice r.a r.l r.c) w') : callR Try.prog 86 #[.pointer (some (Gk.blk tb))] w R := by
  refine callR.of (dom_Tree_Backs_calls _ R w (ifB_false rfl ?_)) fun _ _ h => h
  have hmx := hd.ok.max
  obtain ⟨gb, ob, db, rb, hT, hG⟩ := hd.d
  have hnn : ∀ m, m ≤ nx.length → m * nx.length ≤ 4096 * 4096 := fun m hm => Nat.mul_le_mul (by omega) hmx
  refine derefP_some rfl ⟨⟨_, nx.length, nx.length⟩, hT.t.cell (n := 2) rfl, ?_⟩
  refine LoopW.ghost (fun j s w' => ∃ m : Nat, ∃ l : Sl, m ≤ nx.length ∧ j = nx.length - m ∧ s = (l, (m : Int), ()) ∧ Below w.heap.size w w' ∧ w.heap.size ≤ w'.heap.size ∧ Own w' 105 2 l (cellsP (bkL nx.length bk m)) ∧ Fresh w.heap.size l) nx.length
    ⟨0, ⟨none, 0, 0⟩, by omega, rfl, rfl, Below.refl _ _, Nat.le_refl _, Own.nil _ _ _, fun a ha => by cases ha⟩ ?_
  rintro _ _ w1 ⟨m, l, hm, rfl, rfl, hb, hz, ho, hf⟩ next hnext
  have hT1 := hT.below hb
  refine ifB_dec (fun hlt => ?_) (fun hge => ?_)
  · have hlt : m < nx.length := by dsimp only at hlt; omega
    refine derefP_some rfl ⟨_, hT1.t.cell0 rfl, Next_spec hd.ok (hG.below hb) fun r w2 o2 f2 b2 => ⟨r, rfl, ?_⟩⟩
    rw [rowAt_nat] at o2
    have hrow := hd.ok.row_le m
    have z2 := b2.size
    refine Clone_spec iN_one o2.isS (by omega) fun r3 w3 o3 f3 b3 => ⟨r3, rfl, ?_⟩
    have z3 := b3.size
    refine Sort_spec (hd.ok.nodup m) (hd.ok.rows m) (by omega) o3 fun w4 o4 hb4 => ⟨rfl, ?_⟩
    have b13 : Below w1.heap.size w1 w3 := b2.trans (b3.mono (by omega))
    have b14 : Below w1.heap.size w1 w4 := hb4 _ _ b13 (by omega) fun a ha => by have := f3 a ha; omega
    have z4 := b14.size
    have hsl : (srt nx.length (nx.getD m [])).length ≤ nx.length := by
      have := List.length_filter_le (fun k => (nx.getD m []).contains k) (List.range nx.length)
      simpa [srt] using this
    refine Compact_spec (srt_lt _ _) (by omega) o4 fun w5 b5 => ⟨r3, rfl, ?_⟩
    have b15 : Below w1.heap.size w1 w5 := b14.trans (b5.mono (by omega))
    have z5 := b15.size
    have o5 := o4.below b5
    have hlen := own_len o5
    obtain ⟨S, hS⟩ : ∃ S, S = srt nx.length (nx.getD m []) := ⟨_, rfl⟩
    rw [← hS] at o5 hlen hsl
    -- the sorted row, edge by edge
    have hrowE : bkRow nx.length bk m = (S.filter (bk m)).map fun k => (m, k) := by
      unfold bkRow
      congr 1
      rw [hS]
      unfold srt
      rw [List.filter_filter]
      refine List.filter_congr fun k _ => ?_
      rw [Bool.eq_iff_iff, Bool.and_eq_true, List.contains_iff_mem, hbk m k]
      exact ⟨fun h => ⟨h, h.1⟩, fun h => h.1⟩
    have hfl : ∀ q, ((S.take q).filter (bk m)).length ≤ nx.length := fun q => by
      have h1 := List.length_filter_le (bk m) (S.take q)
      have h3 : (S.take q).length ≤ S.length := by rw [List.length_take]; omega
      omega
    have hbl := bkL_len nx.length bk m
    have hml := hnn m hm
    have hf5 : Fresh w.heap.size r3 := fun a ha => by have := f3 a ha; omega
    refine LoopW.ghost (fun j s w' => ∃ q : Nat, ∃ l : Sl, q ≤ S.length ∧ j = S.length - q ∧ s = (l, (q : Int), ()) ∧ Below w.heap.size w w' ∧ w.heap.size ≤ w'.heap.size ∧ Own w' 105 2 l (cellsP (bkL nx.length bk m ++ ((S.take q).filter (bk m)).map fun k => (m, k))) ∧ Fresh w.heap.size l ∧ Own w' 3 1 r3 (S.map iN)) S.length
      ⟨0, l, by omega, rfl, rfl, hb.trans (b15.mono (by omega)), by omega, by simpa using ho.below b15, hf, o5⟩ ?_
    rintro _ _ w6 ⟨q, l, hq, rfl, rfl, hb6, hz6, ho6, hf6, o6⟩ nxt hnxt
    refine ifB_dec (fun hltq => ?_) (fun hgeq => ?_)
    · have hltq : q < S.length := by dsimp only at hltq; omega
      have etk : S.take (q + 1) = S.take q ++ [S[q]] := List.take_succ_eq_append_getElem hltq
      refine JoinW.cut (fun s w' => ∃ l : Sl, s = (l, ()) ∧ Below w.heap.size w w' ∧ w.heap.size ≤ w'.heap.size ∧ Own w' 105 2 l (cellsP (bkL nx.length bk m ++ ((S.take (q + 1)).filter (bk m)).map fun k => (m, k))) ∧ Fresh w.heap.size l ∧ Own w' 3 1 r3 (S.map iN)) ?_ ?_
      · refine elemI o6.isS.toI (k := q) (by simpa using hltq) ?_
        rw [List.getElem_map]
        refine Dominates_spec (hd.below hb6) fun v w7 b7 hv => ⟨v, rfl, ?_⟩
        have b07 : Below w.heap.size w w7 := hb6.trans (b7.mono (by omega))
        have z7 := b7.size
        have hSm : Ed nx m S[q] := by
          have : ∀ y ∈ S, Ed nx m y := fun y hy => by rw [hS] at hy; exact (mem_srt (hd.ok.rows m)).1 hy
          exact this _ (List.getElem_mem hltq)
        have hvb : v = bk m S[q] := by
          rw [Bool.eq_iff_iff, hv, hbk m]
          exact ⟨fun h => ⟨hSm, h⟩, fun h => h.2⟩
        refine ifB_bool (fun e => ?_) (fun e => ?_)
        · have hq1 : (S.take (q + 1)).filter (bk m) = (S.take q).filter (bk m) ++ [S[q]] := by
            rw [etk, List.filter_append]
            congr 1
            simp [← hvb, e]
          have := hfl q
          refine push_pair (P := bkL nx.length bk m ++ ((S.take q).filter (bk m)).map fun k => (m, k)) (a := m) (b := S[q]) b07 (by omega) (ho6.below b7) hf6 (by rw [List.length_append, List.length_map]; omega) fun r' w9 g1 g2 g3 g4 g5 => ⟨r', rfl, g1, g2, ?_, g4, ?_⟩
          · rw [hq1, List.map_append, ← List.append_assoc]
            exact g3
          · refine (o6.below b7).of_block fun a ha => ?_
            obtain ⟨cs, hc⟩ := (o6.below b7).type ha
            exact g5 _ _ hc
        · have hq1 : (S.take (q + 1)).filter (bk m) = (S.take q).filter (bk m) := by
            rw [etk, List.filter_append]
            simp [← hvb, e]
          exact ⟨l, rfl, b07, by omega, by rw [hq1]; exact ho6.below b7, hf6, o6.below b7⟩
      · rintro _ w10 ⟨l', rfl, g1, g2, g3, g4, g5⟩
        dsimp only
        rw [wrap64_succ (by omega)]
        exact hnxt (S.length - (q + 1)) _ _ (by omega) ⟨q + 1, l', by omega, rfl, rfl, g1, g2, g3, g4, g5⟩
    · have : q = S.length := by dsimp only at hgeq; omega
      subst this
      dsimp only
      rw [wrap64_succ (by omega)]
      refine hnext (nx.length - (m + 1)) _ _ (by omega) ⟨m + 1, l, hlt, rfl, rfl, hb6, hz6, ?_, hf6⟩
      rw [bkL_succ, hrowE]
      rw [List.take_length] at ho6
      exact ho6
  · have : m = nx.length := by dsimp only at hge; omega
    subst this
    exact hR l w1 hb ho

end Go.Proofs
