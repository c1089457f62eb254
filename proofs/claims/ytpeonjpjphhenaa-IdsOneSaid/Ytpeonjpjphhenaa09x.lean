/-
  slices.Sort at words: what each function of it does is what the kit's plain sort does; slices.Sort at words: the partitions, the quick test whether it is sorted already; slices.Sort at words: the quick test, the pivot, the broken patterns, the whole; slices.Sort at words: the broken patterns, the recursion, the whole; slices.Sort, slices.Sorted of slices.Values, at words.
-/
import Derived.Test.YtpeonjpjphhenaaL09s
import Derived.Test.Ytpeonjpjphhenaa14T
import Derived.Sort.AssemblyPlain
import Derived.Test.Ytpeonjpjphhenaa09i
/-!
  slices.Sort at words: what each function of it does is what the kit's plain sort does.
-/
namespace Go.Proofs
open Go.Gk Go.RowKit

/-! ### The words in memory -/
abbrev ltI : Int → Int → Bool := Go.Sort.ltInt
def Dtw (w : World) (g : Nat) (rest : List Value) (d : Array Int) : Prop := Blk w g 22 (d.toList.map (Value.int .u32) ++ rest)
theorem Fr.chg {B b : Nat} {X : Nat → Prop} {w0 w w' : World} (h : Fr B X w0 w) (c : Chg b w w') (hb : X b ∨ B ≤ b) : Fr B X w0 w' :=
  h.trans ⟨c.os, c.tape, c.output, Nat.le_of_eq c.size.symm, fun k hk hx => c.block k (fun e => by
    rcases hb with hb | hb
    · exact hx (e ▸ hb)
    · omega)⟩
theorem Fr.onto {X : Nat → Prop} {B : Nat} {w0 w w' : World} (h : Fr B X w0 w) (k : Fr w.heap.size X w w') (hB : B ≤ w.heap.size) : Fr B X w0 w' := h.trans (k.mono hB fun _ _ h => h)
section
variable {w w' : World} {g : Nat} {rest : List Value} {d : Array Int}
theorem Dtw.drew (h : Dtw w g rest d) : Dtw w.drew g rest d := Blk.drew h
theorem Dtw.below (h : Dtw w g rest d) (hb : Below w.heap.size w w') : Dtw w' g rest d := Blk.below h hb
theorem Dtw.lt (h : Dtw w g rest d) : g < w.heap.size := Blk.lt h
theorem Dtw.cell (h : Dtw w g rest d) {i : Nat} (hi : i < d.size) : w.cell? ((blk g).add i) = some (.int .u32 d[i]!) := by
  refine Blk.cell h ?_
  rw [List.getElem?_append_left (by simpa using hi)]
  simp [hi]
theorem Dtw.set (h : Dtw w g rest d) {i : Nat} (hi : i < d.size) (v : Int) : Wr w ((blk g).add i) ∧ Dtw (w.setCell ((blk g).add i) (.int .u32 v)) g rest (d.setIfInBounds i v) := by
  refine ⟨Blk.wr h (by simp; omega), ?_⟩
  have := Blk.set h i (.int .u32 v)
  rw [List.set_append_left _ _ (by simpa using hi), ← List.map_set] at this
  unfold Dtw
  rw [Array.toList_setIfInBounds]
  exact this
theorem Dtw.at (h : Dtw w g rest d) {e : Int} {i n : Nat} (he : e = (i : Int)) (hi : i < d.size) (hn : n = d.size) {φ : Int → Prop} (hφ : φ d[i]!) :
    (0 ≤ e ∧ e < (n : Int)) ∧ derefP (some (blk g)) fun a => ldI w (a.add (Int.toNat e)) .u32 φ := by
  subst he
  exact ⟨⟨by omega, by omega⟩, derefP_some rfl ⟨_, h.cell hi, hφ⟩⟩
theorem Dtw.swap (h : Dtw w g rest d) {e1 e2 : Int} {i j n : Nat} (h1 : e1 = (i : Int)) (h2 : e2 = (j : Int)) (hi : i < d.size) (hj : j < d.size) (hn : n = d.size) {K : World → Prop} (hK : ∀ w', Dtw w' g rest (Go.Sort.swp d j i) → Chg g w w' → K w') :
    (0 ≤ e1 ∧ e1 < (n : Int)) ∧ derefP (some (blk g)) fun a1 => ldI w.drew (a1.add (Int.toNat e1)) .u32 fun x1 =>
    (0 ≤ e2 ∧ e2 < (n : Int)) ∧ derefP (some (blk g)) fun a2 => ldI w.drew (a2.add (Int.toNat e2)) .u32 fun x2 =>
    (0 ≤ e2 ∧ e2 < (n : Int)) ∧ derefP (some (blk g)) fun a3 => Wr w.drew (a3.add (Int.toNat e2)) ∧ Nw (w.drew.setCell (a3.add (Int.toNat e2)) (.int .u32 x1)) fun w1 =>
    (0 ≤ e1 ∧ e1 < (n : Int)) ∧ derefP (some (blk g)) fun a4 => Wr w1 (a4.add (Int.toNat e1)) ∧ Nw (w1.setCell (a4.add (Int.toNat e1)) (.int .u32 x2)) fun w2 => K w2 := by
  subst h1 h2
  obtain ⟨s1, s2⟩ := h.drew.set hj d[i]!
  obtain ⟨s3, s4⟩ := s2.set (i := i) (by simpa using hi) d[j]!
  refine h.drew.at rfl hi hn (h.drew.at rfl hj hn ⟨⟨by omega, by omega⟩, derefP_some rfl ⟨s1, Nw.mk ⟨⟨by omega, by omega⟩, derefP_some rfl ⟨s3, Nw.mk (hK _ s4 ?_)⟩⟩⟩⟩)
  exact (((Chg.refl g w).drew).trans (Chg.set g j _ _)).trans (Chg.set g i _ _)
end
section
variable {w : World} {g n c : Nat} {rest : List Value} {d : Array Int} {R : Value → World → Prop}
theorem Less_spec {x y : Int} (hR : R (.bool (ltI x y)) w) : callR Try.prog 133 #[.int .u32 x, .int .u32 y] w R := by
  refine callR.of (cmp_Less_uint32_calls x y R w ?_) fun _ _ h => h
  refine callR.of (cmp_isNaN_uint32_calls x _ w ?_) fun _ _ h => h
  exact ⟨_, rfl, ifB_false (by simp) hR⟩

/-! ### insertionSort -/
theorem ins_stop {a j : Nat} {d : Array Int} (h : j ≤ a ∨ ltI d[j]! d[j - 1]! = false) : Go.Sort.insInner ltI a j d = d := by
  cases j with
  | zero => rfl
  | succ j =>
    rw [Go.Sort.insInner, if_neg]
    intro hh
    rw [Bool.and_eq_true, decide_eq_true_eq] at hh
    rcases h with h | h
    · omega
    · rw [Nat.add_sub_cancel] at h
      rw [h] at hh
      cases hh.2
theorem ins_go {a j : Nat} {d : Array Int} (h1 : a < j) (h2 : ltI d[j]! d[j - 1]! = true) : Go.Sort.insInner ltI a j d = Go.Sort.insInner ltI a (j - 1) (Go.Sort.swp d j (j - 1)) := by
  cases j with
  | zero => omega
  | succ j =>
    rw [Nat.add_sub_cancel] at h2 ⊢
    rw [Go.Sort.insInner, if_pos]
    rw [h2, Bool.and_true, decide_eq_true_eq]
    exact h1
theorem insU_spec {a b : Nat} (hD : Dtw w g rest d) (hn : n = d.size) (hmax : n ≤ 35184372088832) (hab : a ≤ b) (hb : b ≤ n)
    (hR : ∀ w', Dtw w' g rest (Go.Sort.insertionSort ltI d a b) → Fr w.heap.size (· = g) w w' → R (.tuple #[]) w') :
    callR Try.prog 127 #[.slice (some (blk g)) n c, .int .i64 (a : Int), .int .i64 (b : Int)] w R := by
  refine callR.of (slices_insertionSortOrdered_uint32_calls ⟨some (blk g), n, c⟩ a b R w ?_) fun _ _ h => h
  refine LoopW.ghost (fun k (st : Int × Unit) w' => ∃ (i : Nat) (d' : Array Int), st = ((i : Int), ()) ∧ k = b - i ∧ a + 1 ≤ i ∧ Dtw w' g rest d' ∧ d'.size = n ∧ Go.Sort.insOuter ltI a b i d' = Go.Sort.insertionSort ltI d a b ∧ Fr w.heap.size (· = g) w w') (b - (a + 1))
    ⟨a + 1, d, by rw [wrap64_succ (by omega)], rfl, Nat.le_refl _, hD, hn.symm, rfl, Fr.refl _ _ _⟩ ?_
  rintro _ _ w1 ⟨i, d1, rfl, rfl, hi, hD1, hn1, he, hF⟩ next hnext
  refine ifB_dec (fun h => ?_) (fun h => ?_)
  · have hib : i < b := by dsimp only at h; omega
    refine JoinW.cut (fun _ w' => ∃ d2, Dtw w' g rest d2 ∧ d2.size = n ∧ d2 = Go.Sort.insInner ltI a i d1 ∧ Fr w.heap.size (· = g) w w') ?_ ?_
    · refine LoopW.ghost (fun k (st : Int × Unit) w' => ∃ (j : Nat) (d2 : Array Int), st = ((j : Int), ()) ∧ k = j ∧ j ≤ i ∧ a ≤ j ∧ Dtw w' g rest d2 ∧ d2.size = n ∧ Go.Sort.insInner ltI a j d2 = Go.Sort.insInner ltI a i d1 ∧ Fr w.heap.size (· = g) w w') i
        ⟨i, d1, rfl, rfl, Nat.le_refl _, by omega, hD1, hn1, rfl, hF⟩ ?_
      rintro j _ w2 ⟨_, d2, rfl, rfl, hj, haj, hD2, hn2, he2, hF2⟩ next2 hnext2
      refine JoinW.cut (fun _ w' => Dtw w' g rest d2 ∧ Fr w.heap.size (· = g) w w' ∧ a < j ∧ ltI d2[j]! d2[j - 1]! = true) ?_ ?_
      · refine ifB_dec (fun h => ?_) (fun h => ?_)
        · have hj' : a < j := by dsimp only at h; omega
          refine hD2.drew.at rfl (by omega) hn2.symm (hD2.drew.at (i := j - 1) (by rw [wrap64_in (by dsimp only; omega) (by dsimp only; omega)]; dsimp only; omega) (by omega) hn2.symm (Less_spec ⟨_, rfl, ?_⟩))
          refine ifB_bool (fun hb => ⟨hD2.drew, hF2.drew, hj', hb⟩) (fun hb => ⟨d2, hD2.drew, hn2, ?_, hF2.drew⟩)
          rw [← he2, ins_stop (.inr hb)]
        · exact ⟨d2, hD2.drew, hn2, by rw [← he2, ins_stop (.inl (by dsimp only at h; omega))], hF2.drew⟩
      · rintro _ w3 ⟨hD3, hF3, haj', hlt⟩
        have e1 : IntKind.i64.wrap ((j : Int) - 1) = ((j - 1 : Nat) : Int) := by rw [wrap64_in (by omega) (by omega)]; omega
        refine hD3.swap (i := j - 1) (j := j) e1 rfl (by omega) (by omega) hn2.symm fun w4 hD4 c4 => ?_
        rw [show IntKind.i64.wrap ((((j : Int), ()) : Int × Unit).1 - 1) = ((j - 1 : Nat) : Int) from e1]
        exact hnext2 (j - 1) _ _ (by omega) ⟨j - 1, _, rfl, rfl, by omega, by omega, hD4, by rw [Go.Sort.size_swp]; exact hn2, by rw [← he2, ins_go haj' hlt], hF3.chg c4 (.inl rfl)⟩
    · rintro _ w2 ⟨d2, hD2, hn2, e2, hF2⟩
      rw [wrap64_succ (by omega)]
      refine hnext (b - (i + 1)) _ _ (by omega) ⟨i + 1, d2, rfl, rfl, by omega, hD2, hn2, ?_, hF2⟩
      rw [← he, e2]
      conv => rhs; rw [Go.Sort.insOuter, if_pos hib]
  · have : ¬ i < b := by dsimp only at h; omega
    rw [Go.Sort.insOuter, if_neg this] at he
    subst he
    exact hR w1 hD1 hF

/-! ### heapSort -/
theorem wr64 {x : Int} {k : Nat} (h : x = (k : Int)) (hk : k ≤ 9223372036854775807) : IntKind.i64.wrap x = (k : Int) := by rw [h]; exact wrap64_in (by omega) (by omega)
theorem sift_stop {hi f r : Nat} {d : Array Int} (h : 2 * r + 1 ≥ hi) : Go.Sort.siftDown ltI hi f r d = d := by rw [Go.Sort.siftDown, dif_pos h]
/-- The greater child. -/
def kid (hi f r : Nat) (d : Array Int) : Nat := if 2 * r + 2 < hi ∧ ltI d[f + (2 * r + 1)]! d[f + (2 * r + 2)]! = true then 2 * r + 2 else 2 * r + 1
theorem kid_lt {hi f r : Nat} {d : Array Int} (h : ¬ 2 * r + 1 ≥ hi) : kid hi f r d < hi ∧ r < kid hi f r d := by unfold kid; split <;> omega
theorem sift_end {hi f r : Nat} {d : Array Int} (h : ¬ 2 * r + 1 ≥ hi) (hl : ltI d[f + r]! d[f + kid hi f r d]! = false) : Go.Sort.siftDown ltI hi f r d = d := by
  rw [Go.Sort.siftDown, dif_neg h]
  unfold kid at hl
  by_cases e : 2 * r + 2 < hi ∧ ltI d[f + (2 * r + 1)]! d[f + (2 * r + 2)]! = true
  · rw [if_pos e] at hl
    rw [if_pos (by rw [Bool.and_eq_true, decide_eq_true_eq]; exact e), if_pos (by rw [hl]; rfl)]
  · rw [if_neg e] at hl
    rw [if_neg (by rw [Bool.and_eq_true, decide_eq_true_eq]; exact e), if_pos (by rw [hl]; rfl)]
theorem sift_go {hi f r : Nat} {d : Array Int} (h : ¬ 2 * r + 1 ≥ hi) (hl : ltI d[f + r]! d[f + kid hi f r d]! = true) : Go.Sort.siftDown ltI hi f r d = Go.Sort.siftDown ltI hi f (kid hi f r d) (Go.Sort.swp d (f + r) (f + kid hi f r d)) := by
  have hk := kid_lt (f := f) (d := d) h
  conv => lhs; rw [Go.Sort.siftDown, dif_neg h]
  unfold kid at hl hk ⊢
  by_cases e : 2 * r + 2 < hi ∧ ltI d[f + (2 * r + 1)]! d[f + (2 * r + 2)]! = true
  · rw [if_pos e] at hl hk ⊢
    rw [if_pos (by rw [Bool.and_eq_true, decide_eq_true_eq]; exact e), if_neg (by rw [hl]; simp), dif_pos hk.1]
  · rw [if_neg e] at hl ⊢
    rw [if_neg (by rw [Bool.and_eq_true, decide_eq_true_eq]; exact e), if_neg (by rw [hl]; simp)]
theorem sift_spec {lo hi f : Nat} (hD : Dtw w g rest d) (hn : n = d.size) (hmax : n ≤ 35184372088832) (hf : f + hi ≤ n) (hlo : lo ≤ n)
    (hR : ∀ w', Dtw w' g rest (Go.Sort.siftDown ltI hi f lo d) → Fr w.heap.size (· = g) w w' → R (.tuple #[]) w') :
    callR Try.prog 150 #[.slice (some (blk g)) n c, .int .i64 (lo : Int), .int .i64 (hi : Int), .int .i64 (f : Int)] w R := by
  refine callR.of (slices_siftDownOrdered_uint32_calls ⟨some (blk g), n, c⟩ lo hi f R w ?_) fun _ _ h => h
  refine LoopW.ghost (fun k (st : Int × Unit) w' => ∃ (r : Nat) (d' : Array Int), st = ((r : Int), ()) ∧ k = n - r ∧ r ≤ n ∧ Dtw w' g rest d' ∧ d'.size = n ∧ Go.Sort.siftDown ltI hi f r d' = Go.Sort.siftDown ltI hi f lo d ∧ Fr w.heap.size (· = g) w w') (n - lo)
    ⟨lo, d, rfl, rfl, hlo, hD, hn.symm, rfl, Fr.refl _ _ _⟩ ?_
  rintro _ _ w1 ⟨r, d1, rfl, rfl, hr, hD1, hn1, he, hF⟩ next hnext
  have e1 : IntKind.i64.wrap (IntKind.i64.wrap (2 * (r : Int)) + 1) = ((2 * r + 1 : Nat) : Int) := by
    have e0 : IntKind.i64.wrap (2 * (r : Int)) = ((2 * r : Nat) : Int) := wr64 (by omega) (by omega)
    rw [e0]
    exact wr64 (by omega) (by omega)
  have e2 : IntKind.i64.wrap (((2 * r + 1 : Nat) : Int) + 1) = ((2 * r + 2 : Nat) : Int) := wr64 (by omega) (by omega)
  dsimp only
  rw [e1]
  refine ifB_dec (fun h => ?_) (fun h => ?_)
  · rw [sift_stop (by omega)] at he
    subst he
    exact hR w1 hD1 hF
  have hge : ¬ 2 * r + 1 ≥ hi := by omega
  obtain ⟨hk1, hk2⟩ := kid_lt (f := f) (d := d1) hge
  refine JoinW.cut (fun (st : Int × Unit) w' => st.1 = ((kid hi f r d1 : Nat) : Int) ∧ Dtw w' g rest d1 ∧ Fr w.heap.size (· = g) w w') ?_ ?_
  · rw [e2]
    have e3 : IntKind.i64.wrap ((f : Int) + ((2 * r + 1 : Nat) : Int)) = ((f + (2 * r + 1) : Nat) : Int) := wr64 (by omega) (by omega)
    rw [e3]
    have e4 : IntKind.i64.wrap (((f + (2 * r + 1) : Nat) : Int) + 1) = ((f + (2 * r + 2) : Nat) : Int) := wr64 (by omega) (by omega)
    rw [e4]
    refine ifB_dec (fun h => ?_) (fun h => ?_)
    · refine hD1.drew.at rfl (by omega) hn1.symm (hD1.drew.at rfl (by omega) hn1.symm (Less_spec ⟨_, rfl, ?_⟩))
      refine ifB_bool (fun hb => ⟨?_, hD1.drew, hF.drew⟩) (fun hb => ⟨?_, hD1.drew, hF.drew⟩)
      · unfold kid; rw [if_pos ⟨by omega, hb⟩]
      · unfold kid; rw [if_neg (fun g => by rw [hb] at g; cases g.2)]
    · refine ⟨?_, hD1.drew, hF.drew⟩
      unfold kid; rw [if_neg (fun g => by omega)]
  · rintro ⟨ck, _⟩ w2 ⟨ec, hD2, hF2⟩
    dsimp only at ec ⊢
    subst ec
    have e5 : IntKind.i64.wrap ((f : Int) + (r : Int)) = ((f + r : Nat) : Int) := wr64 (by omega) (by omega)
    have e6 : IntKind.i64.wrap ((f : Int) + ((kid hi f r d1 : Nat) : Int)) = ((f + kid hi f r d1 : Nat) : Int) := wr64 (by omega) (by omega)
    rw [e5, e6]
    refine hD2.drew.at rfl (by omega) hn1.symm (hD2.drew.at rfl (by omega) hn1.symm (Less_spec ⟨_, rfl, ?_⟩))
    refine ifB_not (ifB_bool (fun hb => ?_) (fun hb => ?_))
    · refine hD2.drew.swap (i := f + kid hi f r d1) (j := f + r) rfl rfl (by omega) (by omega) hn1.symm fun w3 hD3 c3 => ?_
      exact hnext (n - kid hi f r d1) _ _ (by omega) ⟨_, _, rfl, rfl, by omega, hD3, by rw [Go.Sort.size_swp]; exact hn1, by rw [← he, sift_go hge hb], hF2.drew.chg c3 (.inl rfl)⟩
    · rw [sift_end hge hb] at he
      subst he
      exact hR _ hD2.drew hF2.drew
theorem size_sift (hi f r : Nat) (d : Array Int) : (Go.Sort.siftDown ltI hi f r d).size = d.size := by
  fun_induction Go.Sort.siftDown ltI hi f r d <;> simp_all [Go.Sort.size_swp]
theorem heap_spec {a b : Nat} (hD : Dtw w g rest d) (hn : n = d.size) (hmax : n ≤ 35184372088832) (hab : a < b) (hb : b ≤ n)
    (hR : ∀ w', Dtw w' g rest (Go.Sort.heapSort ltI d a b) → Fr w.heap.size (· = g) w w' → R (.tuple #[]) w') :
    callR Try.prog 128 #[.slice (some (blk g)) n c, .int .i64 (a : Int), .int .i64 (b : Int)] w R := by
  refine callR.of (slices_heapSortOrdered_uint32_calls ⟨some (blk g), n, c⟩ a b R w ?_) fun _ _ h => h
  have e1 : IntKind.i64.wrap ((b : Int) - (a : Int)) = ((b - a : Nat) : Int) := wr64 (by omega) (by omega)
  have e2 : IntKind.i64.wrap (((b - a : Nat) : Int) - 1) = ((b - a - 1 : Nat) : Int) := wr64 (by omega) (by omega)
  have e3 : IntKind.i64.wrap (Int.tdiv ((b - a - 1 : Nat) : Int) 2) = (((b - a - 1) / 2 : Nat) : Int) := wr64 (by rw [Int.tdiv_eq_ediv_of_nonneg (by omega)]; omega) (by omega)
  have down : ∀ k : Nat, k ≤ n → IntKind.i64.wrap ((k : Int) - 1) = (k : Int) - 1 := fun k hk => wrap64_in (by omega) (by omega)
  unfold L_slices_heapSortOrdered_uint32
  rw [e1, e2, e3]
  generalize hh : Go.Sort.heapBuild ltI (b - a) a ((b - a - 1) / 2 + 1) d = dh
  refine LoopW.ghost (fun k (st : Int × Unit) w' => ∃ (d' : Array Int), st = ((k : Int) - 1, ()) ∧ k ≤ n ∧ 2 * k ≤ b - a + 1 ∧ Dtw w' g rest d' ∧ d'.size = n ∧ Go.Sort.heapBuild ltI (b - a) a k d' = dh ∧ Fr w.heap.size (· = g) w w') ((b - a - 1) / 2 + 1)
    ⟨d, (by rw [Prod.mk.injEq]; exact ⟨by omega, rfl⟩), by omega, by omega, hD, hn.symm, hh, Fr.refl _ _ _⟩ ?_
  rintro k _ w1 ⟨d1, rfl, hk, hk2, hD1, hn1, he, hF⟩ next hnext
  dsimp only
  refine ifB_dec (fun h => ?_) (fun h => ?_)
  · obtain ⟨m, rfl⟩ : ∃ m, k = m + 1 := ⟨k - 1, by omega⟩
    rw [show (((m + 1 : Nat) : Int) - 1) = (m : Int) by omega]
    refine sift_spec (lo := m) hD1 hn1.symm hmax (by omega) (by omega) fun w2 hD2 hF2 => ⟨rfl, ?_⟩
    rw [down m (by omega)]
    exact hnext m _ _ (by omega) ⟨_, rfl, by omega, by omega, hD2, by rw [size_sift]; exact hn1, he, hF.onto hF2 hF.size⟩
  · have hk0 : k = 0 := by omega
    subst hk0
    have he : d1 = dh := he
    subst he
    have hfin : Go.Sort.heapSort ltI d a b = Go.Sort.heapPop ltI a (b - a) d1 := by unfold Go.Sort.heapSort; rw [hh]
    refine LoopW.ghost (fun k (st : Int × Unit) w' => ∃ (d' : Array Int), st = ((k : Int) - 1, ()) ∧ k ≤ b - a ∧ Dtw w' g rest d' ∧ d'.size = n ∧ Go.Sort.heapPop ltI a k d' = Go.Sort.heapSort ltI d a b ∧ Fr w.heap.size (· = g) w w') (b - a)
      ⟨d1, (by rw [Prod.mk.injEq]; exact ⟨by omega, rfl⟩), Nat.le_refl _, hD1, hn1, hfin.symm, hF⟩ ?_
    rintro k _ w2 ⟨d2, rfl, hkb, hD2, hn2, he2, hF2⟩ next2 hnext2
    dsimp only
    refine ifB_dec (fun h => ?_) (fun h => ?_)
    · obtain ⟨m, rfl⟩ : ∃ m, k = m + 1 := ⟨k - 1, by omega⟩
      rw [show (((m + 1 : Nat) : Int) - 1) = (m : Int) by omega]
      have e4 : IntKind.i64.wrap ((a : Int) + (m : Int)) = ((a + m : Nat) : Int) := wr64 (by omega) (by omega)
      rw [e4]
      refine hD2.swap (i := a + m) (j := a) rfl rfl (by omega) (by omega) hn2.symm fun w3 hD3 c3 => ?_
      have hF3 := hF2.chg c3 (.inl rfl)
      refine sift_spec (lo := 0) (hi := m) (f := a) hD3 (by rw [Go.Sort.size_swp]; exact hn2.symm) hmax (by omega) (by omega) fun w4 hD4 hF4 => ⟨rfl, ?_⟩
      rw [down m (by omega)]
      exact hnext2 m _ _ (by omega) ⟨_, rfl, by omega, hD4, by rw [size_sift, Go.Sort.size_swp]; exact hn2, he2, hF3.onto hF4 hF3.size⟩
    · have hk0 : k = 0 := by omega
      subst hk0
      have he2 : d2 = Go.Sort.heapSort ltI d a b := he2
      subst he2
      exact hR w2 hD2 hF2

/-! ### reverseRange -/
theorem reverse_spec {a b : Nat} (hD : Dtw w g rest d) (hn : n = d.size) (hmax : n ≤ 35184372088832) (hab : a < b) (hb : b ≤ n)
    (hR : ∀ w', Dtw w' g rest (Go.Sort.reverseRange d a b) → Fr w.heap.size (· = g) w w' → R (.tuple #[]) w') :
    callR Try.prog 131 #[.slice (some (blk g)) n c, .int .i64 (a : Int), .int .i64 (b : Int)] w R := by
  refine callR.of (slices_reverseRangeOrdered_uint32_calls ⟨some (blk g), n, c⟩ a b R w ?_) fun _ _ h => h
  have e1 : IntKind.i64.wrap ((b : Int) - 1) = ((b - 1 : Nat) : Int) := wr64 (by omega) (by omega)
  unfold L_slices_reverseRangeOrdered_uint32
  rw [e1]
  refine LoopW.ghost (fun k (st : Int × Int × Unit) w' => ∃ (i j : Nat) (d' : Array Int), st = ((i : Int), (j : Int), ()) ∧ k = j - i ∧ j < n ∧ i ≤ n ∧ Dtw w' g rest d' ∧ d'.size = n ∧ Go.Sort.reverseLoop i j d' = Go.Sort.reverseRange d a b ∧ Fr w.heap.size (· = g) w w') (b - 1 - a)
    ⟨a, b - 1, d, rfl, rfl, by omega, by omega, hD, hn.symm, rfl, Fr.refl _ _ _⟩ ?_
  rintro _ _ w1 ⟨i, j, d1, rfl, rfl, hj, hi, hD1, hn1, he, hF⟩ next hnext
  refine ifB_dec (fun h => ?_) (fun h => ?_)
  · have hij : i < j := by dsimp only at h; omega
    refine hD1.swap (i := j) (j := i) rfl rfl (by omega) (by omega) hn1.symm fun w2 hD2 c2 => ?_
    dsimp only
    rw [wrap64_succ (by omega), wr64 (k := j - 1) (by omega) (by omega)]
    refine hnext (j - 1 - (i + 1)) _ _ (by omega) ⟨i + 1, j - 1, _, rfl, rfl, by omega, by omega, hD2, by rw [Go.Sort.size_swp]; exact hn1, ?_, hF.chg c2 (.inl rfl)⟩
    rw [← he]
    conv => rhs; rw [Go.Sort.reverseLoop, if_pos hij]
  · have : ¬ i < j := by dsimp only at h; omega
    rw [Go.Sort.reverseLoop, if_neg this] at he
    subst he
    exact hR w1 hD1 hF
end
end Go.Proofs

/-!
  slices.Sort at words: the partitions, the quick test whether it is sorted already.
-/
namespace Go.Proofs
open Go.Gk Go.RowKit

theorem scanUp_stop {p : Int → Bool} {d : Array Int} {j i : Nat} (h : j < i ∨ p d[i]! = false) : Go.Sort.scanUp p d j i = i := by
  rw [Go.Sort.scanUp, if_neg]
  intro hh
  rw [Bool.and_eq_true, decide_eq_true_eq] at hh
  rcases h with h | h
  · omega
  · rw [h] at hh; cases hh.2
theorem scanUp_go {p : Int → Bool} {d : Array Int} {j i : Nat} (h1 : i ≤ j) (h2 : p d[i]! = true) : Go.Sort.scanUp p d j (i + 1) = Go.Sort.scanUp p d j i := by
  conv => rhs; rw [Go.Sort.scanUp, if_pos (by rw [Bool.and_eq_true, decide_eq_true_eq]; exact ⟨h1, h2⟩)]
theorem scanDown_stop {p : Int → Bool} {d : Array Int} {i j : Nat} (h : j < i ∨ p d[j]! = false) : Go.Sort.scanDown p d i j = j := by
  cases j with
  | zero => rfl
  | succ j =>
    rw [Go.Sort.scanDown, if_neg]
    intro hh
    rw [Bool.and_eq_true, decide_eq_true_eq] at hh
    rcases h with h | h
    · omega
    · rw [h] at hh; cases hh.2
theorem scanDown_go {p : Int → Bool} {d : Array Int} {i j : Nat} (h1 : i ≤ j + 1) (h2 : p d[j + 1]! = true) : Go.Sort.scanDown p d i j = Go.Sort.scanDown p d i (j + 1) := by
  conv => rhs; rw [Go.Sort.scanDown, if_pos (by rw [Bool.and_eq_true, decide_eq_true_eq]; exact ⟨h1, h2⟩)]
theorem up_le {p : Int → Bool} {d : Array Int} {j i : Nat} (h : i ≤ j + 1) : i ≤ Go.Sort.scanUp p d j i ∧ Go.Sort.scanUp p d j i ≤ j + 1 :=
  ⟨Go.Sort.scanUp_ge p d j i, by
    by_cases e : i ≤ j
    · fun_induction Go.Sort.scanUp p d j i with
      | case1 i hc ih =>
        by_cases e2 : i + 1 ≤ j
        · exact ih (by omega) e2
        · rw [scanUp_stop (.inl (by omega))]; omega
      | case2 i hc => omega
    · rw [scanUp_stop (.inl (by omega))]; omega⟩
theorem down_le {p : Int → Bool} {d : Array Int} {i : Nat} : ∀ {j : Nat}, i ≤ j + 1 → Go.Sort.scanDown p d i j ≤ j ∧ i ≤ Go.Sort.scanDown p d i j + 1
  | 0, h => ⟨Nat.le_refl _, h⟩
  | j + 1, h => by
    rw [Go.Sort.scanDown]
    split
    · rename_i hc
      rw [Bool.and_eq_true, decide_eq_true_eq] at hc
      have := down_le (p := p) (d := d) (j := j) hc.1
      omega
    · omega
theorem no_meet {p q : Int → Bool} {d : Array Int} {i0 j0 I J : Nat} (hq : ∀ x, q x = !p x) (hI : Go.Sort.scanUp p d j0 i0 = I) (hJ : Go.Sort.scanDown q d I j0 = J) (h : ¬ I > J) (h0 : 0 < I) : I < J := by
  have s1 := Go.Sort.scanUp_spec p d j0 _ i0 rfl
  have s2 := Go.Sort.scanDown_spec q d I j0
  rw [hI] at s1
  rw [hJ] at s2
  rcases Nat.lt_or_ge I J with q1 | q1
  · exact q1
  · exfalso
    have e : I = J := by omega
    have e1 := s1.2.2.2 (by have := s2.1; omega)
    have e2 := s2.2.2.2 (by omega) (by omega)
    rw [hq, ← e, e1] at e2
    cases e2
section
variable {w : World} {g n c : Nat} {rest : List Value} {d : Array Int} {R : Value → World → Prop}
theorem partEq_spec {a b pv : Nat} (hD : Dtw w g rest d) (hn : n = d.size) (hmax : n ≤ 35184372088832) (hab : a < b) (hb : b ≤ n) (hp1 : a ≤ pv) (hp2 : pv < b)
    (hR : ∀ w', Dtw w' g rest (Go.Sort.partitionEqual ltI d a b pv).2 → Fr w.heap.size (· = g) w w' → R (.int .i64 ((Go.Sort.partitionEqual ltI d a b pv).1 : Int)) w') :
    callR Try.prog 134 #[.slice (some (blk g)) n c, .int .i64 (a : Int), .int .i64 (b : Int), .int .i64 (pv : Int)] w R := by
  refine callR.of (slices_partitionEqualOrdered_uint32_calls ⟨some (blk g), n, c⟩ a b pv R w ?_) fun _ _ h => h
  have ea : IntKind.i64.wrap ((a : Int) + 1) = ((a + 1 : Nat) : Int) := wr64 (by omega) (by omega)
  have eb : IntKind.i64.wrap ((b : Int) - 1) = ((b - 1 : Nat) : Int) := wr64 (by omega) (by omega)
  unfold L_slices_partitionEqualOrdered_uint32
  rw [ea, eb]
  refine hD.swap (i := pv) (j := a) rfl rfl (by omega) (by omega) hn fun w1 hD1 c1 => ?_
  have hF1 := (Fr.refl w.heap.size (· = g) w).chg c1 (.inl rfl)
  refine LoopW.ghost (fun k (st : Int × Int × Unit) w' => ∃ (i j : Nat) (d' : Array Int), st = ((i : Int), (j : Int), ()) ∧ k = j + 1 - i ∧ a < i ∧ i ≤ j + 1 ∧ j < b ∧ Dtw w' g rest d' ∧ d'.size = n ∧ Go.Sort.partEqLoop ltI a i j d' = Go.Sort.partitionEqual ltI d a b pv ∧ Fr w.heap.size (· = g) w w') (b - 1 + 1 - (a + 1))
    ⟨a + 1, b - 1, _, rfl, rfl, by omega, by omega, by omega, hD1, by rw [Go.Sort.size_swp]; exact hn.symm, rfl, hF1⟩ ?_
  rintro _ _ w2 ⟨i0, j0, d2, rfl, rfl, hi, hij0, hjb, hD2, hn2, he, hF2⟩ next hnext
  dsimp only
  obtain ⟨u1, u2⟩ := up_le (p := fun x => !ltI d2[a]! x) (d := d2) (j := j0) (i := i0) hij0
  obtain ⟨v1, v2⟩ := down_le (p := fun x => ltI d2[a]! x) (d := d2) (i := Go.Sort.scanUp (fun x => !ltI d2[a]! x) d2 j0 i0) (j := j0) u2
  refine JoinW.cut (fun (st : Int × Unit) w' => st.1 = ((Go.Sort.scanUp (fun x => !ltI d2[a]! x) d2 j0 i0 : Nat) : Int) ∧ Dtw w' g rest d2 ∧ Fr w.heap.size (· = g) w w') ?_ ?_
  · clear u1 u2 v1 v2
    refine LoopW.ghost (fun k (st : Int × Unit) w' => ∃ i : Nat, st = ((i : Int), ()) ∧ k = j0 + 1 - i ∧ i0 ≤ i ∧ i ≤ j0 + 1 ∧ Go.Sort.scanUp (fun x => !ltI d2[a]! x) d2 j0 i = Go.Sort.scanUp (fun x => !ltI d2[a]! x) d2 j0 i0 ∧ Dtw w' g rest d2 ∧ Fr w.heap.size (· = g) w w') (j0 + 1 - i0)
      ⟨i0, rfl, rfl, Nat.le_refl _, by omega, rfl, hD2, hF2⟩ ?_
    rintro _ _ wq ⟨i, rfl, rfl, hi0, hi1, hsc, hDq, hFq⟩ nextq hnextq
    refine JoinW.cut (fun _ w' => i ≤ j0 ∧ (fun x => !ltI d2[a]! x) d2[i]! = true ∧ Dtw w' g rest d2 ∧ Fr w.heap.size (· = g) w w') ?_ ?_
    · refine ifB_dec (fun h => ?_) (fun h => ?_)
      · have hij : i ≤ j0 := by dsimp only at h; omega
        refine (hDq.drew.at rfl (by omega) hn2.symm (hDq.drew.at rfl (by omega) hn2.symm (Less_spec ⟨_, rfl, ?_⟩)))
        refine ifB_not (ifB_bool (fun hb => ?_) (fun hb => ?_))
        · exact ⟨by rw [← hsc, scanUp_stop (p := fun x => !ltI d2[a]! x) (.inr (by rw [hb]; rfl))], hDq.drew, hFq.drew⟩
        · exact ⟨hij, by dsimp only; rw [hb]; rfl, hDq.drew, hFq.drew⟩
      · exact ⟨by rw [← hsc, scanUp_stop (p := fun x => !ltI d2[a]! x) (.inl (by dsimp only at h; omega))], hDq.drew, hFq.drew⟩
    · rintro _ wr ⟨hij, hp, hDr, hFr⟩
      rw [wrap64_succ (by omega)]
      exact hnextq (j0 + 1 - (i + 1)) _ _ (by omega) ⟨i + 1, rfl, rfl, by omega, by omega, by rw [← hsc, scanUp_go (p := fun x => !ltI d2[a]! x) hij hp], hDr, hFr⟩
  rintro ⟨i2, _⟩ w3 ⟨e2, hD3, hF3⟩
  dsimp only at e2 ⊢
  subst e2
  have heq := Go.Sort.partEqLoop_eq (lt := ltI) a i0 j0 d2
  generalize hI : Go.Sort.scanUp (fun x => !ltI d2[a]! x) d2 j0 i0 = I at u1 u2 v1 v2 heq ⊢
  refine JoinW.cut (fun (st : Int × Unit) w' => st.1 = ((Go.Sort.scanDown (fun x => ltI d2[a]! x) d2 I j0 : Nat) : Int) ∧ Dtw w' g rest d2 ∧ Fr w.heap.size (· = g) w w') ?_ ?_
  · clear v1 v2 heq
    refine LoopW.ghost (fun k (st : Int × Unit) w' => st = ((k : Int), ()) ∧ k ≤ j0 ∧ I ≤ k + 1 ∧ Go.Sort.scanDown (fun x => ltI d2[a]! x) d2 (I) k = Go.Sort.scanDown (fun x => ltI d2[a]! x) d2 (I) j0 ∧ Dtw w' g rest d2 ∧ Fr w.heap.size (· = g) w w') j0
      ⟨rfl, Nat.le_refl _, by omega, rfl, hD3, hF3⟩ ?_
    rintro j _ wq ⟨rfl, hj0, hj1, hsc, hDq, hFq⟩ nextq hnextq
    refine JoinW.cut (fun _ w' => I ≤ j ∧ (fun x => ltI d2[a]! x) d2[j]! = true ∧ Dtw w' g rest d2 ∧ Fr w.heap.size (· = g) w w') ?_ ?_
    · refine ifB_dec (fun h => ?_) (fun h => ?_)
      · have hij : I ≤ j := by dsimp only at h; omega
        refine hDq.drew.at rfl (by omega) hn2.symm (hDq.drew.at rfl (by omega) hn2.symm (Less_spec ⟨_, rfl, ?_⟩))
        refine ifB_bool (fun hb => ⟨hij, hb, hDq.drew, hFq.drew⟩) (fun hb => ⟨by rw [← hsc, scanDown_stop (p := fun x => ltI d2[a]! x) (.inr hb)], hDq.drew, hFq.drew⟩)
      · exact ⟨by rw [← hsc, scanDown_stop (p := fun x => ltI d2[a]! x) (.inl (by dsimp only at h; omega))], hDq.drew, hFq.drew⟩
    · rintro _ wr ⟨hij, hp, hDr, hFr⟩
      obtain ⟨m, rfl⟩ : ∃ m, j = m + 1 := ⟨j - 1, by omega⟩
      rw [show IntKind.i64.wrap (((((m + 1 : Nat) : Int), ()) : Int × Unit).1 - 1) = (m : Int) from wr64 (by dsimp only; omega) (by omega)]
      exact hnextq m _ _ (by omega) ⟨rfl, by omega, by omega, by rw [← hsc, scanDown_go (p := fun x => ltI d2[a]! x) hij hp], hDr, hFr⟩
  rintro ⟨j2, _⟩ w4 ⟨e2, hD4, hF4⟩
  dsimp only at e2 ⊢
  subst e2
  generalize hJ : Go.Sort.scanDown (fun x => ltI d2[a]! x) d2 I j0 = J at v1 v2 heq ⊢
  refine ifB_dec (fun h => ?_) (fun h => ?_)
  · have h : I > J := by omega
    rw [if_pos h, he] at heq
    have := hR w4
    rw [heq] at this
    exact this hD4 hF4
  · have h : ¬ I > J := by omega
    rw [if_neg h] at heq
    have hIJ : I < J := no_meet (fun x => (Bool.not_not _).symm) hI hJ h (by omega)
    refine hD4.swap (i := J) (j := I) rfl rfl (by omega) (by omega) hn2.symm fun w5 hD5 c5 => ?_
    rw [wr64 (k := I + 1) (by omega) (by omega), wr64 (k := J - 1) (by omega) (by omega)]
    exact hnext (J - 1 + 1 - (I + 1)) _ _ (by omega) ⟨I + 1, J - 1, _, rfl, rfl, by omega, by omega, by omega, hD5, by rw [Go.Sort.size_swp]; exact hn2, by rw [← heq, he], hF4.chg c5 (.inl rfl)⟩
theorem ptn_spec {a b pv : Nat} (hD : Dtw w g rest d) (hn : n = d.size) (hmax : n ≤ 35184372088832) (hab : a < b) (hb : b ≤ n) (hp1 : a ≤ pv) (hp2 : pv < b)
    (hR : ∀ w', Dtw w' g rest (Go.Sort.partition ltI d a b pv).2.2 → Fr w.heap.size (· = g) w w' → R (.tuple #[.int .i64 ((Go.Sort.partition ltI d a b pv).1 : Int), .bool (Go.Sort.partition ltI d a b pv).2.1]) w') :
    callR Try.prog 135 #[.slice (some (blk g)) n c, .int .i64 (a : Int), .int .i64 (b : Int), .int .i64 (pv : Int)] w R := by
  refine callR.of (slices_partitionOrdered_uint32_calls ⟨some (blk g), n, c⟩ a b pv R w ?_) fun _ _ h => h
  have ea : IntKind.i64.wrap ((a : Int) + 1) = ((a + 1 : Nat) : Int) := wr64 (by omega) (by omega)
  have eb : IntKind.i64.wrap ((b : Int) - 1) = ((b - 1 : Nat) : Int) := wr64 (by omega) (by omega)
  unfold L_slices_partitionOrdered_uint32
  rw [ea, eb]
  refine hD.swap (i := pv) (j := a) rfl rfl (by omega) (by omega) hn fun w1 hD1 c1 => ?_
  have hF1 := (Fr.refl w.heap.size (· = g) w).chg c1 (.inl rfl)
  have hn1 : (Go.Sort.swp d a pv).size = n := by rw [Go.Sort.size_swp]; exact hn.symm
  have hpt : Go.Sort.partition ltI d a b pv = (if Go.Sort.scanUp (fun x => ltI x (Go.Sort.swp d a pv)[a]!) (Go.Sort.swp d a pv) (b - 1) (a + 1) > Go.Sort.scanDown (fun x => !ltI x (Go.Sort.swp d a pv)[a]!) (Go.Sort.swp d a pv) (Go.Sort.scanUp (fun x => ltI x (Go.Sort.swp d a pv)[a]!) (Go.Sort.swp d a pv) (b - 1) (a + 1)) (b - 1) then
    (Go.Sort.scanDown (fun x => !ltI x (Go.Sort.swp d a pv)[a]!) (Go.Sort.swp d a pv) (Go.Sort.scanUp (fun x => ltI x (Go.Sort.swp d a pv)[a]!) (Go.Sort.swp d a pv) (b - 1) (a + 1)) (b - 1), true, Go.Sort.swp (Go.Sort.swp d a pv) (Go.Sort.scanDown (fun x => !ltI x (Go.Sort.swp d a pv)[a]!) (Go.Sort.swp d a pv) (Go.Sort.scanUp (fun x => ltI x (Go.Sort.swp d a pv)[a]!) (Go.Sort.swp d a pv) (b - 1) (a + 1)) (b - 1)) a)
    else ((Go.Sort.partLoop ltI a (Go.Sort.scanUp (fun x => ltI x (Go.Sort.swp d a pv)[a]!) (Go.Sort.swp d a pv) (b - 1) (a + 1) + 1) (Go.Sort.scanDown (fun x => !ltI x (Go.Sort.swp d a pv)[a]!) (Go.Sort.swp d a pv) (Go.Sort.scanUp (fun x => ltI x (Go.Sort.swp d a pv)[a]!) (Go.Sort.swp d a pv) (b - 1) (a + 1)) (b - 1) - 1) (Go.Sort.swp (Go.Sort.swp d a pv) (Go.Sort.scanUp (fun x => ltI x (Go.Sort.swp d a pv)[a]!) (Go.Sort.swp d a pv) (b - 1) (a + 1)) (Go.Sort.scanDown (fun x => !ltI x (Go.Sort.swp d a pv)[a]!) (Go.Sort.swp d a pv) (Go.Sort.scanUp (fun x => ltI x (Go.Sort.swp d a pv)[a]!) (Go.Sort.swp d a pv) (b - 1) (a + 1)) (b - 1)))).1, false,
      Go.Sort.swp (Go.Sort.partLoop ltI a (Go.Sort.scanUp (fun x => ltI x (Go.Sort.swp d a pv)[a]!) (Go.Sort.swp d a pv) (b - 1) (a + 1) + 1) (Go.Sort.scanDown (fun x => !ltI x (Go.Sort.swp d a pv)[a]!) (Go.Sort.swp d a pv) (Go.Sort.scanUp (fun x => ltI x (Go.Sort.swp d a pv)[a]!) (Go.Sort.swp d a pv) (b - 1) (a + 1)) (b - 1) - 1) (Go.Sort.swp (Go.Sort.swp d a pv) (Go.Sort.scanUp (fun x => ltI x (Go.Sort.swp d a pv)[a]!) (Go.Sort.swp d a pv) (b - 1) (a + 1)) (Go.Sort.scanDown (fun x => !ltI x (Go.Sort.swp d a pv)[a]!) (Go.Sort.swp d a pv) (Go.Sort.scanUp (fun x => ltI x (Go.Sort.swp d a pv)[a]!) (Go.Sort.swp d a pv) (b - 1) (a + 1)) (b - 1)))).2 (Go.Sort.partLoop ltI a (Go.Sort.scanUp (fun x => ltI x (Go.Sort.swp d a pv)[a]!) (Go.Sort.swp d a pv) (b - 1) (a + 1) + 1) (Go.Sort.scanDown (fun x => !ltI x (Go.Sort.swp d a pv)[a]!) (Go.Sort.swp d a pv) (Go.Sort.scanUp (fun x => ltI x (Go.Sort.swp d a pv)[a]!) (Go.Sort.swp d a pv) (b - 1) (a + 1)) (b - 1) - 1) (Go.Sort.swp (Go.Sort.swp d a pv) (Go.Sort.scanUp (fun x => ltI x (Go.Sort.swp d a pv)[a]!) (Go.Sort.swp d a pv) (b - 1) (a + 1)) (Go.Sort.scanDown (fun x => !ltI x (Go.Sort.swp d a pv)[a]!) (Go.Sort.swp d a pv) (Go.Sort.scanUp (fun x => ltI x (Go.Sort.swp d a pv)[a]!) (Go.Sort.swp d a pv) (b - 1) (a + 1)) (b - 1)))).1 a)) := by
    unfold Go.Sort.partition
    rfl
  generalize hpp : Go.Sort.partition ltI d a b pv = pp at hR hpt
  generalize Go.Sort.swp d a pv = d1 at hD1 hn1 hpt
  have hbb : b - 1 < b := by omega
  generalize hB1 : b - 1 = b1 at hpt hbb ⊢
  obtain ⟨u1, u2⟩ := up_le (p := fun x => ltI x d1[a]!) (d := d1) (j := b1) (i := a + 1) (by omega)
  obtain ⟨v1, v2⟩ := down_le (p := fun x => !ltI x d1[a]!) (d := d1) (i := Go.Sort.scanUp (fun x => ltI x d1[a]!) d1 b1 (a + 1)) (j := b1) u2
  refine JoinW.cut (fun (st : Int × Unit) w' => st.1 = ((Go.Sort.scanUp (fun x => ltI x d1[a]!) d1 b1 (a + 1) : Nat) : Int) ∧ Dtw w' g rest d1 ∧ Fr w.heap.size (· = g) w w') ?_ ?_
  · clear u1 u2 v1 v2 hpt
    refine LoopW.ghost (fun k (st : Int × Unit) w' => ∃ i : Nat, st = ((i : Int), ()) ∧ k = b1 + 1 - i ∧ (a + 1) ≤ i ∧ i ≤ b1 + 1 ∧ Go.Sort.scanUp (fun x => ltI x d1[a]!) d1 b1 i = Go.Sort.scanUp (fun x => ltI x d1[a]!) d1 b1 (a + 1) ∧ Dtw w' g rest d1 ∧ Fr w.heap.size (· = g) w w') (b1 + 1 - (a + 1))
      ⟨(a + 1), rfl, rfl, Nat.le_refl _, by omega, rfl, hD1, hF1⟩ ?_
    rintro _ _ wq ⟨i, rfl, rfl, hi0, hi1, hsc, hDq, hFq⟩ nextq hnextq
    refine JoinW.cut (fun _ w' => i ≤ b1 ∧ (fun x => ltI x d1[a]!) d1[i]! = true ∧ Dtw w' g rest d1 ∧ Fr w.heap.size (· = g) w w') ?_ ?_
    · refine ifB_dec (fun h => ?_) (fun h => ?_)
      · have hij : i ≤ b1 := by dsimp only at h; omega
        refine (hDq.drew.at rfl (by omega) hn1.symm (hDq.drew.at rfl (by omega) hn1.symm (Less_spec ⟨_, rfl, ?_⟩)))
        refine ifB_bool (fun hb => ⟨hij, hb, hDq.drew, hFq.drew⟩) (fun hb => ⟨by rw [← hsc, scanUp_stop (p := fun x => ltI x d1[a]!) (.inr hb)], hDq.drew, hFq.drew⟩)
      · exact ⟨by rw [← hsc, scanUp_stop (p := fun x => ltI x d1[a]!) (.inl (by dsimp only at h; omega))], hDq.drew, hFq.drew⟩
    · rintro _ wr ⟨hij, hp, hDr, hFr⟩
      rw [wrap64_succ (by omega)]
      exact hnextq (b1 + 1 - (i + 1)) _ _ (by omega) ⟨i + 1, rfl, rfl, by omega, by omega, by rw [← hsc, scanUp_go (p := fun x => ltI x d1[a]!) hij hp], hDr, hFr⟩
  rintro ⟨i2, _⟩ w3 ⟨e2, hD3, hF3⟩
  dsimp only at e2 ⊢
  subst e2
  generalize hI : Go.Sort.scanUp (fun x => ltI x d1[a]!) d1 b1 (a + 1) = I at u1 u2 v1 v2 hpt ⊢
  refine JoinW.cut (fun (st : Int × Unit) w' => st.1 = ((Go.Sort.scanDown (fun x => !ltI x d1[a]!) d1 I b1 : Nat) : Int) ∧ Dtw w' g rest d1 ∧ Fr w.heap.size (· = g) w w') ?_ ?_
  · clear v1 v2 hpt
    refine LoopW.ghost (fun k (st : Int × Unit) w' => st = ((k : Int), ()) ∧ k ≤ b1 ∧ I ≤ k + 1 ∧ Go.Sort.scanDown (fun x => !ltI x d1[a]!) d1 (I) k = Go.Sort.scanDown (fun x => !ltI x d1[a]!) d1 (I) b1 ∧ Dtw w' g rest d1 ∧ Fr w.heap.size (· = g) w w') b1
      ⟨rfl, Nat.le_refl _, by omega, rfl, hD3, hF3⟩ ?_
    rintro j _ wq ⟨rfl, hj0, hj1, hsc, hDq, hFq⟩ nextq hnextq
    refine JoinW.cut (fun _ w' => I ≤ j ∧ (fun x => !ltI x d1[a]!) d1[j]! = true ∧ Dtw w' g rest d1 ∧ Fr w.heap.size (· = g) w w') ?_ ?_
    · refine ifB_dec (fun h => ?_) (fun h => ?_)
      · have hij : I ≤ j := by dsimp only at h; omega
        refine hDq.drew.at rfl (by omega) hn1.symm (hDq.drew.at rfl (by omega) hn1.symm (Less_spec ⟨_, rfl, ?_⟩))
        refine ifB_not (ifB_bool (fun hb => ?_) (fun hb => ?_))
        · exact ⟨by rw [← hsc, scanDown_stop (p := fun x => !ltI x d1[a]!) (.inr (by rw [hb]; rfl))], hDq.drew, hFq.drew⟩
        · exact ⟨hij, by dsimp only; rw [hb]; rfl, hDq.drew, hFq.drew⟩
      · exact ⟨by rw [← hsc, scanDown_stop (p := fun x => !ltI x d1[a]!) (.inl (by dsimp only at h; omega))], hDq.drew, hFq.drew⟩
    · rintro _ wr ⟨hij, hp, hDr, hFr⟩
      obtain ⟨m, rfl⟩ : ∃ m, j = m + 1 := ⟨j - 1, by omega⟩
      rw [show IntKind.i64.wrap (((((m + 1 : Nat) : Int), ()) : Int × Unit).1 - 1) = (m : Int) from wr64 (by dsimp only; omega) (by omega)]
      exact hnextq m _ _ (by omega) ⟨rfl, by omega, by omega, by rw [← hsc, scanDown_go (p := fun x => !ltI x d1[a]!) hij hp], hDr, hFr⟩
  rintro ⟨j2, _⟩ w4 ⟨e2, hD4, hF4⟩
  dsimp only at e2 ⊢
  subst e2
  generalize hJ : Go.Sort.scanDown (fun x => !ltI x d1[a]!) d1 I b1 = J at v1 v2 hpt ⊢
  refine ifB_dec (fun h => ?_) (fun h => ?_)
  · have h : I > J := by omega
    rw [if_pos h] at hpt
    subst hpt
    refine hD4.swap (i := a) (j := J) rfl rfl (by omega) (by omega) hn1.symm fun w5 hD5 c5 => ?_
    exact hR w5 hD5 (hF4.chg c5 (.inl rfl))
  · have h : ¬ I > J := by omega
    rw [if_neg h] at hpt
    refine hD4.swap (i := J) (j := I) rfl rfl (by omega) (by omega) hn1.symm fun w5 hD5 c5 => ?_
    have hF5 := hF4.chg c5 (.inl rfl)
    have hn5 : (Go.Sort.swp d1 I J).size = n := by rw [Go.Sort.size_swp]; exact hn1
    generalize Go.Sort.swp d1 I J = d5 at hD5 hn5 hpt
    generalize hpl : Go.Sort.partLoop ltI a (I + 1) (J - 1) d5 = L at hpt
    have hIJ : I < J := no_meet (fun _ => rfl) hI hJ h (by omega)
    rw [wr64 (k := I + 1) (by omega) (by omega), wr64 (k := J - 1) (by omega) (by omega)]
    refine LoopW.ghost (fun k (st : Int × Int × Unit) w' => ∃ (i j : Nat) (d' : Array Int), st = ((i : Int), (j : Int), ()) ∧ k = j + 1 - i ∧ a < i ∧ i ≤ j + 1 ∧ j < b ∧ Dtw w' g rest d' ∧ d'.size = n ∧ Go.Sort.partLoop ltI a i j d' = L ∧ Fr w.heap.size (· = g) w w') (J - 1 + 1 - (I + 1))
      ⟨I + 1, J - 1, _, rfl, rfl, by omega, by omega, by omega, hD5, hn5, hpl, hF5⟩ ?_
    clear hpl hD5 hn5 hF5 c5
    rintro _ _ w2 ⟨i0, j0, d2, rfl, rfl, hi, hij0, hjb, hD2, hn2, he, hF2⟩ next hnext
    dsimp only
    obtain ⟨u1', u2'⟩ := up_le (p := fun x => ltI x d2[a]!) (d := d2) (j := j0) (i := i0) hij0
    obtain ⟨v1', v2'⟩ := down_le (p := fun x => !ltI x d2[a]!) (d := d2) (i := Go.Sort.scanUp (fun x => ltI x d2[a]!) d2 j0 i0) (j := j0) u2'
    refine JoinW.cut (fun (st : Int × Unit) w' => st.1 = ((Go.Sort.scanUp (fun x => ltI x d2[a]!) d2 j0 i0 : Nat) : Int) ∧ Dtw w' g rest d2 ∧ Fr w.heap.size (· = g) w w') ?_ ?_
    · clear u1' u2' v1' v2' hpt
      refine LoopW.ghost (fun k (st : Int × Unit) w' => ∃ i : Nat, st = ((i : Int), ()) ∧ k = j0 + 1 - i ∧ i0 ≤ i ∧ i ≤ j0 + 1 ∧ Go.Sort.scanUp (fun x => ltI x d2[a]!) d2 j0 i = Go.Sort.scanUp (fun x => ltI x d2[a]!) d2 j0 i0 ∧ Dtw w' g rest d2 ∧ Fr w.heap.size (· = g) w w') (j0 + 1 - i0)
        ⟨i0, rfl, rfl, Nat.le_refl _, by omega, rfl, hD2, hF2⟩ ?_
      rintro _ _ wq ⟨i, rfl, rfl, hi0, hi1, hsc, hDq, hFq⟩ nextq hnextq
      refine JoinW.cut (fun _ w' => i ≤ j0 ∧ (fun x => ltI x d2[a]!) d2[i]! = true ∧ Dtw w' g rest d2 ∧ Fr w.heap.size (· = g) w w') ?_ ?_
      · refine ifB_dec (fun h => ?_) (fun h => ?_)
        · have hij : i ≤ j0 := by dsimp only at h; omega
          refine (hDq.drew.at rfl (by omega) hn2.symm (hDq.drew.at rfl (by omega) hn2.symm (Less_spec ⟨_, rfl, ?_⟩)))
          refine ifB_bool (fun hb => ⟨hij, hb, hDq.drew, hFq.drew⟩) (fun hb => ⟨by rw [← hsc, scanUp_stop (p := fun x => ltI x d2[a]!) (.inr hb)], hDq.drew, hFq.drew⟩)
        · exact ⟨by rw [← hsc, scanUp_stop (p := fun x => ltI x d2[a]!) (.inl (by dsimp only at h; omega))], hDq.drew, hFq.drew⟩
      · rintro _ wr ⟨hij, hp, hDr, hFr⟩
        rw [wrap64_succ (by omega)]
        exact hnextq (j0 + 1 - (i + 1)) _ _ (by omega) ⟨i + 1, rfl, rfl, by omega, by omega, by rw [← hsc, scanUp_go (p := fun x => ltI x d2[a]!) hij hp], hDr, hFr⟩
    rintro ⟨i2, _⟩ w3 ⟨e2, hD3, hF3⟩
    dsimp only at e2 ⊢
    subst e2
    have heq := Go.Sort.partLoop_eq (lt := ltI) a i0 j0 d2
    generalize hI' : Go.Sort.scanUp (fun x => ltI x d2[a]!) d2 j0 i0 = I' at u1' u2' v1' v2' heq ⊢
    refine JoinW.cut (fun (st : Int × Unit) w' => st.1 = ((Go.Sort.scanDown (fun x => !ltI x d2[a]!) d2 I' j0 : Nat) : Int) ∧ Dtw w' g rest d2 ∧ Fr w.heap.size (· = g) w w') ?_ ?_
    · clear v1' v2' heq hpt
      refine LoopW.ghost (fun k (st : Int × Unit) w' => st = ((k : Int), ()) ∧ k ≤ j0 ∧ I' ≤ k + 1 ∧ Go.Sort.scanDown (fun x => !ltI x d2[a]!) d2 (I') k = Go.Sort.scanDown (fun x => !ltI x d2[a]!) d2 (I') j0 ∧ Dtw w' g rest d2 ∧ Fr w.heap.size (· = g) w w') j0
        ⟨rfl, Nat.le_refl _, by omega, rfl, hD3, hF3⟩ ?_
      rintro j _ wq ⟨rfl, hj0, hj1, hsc, hDq, hFq⟩ nextq hnextq
      refine JoinW.cut (fun _ w' => I' ≤ j ∧ (fun x => !ltI x d2[a]!) d2[j]! = true ∧ Dtw w' g rest d2 ∧ Fr w.heap.size (· = g) w w') ?_ ?_
      · refine ifB_dec (fun h => ?_) (fun h => ?_)
        · have hij : I' ≤ j := by dsimp only at h; omega
          refine hDq.drew.at rfl (by omega) hn2.symm (hDq.drew.at rfl (by omega) hn2.symm (Less_spec ⟨_, rfl, ?_⟩))
          refine ifB_not (ifB_bool (fun hb => ?_) (fun hb => ?_))
          · exact ⟨by rw [← hsc, scanDown_stop (p := fun x => !ltI x d2[a]!) (.inr (by rw [hb]; rfl))], hDq.drew, hFq.drew⟩
          · exact ⟨hij, by dsimp only; rw [hb]; rfl, hDq.drew, hFq.drew⟩
        · exact ⟨by rw [← hsc, scanDown_stop (p := fun x => !ltI x d2[a]!) (.inl (by dsimp only at h; omega))], hDq.drew, hFq.drew⟩
      · rintro _ wr ⟨hij, hp, hDr, hFr⟩
        obtain ⟨m, rfl⟩ : ∃ m, j = m + 1 := ⟨j - 1, by omega⟩
        rw [show IntKind.i64.wrap (((((m + 1 : Nat) : Int), ()) : Int × Unit).1 - 1) = (m : Int) from wr64 (by dsimp only; omega) (by omega)]
        exact hnextq m _ _ (by omega) ⟨rfl, by omega, by omega, by rw [← hsc, scanDown_go (p := fun x => !ltI x d2[a]!) hij hp], hDr, hFr⟩
    rintro ⟨j2, _⟩ w4 ⟨e2, hD4, hF4⟩
    dsimp only at e2 ⊢
    subst e2
    generalize hJ' : Go.Sort.scanDown (fun x => !ltI x d2[a]!) d2 I' j0 = J' at v1' v2' heq ⊢
    refine ifB_dec (fun h => ?_) (fun h => ?_)
    · have h : I' > J' := by omega
      rw [if_pos h, he] at heq
      refine hD4.swap (i := a) (j := J') rfl rfl (by omega) (by omega) hn2.symm fun w5 hD5 c5 => ?_
      subst heq
      dsimp only at hpt
      subst hpt
      exact hR w5 hD5 (hF4.chg c5 (.inl rfl))
    · have h : ¬ I' > J' := by omega
      rw [if_neg h] at heq
      have hIJ' : I' < J' := no_meet (fun _ => rfl) hI' hJ' h (by omega)
      refine hD4.swap (i := J') (j := I') rfl rfl (by omega) (by omega) hn2.symm fun w5 hD5 c5 => ?_
      rw [wr64 (k := I' + 1) (by omega) (by omega), wr64 (k := J' - 1) (by omega) (by omega)]
      exact hnext (J' - 1 + 1 - (I' + 1)) _ _ (by omega) ⟨I' + 1, J' - 1, _, rfl, rfl, by omega, by omega, by omega, hD5, by rw [Go.Sort.size_swp]; exact hn2, by rw [← heq, he], hF4.chg c5 (.inl rfl)⟩
end
end Go.Proofs

/-!
  slices.Sort at words: the quick test, the pivot, the broken patterns, the whole.
-/
namespace Go.Proofs
open Go.Gk Go.RowKit

/-! ### partialInsertionSort -/
theorem scanS_stop {d : Array Int} {b i : Nat} (h : b ≤ i ∨ ltI d[i]! d[i - 1]! = true) : Go.Sort.scanSorted ltI d b i = i := by
  rw [Go.Sort.scanSorted, if_neg]
  intro hh
  rw [Bool.and_eq_true, decide_eq_true_eq] at hh
  rcases h with h | h
  · omega
  · rw [h] at hh; cases hh.2
theorem scanS_go {d : Array Int} {b i : Nat} (h1 : i < b) (h2 : ltI d[i]! d[i - 1]! = false) : Go.Sort.scanSorted ltI d b (i + 1) = Go.Sort.scanSorted ltI d b i := by
  conv => rhs; rw [Go.Sort.scanSorted, if_pos (by rw [Bool.and_eq_true, decide_eq_true_eq, h2]; exact ⟨h1, rfl⟩)]
theorem shD_stop {d : Array Int} {j : Nat} (h : j = 0 ∨ ltI d[j]! d[j - 1]! = false) : Go.Sort.shiftDown ltI j d = d := by
  cases j with
  | zero => rfl
  | succ j =>
    rw [Go.Sort.shiftDown, if_pos]
    rcases h with h | h
    · omega
    · rw [Nat.add_sub_cancel] at h; rw [h]; rfl
theorem shD_go {d : Array Int} {j : Nat} (h : ltI d[j + 1]! d[j]! = true) : Go.Sort.shiftDown ltI (j + 1) d = Go.Sort.shiftDown ltI j (Go.Sort.swp d (j + 1) j) := by
  conv => lhs; rw [Go.Sort.shiftDown, if_neg (by rw [h]; simp)]
theorem shU_stop {d : Array Int} {b j : Nat} (h : b ≤ j ∨ ltI d[j]! d[j - 1]! = false) : Go.Sort.shiftUp ltI b j d = d := by
  rw [Go.Sort.shiftUp]
  split
  · rcases h with h | h
    · omega
    · rw [h]; rfl
  · rfl
theorem shU_go {d : Array Int} {b j : Nat} (h0 : j < b) (h : ltI d[j]! d[j - 1]! = true) : Go.Sort.shiftUp ltI b j d = Go.Sort.shiftUp ltI b (j + 1) (Go.Sort.swp d j (j - 1)) := by
  conv => lhs; rw [Go.Sort.shiftUp, if_pos h0, if_neg (by rw [h]; simp)]
section
variable {w : World} {g n c : Nat} {rest : List Value} {d : Array Int} {R : Value → World → Prop}
theorem partial_spec {a b : Nat} (hD : Dtw w g rest d) (hn : n = d.size) (hmax : n ≤ 35184372088832) (hab : a < b) (hb : b ≤ n)
    (hR : ∀ w', Dtw w' g rest (Go.Sort.partialInsertionSort ltI d a b).1 → Fr w.heap.size (· = g) w w' → R (.bool (Go.Sort.partialInsertionSort ltI d a b).2) w') :
    callR Try.prog 132 #[.slice (some (blk g)) n c, .int .i64 (a : Int), .int .i64 (b : Int)] w R := by
  refine callR.of (slices_partialInsertionSortOrdered_uint32_calls ⟨some (blk g), n, c⟩ a b R w ?_) fun _ _ h => h
  have ea : IntKind.i64.wrap ((a : Int) + 1) = ((a + 1 : Nat) : Int) := wr64 (by omega) (by omega)
  have eba : IntKind.i64.wrap ((b : Int) - (a : Int)) = ((b - a : Nat) : Int) := wr64 (by omega) (by omega)
  unfold L_slices_partialInsertionSortOrdered_uint32
  rw [ea, eba]
  generalize hgoal : Go.Sort.partialInsertionSort ltI d a b = pp at hR
  have hgoal : Go.Sort.partialIns ltI a b 5 (a + 1) d = pp := hgoal
  refine LoopW.ghost (fun s (st : Int × Int × Unit) w' => ∃ (i : Nat) (d' : Array Int), st = ((i : Int), (5 : Int) - (s : Int), ()) ∧ s ≤ 5 ∧ a + 1 ≤ i ∧ i ≤ b ∧ Dtw w' g rest d' ∧ d'.size = n ∧ Go.Sort.partialIns ltI a b s i d' = pp ∧ Fr w.heap.size (· = g) w w') 5
    ⟨a + 1, d, rfl, Nat.le_refl _, Nat.le_refl _, by omega, hD, hn.symm, hgoal, Fr.refl _ _ _⟩ ?_
  rintro s _ w1 ⟨i0, d1, rfl, hs, hi0, hib, hD1, hn1, he, hF⟩ next hnext
  dsimp only
  refine ifB_dec (fun h => ?_) (fun h => ?_)
  · obtain ⟨s, rfl⟩ : ∃ m, s = m + 1 := ⟨s - 1, by omega⟩
    rw [show IntKind.i64.wrap ((5 : Int) - ((s + 1 : Nat) : Int) + 1) = (5 : Int) - (s : Int) by rw [wrap64_in (by omega) (by omega)]; omega]
    refine JoinW.cut (fun (st : Int × Unit) w' => ∃ (i : Nat) (d' : Array Int), st = ((i : Int), ()) ∧ a + 1 ≤ i ∧ i ≤ b ∧ Dtw w' g rest d' ∧ d'.size = n ∧ Go.Sort.partialIns ltI a b s i d' = pp ∧ Fr w.heap.size (· = g) w w') ?_ ?_
    rotate_left
    · rintro _ w2 ⟨i, d2, rfl, q1, q2, q3, q4, q5, q6⟩
      exact hnext s _ _ (by omega) ⟨i, d2, rfl, by omega, q1, q2, q3, q4, q5, q6⟩
    refine JoinW.cut (fun (st : Int × Unit) w' => ∃ i : Nat, st = ((i : Int), ()) ∧ i = Go.Sort.scanSorted ltI d1 b i0 ∧ a + 1 ≤ i ∧ i ≤ b ∧ Dtw w' g rest d1 ∧ Fr w.heap.size (· = g) w w') ?_ ?_
    · refine LoopW.ghost (fun k (st : Int × Unit) w' => ∃ i : Nat, st = ((i : Int), ()) ∧ k = b - i ∧ a + 1 ≤ i ∧ i ≤ b ∧ Go.Sort.scanSorted ltI d1 b i = Go.Sort.scanSorted ltI d1 b i0 ∧ Dtw w' g rest d1 ∧ Fr w.heap.size (· = g) w w') (b - i0)
        ⟨i0, rfl, rfl, hi0, hib, rfl, hD1, hF⟩ ?_
      rintro _ _ wq ⟨i, rfl, rfl, q1, q2, hsc, hDq, hFq⟩ nextq hnextq
      dsimp only
      have ei : IntKind.i64.wrap ((i : Int) - 1) = ((i - 1 : Nat) : Int) := wr64 (by omega) (by omega)
      rw [ei]
      refine JoinW.cut (fun _ w' => i < b ∧ ltI d1[i]! d1[i - 1]! = false ∧ Dtw w' g rest d1 ∧ Fr w.heap.size (· = g) w w') ?_ ?_
      · refine ifB_dec (fun h => ?_) (fun h => ?_)
        · have hib' : i < b := by omega
          refine hDq.drew.at rfl (by omega) hn1.symm (hDq.drew.at rfl (by omega) hn1.symm (Less_spec ⟨_, rfl, ?_⟩))
          refine ifB_not (ifB_bool (fun hb => ?_) (fun hb => ⟨hib', hb, hDq.drew, hFq.drew⟩))
          exact ⟨i, rfl, by rw [← hsc, scanS_stop (.inr hb)], q1, q2, hDq.drew, hFq.drew⟩
        · exact ⟨i, rfl, by rw [← hsc, scanS_stop (.inl (by omega))], q1, q2, hDq.drew, hFq.drew⟩
      · rintro _ wr ⟨hib', hb, hDr, hFr⟩
        rw [wrap64_succ (by omega)]
        exact hnextq (b - (i + 1)) _ _ (by omega) ⟨i + 1, rfl, rfl, by omega, by omega, by rw [← hsc, scanS_go hib' hb], hDr, hFr⟩
    rintro _ w2 ⟨i, rfl, ei, q1, q2, hD2, hF2⟩
    dsimp only
    have hps : Go.Sort.partialIns ltI a b (s + 1) i0 d1 = (if i = b then (d1, true) else if b - a < 50 then (d1, false) else
        Go.Sort.partialIns ltI a b s i (if b - i ≥ 2 then Go.Sort.shiftUp ltI b (i + 1) (if i - a ≥ 2 then Go.Sort.shiftDown ltI (i - 1) (Go.Sort.swp d1 i (i - 1)) else Go.Sort.swp d1 i (i - 1)) else (if i - a ≥ 2 then Go.Sort.shiftDown ltI (i - 1) (Go.Sort.swp d1 i (i - 1)) else Go.Sort.swp d1 i (i - 1)))) := by
      rw [ei]; rfl
    rw [hps] at he
    refine ifB_beq (fun e => ?_) (fun e => ?_)
    · rw [if_pos (by omega)] at he
      subst he
      exact hR w2 hD2 hF2
    have hib2 : i < b := by omega
    rw [if_neg (by omega)] at he
    refine ifB_dec (fun h5 => ?_) (fun h5 => ?_)
    · rw [if_pos (by omega)] at he
      subst he
      exact hR w2 hD2 hF2
    rw [if_neg (by omega)] at he
    have ei1 : IntKind.i64.wrap ((i : Int) - 1) = ((i - 1 : Nat) : Int) := wr64 (by omega) (by omega)
    have eia : IntKind.i64.wrap ((i : Int) - (a : Int)) = ((i - a : Nat) : Int) := wr64 (by omega) (by omega)
    have ebi : IntKind.i64.wrap ((b : Int) - (i : Int)) = ((b - i : Nat) : Int) := wr64 (by omega) (by omega)
    have ei2 : IntKind.i64.wrap ((i : Int) + 1) = ((i + 1 : Nat) : Int) := wr64 (by omega) (by omega)
    rw [ei1, eia, ebi, ei2]
    refine hD2.swap (i := i - 1) (j := i) rfl rfl (by omega) (by omega) hn1.symm fun w3 hD3 c3 => ?_
    have hF3 := hF2.chg c3 (.inl rfl)
    have hn3 : (Go.Sort.swp d1 i (i - 1)).size = n := by rw [Go.Sort.size_swp]; exact hn1
    generalize Go.Sort.swp d1 i (i - 1) = d3 at hD3 hn3 he
    refine JoinW.cut (fun _ w' => ∃ d4, Dtw w' g rest d4 ∧ d4.size = n ∧ d4 = (if i - a ≥ 2 then Go.Sort.shiftDown ltI (i - 1) d3 else d3) ∧ Fr w.heap.size (· = g) w w') ?_ ?_
    · refine ifB_dec (fun h2 => ?_) (fun h2 => ?_)
      · rw [if_pos (by omega)]
        refine LoopW.ghost (fun k (st : Int × Unit) w' => ∃ d' : Array Int, st = ((k : Int), ()) ∧ k < i ∧ Dtw w' g rest d' ∧ d'.size = n ∧ Go.Sort.shiftDown ltI k d' = Go.Sort.shiftDown ltI (i - 1) d3 ∧ Fr w.heap.size (· = g) w w') (i - 1)
          ⟨d3, rfl, by omega, hD3, hn3, rfl, hF3⟩ ?_
        rintro j _ wq ⟨dq, rfl, hji, hDq, hnq, hsq, hFq⟩ nextq hnextq
        dsimp only
        refine ifB_dec (fun h => ?_) (fun h => ?_)
        · obtain ⟨m, rfl⟩ : ∃ m, j = m + 1 := ⟨j - 1, by omega⟩
          have em : IntKind.i64.wrap (((m + 1 : Nat) : Int) - 1) = (m : Int) := wr64 (by omega) (by omega)
          rw [em]
          refine hDq.drew.at rfl (by omega) hnq.symm (hDq.drew.at rfl (by omega) hnq.symm (Less_spec ⟨_, rfl, ?_⟩))
          refine ifB_not (ifB_bool (fun hb => ?_) (fun hb => ⟨dq, hDq.drew, hnq, by rw [← hsq, shD_stop (.inr hb)], hFq.drew⟩))
          refine hDq.drew.swap (i := m) (j := m + 1) rfl rfl (by omega) (by omega) hnq.symm fun wr hDr cr => ?_
          exact hnextq m _ _ (by omega) ⟨_, rfl, by omega, hDr, by rw [Go.Sort.size_swp]; exact hnq, by rw [← hsq, shD_go hb], hFq.drew.chg cr (.inl rfl)⟩
        · exact ⟨dq, hDq, hnq, by rw [← hsq, shD_stop (.inl (by omega))], hFq⟩
      · rw [if_neg (by omega)]
        exact ⟨d3, hD3, hn3, rfl, hF3⟩
    rintro _ w4 ⟨d4, hD4, hn4, e4, hF4⟩
    rw [← e4] at he
    clear e4
    refine ifB_dec (fun h2 => ?_) (fun h2 => ?_)
    · rw [if_pos (by omega)] at he
      refine LoopW.ghost (fun k (st : Int × Unit) w' => ∃ (j : Nat) (d' : Array Int), st = ((j : Int), ()) ∧ k = b - j ∧ i < j ∧ Dtw w' g rest d' ∧ d'.size = n ∧ Go.Sort.shiftUp ltI b j d' = Go.Sort.shiftUp ltI b (i + 1) d4 ∧ Fr w.heap.size (· = g) w w') (b - (i + 1))
        ⟨i + 1, d4, rfl, rfl, by omega, hD4, hn4, rfl, hF4⟩ ?_
      rintro _ _ wq ⟨j, dq, rfl, rfl, hij, hDq, hnq, hsq, hFq⟩ nextq hnextq
      dsimp only
      refine ifB_dec (fun h => ?_) (fun h => ?_)
      · have em : IntKind.i64.wrap ((j : Int) - 1) = ((j - 1 : Nat) : Int) := wr64 (by omega) (by omega)
        rw [em]
        refine hDq.drew.at rfl (by omega) hnq.symm (hDq.drew.at rfl (by omega) hnq.symm (Less_spec ⟨_, rfl, ?_⟩))
        refine ifB_not (ifB_bool (fun hb => ?_) (fun hb => ⟨i, dq, rfl, q1, q2, hDq.drew, hnq, ?_, hFq.drew⟩))
        · refine hDq.drew.swap (i := j - 1) (j := j) rfl rfl (by omega) (by omega) hnq.symm fun wr hDr cr => ?_
          rw [wrap64_succ (by omega)]
          exact hnextq (b - (j + 1)) _ _ (by omega) ⟨j + 1, _, rfl, rfl, by omega, hDr, by rw [Go.Sort.size_swp]; exact hnq, by rw [← hsq, shU_go (by omega) hb], hFq.drew.chg cr (.inl rfl)⟩
        · rw [← he, ← hsq, shU_stop (.inr hb)]
      · exact ⟨i, dq, rfl, q1, q2, hDq, hnq, by rw [← he, ← hsq, shU_stop (.inl (by omega))], hFq⟩
    · rw [if_neg (by omega)] at he
      exact ⟨i, d4, rfl, q1, q2, hD4, hn4, he, hF4⟩
  · have hs0 : s = 0 := by omega
    subst hs0
    have he : (d1, false) = pp := he
    subst he
    exact hR w1 hD1 hF

/-! ### The pivot -/
theorem order2_spec {i j r : Nat} {s : Int} {T : TypeId} (hD : Dtw w g rest d) (hn : n = d.size) (hi : i < n) (hj : j < n) (hS : Blk w r T [.int .i64 s]) (hT : T ≠ 22)
    (hR : ∀ w' (p q : Nat) s', ((p = i ∧ q = j) ∨ (p = j ∧ q = i)) → Dtw w' g rest d → Blk w' r T [.int .i64 s'] → Chg r w w' → R (.tuple #[.int .i64 (p : Int), .int .i64 (q : Int)]) w') :
    callR Try.prog 162 #[.slice (some (blk g)) n c, .int .i64 (i : Int), .int .i64 (j : Int), .pointer (some (blk r))] w R := by
  refine callR.of (slices_order2Ordered_uint32_calls ⟨some (blk g), n, c⟩ i j (some (blk r)) R w ?_) fun _ _ h => h
  have hne : g ≠ r := Blk.apart hD hS hT.symm
  refine hD.drew.at rfl (by omega) hn (hD.drew.at rfl (by omega) hn (Less_spec ⟨_, rfl, ?_⟩))
  refine ifB_bool (fun hb => ?_) (fun hb => ?_)
  · refine derefP_some rfl (hS.drew.rI0 rfl (derefP_some rfl ⟨hS.drew.wr0 (by simp), Nw.mk ?_⟩))
    have c1 := ((Chg.refl r w).drew).trans (Chg.set r 0 w.drew (.int .i64 (IntKind.i64.wrap (s + 1))))
    exact hR _ j i _ (.inr ⟨rfl, rfl⟩) (c1.blk hD hne) (hS.drew.set0 _) c1
  · exact hR _ i j s (.inl ⟨rfl, rfl⟩) hD.drew hS.drew (Chg.refl r w).drew
theorem median_spec {i j k r : Nat} {s : Int} {T : TypeId} (hD : Dtw w g rest d) (hn : n = d.size) (hi : i < n) (hj : j < n) (hk : k < n) (hS : Blk w r T [.int .i64 s]) (hT : T ≠ 22)
    (hR : ∀ w' (p : Nat) s', (p = i ∨ p = j ∨ p = k) → Dtw w' g rest d → Blk w' r T [.int .i64 s'] → Chg r w w' → R (.int .i64 (p : Int)) w') :
    callR Try.prog 154 #[.slice (some (blk g)) n c, .int .i64 (i : Int), .int .i64 (j : Int), .int .i64 (k : Int), .pointer (some (blk r))] w R := by
  refine callR.of (slices_medianOrdered_uint32_calls ⟨some (blk g), n, c⟩ i j k (some (blk r)) R w ?_) fun _ _ h => h
  refine order2_spec (n := n) (c := c) hD hn hi hj hS hT fun w1 a1 b1 s1 h1 hD1 hS1 c1 => ⟨_, _, rfl, ?_⟩
  refine order2_spec (n := n) (c := c) hD1 hn (i := b1) (j := k) (by omega) hk hS1 hT fun w2 a2 b2 s2 h2 hD2 hS2 c2 => ⟨_, _, rfl, ?_⟩
  refine order2_spec (n := n) (c := c) hD2 hn (i := a1) (j := a2) (by omega) (by omega) hS2 hT fun w3 a3 b3 s3 h3 hD3 hS3 c3 => ⟨_, _, rfl, ?_⟩
  exact hR w3 b3 s3 (by omega) hD3 hS3 ((c1.trans c2).trans c3)
theorem medianA_spec {i r : Nat} {s : Int} {T : TypeId} (hD : Dtw w g rest d) (hn : n = d.size) (hmax : n ≤ 35184372088832) (h0 : 0 < i) (hi : i + 1 < n) (hS : Blk w r T [.int .i64 s]) (hT : T ≠ 22)
    (hR : ∀ w' (p : Nat) s', (i - 1 ≤ p ∧ p ≤ i + 1) → Dtw w' g rest d → Blk w' r T [.int .i64 s'] → Chg r w w' → R (.int .i64 (p : Int)) w') :
    callR Try.prog 153 #[.slice (some (blk g)) n c, .int .i64 (i : Int), .pointer (some (blk r))] w R := by
  refine callR.of (slices_medianAdjacentOrdered_uint32_calls ⟨some (blk g), n, c⟩ i (some (blk r)) R w ?_) fun _ _ h => h
  have e1 : IntKind.i64.wrap ((i : Int) - 1) = ((i - 1 : Nat) : Int) := wr64 (by omega) (by omega)
  have e2 : IntKind.i64.wrap ((i : Int) + 1) = ((i + 1 : Nat) : Int) := wr64 (by omega) (by omega)
  unfold L_slices_medianAdjacentOrdered_uint32
  rw [e1, e2]
  refine median_spec (n := n) (c := c) hD hn (by omega) (by omega) (by omega) hS hT fun w1 p s1 hp hD1 hS1 c1 => ⟨_, rfl, ?_⟩
  exact hR w1 p s1 (by omega) hD1 hS1 c1
theorem pivot_spec {a b : Nat} (hD : Dtw w g rest d) (hn : n = d.size) (hmax : n ≤ 35184372088832) (hab : a < b) (hb : b ≤ n)
    (hR : ∀ w' (p : Nat) h, a ≤ p → p < b → Dtw w' g rest d → Fr w.heap.size (· = g) w w' → R (.tuple #[.int .i64 (p : Int), .int .i64 h]) w') :
    callR Try.prog 130 #[.slice (some (blk g)) n c, .int .i64 (a : Int), .int .i64 (b : Int)] w R := by
  refine callR.of (slices_choosePivotOrdered_uint32_calls ⟨some (blk g), n, c⟩ a b R w ?_) fun _ _ h => h
  have eba : IntKind.i64.wrap ((b : Int) - (a : Int)) = ((b - a : Nat) : Int) := wr64 (by omega) (by omega)
  generalize hl : b - a = l at eba
  have e4 : IntKind.i64.wrap (Int.tdiv (l : Int) 4) = ((l / 4 : Nat) : Int) := wr64 (by rw [Int.tdiv_eq_ediv_of_nonneg (by omega)]; omega) (by omega)
  generalize hq : l / 4 = q at e4
  have m1 : IntKind.i64.wrap ((q : Int) * 1) = (q : Int) := wr64 (by omega) (by omega)
  have m2 : IntKind.i64.wrap ((q : Int) * 2) = ((q * 2 : Nat) : Int) := wr64 (by omega) (by omega)
  have m3 : IntKind.i64.wrap ((q : Int) * 3) = ((q * 3 : Nat) : Int) := wr64 (by omega) (by omega)
  have a1 : IntKind.i64.wrap ((a : Int) + (q : Int)) = ((a + q : Nat) : Int) := wr64 (by omega) (by omega)
  have a2 : IntKind.i64.wrap ((a : Int) + ((q * 2 : Nat) : Int)) = ((a + q * 2 : Nat) : Int) := wr64 (by omega) (by omega)
  have a3 : IntKind.i64.wrap ((a : Int) + ((q * 3 : Nat) : Int)) = ((a + q * 3 : Nat) : Int) := wr64 (by omega) (by omega)
  unfold L_slices_choosePivotOrdered_uint32
  rw [eba, e4, m1, m2, m3, a1, a2, a3]
  refine lay_of fun w1 hS1 b1 z1 => ?_
  have hD1 := hD.below b1
  have hT : 3 ≠ 22 := by decide
  have hgl := hD.lt
  refine JoinW.cut (fun (st : Int × Unit) w' => ∃ (p : Nat) (s : Int), st = ((p : Int), ()) ∧ a ≤ p ∧ p < b ∧ Dtw w' g rest d ∧ Blk w' w.heap.size 3 [.int .i64 s] ∧ Chg w.heap.size w1 w') ?_ ?_
  · refine ifB_dec (fun h8 => ?_) (fun h8 => ?_)
    · refine JoinW.cut (fun (st : Int × Int × Int × Unit) w' => ∃ (i j k : Nat) (s : Int), st = ((i : Int), (j : Int), (k : Int), ()) ∧ (a ≤ i ∧ i < b) ∧ (a ≤ j ∧ j < b) ∧ (a ≤ k ∧ k < b) ∧ Dtw w' g rest d ∧ Blk w' w.heap.size 3 [.int .i64 s] ∧ Chg w.heap.size w1 w') ?_ ?_
      · refine ifB_dec (fun h50 => ?_) (fun h50 => ?_)
        · refine medianA_spec (n := n) (c := c) hD1 hn hmax (by omega) (by omega) hS1 hT fun w2 p1 s2 hp1 hD2 hS2 c2 => ⟨_, rfl, ?_⟩
          refine medianA_spec (n := n) (c := c) hD2 hn hmax (by omega) (by omega) hS2 hT fun w3 p2 s3 hp2 hD3 hS3 c3 => ⟨_, rfl, ?_⟩
          refine medianA_spec (n := n) (c := c) hD3 hn hmax (by omega) (by omega) hS3 hT fun w4 p3 s4 hp3 hD4 hS4 c4 => ⟨_, rfl, ?_⟩
          exact ⟨p1, p2, p3, s4, rfl, by omega, by omega, by omega, hD4, hS4, (c2.trans c3).trans c4⟩
        · exact ⟨a + q, a + q * 2, a + q * 3, 0, rfl, by omega, by omega, by omega, hD1, hS1, Chg.refl _ _⟩
      · rintro _ w2 ⟨i, j, k, s, rfl, hi, hj, hk, hD2, hS2, c2⟩
        refine median_spec (n := n) (c := c) hD2 hn (i := i) (j := j) (k := k) (by omega) (by omega) (by omega) hS2 hT fun w3 p s3 hp hD3 hS3 c3 => ⟨_, rfl, ?_⟩
        exact ⟨p, s3, rfl, by omega, by omega, hD3, hS3, c2.trans c3⟩
    · exact ⟨a + q * 2, 0, rfl, by omega, by omega, hD1, hS1, Chg.refl _ _⟩
  · rintro _ w2 ⟨p, s, rfl, hp1, hp2, hD2, hS2, c2⟩
    have hF : Fr w.heap.size (· = g) w w2 := (Fr.of_below b1).chg c2 (.inr (Nat.le_refl _))
    refine hS2.rI0 rfl (ifB_beq (fun _ => hR w2 p _ hp1 hp2 hD2 hF) (fun _ => ifB_beq (fun _ => hR w2 p _ hp1 hp2 hD2 hF) (fun _ => hR w2 p _ hp1 hp2 hD2 hF)))
end
end Go.Proofs

/-!
  slices.Sort at words: the broken patterns, the recursion, the whole.
-/
namespace Go.Proofs
open Go.Gk Go.RowKit

/-! ### bits.Len -/
abbrev lenTab : ByteArray := ByteArray.mk #[0, 1, 2, 2, 3, 3, 3, 3, 4, 4, 4, 4, 4, 4, 4, 4, 5, 5, 5, 5, 5, 5, 5, 5, 5, 5, 5, 5, 5, 5, 5, 5, 6, 6, 6, 6, 6, 6, 6, 6, 6, 6, 6, 6, 6, 6, 6, 6, 6, 6, 6, 6, 6, 6, 6, 6, 6, 6, 6, 6, 6, 6, 6, 6, 7, 7, 7, 7, 7, 7, 7, 7, 7, 7, 7, 7, 7, 7, 7, 7, 7, 7, 7, 7, 7, 7, 7, 7, 7, 7, 7, 7, 7, 7, 7, 7, 7, 7, 7, 7, 7, 7, 7, 7, 7, 7, 7, 7, 7, 7, 7, 7, 7, 7, 7, 7, 7, 7, 7, 7, 7, 7, 7, 7, 7, 7, 7, 7, 8, 8, 8, 8, 8, 8, 8, 8, 8, 8, 8, 8, 8, 8, 8, 8, 8, 8, 8, 8, 8, 8, 8, 8, 8, 8, 8, 8, 8, 8, 8, 8, 8, 8, 8, 8, 8, 8, 8, 8, 8, 8, 8, 8, 8, 8, 8, 8, 8, 8, 8, 8, 8, 8, 8, 8, 8, 8, 8, 8, 8, 8, 8, 8, 8, 8, 8, 8, 8, 8, 8, 8, 8, 8, 8, 8, 8, 8, 8, 8, 8, 8, 8, 8, 8, 8, 8, 8, 8, 8, 8, 8, 8, 8, 8, 8, 8, 8, 8, 8, 8, 8, 8, 8, 8, 8, 8, 8, 8, 8, 8, 8, 8, 8, 8, 8, 8, 8, 8, 8, 8, 8, 8, 8, 8, 8, 8, 8]
theorem lenTab_ok : ((List.range 256).all fun m => decide ((lenTab.data.getD m 0).toNat ≤ 8) && (m == 0 || decide (2 ^ (lenTab.data.getD m 0).toNat ≤ 2 * m))) = true := by decide +kernel
theorem lenTab_at {m : Nat} (hm : m < 256) : ∃ t : Nat, byteI lenTab (m : Int) = (t : Int) ∧ t ≤ 8 ∧ (0 < m → 2 ^ t ≤ 2 * m) := by
  have h := List.all_eq_true.1 lenTab_ok m (List.mem_range.2 hm)
  rw [Bool.and_eq_true, decide_eq_true_eq, Bool.or_eq_true, decide_eq_true_eq, beq_iff_eq] at h
  exact ⟨_, rfl, h.1, fun h0 => h.2.resolve_left (by omega)⟩
theorem fdivP (x k : Nat) (hk : k < 64) : Int.fdiv (x : Int) (2 ^ (min k (IntKind.bits .u64))) = ((x / 2 ^ k : Nat) : Int) := by
  have hm : min k (IntKind.bits .u64) = k := by rw [show IntKind.bits .u64 = 64 from rfl]; omega
  rw [hm, show ((2 : Int) ^ k) = ((2 ^ k : Nat) : Int) by simp, Int.ofNat_fdiv]
theorem shift_le {x m L k : Nat} (h : 0 < x → 0 < m ∧ 2 ^ L * m ≤ x) (hm : 2 ^ k ≤ m) : 0 < x → 0 < m / 2 ^ k ∧ 2 ^ (L + k) * (m / 2 ^ k) ≤ x := fun hx => by
  obtain ⟨h1, h2⟩ := h hx
  refine ⟨Nat.div_pos hm (Nat.two_pow_pos k), ?_⟩
  rw [Nat.pow_add, Nat.mul_assoc]
  exact Nat.le_trans (Nat.mul_le_mul_left _ (Nat.mul_div_le m (2 ^ k))) h2
section
variable {w : World} {R : Value → World → Prop}
theorem Len64_spec {x : Nat} (hx : x ≤ 70368744177664) (hR : ∀ L : Nat, L ≤ 64 → (0 < x → 2 ^ L ≤ 2 * x) → R (.int .i64 (L : Int)) w) : callR Try.prog 137 #[.int .u64 (x : Int)] w R := by
  refine callR.of (math_bits_Len64_calls x R w ?_) fun _ _ h => h
  refine JoinW.cut (fun (st : Int × Int × Unit) w' => w' = w ∧ ∃ m L : Nat, st = ((m : Int), (L : Int), ()) ∧ m < 2 ^ 32 ∧ L ≤ 32 ∧ (0 < x → 0 < m ∧ 2 ^ L * m ≤ x)) ?_ ?_
  · refine ifB_dec (fun h => ?_) (fun h => ?_)
    · rw [fdivP x 32 (by decide)]
      exact ⟨rfl, x / 2 ^ 32, 32, rfl, by omega, Nat.le_refl _, by have := shift_le (x := x) (m := x) (L := 0) (k := 32) (fun h => ⟨h, by omega⟩) (by omega); simpa using this⟩
    · exact ⟨rfl, x, 0, rfl, by omega, by omega, fun h => ⟨h, by omega⟩⟩
  rintro _ w ⟨rfl, m1, L1, rfl, h1, h2, h3⟩
  refine JoinW.cut (fun (st : Int × Int × Unit) w' => w' = w ∧ ∃ m L : Nat, st = ((m : Int), (L : Int), ()) ∧ m < 2 ^ 16 ∧ L ≤ 48 ∧ (0 < x → 0 < m ∧ 2 ^ L * m ≤ x)) ?_ ?_
  · refine ifB_dec (fun h => ?_) (fun h => ?_)
    · dsimp only at h ⊢
      rw [fdivP m1 16 (by decide)]
      have e : IntKind.i64.wrap ((L1 : Int) + 16) = ((L1 + 16 : Nat) : Int) := by rw [wrap64_in (by omega) (by omega)]; omega
      rw [e]
      exact ⟨rfl, m1 / 2 ^ 16, L1 + 16, rfl, by omega, by omega, shift_le h3 (by omega)⟩
    · exact ⟨rfl, m1, L1, rfl, by dsimp only at h; omega, by omega, h3⟩
  rintro _ w ⟨rfl, m2, L2, rfl, h4, h5, h6⟩
  refine JoinW.cut (fun (st : Int × Int × Unit) w' => w' = w ∧ ∃ m L : Nat, st = ((m : Int), (L : Int), ()) ∧ m < 2 ^ 8 ∧ L ≤ 56 ∧ (0 < x → 0 < m ∧ 2 ^ L * m ≤ x)) ?_ ?_
  · refine ifB_dec (fun h => ?_) (fun h => ?_)
    · dsimp only at h ⊢
      rw [fdivP m2 8 (by decide)]
      have e : IntKind.i64.wrap ((L2 : Int) + 8) = ((L2 + 8 : Nat) : Int) := by rw [wrap64_in (by omega) (by omega)]; omega
      rw [e]
      exact ⟨rfl, m2 / 2 ^ 8, L2 + 8, rfl, by omega, by omega, shift_le h6 (by omega)⟩
    · exact ⟨rfl, m2, L2, rfl, by dsimp only at h; omega, by omega, h6⟩
  rintro _ w ⟨rfl, m3, L3, rfl, h7, h8, h9⟩
  dsimp only
  have e8 : IntKind.u8.wrap (m3 : Int) = (m3 : Int) := by rw [IntKind.wrap_u8]; omega
  rw [e8]
  obtain ⟨t, ht, ht8, htm⟩ := lenTab_at (m := m3) (by omega)
  refine ⟨⟨by omega, Int.lt_of_lt_of_le (b := 256) (by omega) (by decide +kernel)⟩, ?_⟩
  · rw [ht, wrap64_in (x := (t : Int)) (by omega) (by omega)]
    have e : IntKind.i64.wrap ((L3 : Int) + (t : Int)) = ((L3 + t : Nat) : Int) := by rw [wrap64_in (by omega) (by omega)]; omega
    rw [e]
    refine hR (L3 + t) (by omega) fun hx0 => ?_
    obtain ⟨k1, k2⟩ := h9 hx0
    have := htm k1
    rw [Nat.pow_add]
    calc 2 ^ L3 * 2 ^ t ≤ 2 ^ L3 * (2 * m3) := Nat.mul_le_mul_left _ this
      _ = 2 * (2 ^ L3 * m3) := by rw [Nat.mul_left_comm]
      _ ≤ 2 * x := Nat.mul_le_mul_left _ k2
theorem Len_spec {x : Nat} (hx : x ≤ 70368744177664) (hR : ∀ L : Nat, L ≤ 64 → (0 < x → 2 ^ L ≤ 2 * x) → R (.int .i64 (L : Int)) w) : callR Try.prog 106 #[.int .u64 (x : Int)] w R := by
  refine callR.of (math_bits_Len_calls x R w ?_) fun _ _ h => h
  exact Len64_spec hx fun L h1 h2 => ⟨_, rfl, hR L h1 h2⟩
theorem uwrap {x : Nat} (hx : x ≤ 9223372036854775807) : IntKind.u64.wrap (x : Int) = (x : Int) := by
  rw [IntKind.wrap_u64]
  exact Int.emod_eq_of_lt (by omega) (by omega)
theorem nextPow_spec {x : Nat} (h0 : 0 < x) (hx : x ≤ 35184372088832) (hR : ∀ L : Nat, 2 ^ L ≤ 2 * x → R (.int .u64 ((2 ^ L : Nat) : Int)) w) : callR Try.prog 151 #[.int .i64 (x : Int)] w R := by
  refine callR.of (slices_nextPowerOfTwo_calls x R w ?_) fun _ _ h => h
  unfold L_slices_nextPowerOfTwo
  rw [uwrap (by omega)]
  refine Len_spec (by omega) fun L h1 h2 => ⟨_, rfl, ?_⟩
  have h3 := h2 h0
  refine ifB_dec (fun h => by omega) (fun _ => ?_)
  have e : (1 : Int) * 2 ^ (min (Int.toNat (L : Int)) (IntKind.bits .u64)) = ((2 ^ L : Nat) : Int) := by
    rw [show min (Int.toNat (L : Int)) (IntKind.bits .u64) = L by rw [show IntKind.bits .u64 = 64 from rfl, Int.toNat_natCast]; omega]
    simp
  rw [e, uwrap (by omega)]
  exact hR L h3
theorem mask {x : Int} {L : Nat} (hL : 2 ^ L ≤ 70368744177664) : ∃ v : Nat, v < 2 ^ L ∧
    IntKind.i64.wrap (IntKind.u64.wrap ((BitVec.toNat (BitVec.ofInt (IntKind.bits .u64) x &&& BitVec.ofInt (IntKind.bits .u64) (IntKind.u64.wrap (((2 ^ L : Nat) : Int) - 1))) : Nat) : Int)) = (v : Int) := by
  have hp := Nat.two_pow_pos L
  have q1 : ((2 ^ L : Nat) : Int) - 1 = ((2 ^ L - 1 : Nat) : Int) := by omega
  have q2 := uwrap (x := 2 ^ L - 1) (by omega)
  rw [q1, q2, BitVec.toNat_and]
  have hb : (BitVec.ofInt (IntKind.bits .u64) ((2 ^ L - 1 : Nat) : Int)).toNat = 2 ^ L - 1 := by
    rw [BitVec.ofInt_natCast, BitVec.toNat_ofNat, show IntKind.bits .u64 = 64 from rfl]
    exact Nat.mod_eq_of_lt (by omega)
  rw [hb]
  have hle := Nat.and_le_right (n := (BitVec.ofInt (IntKind.bits .u64) x).toNat) (m := 2 ^ L - 1)
  exact ⟨(BitVec.ofInt (IntKind.bits .u64) x).toNat &&& (2 ^ L - 1), by omega, by rw [uwrap (by omega), wrap64_in (by omega) (by omega)]⟩
theorem xorNext_spec {r : Nat} {T : TypeId} {x : Int} (hS : Blk w r T [.int .u64 x]) (hR : ∀ w' y, Blk w' r T [.int .u64 y] → Chg r w w' → R (.int .u64 y) w') : callR Try.prog 152 #[.pointer (some (blk r))] w R := by
  refine callR.of (slices_xorshift_Next_calls (some (blk r)) R w ?_) fun _ _ h => h
  have one : ∀ {w : World} {x : Int} {v : Int → Int → Int} {K : World → Prop}, Blk w r T [.int .u64 x] → (∀ w' y, Blk w' r T [.int .u64 y] → Chg r w w' → K w') →
      derefP (some (blk r)) fun a1 => ldI w.drew a1 .u64 fun x2 => derefP (some (blk r)) fun a3 => ldI w.drew a3 .u64 fun x4 => derefP (some (blk r)) fun a5 => Wr w.drew a5 ∧ Nw (w.drew.setCell a5 (.int .u64 (v x2 x4))) K := fun hS hK =>
    derefP_some rfl (hS.drew.rI0 rfl (derefP_some rfl (hS.drew.rI0 rfl (derefP_some rfl ⟨hS.drew.wr0 (by simp), Nw.mk (hK _ _ (hS.drew.set0 _) (((Chg.refl r _).drew).trans (Chg.set r 0 _ _)))⟩))))
  refine one (v := fun x2 x4 => IntKind.u64.wrap ((BitVec.toNat (BitVec.ofInt (IntKind.bits .u64) x2 ^^^ BitVec.ofInt (IntKind.bits .u64) (IntKind.u64.wrap (x4 * 2 ^ (min 13 (IntKind.bits .u64))))) : Nat) : Int)) hS fun w1 y1 hS1 c1 => ?_
  refine one (v := fun x2 x4 => IntKind.u64.wrap ((BitVec.toNat (BitVec.ofInt (IntKind.bits .u64) x2 ^^^ BitVec.ofInt (IntKind.bits .u64) (Int.fdiv x4 (2 ^ (min 7 (IntKind.bits .u64))))) : Nat) : Int)) hS1 fun w2 y2 hS2 c2 => ?_
  refine one (v := fun x2 x4 => IntKind.u64.wrap ((BitVec.toNat (BitVec.ofInt (IntKind.bits .u64) x2 ^^^ BitVec.ofInt (IntKind.bits .u64) (IntKind.u64.wrap (x4 * 2 ^ (min 17 (IntKind.bits .u64))))) : Nat) : Int)) hS2 fun w3 y3 hS3 c3 => ?_
  exact derefP_some rfl (hS3.rI0 rfl (hR w3 y3 hS3 ((c1.trans c2).trans c3)))
end
section
variable {w : World} {g n c : Nat} {rest : List Value} {d : Array Int} {R : Value → World → Prop}
theorem break_spec {a b : Nat} (hD : Dtw w g rest d) (hn : n = d.size) (hmax : n ≤ 35184372088832) (hab : a < b) (hb : b ≤ n)
    (hR : ∀ w' d', Dtw w' g rest d' → Go.Sort.PermIn a b d d' → Fr w.heap.size (· = g) w w' → R (.tuple #[]) w') :
    callR Try.prog 129 #[.slice (some (blk g)) n c, .int .i64 (a : Int), .int .i64 (b : Int)] w R := by
  refine callR.of (slices_breakPatternsOrdered_uint32_calls ⟨some (blk g), n, c⟩ a b R w ?_) fun _ _ h => h
  have eba : IntKind.i64.wrap ((b : Int) - (a : Int)) = ((b - a : Nat) : Int) := wr64 (by omega) (by omega)
  generalize hl : b - a = l at eba
  unfold L_slices_breakPatternsOrdered_uint32
  rw [eba]
  refine ifB_dec (fun h8 => ?_) (fun h8 => hR w d hD (Go.Sort.permIn_refl d a b) (Fr.refl _ _ _))
  have e4 : IntKind.i64.wrap (Int.tdiv (l : Int) 4) = ((l / 4 : Nat) : Int) := wr64 (by rw [Int.tdiv_eq_ediv_of_nonneg (by omega)]; omega) (by omega)
  generalize hq : l / 4 = q at e4
  have m2 : IntKind.i64.wrap ((q : Int) * 2) = ((q * 2 : Nat) : Int) := wr64 (by omega) (by omega)
  have a2 : IntKind.i64.wrap ((a : Int) + ((q * 2 : Nat) : Int)) = ((a + q * 2 : Nat) : Int) := wr64 (by omega) (by omega)
  have a3 : IntKind.i64.wrap (((a + q * 2 : Nat) : Int) + 1) = ((a + q * 2 + 1 : Nat) : Int) := wr64 (by omega) (by omega)
  have a4 : IntKind.i64.wrap (((a + q * 2 : Nat) : Int) - 1) = ((a + q * 2 - 1 : Nat) : Int) := wr64 (by omega) (by omega)
  rw [e4, m2, a2, a3, a4]
  refine Nw.gen fun w1 e1 => ?_
  have hS1 : ∃ T, T = 212 ∧ Blk w1 w.heap.size T [.int .u64 0] := ⟨_, rfl, by rw [e1]; exact Blk.new _ _ _⟩
  obtain ⟨T, hT, hS1⟩ := hS1
  have hT' : T ≠ 22 := by rw [hT]; decide
  clear hT
  have b1 : Below w.heap.size w w1 := by rw [e1]; exact (Below.refl _ _).alloc (Nat.le_refl _) _
  clear e1
  have hgl := hD.lt
  refine ⟨hS1.wr0 (by simp), Nw.gen fun w2 e2 => ?_⟩
  have c2 : Chg w.heap.size w1 w2 := by rw [e2]; exact Chg.set w.heap.size 0 w1 _
  have hS2 : Blk w2 w.heap.size T [.int .u64 (IntKind.u64.wrap (l : Int))] := by rw [e2]; exact hS1.set0 _
  clear e2
  have hD2 := c2.blk (hD.below b1) (by omega)
  have hF2 : Fr w.heap.size (· = g) w w2 := (Fr.of_below b1).chg c2 (.inr (Nat.le_refl _))
  refine nextPow_spec (by omega) (by omega) fun L hL => ⟨_, rfl, ?_⟩
  refine LoopW.ghost (fun k (st : Int × Unit) w' => ∃ (i : Nat) (d' : Array Int) (x : Int), st = ((i : Int), ()) ∧ k = a + q * 2 + 2 - i ∧ a ≤ i ∧ i ≤ a + q * 2 + 2 ∧ Dtw w' g rest d' ∧ Go.Sort.PermIn a b d d' ∧ Blk w' w.heap.size T [.int .u64 x] ∧ Fr w.heap.size (· = g) w w') (a + q * 2 + 2 - (a + q * 2 - 1))
    ⟨a + q * 2 - 1, d, _, rfl, rfl, by omega, by omega, hD2, Go.Sort.permIn_refl d a b, hS2, hF2⟩ ?_
  rintro _ _ w3 ⟨i, d3, x3, rfl, rfl, hi1, hi2, hD3, hP3, hS3, hF3⟩ next hnext
  dsimp only
  have hn3 : d3.size = n := by rw [hP3.1]; exact hn.symm
  refine ifB_dec (fun h => ?_) (fun h => hR w3 d3 hD3 hP3 hF3)
  refine xorNext_spec hS3 fun w4 y hS4 c4 => ⟨_, rfl, ?_⟩
  have hD4 := c4.blk hD3 (Blk.apart hD3 hS3 hT'.symm)
  have hF4 := hF3.chg c4 (.inr (Nat.le_refl _))
  obtain ⟨v, hv, ev⟩ := mask (x := y) (L := L) (by omega)
  rw [ev]
  refine JoinW.cut (fun (st : Int × Unit) w' => w' = w4 ∧ ∃ o : Nat, st = ((o : Int), ()) ∧ o < l) ?_ ?_
  · refine ifB_dec (fun h => ?_) (fun h => ?_)
    · rw [wr64 (x := (v : Int) - (l : Int)) (k := v - l) (by omega) (by omega)]
      exact ⟨rfl, v - l, rfl, by omega⟩
    · exact ⟨rfl, v, rfl, by omega⟩
  · rintro _ _ ⟨rfl, o, rfl, ho⟩
    dsimp only
    have eo : IntKind.i64.wrap ((a : Int) + (o : Int)) = ((a + o : Nat) : Int) := wr64 (by omega) (by omega)
    rw [eo]
    refine Dtw.swap (hD4) (i := a + o) (j := i) rfl rfl (by omega) (by omega) hn3.symm fun w5 hD5 c5 => ?_
    rw [wrap64_succ (by omega)]
    refine hnext (a + q * 2 + 2 - (i + 1)) _ _ (by omega) ⟨i + 1, _, y, rfl, rfl, by omega, by omega, hD5, ?_, c5.blk hS4 (Ne.symm (Blk.apart hD3 hS3 hT'.symm)), hF4.chg c5 (.inl rfl)⟩
    exact Go.Sort.permIn_trans _ _ _ a b hP3 (Go.Sort.swp_permIn d3 a b i (a + o) (by omega) (by omega) (by omega) (by omega) (by omega))

/-! ### pdqsort -/
theorem pdq_spec : ∀ (N a b : Nat) (lim : Int) (w : World) (d : Array Int) (R : Value → World → Prop), b - a ≤ N → Dtw w g rest d → n = d.size → n ≤ 35184372088832 → a ≤ b → b ≤ n → Go.Sort.Below ltI a b d →
    (∀ w' d', Dtw w' g rest d' → Go.Sort.PermIn a b d d' → Go.Sort.SortedIn ltI a b d' → Fr w.heap.size (· = g) w w' → R (.tuple #[]) w') →
    callR Try.prog 105 #[.slice (some (blk g)) n c, .int .i64 (a : Int), .int .i64 (b : Int), .int .i64 lim] w R := by
  intro N
  induction N with
  | zero =>
    intro a b lim w d R hN hD hn hmax hab hb hB hR
    refine callR.of (slices_pdqsortOrdered_uint32_calls ⟨some (blk g), n, c⟩ a b lim R w ?_) fun _ _ h => h
    refine LoopW.ghost (fun _ st w' => st = ((a : Int), (b : Int), lim, true, true, ()) ∧ w' = w) 0 ⟨rfl, rfl⟩ ?_
    rintro _ _ w1 ⟨rfl, rfl⟩ next _
    dsimp only
    have e : IntKind.i64.wrap ((b : Int) - (a : Int)) = ((b - a : Nat) : Int) := wr64 (by omega) (by omega)
    rw [e]
    refine ifB_dec (fun h => ?_) (fun h => by omega)
    refine insU_spec hD hn hmax hab hb fun w2 hD2 hF2 => ⟨rfl, ?_⟩
    obtain ⟨p1, p2⟩ := Go.Sort.insertionSort_holds Go.Sort.swo_ltInt d a b hab (by omega)
    exact hR w2 _ hD2 p1 p2 hF2
  | succ N ih =>
    intro a0 b0 lim0 w d0 R hN hD0 hn0 hmax hab0 hb0 hB0 hR
    refine callR.of (slices_pdqsortOrdered_uint32_calls ⟨some (blk g), n, c⟩ a0 b0 lim0 R w ?_) fun _ _ h => h
    refine LoopW.ghost (fun k (st : Int × Int × Int × Bool × Bool × Unit) w' => ∃ (a b : Nat) (lim : Int) (wb wp : Bool) (d : Array Int), st = ((a : Int), (b : Int), lim, wb, wp, ()) ∧ k = b - a ∧ b - a ≤ N + 1 ∧ a ≤ b ∧ b ≤ n ∧ Dtw w' g rest d ∧ d.size = n ∧ Go.Sort.Below ltI a b d ∧
      (∀ D, Go.Sort.PermIn a b d D → Go.Sort.SortedIn ltI a b D → Go.Sort.PermIn a0 b0 d0 D ∧ Go.Sort.SortedIn ltI a0 b0 D) ∧ Fr w.heap.size (· = g) w w') (b0 - a0)
      ⟨a0, b0, lim0, true, true, d0, rfl, rfl, hN, hab0, hb0, hD0, hn0.symm, hB0, fun D h1 h2 => ⟨h1, h2⟩, Fr.refl _ _ _⟩ ?_
    rintro _ _ w1 ⟨a, b, lim, wb, wp, d, rfl, rfl, hk, hab, hb, hD, hn, hB, hC, hF⟩ next hnext
    dsimp only
    have e : IntKind.i64.wrap ((b : Int) - (a : Int)) = ((b - a : Nat) : Int) := wr64 (by omega) (by omega)
    rw [e]
    refine ifB_dec (fun h => ?_) (fun h12 => ?_)
    · refine insU_spec hD hn.symm hmax hab hb fun w2 hD2 hF2 => ⟨rfl, ?_⟩
      obtain ⟨p1, p2⟩ := Go.Sort.insertionSort_holds Go.Sort.swo_ltInt d a b hab (by omega)
      obtain ⟨q1, q2⟩ := hC _ p1 p2
      exact hR w2 _ hD2 q1 q2 (hF.onto hF2 hF.size)
    have h12 : 12 < b - a := by omega
    refine ifB_beq (fun _ => ?_) (fun _ => ?_)
    · refine heap_spec hD hn.symm hmax (by omega) hb fun w2 hD2 hF2 => ⟨rfl, ?_⟩
      obtain ⟨p1, p2⟩ := Go.Sort.heapSort_holds Go.Sort.swo_ltInt d a b hab (by omega)
      obtain ⟨q1, q2⟩ := hC _ p1 p2
      exact hR w2 _ hD2 q1 q2 (hF.onto hF2 hF.size)
    refine JoinW.cut (fun _ w' => ∃ d1, Dtw w' g rest d1 ∧ Go.Sort.PermIn a b d d1 ∧ Fr w.heap.size (· = g) w w') ?_ ?_
    · refine ifB_not (ifB_bool (fun _ => ⟨d, hD, Go.Sort.permIn_refl d a b, hF⟩) (fun _ => ?_))
      exact break_spec hD hn.symm hmax (by omega) hb fun w2 d2 hD2 hP2 hF2 => ⟨rfl, d2, hD2, hP2, hF.onto hF2 hF.size⟩
    rintro ⟨lim1, _⟩ w2 ⟨d1, hD1, hP1, hF1⟩
    have hn1 : d1.size = n := by rw [hP1.1]; exact hn
    have hB1 := hB.perm (by omega) hP1
    dsimp only
    refine pivot_spec hD1 hn1.symm hmax (by omega) hb fun w3 pv hint hp1 hp2 hD1' hF3 => ⟨_, _, rfl, ?_⟩
    have hF3 := hF1.onto hF3 hF1.size
    refine JoinW.cut (fun (st : Int × Int × Unit) w' => ∃ (p : Nat) (h : Int) (d2 : Array Int), st = ((p : Int), h, ()) ∧ a ≤ p ∧ p < b ∧ Dtw w' g rest d2 ∧ Go.Sort.PermIn a b d1 d2 ∧ Fr w.heap.size (· = g) w w') ?_ ?_
    · refine ifB_beq (fun _ => ?_) (fun _ => ⟨pv, hint, d1, rfl, hp1, hp2, hD1', Go.Sort.permIn_refl d1 a b, hF3⟩)
      refine reverse_spec hD1' hn1.symm hmax (by omega) hb fun w4 hD4 hF4 => ⟨rfl, ?_⟩
      have e1 : IntKind.i64.wrap ((b : Int) - 1) = ((b - 1 : Nat) : Int) := wr64 (by omega) (by omega)
      have e2 : IntKind.i64.wrap ((pv : Int) - (a : Int)) = ((pv - a : Nat) : Int) := wr64 (by omega) (by omega)
      have e3 : IntKind.i64.wrap (((b - 1 : Nat) : Int) - ((pv - a : Nat) : Int)) = ((b - 1 - (pv - a) : Nat) : Int) := wr64 (by omega) (by omega)
      rw [e1, e2, e3]
      exact ⟨b - 1 - (pv - a), 1, _, rfl, by omega, by omega, hD4, Go.Sort.reverseRange_holds d1 a b hab (by omega), hF3.onto hF4 hF3.size⟩
    rintro _ w4 ⟨p, hi, d2, rfl, hp3, hp4, hD2, hP2, hF4⟩
    have hn2 : d2.size = n := by rw [hP2.1]; exact hn1
    have hB2 := hB1.perm (by omega) hP2
    have hP02 := Go.Sort.permIn_trans _ _ _ a b hP1 hP2
    dsimp only
    refine JoinW.cut (fun _ w' => ∃ d3, Dtw w' g rest d3 ∧ Go.Sort.PermIn a b d2 d3 ∧ Fr w.heap.size (· = g) w w') ?_ ?_
    · have same : ∃ d3, Dtw w4 g rest d3 ∧ Go.Sort.PermIn a b d2 d3 ∧ Fr w.heap.size (· = g) w w4 := ⟨d2, hD2, Go.Sort.permIn_refl d2 a b, hF4⟩
      refine ifB_bool (fun _ => ifB_bool (fun _ => ifB_beq (fun _ => ?_) (fun _ => same)) (fun _ => same)) (fun _ => same)
      refine partial_spec hD2 hn2.symm hmax (by omega) hb fun w5 hD5 hF5 => ⟨_, rfl, ?_⟩
      obtain ⟨p1, p2⟩ := Go.Sort.partialInsertionSort_holds Go.Sort.swo_ltInt d2 a b (by omega) (by omega) hB2
      refine ifB_bool (fun hs => ?_) (fun _ => ⟨_, hD5, p1, hF4.onto hF5 hF4.size⟩)
      obtain ⟨q1, q2⟩ := hC _ (Go.Sort.permIn_trans _ _ _ a b hP02 p1) (p2 hs)
      exact hR w5 _ hD5 q1 q2 (hF4.onto hF5 hF4.size)
    rintro _ w5 ⟨d3, hD3, hP3, hF5⟩
    have hn3 : d3.size = n := by rw [hP3.1]; exact hn2
    have hB3 := hB2.perm (by omega) hP3
    have hP03 := Go.Sort.permIn_trans _ _ _ a b hP02 hP3
    have hC3 : ∀ D, Go.Sort.PermIn a b d3 D → Go.Sort.SortedIn ltI a b D → Go.Sort.PermIn a0 b0 d0 D ∧ Go.Sort.SortedIn ltI a0 b0 D := fun D h1 h2 => hC D (Go.Sort.permIn_trans _ _ _ a b hP03 h1) h2
    refine JoinW.cut (fun (st : Int × Unit) w' => st = ((a : Int), ()) ∧ Dtw w' g rest d3 ∧ Fr w.heap.size (· = g) w w') ?_ ?_
    · refine ifB_dec (fun h => ?_) (fun h => ⟨rfl, hD3.drew, hF5.drew⟩)
      have ha0 : 0 < a := by omega
      have e1 : IntKind.i64.wrap ((a : Int) - 1) = ((a - 1 : Nat) : Int) := wr64 (by omega) (by omega)
      rw [e1]
      refine hD3.drew.at rfl (by omega) hn3.symm (hD3.drew.at rfl (by omega) hn3.symm (Less_spec ⟨_, rfl, ?_⟩))
      refine ifB_not (ifB_bool (fun _ => ⟨rfl, hD3.drew, hF5.drew⟩) (fun hl => ?_))
      refine partEq_spec hD3.drew hn3.symm hmax (by omega) hb hp3 hp4 fun w6 hD6 hF6 => ⟨_, rfl, ?_⟩
      obtain ⟨r1, r2, r3, r4, r5⟩ := Go.Sort.round_eq (lt := ltI) Go.Sort.swo_ltInt (Go.Sort.partitionEqual_holds ltI) ha0 hp3 hp4 (by omega) hB3 hl (Prod.eta _).symm
      exact hnext (b - (Go.Sort.partitionEqual ltI d3 a b p).1) _ _ (by omega) ⟨_, b, lim1, wb, wp, _, rfl, rfl, by omega, r2, hb, hD6, by rw [r3]; exact hn3, r4, fun D h1 h2 => by
        obtain ⟨s1, s2⟩ := r5 D h1 h2
        exact hC3 D s1 s2, hF5.drew.onto hF6 hF5.drew.size⟩
    rintro _ w6 ⟨rfl, hD6, hF6⟩
    dsimp only
    refine ptn_spec hD6 hn3.symm hmax (by omega) hb hp3 hp4 fun w7 hD7 hF7 => ⟨_, _, rfl, ?_⟩
    have hF7 := hF6.onto hF7 hF6.size
    obtain ⟨r1, r2, r3, r4, r5, r6, r7⟩ := Go.Sort.round_part (lt := ltI) Go.Sort.swo_ltInt (Go.Sort.partition_holds ltI) hp3 hp4 (by omega) hB3 (mid := (Go.Sort.partition ltI d3 a b p).1) (ap := (Go.Sort.partition ltI d3 a b p).2.1) (d4 := (Go.Sort.partition ltI d3 a b p).2.2) rfl
    generalize (Go.Sort.partition ltI d3 a b p).1 = mid at r1 r2 r4 r5 r6 r7 ⊢
    generalize (Go.Sort.partition ltI d3 a b p).2.1 = ap
    generalize (Go.Sort.partition ltI d3 a b p).2.2 = d4 at hD7 r3 r4 r5 r6 r7
    have hn4 : d4.size = n := by rw [r3]; exact hn3
    have e1 : IntKind.i64.wrap ((mid : Int) + 1) = ((mid + 1 : Nat) : Int) := wr64 (by omega) (by omega)
    rw [e1]
    refine ifB_dec (fun _ => ?_) (fun _ => ?_)
    · refine ih a mid lim1 w7 d4 _ (by omega) hD7 hn4.symm hmax r1 (by omega) r4 fun w8 d8 hD8 hP8 hS8 hF8 => ⟨rfl, ?_⟩
      obtain ⟨t1, t2⟩ := r6 d8 hP8 hS8
      exact hnext (b - (mid + 1)) _ _ (by omega) ⟨mid + 1, b, lim1, _, _, d8, rfl, rfl, by omega, by omega, hb, hD8, by rw [hP8.1]; exact hn4, t1, fun D h1 h2 => by
        obtain ⟨s1, s2⟩ := t2 D h1 h2
        exact hC3 D s1 s2, hF7.onto hF8 hF7.size⟩
    · refine ih (mid + 1) b lim1 w7 d4 _ (by omega) hD7 hn4.symm hmax (by omega) hb r5 fun w8 d8 hD8 hP8 hS8 hF8 => ⟨rfl, ?_⟩
      obtain ⟨t1, t2⟩ := r7 d8 hP8 hS8
      exact hnext (mid - a) _ _ (by omega) ⟨a, mid, lim1, _, _, d8, rfl, rfl, by omega, r1, by omega, hD8, by rw [hP8.1]; exact hn4, t1, fun D h1 h2 => by
        obtain ⟨s1, s2⟩ := t2 D h1 h2
        exact hC3 D s1 s2, hF7.onto hF8 hF7.size⟩
end
end Go.Proofs

/-!
  slices.Sort, slices.Sorted of slices.Values, at words.
-/
namespace Go.Proofs
open Go.Gk Go.RowKit

section
variable {w : World} {R : Value → World → Prop}
theorem sort_nil (hR : R (.tuple #[]) w) : callR Try.prog 79 #[.slice none 0 0] w R := by
  refine callR.of (slices_Sort_suint32_uint32_calls ⟨none, 0, 0⟩ R w ?_) fun _ _ h => h
  unfold L_slices_Sort_suint32_uint32
  have e0 : IntKind.u64.wrap (((⟨none, 0, 0⟩ : Sl).l : Nat) : Int) = ((0 : Nat) : Int) := by decide
  rw [e0]
  refine Len_spec (x := 0) (by omega) fun L _ _ => ⟨_, rfl, ?_⟩
  refine callR.of (slices_pdqsortOrdered_uint32_calls ⟨none, 0, 0⟩ 0 0 L _ w ?_) fun _ _ h => h
  refine LoopW.ghost (fun _ st w' => st = ((0 : Int), (0 : Int), (L : Int), true, true, ()) ∧ w' = w) 0 ⟨rfl, rfl⟩ ?_
  rintro _ _ w ⟨rfl, rfl⟩ next _
  refine ifB_true (by show decide (IntKind.i64.wrap ((0 : Int) - 0) ≤ 12) = true; decide) ?_
  refine callR.of (slices_insertionSortOrdered_uint32_calls ⟨none, 0, 0⟩ 0 0 _ w ?_) fun _ _ h => h
  refine LoopW.ghost (fun _ (st : Int × Unit) w' => st = (1, ()) ∧ w' = w) 0 ⟨rfl, rfl⟩ ?_
  rintro _ _ w ⟨rfl, rfl⟩ next _
  exact ifB_false (by decide) ⟨rfl, rfl, hR⟩
theorem SortU_spec {r : Sl} {T : List Int} (h : Own w 22 1 r (T.map (Value.int .u32))) (hmax : T.length ≤ 35184372088832)
    (hR : ∀ (A : List Int) w', Own w' 22 1 r (A.map (Value.int .u32)) → A.Perm T → A.Pairwise (· ≤ ·) → Fr w.heap.size (fun k => r.a = some (blk k)) w w' → R (.tuple #[]) w') :
    callR Try.prog 79 #[.slice r.a r.l r.c] w R := by
  obtain ⟨h0, hc⟩ := h
  rw [List.length_map, Nat.mul_one] at h0
  rcases hc with rfl | ⟨g, cs, ha, hB, h1, h2, h3, h4⟩
  · have hT : T = [] := List.eq_nil_of_length_eq_zero h0
    subst hT
    exact sort_nil (hR [] w (Own.nil _ _ _) (List.Perm.refl _) List.Pairwise.nil (Fr.refl _ _ _))
  · obtain ⟨ra, rl, rc⟩ := r
    dsimp only at h0 ha h1 h2 h3 h4
    subst ha
    have hD : Dtw w g (cs.drop rl) T.toArray := by
      unfold Dtw
      rw [Nat.mul_one] at h4
      rw [List.toList_toArray, ← h4, List.take_append_drop]
      exact hB
    refine callR.of (slices_Sort_suint32_uint32_calls ⟨some (blk g), rl, rc⟩ R w ?_) fun _ _ h => h
    unfold L_slices_Sort_suint32_uint32
    dsimp only
    rw [uwrap (x := rl) (by omega)]
    refine Len_spec (by omega) fun L _ _ => ⟨_, rfl, ?_⟩
    have hp := pdq_spec (g := g) (n := rl) (c := rc) (rest := cs.drop rl) rl 0 rl (L : Int) w T.toArray (fun v w' => v = .tuple #[] ∧ R (.tuple #[]) w') (by omega) hD (by simpa using h0.symm) (by omega) (by omega) (Nat.le_refl _) (.inl rfl) fun w' d' hD' hP hS hF => ⟨rfl, ?_⟩
    · exact hp
    · have hsz : d'.size = rl := by rw [hP.1]; simpa using h0
      refine hR d'.toList w' ⟨by rw [List.length_map, Nat.mul_one]; simpa using hsz, .inr ⟨g, _, rfl, hD', h1, h2, ?_, ?_⟩⟩ ?_ ?_ (hF.mono (Nat.le_refl _) fun k _ hk => by rw [hk])
      · rw [List.length_append, List.length_map, List.length_drop, h3, Nat.mul_one, Array.length_toList, hsz]
        omega
      · rw [List.take_left' (by rw [List.length_map, Array.length_toList, hsz, Nat.mul_one])]
      · have := hP.2.2
        rw [Array.toList_extract, Array.toList_extract, List.extract_eq_take_drop, List.extract_eq_take_drop] at this
        simp only [List.drop_zero, Nat.sub_zero] at this
        rwa [List.take_of_length_le (by rw [Array.length_toList]; omega), List.take_of_length_le (by omega)] at this
      · rw [List.pairwise_iff_getElem]
        intro i j hi hj hij
        rw [Array.length_toList] at hi hj
        have := hS i j (Nat.zero_le _) hij (by omega)
        rw [getElem!_pos d' i hi, getElem!_pos d' j hj] at this
        have := of_decide_eq_false this
        simp only [Array.getElem_toList]
        omega
/-- append: what lies below B stays. -/
theorem push_at {P : Program} {t e : TypeId} {sz bytes B : Nat} (he : ElemT P t e sz bytes) {w : World} {s : Sl} {xs : List Value} (h : Own w e sz s xs) (hB0 : B ≤ w.heap.size) (hF : Fresh B s) {vs : List Value} (hvs : vs.length = sz) (hv : ∀ u ∈ vs, u.oneCell' = true) {b c : Nat} {T : TypeId}
    (hB : Blk w b T vs) (h63 : s.l + 1 ≤ 9223372036854775807) (hbytes : (s.l + 1) * bytes ≤ 140737488355328) {k : Sl → World → Prop}
    (hk : ∀ r w', Own w' e sz r (xs ++ vs) → Below B w w' → Fresh B r → k r w') : appendS P t (.slice s.a s.l s.c) (.slice (some (blk b)) 1 c) w k := by
  refine append_own he h (news := vs) (by omega) (fun j u hj => hB.cell hj) hv h63 hbytes fun r w' h1 hl' hg => ?_
  rcases hg with ⟨_, _, h3⟩ | ⟨b', h3, h4, h5⟩
  · rw [h3] at hl'; omega
  · have hbb : B ≤ b' := by
      rcases h4 with h4 | h4
      · exact hF _ h4
      · omega
    exact hk r w' h1 (below_grown h5 hbb hB0) (fun a ha => by rw [h3] at ha; cases ha; exact hbb)
theorem AppendSeq_spec {s : Sl} {T : List Int} {vb : Nat} {Tv : TypeId} (hS : IsS (Value.int .u32) w s T) (hV : Blk w vb Tv [.slice s.a s.l s.c]) (hmax : T.length ≤ 35184372088832)
    (hR : ∀ r w', Own w' 22 1 r (T.map (Value.int .u32)) → Fresh w.heap.size r → Below w.heap.size w w' → R (.slice r.a r.l r.c) w') :
    callR Try.prog 104 #[.slice none 0 0, .func (.func 80) #[] #[.pointer (some (blk vb))]] w R := by
  refine callR.of (slices_AppendSeq_suint32_uint32_calls ⟨none, 0, 0⟩ _ R w ?_) fun _ _ h => h
  refine lay_of fun w4 hC4 b4 z4 => ?_
  have hC4 : Blk w4 w.heap.size 36 [.slice none 0 0] := hC4
  intro mk hy
  have hcf : Try.fs.contains 80 = true := by kernel_rfl
  unfold callF
  simp only [hcf]
  generalize hw5 : ((w4.alloc (.deferred (some []))).alloc (mk .ready none)) = w5
  have b5 : Below w4.heap.size w4 w5 := by rw [← hw5]; exact laid_below w4 _ _
  have z5 : w5.heap.size = w4.heap.size + 2 := by rw [← hw5]; exact laid_size w4 _ _
  have hd5 : w5.heap[w4.heap.size]? = some (.deferred (some [])) := by rw [← hw5]; exact laid_d w4 _ _
  have hl5 : w5.heap[w4.heap.size + 1]? = some (mk .ready none) := by rw [← hw5]; exact laid_l w4 _ _
  clear hw5
  have b45 := b4.on b5
  have hlt := hV.lt
  refine callR.of (slices_Values_suint32_uint32__1_calls (.func (.yield (w4.heap.size + 1)) #[] #[]) (blk vb) _ w5 ?_) fun _ _ h => h
  refine ((hV.below b4).below b5).cell0 rfl |> fun hc => ⟨s, hc, ?_⟩
  have hsl := hS.len
  refine LoopW.count T.length hS.bound (fun k w' => w'.heap[w4.heap.size + 1]? = some (mk .ready none) ∧ w'.heap[w4.heap.size]? = some (.deferred (some [])) ∧ w5.heap.size ≤ w'.heap.size ∧ Below w.heap.size w w' ∧
    ∃ r, Blk w' w.heap.size 36 [.slice r.a r.l r.c] ∧ Own w' 22 1 r ((T.take k).map (Value.int .u32)) ∧ Fresh w5.heap.size r)
    ⟨hl5, hd5, Nat.le_refl _, b45, ⟨none, 0, 0⟩, hC4.below b5, Own.nil _ _ _, fun a ha => by (cases ha)⟩ ?_
  rintro k w6 hk ⟨hl6, hd6, hz6, hb6, r, hC6, hO6, hF6⟩ next hnext
  refine ifB_dec (fun h => ?_) (fun h => ?_)
  · have hkl : k < T.length := by dsimp only at h; omega
    refine elemU (hS.below hb6) hkl ?_
    refine hy (T[k], ()) w6 _ hl6 ?_
    have hlt6 : w4.heap.size + 1 < w6.heap.size := (Array.getElem?_eq_some_iff.1 hl6).1
    refine ⟨hl6, Nw.gen fun w7 e7 => ?_⟩
    have ho7 : ∀ b, b ≠ w4.heap.size + 1 → w7.heap[b]? = w6.heap[b]? := fun b hb => by rw [e7]; exact World.putObj_heap_other hb
    have hz7 : w7.heap.size = w6.heap.size := by rw [e7]; simp
    have hl7 : w7.heap[w4.heap.size + 1]? = some (mk .busy none) := by rw [e7]; exact put_self hlt6 _
    have hb7 : Below w.heap.size w w7 := by rw [e7]; exact hb6.putObj (by omega) _
    clear e7
    have hC7 := hC6.of_block (ho7 _ (by omega))
    have hO7 : Own w7 22 1 r ((T.take k).map (Value.int .u32)) := hO6.of_block fun a ha => ho7 _ (by have := hF6 a ha; omega)
    have hd7 : w7.heap[w4.heap.size]? = some (.deferred (some [])) := by rw [ho7 _ (by omega)]; exact hd6
    refine hC7.cell0 rfl |> fun hc => ⟨r, hc, ?_⟩
    refine lay_of fun w8 hD8 b8 z8 => ?_
    have hrl : r.l = k := by
      have := hO6.1
      rw [List.length_map, List.length_take] at this
      omega
    refine push_at eU32 (hO7.below b8) (B := w5.heap.size) (by have := b8.size; omega) hF6 rfl (by simp [Value.oneCell']) hD8 (by omega) (by omega) fun r' w9 hO9 b9 hF9 => ?_
    have b79 : Below w5.heap.size w7 w9 := (b8.mono (by omega)).trans b9
    have kb : ∀ i, i < w5.heap.size → w9.heap[i]? = w7.heap[i]? := fun i hi => b79.block i hi
    have hC9 := hC7.of_block (kb _ (by omega))
    refine ⟨hC9.wr0 (by simp), Nw.gen fun w10 e10 => ?_⟩
    have c10 : Chg w.heap.size w9 w10 := by rw [e10]; exact Chg.set w.heap.size 0 w9 _
    have hC10 : Blk w10 w.heap.size 36 [.slice r'.a r'.l r'.c] := by rw [e10]; exact hC9.set0 _
    clear e10
    have hl10 : w10.heap[w4.heap.size + 1]? = some (mk .busy none) := by rw [c10.block _ (by omega), kb _ (by omega)]; exact hl7
    have hlt10 : w4.heap.size + 1 < w10.heap.size := (Array.getElem?_eq_some_iff.1 hl10).1
    have s79 := b79.size
    have s10 := c10.size
    refine ⟨hl10, ⟨true, rfl, ifB_false rfl (hnext _ hkl ⟨put_self hlt10 _, ?_, by simp; omega, ?_, r', ?_, ?_, hF9⟩)⟩⟩
    · rw [World.putObj_heap_other (by omega), c10.block _ (by omega), kb _ (by omega)]
      exact hd7
    · exact (c10.below (hb7.trans (b79.mono (by omega))) (Nat.le_refl _)).putObj (by omega) _
    · exact hC10.put (by omega) _
    · rw [List.take_succ_eq_append_getElem hkl, List.map_append]
      have hO10 : Own w10 22 1 r' ((T.take k).map (Value.int .u32) ++ [Value.int .u32 T[k]]) := hO9.of_block fun a ha => c10.block _ (by have := hF9 a ha; omega)
      exact hO10.of_block fun a ha => World.putObj_heap_other (by have := hF9 a ha; omega)
  · have hk' : k = T.length := by dsimp only at h; omega
    subst hk'
    rw [List.take_length] at hO6
    refine ⟨hl6, ?_⟩
    have hC7 := hC6.put (l := w4.heap.size + 1) (by omega) (mk .exhausted none)
    refine hC7.cell0 rfl |> fun hc => ⟨r, hc, ?_⟩
    refine closeM_one (by rw [World.putObj_heap_other (by omega)]; exact hd6) ?_
    refine hR r _ ?_ (fun a ha => by have := hF6 a ha; omega) ((hb6.putObj (by omega) _).putObj (by omega) _)
    refine (hO6.of_block fun a ha => World.putObj_heap_other (by have := hF6 a ha; omega)).of_block fun a ha => World.putObj_heap_other (by have := hF6 a ha; omega)
theorem Sorted_spec {s : Sl} {T : List Int} {vb : Nat} {Tv : TypeId} (hS : IsS (Value.int .u32) w s T) (hV : Blk w vb Tv [.slice s.a s.l s.c]) (hmax : T.length ≤ 35184372088832)
    (hR : ∀ r (A : List Int) w', Own w' 22 1 r (A.map (Value.int .u32)) → A.Perm T → A.Pairwise (· ≤ ·) → Below w.heap.size w w' → R (.slice r.a r.l r.c) w') :
    callR Try.prog 49 #[.func (.func 80) #[] #[.pointer (some (blk vb))]] w R := by
  refine callR.of (slices_Sorted_uint32_calls _ R w ?_) fun _ _ h => h
  refine callR.of (slices_Collect_uint32_calls _ _ w ?_) fun _ _ h => h
  refine AppendSeq_spec hS hV hmax fun r w1 hO1 hF1 b1 => ⟨r, rfl, r, rfl, ?_⟩
  refine SortU_spec hO1 hmax fun A w2 hO2 hP hA hF2 => ⟨rfl, ?_⟩
  refine hR r A w2 hO2 hP hA (b1.trans ⟨hF2.os, hF2.tape, hF2.output, hF2.size, fun k hk => hF2.block k (by have := b1.size; omega) fun e => ?_⟩)
  have := hF1 _ e
  have : (blk k).block = k := rfl
  omega
end
end Go.Proofs
