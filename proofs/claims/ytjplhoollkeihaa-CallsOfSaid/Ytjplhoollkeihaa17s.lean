/-
  slices.SortStableFunc at numbers 0 .. n - 1: in order of depth, then of number.
-/
import Derived.Test.YtjplhoollkeihaaStP
import Derived.Test.Ytjplhoollkeihaa14p
import Derived.Test.YtjplhoollkeihaaL17b
namespace Go.Proofs
open Go.Gk Go.RowKit Go.Gr Go.St

theorem own_set {w : World} {T : TypeId} {s : Sl} {xs : List Value} (h : Own w T 1 s xs) {i : Nat} (hi : i < xs.length) (v : Value) : ∃ b, s.a = some (Gk.blk b) ∧ Wr w ((Gk.blk b).add i) ∧ Own (w.setCell ((Gk.blk b).add i) v) T 1 s (xs.set i v) := by
  obtain ⟨hl, h | ⟨b, cs, ha, hB, hc, hm, hcl, ht⟩⟩ := h
  · subst h
    simp at hl
    subst hl
    simp at hi
  · refine ⟨b, ha, hB.wr (by omega), ⟨by rw [List.length_set]; exact hl, .inr ⟨b, cs.set i v, ha, hB.set i v, hc, hm, by rw [List.length_set]; exact hcl, ?_⟩⟩⟩
    rw [← ht, List.take_set]
abbrev rowD (n : Nat) (d : Nat → Nat) : List Nat := (List.range n).map d
theorem rowD_set {n : Nat} {d : Nat → Nat} {i v : Nat} : (rowD n d).set i v = rowD n (St.upd d i v) := by
  apply List.ext_getElem
  · simp
  · intro k h1 h2
    simp only [List.getElem_set, List.getElem_map, List.getElem_range, St.upd]
    by_cases e : i = k
    · rw [if_pos e, if_pos e.symm]
    · rw [if_neg e, if_neg fun e' => e e'.symm]
/-- The row that is sorted: its slice r of n numbers reads d; nothing else has changed since w0. -/
structure Ds (r : Sl) (n : Nat) (w0 w : World) (d : Nat → Nat) : Prop where
  on : Only r w0 w
  own : Own w 3 1 r ((rowD n d).map iN)
section
variable {r : Sl} {n : Nat} {w0 w : World} {d : Nat → Nat}
theorem Ds.drew (h : Ds r n w0 w d) : Ds r n w0 w.drew d := ⟨h.on.drew, h.own.drew⟩
theorem Ds.len (h : Ds r n w0 w d) : r.l = n := by have := own_len h.own; simpa using this
theorem Ds.cong (h : Ds r n w0 w d) {d' : Nat → Nat} (hd : ∀ k, k < n → d' k = d k) : Ds r n w0 w d' := by
  refine ⟨h.on, ?_⟩
  have e : rowD n d' = rowD n d := List.map_congr_left fun k hk => hd k (List.mem_range.1 hk)
  rw [e]; exact h.own
theorem Ds.get (h : Ds r n w0 w d) {i : Nat} (hi : i < n) {x : Int} (hx : x = (i : Int)) {φ : Int → Prop} (hφ : φ (d i : Int)) : (0 ≤ x ∧ x < (r.l : Int)) ∧ derefP r.a fun a => ldI w (a.add (Int.toNat x)) .i64 φ := by
  subst hx
  refine elemI (IsS.toI (Own.isS h.own)) (k := i) (by simp; exact hi) ?_
  simpa using hφ
theorem Ds.put (h : Ds r n w0 w d) {i v : Nat} (hi : i < n) {x y : Int} (hx : x = (i : Int)) (hy : y = (v : Int)) {K : World → Prop} (hK : ∀ w', Ds r n w0 w' (St.upd d i v) → K w') :
    (0 ≤ x ∧ x < (r.l : Int)) ∧ derefP r.a fun a => Wr w (a.add (Int.toNat x)) ∧ Nw (w.setCell (a.add (Int.toNat x)) (.int .i64 y)) K := by
  subst hx hy
  have hl := h.len
  obtain ⟨b, hb, hw, ho⟩ := own_set h.own (i := i) (by simp; exact hi) (iN v)
  refine ⟨⟨by omega, by omega⟩, derefP_some hb ⟨hw, Nw.mk (hK _ ⟨h.on.set hb i _, ?_⟩)⟩⟩
  rw [← rowD_set, List.map_set]
  exact ho
/-- What cmp answers. -/
def CmpOk (r : Sl) (n : Nat) (w0 : World) (y : Value) (dp : Nat → Int) : Prop := ∀ w', Only r w0 w' → ∀ a b : Nat, a < n → b < n → ∀ K : Value → World → Prop, (∀ c : Int, (c < 0 ↔ dp a < dp b) → K (.int .i64 c) w'.drew) → callV Try.prog Try.fs y [.int .i64 (a : Int), .int .i64 (b : Int)] w' K
variable {y : Value} {dp : Nat → Int}

theorem mid_eq {a b : Nat} (h : a + b < 4611686018427387904) : IntKind.i64.wrap (Int.fdiv (IntKind.u64.wrap (IntKind.i64.wrap ((a : Int) + (b : Int)))) (2 ^ (min 1 (IntKind.bits .u64)))) = (((a + b) / 2 : Nat) : Int) := by
  rw [wrap64_in (x := (a : Int) + b) (by omega) (by omega)]
  have e1 : IntKind.u64.wrap ((a : Int) + (b : Int)) = (a : Int) + (b : Int) := by
    unfold IntKind.wrap
    simp only [IntKind.signed, IntKind.bits]
    simp
    omega
  rw [e1]
  have e2 : (2 : Int) ^ (min 1 (IntKind.bits .u64)) = 2 := by decide
  rw [e2, Int.fdiv_eq_ediv_of_nonneg _ (by decide)]
  rw [wrap64_in (by omega) (by omega)]
  omega

theorem swapRange_spec {a b m : Nat} (h1 : a + m ≤ b) (h2 : b + m ≤ n) (hn : n ≤ 4096) (hD : Ds r n w0 w d) {R : Value → World → Prop} (hR : ∀ w', Ds r n w0 w' (swr d a b m) → R (.tuple #[]) w')
    {xa xb xm : Int} (ea : xa = (a : Int)) (eb : xb = (b : Int)) (em : xm = (m : Int)) :
    callR Try.prog 224 #[.slice r.a r.l r.c, .int .i64 xa, .int .i64 xb, .int .i64 xm, y] w R := by
  subst ea eb em
  refine callR.of (slices_swapRangeCmpFunc_int_calls r (a : Int) (b : Int) (m : Int) y R w ?_) fun _ _ h => h
  refine LoopW.count m (by omega) (fun k w' => Ds r n w0 w' (swr d a b k)) (hD.cong fun k _ => by simp only [swr]; rw [if_neg (by omega), if_neg (by omega)]) ?_
  rintro k w1 hk hD1 next hnext
  refine ifB_dec (fun hlt => ?_) (fun hge => ?_)
  · have hlt : k < m := by dsimp only at hlt; omega
    have ea : IntKind.i64.wrap ((a : Int) + (k : Int)) = ((a + k : Nat) : Int) := by rw [wrap64_in (by omega) (by omega)]; omega
    have eb : IntKind.i64.wrap ((b : Int) + (k : Int)) = ((b + k : Nat) : Int) := by rw [wrap64_in (by omega) (by omega)]; omega
    refine hD1.drew.get (i := b + k) (by omega) eb (hD1.drew.get (i := a + k) (by omega) ea (hD1.drew.put (i := a + k) (by omega) ea rfl fun w2 hD2 => hD2.put (i := b + k) (by omega) eb rfl fun w3 hD3 => hnext _ hlt (hD3.cong fun j hj => ?_)))
    simp only [swr, St.upd]
    repeat' split
    all_goals first | omega | rfl | (congr 1; omega)
  · have : k = m := by dsimp only at hge; omega
    subst this
    exact hR w1 hD1

theorem rotate_spec {a m b : Nat} (h1 : a < m) (h2 : m < b) (h3 : b ≤ n) (hn : n ≤ 4096) (hD : Ds r n w0 w d) {R : Value → World → Prop} (hR : ∀ w', Ds r n w0 w' (rot d a m b) → R (.tuple #[]) w')
    {xa xm xb : Int} (ea : xa = (a : Int)) (em : xm = (m : Int)) (eb : xb = (b : Int)) :
    callR Try.prog 211 #[.slice r.a r.l r.c, .int .i64 xa, .int .i64 xm, .int .i64 xb, y] w R := by
  subst ea eb em
  refine callR.of (slices_rotateCmpFunc_int_calls r (a : Int) (m : Int) (b : Int) y R w ?_) fun _ _ h => h
  unfold L_slices_rotateCmpFunc_int
  rw [wrap64_in (x := (m : Int) - a) (by omega) (by omega), wrap64_in (x := (b : Int) - m) (by omega) (by omega)]
  refine LoopW.ghost (fun g (st : Int × Int × Unit) w' => ∃ i j : Nat, g = i + j ∧ st = ((i : Int), (j : Int), ()) ∧ 0 < i ∧ 0 < j ∧ i ≤ m ∧ m + j ≤ n ∧ ∃ dc, Ds r n w0 w' dc ∧ rot dc (m - i) m (m + j) = rot d a m b) ((m - a) + (b - m)) ⟨m - a, b - m, rfl, by congr 1 <;> (try congr 1) <;> omega, by omega, by omega, by omega, by omega, d, hD, by congr 1 <;> omega⟩ ?_
  rintro _ _ w1 ⟨i, j, rfl, rfl, hi, hj, him, hjn, dc, hD1, hrot⟩ next hnext
  have e1 : IntKind.i64.wrap ((m : Int) - (i : Int)) = ((m - i : Nat) : Int) := by rw [wrap64_in (by omega) (by omega)]; omega
  refine ifB_bne (fun hne => ifB_dec (fun hgt => ?_) fun hle => ?_) fun he => ?_
  · have hgt : j < i := by dsimp only at hgt; omega
    refine swapRange_spec (a := m - i) (b := m) (m := j) (by omega) (by omega) hn hD1 (fun w2 hD2 => ⟨rfl, hnext ((i - j) + j) _ _ (by omega) ⟨i - j, j, rfl, ?_, by omega, hj, by omega, hjn, _, hD2, ?_⟩⟩) e1 rfl rfl
    · dsimp only
      rw [wrap64_in (by omega) (by omega)]
      congr 1
      omega
    · rw [← hrot, ← rot_gt him hj hgt]
      congr 1
      omega
  · have hlt : i < j := by dsimp only at hle hne; omega
    have e2 : IntKind.i64.wrap (IntKind.i64.wrap ((m : Int) + (j : Int)) - (i : Int)) = ((m + j - i : Nat) : Int) := by rw [wrap64_in (x := (m : Int) + j) (by omega) (by omega), wrap64_in (by omega) (by omega)]; omega
    refine swapRange_spec (a := m - i) (b := m + j - i) (m := i) (by omega) (by omega) hn hD1 (fun w2 hD2 => ⟨rfl, hnext (i + (j - i)) _ _ (by omega) ⟨i, j - i, rfl, ?_, hi, by omega, him, by omega, _, hD2, ?_⟩⟩) e1 e2 rfl
    · dsimp only
      rw [wrap64_in (by omega) (by omega)]
      congr 2
      omega
    · rw [← hrot, ← rot_lt him hi hlt]
      congr 1
      omega
  · have he : i = j := by dsimp only at he; omega
    subst he
    refine swapRange_spec (a := m - i) (b := m) (m := i) (by omega) (by omega) hn hD1 (fun w2 hD2 => ⟨rfl, hR w2 ?_⟩) e1 rfl rfl
    rw [← hrot, ← rot_eq him]
    exact hD2

theorem insertion_spec {a b : Nat} (hab : a ≤ b) (hb : b ≤ n) (hn : n ≤ 4096) (hc : CmpOk r n w0 y dp) (hD : Ds r n w0 w d) (hid : ∀ k, a ≤ k → k < b → d k = k) {R : Value → World → Prop}
    (hR : ∀ w' d', Ds r n w0 w' d' → Bk dp d' a b → (∀ k, k < a ∨ b ≤ k → d' k = d k) → R (.tuple #[]) w') {xa xb : Int} (ea : xa = (a : Int)) (eb : xb = (b : Int)) :
    callR Try.prog 181 #[.slice r.a r.l r.c, .int .i64 xa, .int .i64 xb, y] w R := by
  subst ea eb
  refine callR.of (slices_insertionSortCmpFunc_int_calls r (a : Int) (b : Int) y R w ?_) fun _ _ h => h
  unfold L_slices_insertionSortCmpFunc_int
  rw [wrap64_in (x := (a : Int) + 1) (by omega) (by omega)]
  refine LoopW.ghost (fun g (st : Int × Unit) w' => ∃ i : Nat, a + 1 ≤ i ∧ g = b - i ∧ st = ((i : Int), ()) ∧ (i ≤ b ∨ i = a + 1) ∧ ∃ dc, Ds r n w0 w' dc ∧ Bk dp dc a (min i b) ∧ (∀ k, k < a ∨ min i b ≤ k → dc k = d k)) (b - (a + 1)) ⟨a + 1, by omega, rfl, rfl, .inr rfl, d, hD, ⟨fun i j _ _ _ => by omega, fun k h1 h2 => by rw [hid k h1 (by omega)]; omega⟩, fun _ _ => rfl⟩ ?_
  rintro _ _ w1 ⟨i, hi1, rfl, rfl, hi2, dI, hD1, hB, hout⟩ next hnext
  refine ifB_dec (fun hlt => ?_) (fun hge => ?_)
  · have hlt : i < b := by dsimp only at hlt; omega
    rw [Nat.min_eq_left (by omega)] at hB hout
    have hdi : dI i = i := by rw [hout i (.inr (Nat.le_refl _)), hid i (by omega) hlt]
    refine JoinW.cut (fun _ w' => ∃ dc, Ds r n w0 w' dc ∧ Bk dp dc a (i + 1) ∧ ∀ k, k < a ∨ i + 1 ≤ k → dc k = d k) ?_ fun _ w' ⟨dc, q1, q2, q3⟩ => hnext (b - (i + 1)) _ _ (by omega) ⟨i + 1, by omega, rfl, by dsimp only; rw [wrap64_succ (by omega)], .inl hlt, dc, q1, by rw [Nat.min_eq_left (by omega)]; exact q2, by rw [Nat.min_eq_left (by omega)]; exact q3⟩
    have fin : ∀ {j : Nat} {w'}, a ≤ j → j ≤ i → (∀ q, j ≤ q → q < i → lt dp i (dI q)) → (∀ q, a ≤ q → q < j → lt dp (dI q) i) → Ds r n w0 w' (rot dI j i (i + 1)) → ∃ dc, Ds r n w0 w' dc ∧ Bk dp dc a (i + 1) ∧ ∀ k, k < a ∨ i + 1 ≤ k → dc k = d k := fun {j w'} h1 h2 h3 h4 h5 => by
      have hp : Per dI (rot dI j i (i + 1)) a (i + 1) := rot_per h1 h2 (by omega) (Nat.le_refl _)
      refine ⟨_, h5, hB.merge (m := i) ⟨fun p q _ _ _ => by omega, fun k h6 h7 => by rw [show k = i by omega, hdi]; omega⟩ (by omega) (by omega) hp ?_, fun k hk => by rw [hp.out k hk]; exact hout k (by omega)⟩
      refine rot_so h1 h2 (by omega) (Nat.le_refl _) hB.so (fun p q _ _ _ => by omega) (fun p q h6 h7 h8 h9 => ?_) (fun p q _ _ _ _ => by omega) (fun p q h6 h7 h8 h9 => ?_) fun p q _ _ _ _ => by omega
      · rw [show q = i by omega, hdi]; exact h3 p h6 h7
      · rw [show q = i by omega, hdi]; exact h4 p h6 h7
    refine LoopW.ghost (fun g (st : Int × Unit) w' => ∃ j : Nat, a ≤ j ∧ j ≤ i ∧ g = j ∧ st = ((j : Int), ()) ∧ Ds r n w0 w' (rot dI j i (i + 1)) ∧ ∀ q, j ≤ q → q < i → lt dp i (dI q)) i ⟨i, by omega, Nat.le_refl _, rfl, rfl, by rw [rot_id1]; exact hD1, fun q h1 h2 => by omega⟩ ?_
    rintro g _ w2 ⟨j, hj1, hj2, hg, rfl, hD2, hq⟩ next2 hnext2
    have hg := hg.symm
    subst hg
    have hv : ∀ k, k < n → a ≤ k → k < i → dI k < n := fun k _ h1 h2 => by have := hB.own k h1 h2; omega
    refine JoinW.cut (fun _ w' => Ds r n w0 w' (rot dI j i (i + 1)) ∧ a < j ∧ lt dp i (dI (j - 1))) ?_ ?_
    · refine ifB_dec (fun hgt => ?_) fun hle => fin hj1 hj2 hq (fun q h1 h2 => by dsimp only at hle; omega) hD2.drew
      have hgt : a < j := by dsimp only at hgt; omega
      have e1 : IntKind.i64.wrap ((j : Int) - (1 : Int)) = ((j - 1 : Nat) : Int) := by rw [wrap64_in (by omega) (by omega)]; omega
      have r1 : rot dI j i (i + 1) j = i := by simp only [rot]; rw [if_pos (by omega), show j + (i - j) = i by omega, hdi]
      have r2 : rot dI j i (i + 1) (j - 1) = dI (j - 1) := by simp only [rot]; rw [if_neg (by omega), if_neg (by omega)]
      refine hD2.drew.get (i := j) (by omega) rfl (hD2.drew.get (i := j - 1) (by omega) e1 ?_)
      rw [r1, r2]
      have hj3 := hB.own (j - 1) (by omega) (by omega)
      refine hc _ hD2.drew.on i (dI (j - 1)) (by omega) (by omega) _ fun c hc' => ⟨c, rfl, ifB_dec (fun hlt0 => ⟨hD2.drew.drew, hgt, .inl (hc'.1 hlt0)⟩) fun hge0 => ?_⟩
      refine fin hj1 hj2 hq (fun q h1 h2 => ?_) hD2.drew.drew
      have hl : lt dp (dI (j - 1)) i := by
        have : ¬ dp i < dp (dI (j - 1)) := fun h => hge0 (hc'.2 h)
        unfold lt
        omega
      by_cases e : q = j - 1
      · rw [e]; exact hl
      · exact lt_trans dp (hB.so q (j - 1) h1 (by omega) (by omega)) hl
    · rintro _ w4 ⟨hD4, hgt, hl⟩
      have e1 : IntKind.i64.wrap ((j : Int) - (1 : Int)) = ((j - 1 : Nat) : Int) := by rw [wrap64_in (by omega) (by omega)]; omega
      refine hD4.drew.get (i := j - 1) (by omega) e1 (hD4.drew.get (i := j) (by omega) rfl (hD4.drew.put (i := j) (by omega) rfl rfl fun w5 hD5 => hD5.put (i := j - 1) (by omega) e1 rfl fun w6 hD6 => hnext2 (j - 1) _ _ (by omega) ⟨j - 1, by omega, by omega, rfl, by dsimp only; rw [e1], hD6.cong fun k hk => ?_, fun q h1 h2 => ?_⟩))
      · simp only [rot, St.upd]
        repeat' split
        all_goals first | omega | rfl | (congr 1; omega)
      · by_cases e : q = j - 1
        · rw [e]; exact hl
        · exact hq q (by omega) h2
  · have hge : b ≤ i := by dsimp only at hge; omega
    rw [Nat.min_eq_right hge] at hB hout
    exact hR w1 dI hD1 hB hout
end

end Go.Proofs
