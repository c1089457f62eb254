/-
  calls.Of.
-/
import Derived.Test.Ytjplhoollkeihaa17q
import Derived.Test.Ytjplhoollkeihaa17x
import Derived.Test.YtjplhoollkeihaaL15c
namespace Go.Proofs
open Go.Gk Go.RowKit Go.Gr

section
variable {s : Sl} {hs : List Sl} {ll : List (List Int)}
theorem riseL_le (n : Nat) (l : List Nat) : (riseL n l).length ≤ n := by
  unfold riseL
  have := List.length_filter_le (fun k => l.contains k) (List.range n)
  simpa using this
theorem riseLL_len : (riseLL ll).length = ll.length := by simp
theorem riseLL_get {i : Nat} (hi : i < ll.length) : (riseLL ll).getD i [] = riseL ll.length ((ll[i]).map Int.toNat) := by simp [List.getD, hi]
theorem riseLL_lt : ∀ i, ∀ t ∈ (riseLL ll).getD i [], t < (riseLL ll).length := fun i t ht => by
  rw [riseLL_len]
  by_cases e : i < ll.length
  · rw [riseLL_get e] at ht
    unfold riseL at ht
    exact List.mem_range.1 (List.mem_filter.1 ht).1
  · simp [List.getD, List.getElem?_eq_none (show ll.length ≤ i by omega)] at ht
theorem riseLL_rowlen (hmax : ll.length ≤ 4096) : ∀ i, ((riseLL ll).getD i []).length ≤ 9223372036854775807 := fun i => by
  by_cases e : i < ll.length
  · rw [riseLL_get e]
    have := riseL_le ll.length ((ll[i]).map Int.toNat)
    omega
  · simp [List.getD, List.getElem?_eq_none (show ll.length ≤ i by omega)]
theorem mem_riseLL (hG : Good ll) {i : Nat} (hi : i < ll.length) {x : Nat} : x ∈ (riseLL ll).getD i [] ↔ (x : Int) ∈ ll[i] := by
  rw [riseLL_get hi, mem_riseL]
  · constructor
    · intro h
      obtain ⟨y, hy, e⟩ := List.mem_map.1 h
      have := hG _ (List.getElem_mem hi) y hy
      rw [show (x : Int) = y by omega]
      exact hy
    · intro h
      exact List.mem_map.2 ⟨(x : Int), h, by simp⟩
  · intro x hx
    obtain ⟨y, hy, e⟩ := List.mem_map.1 hx
    have := hG _ (List.getElem_mem hi) y hy
    omega
/-- Is a number in a row none of a function's? -/
theorem out_spec {r : Sl} {l : List Int} {b n : Nat} {w : World} {R : Value → World → Prop} (h : IsI w r l) (hB : Blk w b 22 [s.val]) (hs : s.l = n) (hR : ∀ v : Bool, (v = true ↔ ∃ x ∈ l, ¬ (0 ≤ x ∧ x < (n : Int))) → R (.bool v) w) :
    callR Try.prog 111 #[.slice r.a r.l r.c, .func (.func 136) #[] #[.pointer (some (Gk.blk b))]] w R := by
  refine callR.of (slices_ContainsFunc_sint_int_calls r _ R w ?_) fun _ _ h => h
  refine callR.of (slices_IndexFunc_sint_int_calls r _ _ w ?_) fun _ _ h => h
  have hl := h.len
  refine LoopW.count l.length h.bound (fun k w' => w' = w ∧ ∀ x ∈ l.take k, 0 ≤ x ∧ x < (n : Int)) ⟨rfl, by simp⟩ ?_
  rintro k w1 hk ⟨rfl, hno⟩ next hnext
  refine ifB_dec (fun hlt => ?_) (fun hge => ?_)
  · have hlt : k < l.length := by dsimp only at hlt; omega
    refine elemI h hlt ?_
    have hct : Try.fs.contains 136 = true := by kernel_rfl
    unfold callV
    simp only [hct]
    refine calls_Of_1_calls l[k] (Gk.blk b) _ w1 ?_
    have yes : ¬ (0 ≤ l[k] ∧ l[k] < (n : Int)) → R (.bool (decide (((k : Int)) ≥ (0 : Int)))) w1 := fun hn => hR _ (by
      rw [decide_eq_true_iff]
      exact ⟨fun _ => ⟨_, List.getElem_mem hlt, hn⟩, fun _ => by omega⟩)
    refine ifB_dec (fun h0 => ⟨true, rfl, ifB_true rfl ⟨(k : Int), rfl, yes (by omega)⟩⟩) fun h0 => ⟨s, hB.cell0 rfl, _, rfl, ifB_dec (fun h1 => ⟨(k : Int), rfl, yes (by omega)⟩) fun h1 => hnext _ hlt ⟨rfl, fun x hx => ?_⟩⟩
    rw [List.take_succ_eq_append_getElem hlt, List.mem_append, List.mem_singleton] at hx
    rcases hx with hx | hx
    · exact hno x hx
    · rw [hx]; omega
  · have : k = l.length := by dsimp only at hge; omega
    subst this
    rw [List.take_length] at hno
    exact ⟨-1, rfl, hR _ ⟨fun h => by simp at h, fun ⟨x, hx, hn⟩ => absurd (hno x hx) hn⟩⟩
set_option maxHeartbeats 1000000 in
theorem cOf_specK {w : World} {R : Value → World → Prop} (h : IsII w s hs ll) (h8 : ∀ l ∈ ll, 8 * l.length ≤ 140737488351232)
    (h4 : 4096 < ll.length → ∀ w', Below w.heap.size w w' → R (.tuple #[.pointer none, .int .i64 4]) w')
    (hbad : ll.length ≤ 4096 → ¬ Good ll → ∀ w', Below w.heap.size w w' → R (.tuple #[.pointer none, .int .i64 3]) w')
    (hcyc : ll.length ≤ 4096 → Good ll → ¬ NoRound (riseLL ll) → ∀ w', Below w.heap.size w w' → R (.tuple #[.pointer none, .int .i64 171]) w')
    (hok : ll.length ≤ 4096 → Good ll → NoRound (riseLL ll) → ∀ w' rc, Below w.heap.size w w' → Kp w.heap.size w' (fun w'' => IsCl w'' rc (riseLL ll)) → R (.tuple #[.pointer (some (Gk.blk rc)), .int .i64 0]) w') :
    callR Try.prog 89 #[.slice s.a s.l s.c] w R := by
  refine callR.of (calls_Of_calls s R w ?_) fun _ _ h => h
  have hsl : s.l = ll.length := by have := h.top.len; have := h.len; omega
  refine Nw.gen fun w1 hw1 => ?_
  have hN1 : Blk w1 w.heap.size 22 [s.val] := by rw [hw1]; exact Blk.new w _ #[_]
  have b1 : Below w.heap.size w w1 := by rw [hw1]; exact (Below.refl _ _).alloc (Nat.le_refl _) _
  have z1 : w1.heap.size = w.heap.size + 1 := by rw [hw1]; simp
  clear hw1
  refine ⟨s, hN1.cell0 rfl, ifB_dec (fun hgt => h4 (by omega) w1 b1) fun hle => ?_⟩
  have hmax : ll.length ≤ 4096 := by omega
  have h1 := h.below b1
  refine ⟨s, hN1.cell0 rfl, LoopW.count ll.length (by omega) (fun k w' => w' = w1 ∧ ∀ l ∈ ll.take k, ∀ x ∈ l, 0 ≤ x ∧ x < (ll.length : Int)) ⟨rfl, by simp⟩ ?_⟩
  rintro k w2 hk ⟨rfl, hno⟩ next hnext
  refine ifB_dec (fun hlt => ?_) (fun hge => ?_)
  · have hlt : k < ll.length := by dsimp only at hlt; omega
    have hkh : k < hs.length := by have := h.len; omega
    refine elemS h1.top (k := k) hkh (out_spec (h1.row k hkh hlt) hN1 hsl fun v hv => ⟨v, rfl, ifB_bool (fun e => hbad hmax (fun hG => ?_) w2 b1) fun e => hnext _ hlt ⟨rfl, fun l hl => ?_⟩⟩)
    · obtain ⟨x, hx, hn⟩ := hv.1 e
      exact hn (hG _ (List.getElem_mem hlt) x hx)
    · rw [List.take_succ_eq_append_getElem hlt, List.mem_append, List.mem_singleton] at hl
      rcases hl with hl | hl
      · exact hno l hl
      · subst hl
        intro x hx
        by_cases hn : 0 ≤ x ∧ x < (ll.length : Int)
        · exact hn
        · rw [hv.2 ⟨x, hx, hn⟩] at e; cases e
  · have : k = ll.length := by dsimp only at hge; omega
    subst this
    rw [List.take_length] at hno
    have hG : Good ll := hno
    refine ⟨s, hN1.cell0 rfl, sorted_spec h1 h8 hmax hG fun r w4 hs4 b4 hI4 hK4 => ⟨r, rfl, ?_⟩⟩
    have hN4 := hN1.below b4
    have z4 := b4.size
    refine ⟨hN4.wr0 (by simp), Nw.gen fun w5 hw5 => ?_⟩
    have hN5 : Blk w5 w.heap.size 22 [r.val] := by rw [hw5]; exact hN4.set0 _
    have b5 : Below w.heap.size w w5 := by rw [hw5]; exact (b1.trans (b4.mono (by omega))).setCell (by exact Nat.le_refl _) _
    have z5 : w5.heap.size = w4.heap.size := by rw [hw5]; simp [World.setCell]
    have hK5 : ∀ k, w2.heap.size ≤ k → k < w4.heap.size → w5.heap[k]? = w4.heap[k]? := fun k h1 _ => by
      rw [hw5]
      exact Below.heap_setCell _ _ _ _ fun e => by have e : k = w.heap.size := e; omega
    have hI5 : IsNN w5 r hs4 (riseLL ll) := hK4 w5 hK5
    clear hw5
    have hlenR := riseLL_len (ll := ll)
    refine ⟨r, hN5.cell0 rfl, closed_spec riseLL_lt (riseLL_rowlen hmax) (by omega) hI5 fun t w6 b6 hTK => ⟨t, rfl, ?_⟩⟩
    have hT := hTK.now
    have z6 := b6.size
    have b06 := b5.trans (b6.mono (by omega))
    have hI6 := hI5.below b6
    refine ⟨r, (hN5.below b6).cell0 rfl, round_spec riseLL_lt (riseLL_rowlen hmax) (by omega) hI6 hT fun v hv => ⟨v, rfl, ifB_bool (fun e => hcyc hmax hG (fun hn => hn (hv.1 e)) w6 b06) fun e => ?_⟩⟩
    have hn : NoRound (riseLL ll) := fun q => by rw [hv.2 q] at e; cases e
    refine ⟨r, (hN5.below b6).cell0 rfl, made_spec hn riseLL_lt (riseLL_rowlen hmax) (by omega) hI6 hT fun w8 rc b8 hC => ⟨_, rfl, hok hmax hG hn w8 rc (b06.trans (b8.mono (by omega))) fun w9 hk9 => ?_⟩⟩
    have z8 := b8.size
    have k6 : ∀ k, w.heap.size ≤ k → k < w6.heap.size → w9.heap[k]? = w6.heap[k]? := fun k h1 h2 => (hk9 k h1 (by omega)).trans (b8.block k h2)
    have k5 : ∀ k, w.heap.size ≤ k → k < w5.heap.size → w9.heap[k]? = w5.heap[k]? := fun k h1 h2 => (k6 k h1 (by omega)).trans (b6.block k h2)
    refine hC w9 (fun k h1 h2 => hk9 k (by omega) h2) (hK4 w9 fun k h1 h2 => (k5 k (by omega) (by omega)).trans (hK5 k h1 h2)) (hTK w9 fun k h1 h2 => k6 k (by omega) h2)
theorem cOf_spec {w : World} {R : Value → World → Prop} (h : IsII w s hs ll) (h8 : ∀ l ∈ ll, 8 * l.length ≤ 140737488351232)
    (h4 : 4096 < ll.length → ∀ w', Below w.heap.size w w' → R (.tuple #[.pointer none, .int .i64 4]) w')
    (hbad : ll.length ≤ 4096 → ¬ Good ll → ∀ w', Below w.heap.size w w' → R (.tuple #[.pointer none, .int .i64 3]) w')
    (hcyc : ll.length ≤ 4096 → Good ll → ¬ NoRound (riseLL ll) → ∀ w', Below w.heap.size w w' → R (.tuple #[.pointer none, .int .i64 171]) w')
    (hok : ll.length ≤ 4096 → Good ll → NoRound (riseLL ll) → ∀ w' rc, Below w.heap.size w w' → IsCl w' rc (riseLL ll) → R (.tuple #[.pointer (some (Gk.blk rc)), .int .i64 0]) w') :
    callR Try.prog 89 #[.slice s.a s.l s.c] w R := cOf_specK h h8 h4 hbad hcyc fun h1 h2 h3 w' rc b hC => hok h1 h2 h3 w' rc b hC.now
end

end Go.Proofs
