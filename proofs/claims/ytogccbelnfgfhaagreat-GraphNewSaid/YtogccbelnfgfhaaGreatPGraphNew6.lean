/-
  Part 6 of what GraphNew is proved by: functions walked, and what they come to.
-/
import Derived.Test.YtogccbelnfgfhaaGreatProg
import Derived.Laws.CopyRow
import Derived.Maps.RangeRun
import Derived.Test.YtogccbelnfgfhaaGreatPGraphNew5
namespace Go.Proofs
open Go.Gk Go.RowKit


theorem in_spec {s : Sl} {l : List Int} {n : Int} {w : World} {R : Value → World → Prop} (h : IsI w s l) (hR : R (.bool (l.contains n)) w) :
    callR Tryz.prog 130 #[.slice s.a s.l s.c, .int .i64 n] w R := by
  refine callR.of (intaglioref14_in_calls s n R w ?_) fun _ _ h => h
  refine LoopW.count l.length h.bound (fun k w' => w' = w ∧ ∀ i (hi : i < l.length), i < k → l[i] ≠ n) ⟨rfl, fun _ _ h => by omega⟩ ?_
  rintro k _ hk ⟨rfl, hI⟩ next hnext
  refine ifB_dec (fun hlt => ?_) (fun hge => ?_)
  · have hlt : k < l.length := by have := h.len; dsimp only at hlt; omega
    refine elemI h hlt (ifB_beq (fun he => ?_) (fun he => ?_))
    · have : l.contains n = true := by simp; exact he ▸ List.getElem_mem hlt
      rw [this] at hR
      exact hR
    · exact hnext _ hlt ⟨rfl, fun i hi hik => by
        by_cases h : i = k
        · subst h; exact he
        · exact hI i hi (by omega)⟩
  · have : l.contains n = false := by
      rw [← Bool.not_eq_true]
      simp only [List.contains_iff_mem]
      intro hm
      obtain ⟨i, hi, he⟩ := List.mem_iff_getElem.1 hm
      exact hI i hi (by have := h.len; dsimp only at hge; omega) he
    rw [this] at hR
    exact hR

theorem Ints_spec {s t : Sl} {l m : List Int} {w : World} {R : Value → World → Prop} (hs : IsI w s l) (ht : IsI w t m) (hR : ∀ w', w'.heap = w.heap → Below w.heap.size w w' → R (.bool (decide (l = m))) w') :
    callR Tryz.prog 26 #[.slice s.a s.l s.c, .slice t.a t.l t.c] w R := by
  refine callR.of (intagliokit_Ints_calls s t R w ?_) fun _ _ h => h
  have e1 := hs.len
  have e2 := ht.len
  refine ifB_bne (fun hne => ?_) (fun he => ?_)
  · have : decide (l = m) = false := by
      rw [decide_eq_false_iff_not]; intro e; subst e; omega
    have := this ▸ hR w rfl (Below.refl _ _)
    exact this
  · have hlm : l.length = m.length := by omega
    refine LoopW.count l.length hs.bound (fun k w' => w'.heap = w.heap ∧ Below w.heap.size w w' ∧ l.take k = m.take k) ⟨rfl, Below.refl _ _, by simp⟩ ?_
    rintro k w' hk ⟨hh, hb, hI⟩ next hnext
    refine ifB_dec (fun hlt => ?_) (fun hge => ?_)
    · have hlt : k < l.length := by dsimp only at hlt; omega
      refine elemI (hs.heap (w' := w'.drew) hh) hlt (elemI (ht.heap (w' := w'.drew) hh) (by omega) (ifB_bne (fun hne => ?_) (fun he => ?_)))
      · have : decide (l = m) = false := by
          rw [decide_eq_false_iff_not]; intro e; subst e; exact hne rfl
        have := this ▸ hR w'.drew hh hb.drew
        exact this
      · exact hnext _ hlt ⟨hh, hb.drew, by rw [List.take_succ_eq_append_getElem hlt, List.take_succ_eq_append_getElem (by omega), hI, he]⟩
    · have : l = m := by
        have hk' : k = l.length := by dsimp only at hge; omega
        subst hk'
        rwa [List.take_length, hlm, List.take_length] at hI
      have := (decide_eq_true this) ▸ hR w' hh hb
      exact this

theorem Spoil_spec {s : Sl} {xs : List Value} {w : World} {R : Value → World → Prop} (h : Own w 3 1 s xs) (hR : ∀ w', Only s w w' → R (.tuple #[]) w') :
    callR Tryz.prog 66 #[.slice s.a s.l s.c] w R := by
  refine callR.of (intagliokit_SpoilInts_calls s R w ?_) fun _ _ h => h
  have hb : s.l ≤ 9223372036854775807 := by
    rcases h.2 with rfl | ⟨_, _, _, _, h1, h2, _⟩
    · simp
    · omega
  refine LoopW.count s.l hb (fun k w' => Only s w w' ∧ ∃ xs, Own w' 3 1 s xs) ⟨Only.refl _ _, xs, h⟩ ?_
  rintro k w' hk ⟨hO, xs', hX⟩ next hnext
  refine ifB_dec (fun hlt => ?_) (fun hge => hR w' hO)
  have hlt : k < s.l := by dsimp only at hlt; omega
  rcases hX.2 with e | ⟨b, cs, ha, hB, h1, h2, h3, h4⟩
  · rw [e] at hlt; simp at hlt
  · refine ⟨⟨by simp, by simpa using hlt⟩, derefP_some ha ⟨hB.wr (n := k) (by omega), ?_⟩⟩
    refine Nw.mk (hnext _ hlt ⟨hO.set ha k _, (cs.set k (.int .i64 (-7777))).take (s.l * 1), ?_⟩)
    exact ⟨by simp [h3]; omega, .inr ⟨b, _, ha, hB.set k (.int .i64 (-7777)), h1, h2, by simp [h3], rfl⟩⟩

theorem Clone_spec {α : Type} {f : α → Value} {s : Sl} {l : List α} {w : World} {R : Value → World → Prop} (hf : ∀ x, (f x).oneCell' = true) (h : IsS f w s l) (hl : l.length * 8 ≤ 140737488355328)
    (hR : ∀ r w', Own w' 3 1 r (l.map f) → Fresh w.heap.size r → Below w.heap.size w w' → R (.slice r.a r.l r.c) w') :
    callR Tryz.prog 73 #[.slice s.a s.l s.c] w R := by
  refine callR.of (slices_Clone_sint_int_calls s R w ?_) fun _ _ h => h
  refine ifB_bool (fun hn => ?_) (fun hn => ?_)
  · have hn : s.a = none := by simpa using hn
    have hc := h.nil hn
    have : l = [] := List.eq_nil_of_length_eq_zero (by have := h.len; have := h.cap; omega)
    subst this
    exact hR ⟨none, 0, 0⟩ w (Own.nil _ _ _) (fun a ha => by cases ha) (Below.refl _ _)
  · obtain ⟨a, ha⟩ : ∃ a, s.a = some a := by
      cases hs : s.a with
      | none => rw [hs] at hn; cases hn
      | some a => exact ⟨a, rfl⟩
    refine Nw.gen fun w1 hw1 => ?_
    have hB : Blk w1 w.heap.size 3 [] := by rw [hw1]; exact Blk.new w 3 #[]
    have hb1 : Below w.heap.size w w1 := by rw [hw1]; exact (Below.refl _ _).alloc (Nat.le_refl _) _
    have hO : Own w1 3 1 ⟨some (blk w.heap.size), 0, 0⟩ [] := ⟨rfl, .inr ⟨_, [], rfl, hB, Nat.le_refl _, by simp, rfl, rfl⟩⟩
    have h' := h.below hb1
    rw [ha, h.len]
    refine append_own eInt hO (m := l.length) (news := l.map f) (by simp) (fun j u hj => ?_) (fun u hu => ?_) (by have := h.bound; simp; omega) (by simpa using hl) fun r w' h1 _ h3 => ?_
    · rw [List.getElem?_map] at hj
      obtain ⟨x, hx, rfl⟩ := Option.map_eq_some_iff.1 hj
      obtain ⟨hlt, rfl⟩ := List.getElem?_eq_some_iff.1 hx
      exact h'.cell a ha j hlt
    · obtain ⟨x, _, rfl⟩ := List.mem_map.1 hu
      exact hf x
    · rcases h3 with ⟨_, rfl, rfl⟩ | ⟨b, h4, h5, h6⟩
      · exact hR _ _ h1 (fun a ha => by cases ha; exact Nat.le_refl _) hb1
      · have hbb : w.heap.size ≤ b := by
          rcases h5 with h5 | h5
          · cases h5; exact Nat.le_refl _
          · have := hb1.size; omega
        refine hR _ _ h1 (fun a ha => by rw [h4] at ha; cases ha; exact hbb) (hb1.trans (below_grown h6 hbb hb1.size))

end Go.Proofs

namespace Go.Proofs
open Go.Gk Go.RowKit

/-- 64 words at a hold the set S of numbers below 4096. -/
def Bits (w : World) (a : Addr) (S : Nat → Bool) : Prop :=
  a.spot = none ∧ ∀ j, j < 64 → ∃ x : Nat, x < 2 ^ 64 ∧ w.cell? (a.add j) = some (.int .u64 x) ∧ w.frozen? (a.add j) = false ∧ ∀ k, k < 64 → x.testBit k = S (64 * j + k)
theorem Bits.of_block {w w' : World} {a : Addr} {S : Nat → Bool} (h : Bits w a S) (hb : w'.heap[a.block]? = w.heap[a.block]?) : Bits w' a S := by
  refine ⟨h.1, fun j hj => ?_⟩
  obtain ⟨x, h1, h2, h3, h4⟩ := h.2 j hj
  refine ⟨x, h1, ?_, ?_, h4⟩
  · rw [World.cell?_of_block (w := w) (by rw [add_block]; exact hb)]; exact h2
  · rw [World.frozen?_of_block (w := w) (by rw [add_block]; exact hb)]; exact h3
theorem Bits.lt {w : World} {a : Addr} {S : Nat → Bool} (h : Bits w a S) : a.block < w.heap.size := by
  obtain ⟨x, _, h2, _⟩ := h.2 0 (by omega)
  have := World.block_lt_of_cell? w _ h2
  rwa [add_block] at this
theorem Bits.below {w w' : World} {a : Addr} {S : Nat → Bool} (h : Bits w a S) (hb : Below w.heap.size w w') : Bits w' a S := h.of_block (hb.block _ h.lt)
theorem Bits.new (w : World) (T : TypeId) : Bits (w.alloc (.cells (List.toArray (List.replicate 64 (.int .u64 (0 : Int)))) T)) (blk w.heap.size) fun _ => false := by
  have hB := Blk.new w T (List.toArray (List.replicate 64 (.int .u64 (0 : Int))))
  refine ⟨rfl, fun j hj => ⟨0, by decide, hB.cell ?_, hB.frozen j, fun k _ => by simp⟩⟩
  rw [List.getElem?_replicate, if_pos hj]
  rfl

theorem bit_has (x k : Nat) (hx : x < 2 ^ 64) (hk : k < 64) :
    ((IntKind.u64.wrap (BitVec.toNat (BitVec.ofInt (IntKind.bits .u64) (Int.fdiv (x : Int) (2 ^ (min k (IntKind.bits .u64)))) &&& BitVec.ofInt (IntKind.bits .u64) (1 : Int)) : Int)) == (1 : Int)) = x.testBit k := by
  have hb : IntKind.bits .u64 = 64 := rfl
  have hm : min k (IntKind.bits .u64) = k := by rw [hb]; omega
  rw [hm]
  have e1 : Int.fdiv (x : Int) (2 ^ k) = ((x / 2 ^ k : Nat) : Int) := by
    rw [show ((2 : Int) ^ k) = ((2 ^ k : Nat) : Int) by simp, Int.ofNat_fdiv]
  rw [e1]
  have e2 : (BitVec.ofInt (IntKind.bits .u64) ((x / 2 ^ k : Nat) : Int) &&& BitVec.ofInt (IntKind.bits .u64) (1 : Int)).toNat = x / 2 ^ k % 2 := by
    rw [BitVec.toNat_and, BitVec.ofInt_natCast, BitVec.toNat_ofNat, show (BitVec.ofInt (IntKind.bits .u64) (1 : Int)).toNat = 1 from rfl, Nat.and_one_is_mod, hb]
    have : x / 2 ^ k < 2 ^ 64 := Nat.lt_of_le_of_lt (Nat.div_le_self _ _) hx
    rw [Nat.mod_eq_of_lt this]
  rw [e2, IntKind.wrap_u64, Nat.testBit_eq_decide_div_mod_eq]
  rcases Nat.mod_two_eq_zero_or_one (x / 2 ^ k) with h | h <;> simp [h]
theorem bit_add (x k : Nat) (hx : x < 2 ^ 64) (hk : k < 64) :
    (IntKind.u64.wrap (BitVec.toNat (BitVec.ofInt (IntKind.bits .u64) (x : Int) ||| BitVec.ofInt (IntKind.bits .u64) (IntKind.u64.wrap ((1 : Int) * 2 ^ (min k (IntKind.bits .u64))))) : Int)) = ((x ||| 2 ^ k : Nat) : Int) ∧ x ||| 2 ^ k < 2 ^ 64 := by
  have hb : IntKind.bits .u64 = 64 := rfl
  have hm : min k (IntKind.bits .u64) = k := by rw [hb]; omega
  rw [hm]
  have hp : 2 ^ k < 2 ^ 64 := Nat.pow_lt_pow_right (by omega) hk
  have e1 : IntKind.u64.wrap ((1 : Int) * 2 ^ k) = ((2 ^ k : Nat) : Int) := by
    rw [show (1 : Int) * 2 ^ k = ((2 ^ k : Nat) : Int) by simp, IntKind.wrap_u64]
    generalize 2 ^ k = p at hp
    omega
  have hlt : x ||| 2 ^ k < 2 ^ 64 := Nat.or_lt_two_pow hx hp
  refine ⟨?_, hlt⟩
  rw [e1, BitVec.toNat_or, BitVec.ofInt_natCast, BitVec.ofInt_natCast, BitVec.toNat_ofNat, BitVec.toNat_ofNat, hb, Nat.mod_eq_of_lt hx, Nat.mod_eq_of_lt hp, IntKind.wrap_u64]
  omega
theorem wrap_div (i : Nat) (hi : i < 4096) : IntKind.i64.wrap (Int.tdiv (i : Int) (64 : Int)) = ((i / 64 : Nat) : Int) := by
  have : Int.tdiv (i : Int) 64 = ((i / 64 : Nat) : Int) := by rw [Int.tdiv_eq_ediv_of_nonneg (by omega)]; omega
  rw [this, wrap64_in (by omega) (by omega)]
theorem tmod_64 (i : Nat) : Int.tmod (i : Int) 64 = ((i % 64 : Nat) : Int) := by
  rw [Int.tmod_eq_emod_of_nonneg (by omega)]; omega

theorem has_spec {a : Addr} {S : Nat → Bool} {i : Nat} (hi : i < 4096) {w : World} {R : Value → World → Prop} (h : Bits w a S) (hR : R (.bool (S i)) w) :
    callR Tryz.prog 96 #[.pointer (some a), .int .i64 i] w R := by
  refine callR.of (graph_bits_has_calls _ _ R w ?_) fun _ _ h => h
  unfold L_graph_bits_has
  obtain ⟨x, h1, h2, _, h4⟩ := h.2 (i / 64) (by omega)
  rw [wrap_div i hi, tmod_64]
  refine ⟨⟨by omega, by omega⟩, x, h2, ifB_dec (fun hlt => by omega) (fun _ => ?_)⟩
  rw [Int.toNat_natCast, bit_has x (i % 64) h1 (by omega), h4 _ (by omega), Nat.div_add_mod]
  exact hR

theorem add_spec {a : Addr} {S : Nat → Bool} {i : Nat} (hi : i < 4096) {w : World} {R : Value → World → Prop} (h : Bits w a S)
    (hR : ∀ x : Nat, Bits (w.drew.setCell (a.add (i / 64)) (.int .u64 x)) a (fun j => S j || j == i) → R (.tuple #[]) (w.drew.setCell (a.add (i / 64)) (.int .u64 x))) :
    callR Tryz.prog 97 #[.pointer (some a), .int .i64 i] w R := by
  refine callR.of (graph_bits_add_calls _ _ R w ?_) fun _ _ h => h
  unfold L_graph_bits_add
  obtain ⟨x, h1, h2, h3, h4⟩ := h.2 (i / 64) (by omega)
  rw [wrap_div i hi, tmod_64]
  refine ⟨⟨by omega, by omega⟩, x, h2, ifB_dec (fun hlt => by omega) (fun _ => ?_)⟩
  refine ⟨⟨by omega, by omega⟩, ⟨⟨_, h2⟩, h3⟩, Nw.mk ?_⟩
  obtain ⟨e1, e2⟩ := bit_add x (i % 64) h1 (by omega)
  rw [Int.toNat_natCast, Int.toNat_natCast, e1]
  refine hR _ ⟨h.1, fun j hj => ?_⟩
  have hblk : (a.add j).block = (a.add (i / 64)).block := by rw [add_block, add_block]
  have hfz : ∀ v, (w.drew.setCell (a.add (i / 64)) v).frozen? (a.add j) = w.frozen? (a.add j) := fun v => by simp
  by_cases hj' : j = i / 64
  · subst hj'
    refine ⟨x ||| 2 ^ (i % 64), e2, ?_, by rw [hfz]; exact h3, fun k hk => ?_⟩
    · exact World.cell?_setCell_same _ _ _ (by exact h2)
    · rw [Nat.testBit_or, h4 k hk, Nat.testBit_two_pow]
      congr 1
      have := Nat.div_add_mod i 64
      by_cases hki : i % 64 = k
      · simp [hki]; omega
      · simp [hki]; omega
  · obtain ⟨y, g1, g2, g3, g4⟩ := h.2 j hj
    refine ⟨y, g1, ?_, by rw [hfz]; exact g3, fun k hk => ?_⟩
    · rw [World.cell?_setCell_other]
      · exact g2
      · have hs := h.1
        obtain ⟨ab, ao, asp⟩ := a
        simp only at hs
        subst hs
        unfold Addr.add
        split <;> split <;> simp <;> omega
    · rw [g4 k hk]
      have : (64 * j + k == i) = false := by simp; omega
      simp [this]

end Go.Proofs

namespace Go.Proofs
open Go.Gk Go.RowKit Go.Gr

/-- The cell of a node's number. -/
abbrev iN (x : Nat) : Value := .int .i64 (x : Int)
abbrev IsN (w : World) (s : Sl) (l : List Nat) : Prop := IsS iN w s l
theorem iN_one (x : Nat) : (iN x).oneCell' = true := rfl
theorem elemN {w : World} {s : Sl} {l : List Nat} (h : IsN w s l) {k : Nat} (hk : k < l.length) {φ : Int → Prop} (hφ : φ (l[k] : Int)) :
    (0 ≤ (k : Int) ∧ (k : Int) < (s.l : Int)) ∧ derefP s.a fun a => ldI w (a.add (Int.toNat (k : Int))) .i64 φ :=
  h.addr hk fun a _ hc => ⟨(l[k] : Int), hc, hφ⟩
theorem Reverse_spec {s : Sl} {l : List Nat} {w : World} {R : Value → World → Prop} (h : Own w 3 1 s (l.map iN))
    (hR : ∀ w', Own w' 3 1 s (l.reverse.map iN) → Only s w w' → R (.tuple #[]) w') :
    callR Tryz.prog 138 #[.slice s.a s.l s.c] w R := by
  refine callR.of (slices_Reverse_sint_int_calls s R w ?_) fun _ _ h => h
  have hlen : s.l = l.length := by have := h.1; simp at this; omega
  have hbd := h.isS.bound
  unfold L_slices_Reverse_sint_int
  rw [hlen, wrap64_in (by omega) (by omega)]
  -- behind i rounds the first i and the last i stand turned
  let M : Nat → List Nat := fun i => (List.range l.length).map fun k => if k < i ∨ l.length ≤ k + i then l.getD (l.length - 1 - k) 0 else l.getD k 0
  have hM0 : M 0 = l := by
    apply List.ext_getElem
    · simp [M]
    · intro k h1 h2
      have h2' : ¬ l.length ≤ k := by omega
      simp [M, h2', h2]
  refine LoopW.ghost (fun j st w' => ∃ i : Nat, 2 * i ≤ l.length + 1 ∧ j = l.length + 1 - i ∧ st = ((i : Int), (l.length : Int) - 1 - i, ()) ∧ Only s w w' ∧ Own w' 3 1 s ((M i).map iN)) _ ⟨0, by omega, rfl, by simp, Only.refl _ _, by rw [hM0]; exact h⟩ ?_
  rintro _ _ w' ⟨i, hi, rfl, rfl, hO, hX⟩ next hnext
  refine ifB_dec (fun hlt => ?_) (fun hge => ?_)
  · have hlt : 2 * i + 1 < l.length := by dsimp only at hlt; omega
    have hj : (l.length : Int) - 1 - i = ((l.length - 1 - i : Nat) : Int) := by omega
    have hX' : Own w'.drew 3 1 s ((M i).map iN) := hX
    have hS := hX'.isS
    have hml : (M i).length = l.length := by simp [M]
    dsimp only
    rw [hj]
    have g1 : (M i)[l.length - 1 - i]'(by rw [hml]; omega) = l.getD (l.length - 1 - i) 0 := by
      simp only [M, List.getElem_map, List.getElem_range]
      rw [if_neg (by omega)]
    have g2 : (M i)[i]'(by rw [hml]; omega) = l.getD i 0 := by
      simp only [M, List.getElem_map, List.getElem_range]
      rw [if_neg (by omega)]
    rw [show (l.length : Int) = (s.l : Int) by omega]
    refine elemN hS (by rw [hml]; omega) (elemN hS (by rw [hml]; omega) ?_)
    rcases hX'.2 with e | ⟨b, cs, ha, hB, h1, h2, h3, h4⟩
    · rw [e] at hlen; simp at hlen; omega
    · refine ⟨⟨by omega, by omega⟩, derefP_some ha ⟨hB.wr (n := i) (by omega), Nw.mk ?_⟩⟩
      have hB2 := hB.set i (iN ((M i)[l.length - 1 - i]'(by rw [hml]; omega)))
      refine ⟨⟨by omega, by omega⟩, derefP_some ha ⟨hB2.wr (n := l.length - 1 - i) (by rw [List.length_set]; omega), Nw.mk ?_⟩⟩
      have hB3 := hB2.set (l.length - 1 - i) (iN ((M i)[i]'(by rw [hml]; omega)))
      have e1 : IntKind.i64.wrap ((i : Int) + 1) = ((i + 1 : Nat) : Int) := wrap64_succ (by omega)
      have e2 : IntKind.i64.wrap (((l.length - 1 - i : Nat) : Int) - 1) = (l.length : Int) - 1 - ((i + 1 : Nat) : Int) := by rw [wrap64_in (by omega) (by omega)]; omega
      rw [e1, e2]
      refine hnext (l.length + 1 - (i + 1)) _ _ (by omega) ⟨i + 1, by omega, rfl, rfl, (hO.drew.set ha _ _).set ha _ _, ?_⟩
      refine ⟨by simp [M, hlen], .inr ⟨b, _, ha, hB3, h1, h2, by simpa using h3, ?_⟩⟩
      have hcs : ∀ k, k < l.length → cs[k]? = some (iN (l.getD (if k < i ∨ l.length ≤ k + i then l.length - 1 - k else k) 0)) := by
        intro k hk
        have : (cs.take (s.l * 1))[k]? = cs[k]? := List.getElem?_take_of_lt (by omega)
        rw [← this, h4]
        simp only [M, List.getElem?_map, List.getElem?_range hk, Option.map_some]
        split <;> rfl
      apply List.ext_getElem?
      intro k
      by_cases hk : k < l.length
      · rw [List.getElem?_take_of_lt (by omega)]
        simp only [M, List.getElem?_map, List.getElem?_range hk, Option.map_some]
        by_cases k1 : k = l.length - 1 - i
        · subst k1
          rw [List.getElem?_set_self (by rw [List.length_set]; omega), g2, if_pos (by omega)]
          congr 3
          omega
        · rw [List.getElem?_set_ne (by omega)]
          by_cases k2 : k = i
          · subst k2
            rw [List.getElem?_set_self (by omega), g1, if_pos (by omega)]
          · rw [List.getElem?_set_ne (by omega), hcs k hk]
            by_cases k3 : k < i ∨ l.length ≤ k + i
            · rw [if_pos k3, if_pos (by omega)]
            · rw [if_neg k3, if_neg (by omega)]
      · rw [List.getElem?_eq_none (by simp; omega), List.getElem?_eq_none (by simp [M]; omega)]
  · have hge : l.length ≤ 2 * i + 1 := by dsimp only at hge; omega
    refine hR w' ?_ hO
    have : M i = l.reverse := by
      apply List.ext_getElem
      · simp [M]
      · intro k h1 h2
        have hk : k < l.length := by simpa using h2
        simp only [M, List.getElem_map, List.getElem_range, List.getElem_reverse]
        by_cases k3 : k < i ∨ l.length ≤ k + i
        · rw [if_pos k3]; simp [List.getD, show l.length - 1 - k < l.length by omega]
        · rw [if_neg k3]
          have : k = l.length - 1 - k := by omega
          simp only [List.getD, List.getElem?_eq_getElem hk, Option.getD_some]
          congr 1
    rw [← this]
    exact hX

end Go.Proofs

namespace Go.Proofs
open Go.Gk Go.RowKit Go.Gr

/-- 64 words that hold the set S. -/
def BitsL (bs : List Value) (S : Nat → Bool) : Prop :=
  bs.length = 64 ∧ ∀ j, j < 64 → ∃ x : Nat, x < 2 ^ 64 ∧ bs[j]? = some (.int .u64 (x : Int)) ∧ ∀ k, k < 64 → x.testBit k = S (64 * j + k)
theorem BitsL.zero : BitsL (List.replicate 64 (.int .u64 (0 : Int))) fun _ => false :=
  ⟨List.length_replicate, fun j hj => ⟨0, by decide, by rw [List.getElem?_replicate, if_pos hj]; rfl, fun k _ => Nat.zero_testBit k⟩⟩
theorem BitsL.bits {w : World} {b : Nat} {T : TypeId} {v0 v1 v2 v3 : Value} {bs : List Value} {S : Nat → Bool} (h : Blk w b T (v0 :: v1 :: v2 :: v3 :: bs)) (hb : BitsL bs S) : Bits w ((blk b).add 4) S := by
  refine ⟨by rw [add_blk], fun j hj => ?_⟩
  obtain ⟨x, h1, h2, h3⟩ := hb.2 j hj
  rw [add_add _ _ _ rfl]
  refine ⟨x, h1, h.cell ?_, h.frozen _, h3⟩
  rw [show 4 + j = j + 1 + 1 + 1 + 1 by omega]
  simpa using h2
theorem Bits.list {w : World} {b : Nat} {T : TypeId} {v0 v1 v2 v3 : Value} {bs : List Value} {S : Nat → Bool} (h : Blk w b T (v0 :: v1 :: v2 :: v3 :: bs)) (hl : bs.length = 64) (hb : Bits w ((blk b).add 4) S) : BitsL bs S := by
  refine ⟨hl, fun j hj => ?_⟩
  obtain ⟨x, h1, h2, _, h3⟩ := hb.2 j hj
  rw [add_add _ _ _ rfl] at h2
  have hj' : bs[j]? = some bs[j] := List.getElem?_eq_getElem (by omega)
  have := h.cell (n := 4 + j) (v := bs[j]) (by rw [show 4 + j = j + 1 + 1 + 1 + 1 by omega]; exact hj')
  rw [h2] at this
  exact ⟨x, h1, by rw [hj', ← Option.some.inj this], h3⟩
theorem BitsL.congr {bs : List Value} {S S' : Nat → Bool} (h : BitsL bs S) (hs : ∀ i, S i = S' i) : BitsL bs S' :=
  ⟨h.1, fun j hj => let ⟨x, h1, h2, h3⟩ := h.2 j hj; ⟨x, h1, h2, fun k hk => by rw [h3 k hk, hs]⟩⟩

/-- Slices of slices whose elements are f's cells. -/
structure IsSS {α : Type} (f : α → Value) (w : World) (s : Sl) (hs : List Sl) (ll : List (List α)) : Prop where
  top : IsS Sl.val w s hs
  len : hs.length = ll.length
  row : ∀ (i : Nat) (h : i < hs.length) (h' : i < ll.length), IsS f w hs[i] ll[i]
abbrev IsNN (w : World) (s : Sl) (hs : List Sl) (ll : List (List Nat)) : Prop := IsSS iN w s hs ll
theorem IsSS.below {α : Type} {f : α → Value} {w w' : World} {s : Sl} {hs : List Sl} {ll : List (List α)} (h : IsSS f w s hs ll) (hb : Below w.heap.size w w') : IsSS f w' s hs ll :=
  ⟨h.top.below hb, h.len, fun i h1 h2 => (h.row i h1 h2).below hb⟩
/-- None of these blocks is b. -/
def Avoids (b : Nat) (s : Sl) (hs : List Sl) : Prop := (∀ a, s.a = some a → a.block ≠ b) ∧ ∀ (i : Nat) (h : i < hs.length) a, hs[i].a = some a → a.block ≠ b
theorem _root_.Go.Gk.IsS.fr {α : Type} {f : α → Value} {w w' : World} {s : Sl} {l : List α} (h : IsS f w s l) {B b : Nat} (hb : Fr B (· = b) w w') (hB : w.heap.size ≤ B) (hn : ∀ a, s.a = some a → a.block ≠ b) : IsS f w' s l :=
  h.of_block fun a ha hlt => hb.block _ (by omega) (hn a ha)
theorem IsSS.fr {α : Type} {f : α → Value} {w w' : World} {s : Sl} {hs : List Sl} {ll : List (List α)} (h : IsSS f w s hs ll) {B b : Nat} (hb : Fr B (· = b) w w') (hB : w.heap.size ≤ B) (hn : Avoids b s hs) : IsSS f w' s hs ll :=
  ⟨h.top.fr hb hB hn.1, h.len, fun i h1 h2 => (h.row i h1 h2).fr hb hB (hn.2 i h1)⟩

/-- The graph's block. -/
abbrev gCells (sn sa wk od : Sl) (bs : List Value) : List Value := sn.val :: sa.val :: wk.val :: od.val :: bs
/-- What holds while the walk is under way: of what lay when it began the graph's block alone has turned. -/
structure CS (w1 : World) (B gb : Nat) (sn sa : Sl) (w : World) (s : List Nat × List Nat) : Prop where
  fr : Fr B (· = gb) w1 w
  st : ∃ wk od bs, Blk w gb 139 (gCells sn sa wk od bs) ∧ BitsL bs (fun i => s.1.contains i) ∧ Own w 3 1 wk (s.1.map iN) ∧ Own w 3 1 od (s.2.map iN) ∧
    Fresh B wk ∧ Fresh B od ∧ ∀ a b, wk.a = some a → od.a = some b → a.block ≠ b.block

/-- What holds from the walk's beginning on. -/
structure CW (w1 : World) (B b0 b1 gb : Nat) (sn : Sl) (hs : List Sl) (nx : List (List Nat)) : Prop where
  size : w1.heap.size = B
  gblt : gb < B
  box0 : Blk w1 b0 75 [.pointer (some (blk gb))]
  box1 : Blk w1 b1 140 [.func (.func 137) #[] #[.pointer (some (blk b0)), .pointer (some (blk b1))]]
  ne0 : b0 ≠ gb
  ne1 : b1 ≠ gb
  next : IsNN w1 sn hs nx
  avoid : Avoids gb sn hs
  max : nx.length ≤ 4096
  rows : ∀ i, ∀ t ∈ nx.getD i [], t < nx.length

theorem own_len {w : World} {s : Sl} {l : List Nat} (h : Own w 3 1 s (l.map iN)) : s.l = l.length := by have := h.1; simp at this; omega
theorem own_ne {w : World} {s : Sl} {xs : List Value} (h : Own w 3 1 s xs) {b : Nat} {T : TypeId} {cs : List Value} (hB : Blk w b T cs) (hT : T ≠ 3) {a : Addr} (ha : s.a = some a) : a.block ≠ b := by
  intro e
  obtain ⟨cs', hB'⟩ := h.type ha
  rw [e] at hB'
  exact hT (hB.type hB')

set_option maxHeartbeats 1000000 in
theorem come_spec {w1 : World} {B b0 b1 gb : Nat} {sn sa : Sl} {hs : List Sl} {nx : List (List Nat)} (cw : CW w1 B b0 b1 gb sn hs nx) :
    ∀ (f i : Nat) (s : List Nat × List Nat) (w : World) (R : Value → World → Prop), i < nx.length → i ∉ s.1 → s.1.Nodup → (∀ x ∈ s.1, x < nx.length) → nx.length ≤ s.1.length + f → s.2.length ≤ s.1.length →
      CS w1 B gb sn sa w s → (∀ w', CS w1 B gb sn sa w' (visit nx f i s) → (visit nx f i s).2.length ≤ (visit nx f i s).1.length → R (.tuple #[]) w') →
      callR Tryz.prog 137 #[.int .i64 (i : Int), .pointer (some (blk b0)), .pointer (some (blk b1))] w R := by
  intro f
  induction f with
  | zero =>
    intro i s w R hi hni hnd hlt hf
    have := nodup_lt hnd hlt hi hni
    omega
  | succ f ih =>
    intro i s w R hi hni hnd hlt hf h2l hcs hR
    have hmax := cw.max
    have hslt := nodup_lt hnd hlt hi hni
    refine callR.of (graph_Graph_walked_1_calls (i : Int) (blk b0) (blk b1) R w ?_) fun _ _ h => h
    -- what is read of the boxes and the edges, whatever the walk has done
    have box0 : ∀ {w' : World}, Fr B (· = gb) w1 w' → Blk w' b0 75 [.pointer (some (blk gb))] := fun hf => cw.box0.of_block (hf.block _ (by have := cw.box0.lt; have := cw.size; omega) cw.ne0)
    have box1 : ∀ {w' : World}, Fr B (· = gb) w1 w' → Blk w' b1 140 [.func (.func 137) #[] #[.pointer (some (blk b0)), .pointer (some (blk b1))]] := fun hf => cw.box1.of_block (hf.block _ (by have := cw.box1.lt; have := cw.size; omega) cw.ne1)
    have next : ∀ {w' : World}, Fr B (· = gb) w1 w' → IsNN w' sn hs nx := fun hf => cw.next.fr hf (by rw [cw.size]; exact Nat.le_refl _) cw.avoid
    obtain ⟨hfr, wk, od, bs, hG, hbits, hwk, hod, hfw, hfo, hap⟩ := hcs
    have hBsz : ∀ {w' : World}, Fr B (· = gb) w1 w' → B ≤ w'.heap.size := fun hf => by have := hf.size; have := cw.size; omega
    refine ⟨some (blk gb), (box0 hfr).cell0 rfl, ?_⟩
    refine add_spec (S := fun i => s.1.contains i) (i := i) (by omega) (hbits.bits hG) fun x hx => ⟨rfl, ?_⟩
    -- the bit is set
    generalize hw2 : w.drew.setCell (((blk gb).add 4).add (i / 64)) (.int .u64 (x : Int)) = w2 at hx ⊢
    have hG2 : Blk w2 gb 139 (gCells sn sa wk od (bs.set (i / 64) (.int .u64 (x : Int)))) := by
      rw [← hw2, add_add _ _ _ rfl]
      have := (hG.drew).set (4 + i / 64) (.int .u64 (x : Int))
      rw [show 4 + i / 64 = i / 64 + 1 + 1 + 1 + 1 by omega] at this ⊢
      exact this
    have hfr2 : Fr B (· = gb) w1 w2 := by rw [← hw2]; exact hfr.drew.set (.inr (by rw [add_block, add_block])) _
    have hb2 := Bits.list hG2 (by rw [List.length_set]; exact hbits.1) hx
    have stay : ∀ {sl : Sl} {xs : List Value}, Own w 3 1 sl xs → Own w2 3 1 sl xs := fun h => h.of_block fun a ha => by
      rw [← hw2]; exact Below.heap_setCell _ _ _ _ (by rw [add_block, add_block]; exact own_ne h hG (by decide) ha)
    have hwk2 := stay hwk
    have hod2 := stay hod
    clear hw2 stay hG hbits hwk hod hx
    generalize bs.set (i / 64) (.int .u64 (x : Int)) = bs2 at hG2 hb2
    -- i is appended to the walk
    refine ⟨some (blk gb), (box0 hfr2).cell0 rfl, ⟨some (blk gb), (box0 hfr2).cell0 rfl, wk, hG2.cell rfl, Nw.gen fun w3 hw3 => ?_⟩⟩
    have hG3 : Blk w3 gb 139 (gCells sn sa wk od bs2) := by rw [hw3]; exact hG2.drew.alloc _
    have hfr3 : Fr B (· = gb) w1 w3 := by rw [hw3]; exact hfr2.drew.alloc (hBsz hfr2.drew) _
    have ht3 : Blk w3 w2.drew.heap.size 3 [iN i] := by rw [hw3]; exact Blk.new w2.drew 3 #[iN i]
    have hwk3 : Own w3 3 1 wk (s.1.map iN) := by rw [hw3]; exact hwk2.drew.alloc _
    have hod3 : Own w3 3 1 od (s.2.map iN) := by rw [hw3]; exact hod2.drew.alloc _
    have hsz3 : w3.heap.size = w2.heap.size + 1 := by rw [hw3]; simp
    refine ⟨hG3.cell rfl, (box0 hfr3).cell0 rfl, (box0 hfr3).cell0 rfl, ?_⟩
    have hwl := own_len hwk3
    refine append_one eInt hwk3 rfl ht3 (by omega) (by omega) fun r w4 hr hrl ⟨b, hrb, hbo, hg⟩ => ?_
    have hbB : B ≤ b := by
      rcases hbo with hb | rfl
      · exact hfw _ hb
      · exact hBsz hfr3
    have hfr4 : Fr B (· = gb) w1 w4 := hfr3.grown hg hbB (hBsz hfr3)
    have hbgb : gb ≠ b := by have := cw.gblt; omega
    have hG4 : Blk w4 gb 139 (gCells sn sa wk od bs2) := hG3.of_block (hg.block gb hG3.lt (fun e => hbgb (Option.some.inj e)))
    have hodne : ∀ a, od.a = some a → a.block ≠ b := fun a ha e => by
      rcases hbo with hb | hb
      · exact hap _ _ hb ha e.symm
      · have := (hod3.lt ha).2; omega
    have hod4 : Own w4 3 1 od (s.2.map iN) := hod3.of_block fun a ha => hg.block _ (hod3.lt ha).2 (fun e => hodne a ha (Option.some.inj e))
    refine ⟨(box0 hfr4).cell0 rfl, hG4.wr (by simp), Nw.gen fun w5 hw5 => ?_⟩
    have hG5 : Blk w5 gb 139 (gCells sn sa r od bs2) := by rw [hw5]; exact hG4.set 2 _
    have hfr5 : Fr B (· = gb) w1 w5 := by rw [hw5]; exact hfr4.set (.inr (by rw [add_block])) _
    have stay5 : ∀ {sl : Sl} {xs : List Value}, Own w4 3 1 sl xs → Own w5 3 1 sl xs := fun h => h.of_block fun a ha => by
      rw [hw5]; exact Below.heap_setCell _ _ _ _ (by rw [add_block]; exact own_ne h hG4 (by decide) ha)
    have hcs5 : CS w1 B gb sn sa w5 (s.1 ++ [i], s.2) := by
      refine ⟨hfr5, r, od, bs2, hG5, hb2.congr fun j => ?_, ?_, stay5 hod4, fun a ha => ?_, hfo, fun a c ha hc => ?_⟩
      · rw [Bool.eq_iff_iff]; simp
      · simpa using stay5 hr
      · rw [hrb] at ha; cases ha; exact hbB
      · rw [hrb] at ha; cases ha; exact (hodne c hc).symm
    clear hw3 hG3 hfr3 ht3 hwk3 hod3 hsz3 hG4 hod4 hw5 stay5 hr hg hG2 hb2 hwk2 hod2 hfr2 hfr4 hfr
    -- the edges
    refine ⟨some (blk gb), (box0 hfr5).cell0 rfl, sn, hG5.cell0 rfl, ?_⟩
    have hnx5 := next hfr5
    have hlen : hs.length = nx.length := hnx5.len
    refine elemS hnx5.top (k := i) (by omega) ?_
    clear hG5 hnx5
    have hrow : ∀ {w' : World}, Fr B (· = gb) w1 w' → IsN w' (hs[i]'(by omega)) (nx.getD i []) := fun hf => by
      have := (next hf).row i (by omega) hi
      simpa [List.getD, hi] using this
    generalize hrl' : nx.getD i [] = row at hrow
    have hrt : ∀ t ∈ row, t < nx.length := fun t ht => cw.rows i t (by rw [hrl']; exact ht)
    have hrn : (hs[i]'(by omega)).l = row.length := (hrow hfr5).len
    have base : Came nx.length s (s.1 ++ [i], s.2) := ⟨by
        rw [List.nodup_append]
        exact ⟨hnd, by simp, fun x hx y hy => by simp at hy; subst hy; intro e; subst e; exact hni hx⟩, fun x hx => by
        simp at hx
        rcases hx with hx | rfl
        · exact hlt x hx
        · exact hi, [i], rfl⟩
    have rowsOk : ∀ i, ∀ t ∈ nx.getD i [], t < nx.length := cw.rows
    refine LoopW.count row.length (hrow hfr5).bound (fun k w' => CS w1 B gb sn sa w' (visitAll nx f (row.take k) (s.1 ++ [i], s.2)) ∧ Came nx.length (s.1 ++ [i], s.2) (visitAll nx f (row.take k) (s.1 ++ [i], s.2)) ∧
      (visitAll nx f (row.take k) (s.1 ++ [i], s.2)).2.length < (visitAll nx f (row.take k) (s.1 ++ [i], s.2)).1.length) ⟨by simpa [visitAll] using hcs5, ?_, by simp [visitAll]; omega⟩ ?_
    · simp only [List.take_zero]
      exact ⟨base.nodup, base.lt, [], by simp [visitAll]⟩
    rintro k w6 hk ⟨hcs6, hcame, hlen6⟩ nxt hnext
    generalize hst : visitAll nx f (row.take k) (s.1 ++ [i], s.2) = st at hcs6 hcame hlen6
    refine ifB_dec (fun hlt6 => ?_) (fun hge => ?_)
    · have hlt6 : k < row.length := by dsimp only at hlt6; omega
      have hsnoc : visitAll nx f (row.take (k + 1)) (s.1 ++ [i], s.2) = if st.1.contains row[k] then st else visit nx f row[k] st := by
        rw [List.take_succ_eq_append_getElem hlt6, visitAll_snoc, hst]
      refine JoinW.cut (fun _ w' => CS w1 B gb sn sa w' (visitAll nx f (row.take (k + 1)) (s.1 ++ [i], s.2)) ∧ Came nx.length (s.1 ++ [i], s.2) (visitAll nx f (row.take (k + 1)) (s.1 ++ [i], s.2)) ∧
        (visitAll nx f (row.take (k + 1)) (s.1 ++ [i], s.2)).2.length < (visitAll nx f (row.take (k + 1)) (s.1 ++ [i], s.2)).1.length) ?_ fun _ w' h => hnext w' hlt6 h
      have hfr6 := hcs6.fr
      obtain ⟨wk6, od6, bs6, hG6, hb6, _⟩ := hcs6.st
      refine elemN (hrow hfr6) hlt6 ⟨some (blk gb), (box0 hfr6).cell0 rfl, ?_⟩
      have hrk := hrt row[k] (List.getElem_mem hlt6)
      refine has_spec (S := fun i => st.1.contains i) (i := row[k]) (by omega) (hb6.bits hG6) ⟨_, rfl, ?_⟩
      rw [hsnoc]
      cases hc : st.1.contains row[k] with
      | true => exact ⟨hcs6, hcame, hlen6⟩
      | false =>
        have hnm : row[k] ∉ st.1 := by simpa using hc
        refine ⟨_, (box1 hfr6).cell0 rfl, ?_⟩
        have hmore : st.1.length ≥ (s.1 ++ [i]).length := by obtain ⟨l, e⟩ := hcame.more; rw [e]; simp
        have hvc := visit_came rowsOk f row[k] st hrk hcame.nodup hcame.lt hnm
        have := ih row[k] st w6 (fun v w' => v = .tuple #[] ∧ CS w1 B gb sn sa w' (visit nx f row[k] st) ∧ Came nx.length (s.1 ++ [i], s.2) (visit nx f row[k] st) ∧ (visit nx f row[k] st).2.length < (visit nx f row[k] st).1.length)
          hrk hnm hcame.nodup hcame.lt (by simp at hmore; omega) (by omega) hcs6 (fun w' h _ => ⟨rfl, h, ?_, ?_⟩)
        · exact this
        · obtain ⟨l1, e1⟩ := hcame.more
          obtain ⟨l2, e2⟩ := hvc.more
          exact ⟨hvc.nodup, hvc.lt, l1 ++ l2, by rw [e2, e1, List.append_assoc]⟩
        · have := visit_len nx f row[k] st
          omega
    · -- i is left
      have hkk : k = row.length := by dsimp only at hge; omega
      subst hkk
      rw [List.take_length] at hst
      have hvis : visit nx (f + 1) i s = (st.1, st.2 ++ [i]) := by rw [visit_succ, hrl', hst]
      rw [hvis] at hR
      clear hst
      obtain ⟨hfr6, wk6, od6, bs6, hG6, hb6, hwk6, hod6, hfw6, hfo6, hap6⟩ := hcs6
      refine ⟨some (blk gb), (box0 hfr6.drew).cell0 rfl, some (blk gb), (box0 hfr6.drew).cell0 rfl, od6, hG6.drew.cell rfl, Nw.gen fun w7 hw7 => ?_⟩
      have hG7 : Blk w7 gb 139 (gCells sn sa wk6 od6 bs6) := by rw [hw7]; exact hG6.drew.alloc _
      have hfr7 : Fr B (· = gb) w1 w7 := by rw [hw7]; exact hfr6.drew.alloc (hBsz hfr6.drew) _
      have ht7 : Blk w7 w6.drew.heap.size 3 [iN i] := by rw [hw7]; exact Blk.new w6.drew 3 #[iN i]
      have hwk7 : Own w7 3 1 wk6 (st.1.map iN) := by rw [hw7]; exact hwk6.drew.alloc _
      have hod7 : Own w7 3 1 od6 (st.2.map iN) := by rw [hw7]; exact hod6.drew.alloc _
      refine ⟨hG7.cell rfl, (box0 hfr7).cell0 rfl, (box0 hfr7).cell0 rfl, ?_⟩
      have hwl := own_len hod7
      have hsl := nodup_le hcame.nodup hcame.lt
      refine append_one eInt hod7 rfl ht7 (by omega) (by omega) fun r w8 hr hrl ⟨b, hrb, hbo, hg⟩ => ?_
      have hbB : B ≤ b := by
        rcases hbo with hb | rfl
        · exact hfo6 _ hb
        · exact hBsz hfr7
      have hfr8 : Fr B (· = gb) w1 w8 := hfr7.grown hg hbB (hBsz hfr7)
      have hbgb : gb ≠ b := by have := cw.gblt; omega
      have hG8 : Blk w8 gb 139 (gCells sn sa wk6 od6 bs6) := hG7.of_block (hg.block gb hG7.lt (fun e => hbgb (Option.some.inj e)))
      have hwkne : ∀ a, wk6.a = some a → a.block ≠ b := fun a ha e => by
        rcases hbo with hb | hb
        · exact hap6 _ _ ha hb e
        · have := (hwk7.lt ha).2; omega
      have hwk8 : Own w8 3 1 wk6 (st.1.map iN) := hwk7.of_block fun a ha => hg.block _ (hwk7.lt ha).2 (fun e => hwkne a ha (Option.some.inj e))
      refine ⟨(box0 hfr8).cell0 rfl, hG8.wr (by simp), Nw.gen fun w9 hw9 => ?_⟩
      have hG9 : Blk w9 gb 139 (gCells sn sa wk6 r bs6) := by rw [hw9]; exact hG8.set 3 _
      have hfr9 : Fr B (· = gb) w1 w9 := by rw [hw9]; exact hfr8.set (.inr (by rw [add_block])) _
      have stay9 : ∀ {sl : Sl} {xs : List Value}, Own w8 3 1 sl xs → Own w9 3 1 sl xs := fun h => h.of_block fun a ha => by
        rw [hw9]; exact Below.heap_setCell _ _ _ _ (by rw [add_block]; exact own_ne h hG8 (by decide) ha)
      refine hR w9 ⟨hfr9, wk6, r, bs6, hG9, hb6, stay9 hwk8, by simpa using stay9 hr, hfw6, fun a ha => ?_, fun a c ha hc => ?_⟩ (by simp; omega)
      · rw [hrb] at ha; cases ha; exact hbB
      · rw [hrb] at hc; cases hc; exact hwkne a ha

end Go.Proofs

namespace Go.Proofs
open Go.Gk Go.RowKit Go.Gr

theorem fr_only {B : Nat} {X : Nat → Prop} {w w' w'' : World} {s : Sl} (h : Fr B X w w') (ho : Only s w' w'') (hs : Fresh B s) : Fr B X w w'' := h.trans (Fr.of_below (ho.below hs))

theorem walked_spec {gb : Nat} {sn sa : Sl} {hs : List Sl} {nx : List (List Nat)} {w : World} {R : Value → World → Prop}
    (hG : Blk w gb 139 (gCells sn sa ⟨none, 0, 0⟩ ⟨none, 0, 0⟩ (List.replicate 64 (.int .u64 (0 : Int))))) (hnx : IsNN w sn hs nx) (hav : Avoids gb sn hs)
    (h0 : 0 < nx.length) (hmax : nx.length ≤ 4096) (hrows : ∀ i, ∀ t ∈ nx.getD i [], t < nx.length)
    (hR : ∀ w' wk od bs, Fr w.heap.size (· = gb) w w' → Blk w' gb 139 (gCells sn sa wk od bs) → BitsL bs (fun i => (walkOf nx).contains i) → Own w' 3 1 wk ((walkOf nx).map iN) →
      Own w' 3 1 od ((orderOf nx).map iN) → Fresh w.heap.size wk → Fresh w.heap.size od → R (.tuple #[]) w') :
    callR Tryz.prog 98 #[.pointer (some (blk gb))] w R := by
  refine callR.of (graph_Graph_walked_calls _ R w ?_) fun _ _ h => h
  have hgl := hG.lt
  refine Nw.gen fun w1 hw1 => Nw.gen fun w2 hw2 => ?_
  have hz1 : w1.heap.size = w.heap.size + 1 := by rw [hw1]; simp
  have hB0 : Blk w2 w.heap.size 75 [.pointer (some (blk gb))] := by rw [hw2, hw1]; exact (Blk.new w _ #[_]).alloc _
  have hB1 : Blk w2 w1.heap.size 140 [.nilFunc] := by rw [hw2]; exact Blk.new w1 _ #[_]
  have hb2 : Below w.heap.size w w2 := by rw [hw2, hw1]; exact ((Below.refl _ _).alloc (Nat.le_refl _) _).alloc (by simp) _
  have hz2 : w2.heap.size = w.heap.size + 2 := by rw [hw2, hw1]; simp
  refine ⟨hB1.wr0 (by simp), Nw.gen fun w3 hw3 => ?_⟩
  have hz3 : w3.heap.size = w.heap.size + 2 := by rw [hw3]; simpa [World.setCell] using hz2
  have hb3 : Below w.heap.size w w3 := by rw [hw3]; exact hb2.setCell (by simp; omega) _
  have hB0' : Blk w3 w.heap.size 75 [.pointer (some (blk gb))] := by rw [hw3]; exact hB0.other (by simp; omega) _
  have hB1' : Blk w3 w1.heap.size 140 [.func (.func 137) #[] #[.pointer (some (blk w.heap.size)), .pointer (some (blk w1.heap.size))]] := by rw [hw3]; exact hB1.set0 _
  have hG3 := hG.below hb3
  have cw : CW w3 w3.heap.size w.heap.size w1.heap.size gb sn hs nx :=
    ⟨rfl, by omega, hB0', hB1', by omega, by omega, hnx.below hb3, hav, hmax, hrows⟩
  refine ⟨_, hB1'.cell0 rfl, ?_⟩
  have cs : CS w3 w3.heap.size gb sn sa w3 ([], []) :=
    ⟨Fr.refl _ _ _, ⟨none, 0, 0⟩, ⟨none, 0, 0⟩, _, hG3, BitsL.zero.congr (fun i => by simp), Own.nil _ _ _, Own.nil _ _ _, fun a h => (by cases h), fun a h => (by cases h), fun a b h => by cases h⟩
  refine come_spec cw nx.length 0 ([], []) w3 _ h0 (by simp) (by simp) (by simp) (by simp) (by simp) cs fun w4 hcs _ => ⟨rfl, ?_⟩
  obtain ⟨hfr, wk, od, bs, hG4, hbits, hwk, hod, hfw, hfo, hap⟩ := hcs
  have hB04 : Blk w4 w.heap.size 75 [.pointer (some (blk gb))] := hB0'.of_block (hfr.block _ (by omega) (by show ¬ w.heap.size = gb; omega))
  refine ⟨some (blk gb), hB04.cell0 rfl, od, hG4.cell rfl, ?_⟩
  refine Reverse_spec hod fun w5 hod5 honly => ⟨rfl, ?_⟩
  have hne : ∀ a, od.a = some a → a.block ≠ gb := fun a ha => own_ne hod hG4 (by decide) ha
  have hG5 := hG4.of_block (honly.block gb hne)
  have hwk5 : Own w5 3 1 wk ((visit nx nx.length 0 ([], [])).1.map iN) := hwk.of_block fun a ha => honly.block _ fun b hb => (hap a b ha hb).symm
  have hfr5 : Fr w3.heap.size (· = gb) w3 w5 := fr_only hfr honly hfo
  refine hR w5 wk od bs (Fr.trans (Fr.of_below hb3) (hfr5.mono (by omega) (fun _ _ h => h))) hG5 hbits hwk5 (by simpa [orderOf] using hod5) (fun a ha => ?_) (fun a ha => ?_)
  · have := hfw a ha; omega
  · have := hfo a ha; omega

end Go.Proofs

namespace Go.Proofs
open Go.Gk Go.RowKit Go.Gr

/-- Block bh holds the headers hs of rows that the code itself grows; ow tells which block is whose. -/
structure Fam (B : Nat) (w : World) (bh : Nat) (hs : List Sl) (ll : List (List Nat)) (ow : Nat → Nat) (off : Nat) : Prop where
  head : Blk w bh 26 (hs.map Sl.val)
  len : hs.length = ll.length
  row : ∀ (i : Nat) (h : i < hs.length), Own w 3 1 hs[i] ((ll.getD i []).map iN)
  own : ∀ (i : Nat) (h : i < hs.length) a, hs[i].a = some a → ow a.block = off + i ∧ B ≤ a.block

def upd (ow : Nat → Nat) (b v : Nat) : Nat → Nat := fun k => if k = b then v else ow k

theorem Fam.ne {B : Nat} {w : World} {bh : Nat} {hs : List Sl} {ll : List (List Nat)} {ow : Nat → Nat} {off : Nat} (h : Fam B w bh hs ll ow off) {i : Nat} (hi : i < hs.length) {a : Addr} (ha : hs[i].a = some a) : a.block ≠ bh :=
  own_ne (h.row i hi) h.head (by decide) ha
/-- The other family, while a block that is none of its own is written or made. -/
theorem Fam.other {B : Nat} {w w' : World} {bh : Nat} {hs : List Sl} {ll : List (List Nat)} {ow : Nat → Nat} {off b v : Nat} (h : Fam B w bh hs ll ow off) (hg : w.grownBy w' (some b)) (hb : b ≠ bh)
    (hn : (∃ v', ow b = v' ∧ ∀ i, i < hs.length → v' ≠ off + i) ∨ b = w.heap.size) : Fam B w' bh hs ll (upd ow b v) off := by
  have hrow : ∀ (i : Nat) (hi : i < hs.length) a, hs[i].a = some a → a.block ≠ b := fun i hi a ha e => by
    rcases hn with ⟨v', h1, h2⟩ | h1
    · exact h2 i hi (by rw [← h1, ← e]; exact (h.own i hi a ha).1)
    · have := ((h.row i hi).lt ha).2; omega
  refine ⟨h.head.of_block (hg.block bh h.head.lt (fun e => hb (Option.some.inj e).symm)), h.len, fun i hi => (h.row i hi).of_block fun a ha => hg.block _ ((h.row i hi).lt ha).2 (fun e => hrow i hi a ha (Option.some.inj e)), fun i hi a ha => ?_⟩
  refine ⟨?_, (h.own i hi a ha).2⟩
  unfold upd
  rw [if_neg (hrow i hi a ha)]
  exact (h.own i hi a ha).1
/-- A store elsewhere. -/
theorem Fam.set_other {B : Nat} {w : World} {bh : Nat} {hs : List Sl} {ll : List (List Nat)} {ow : Nat → Nat} {off : Nat} (h : Fam B w bh hs ll ow off) {b : Nat} {T : TypeId} {cs : List Value} (hB : Blk w b T cs) (hb : b ≠ bh) (hT : T ≠ 3) (n : Nat) (v : Value) :
    Fam B (w.setCell ((blk b).add n) v) bh hs ll ow off := by
  refine ⟨h.head.other (by rw [add_block]; exact Ne.symm hb) v, h.len, fun i hi => (h.row i hi).of_block fun a ha => Below.heap_setCell _ _ _ _ (by rw [add_block]; exact own_ne (h.row i hi) hB hT ha), h.own⟩
theorem Fam.grown {B : Nat} {w w' : World} {bh : Nat} {hs : List Sl} {ll : List (List Nat)} {ow : Nat → Nat} {off : Nat} (h : Fam B w bh hs ll ow off) (hb : Below w.heap.size w w') : Fam B w' bh hs ll ow off :=
  ⟨h.head.below hb, h.len, fun i hi => (h.row i hi).below hb, h.own⟩
/-- The row i has grown by x, and its header is stored. -/
theorem Fam.push {B : Nat} {w w' : World} {bh : Nat} {hs : List Sl} {ll : List (List Nat)} {ow : Nat → Nat} {off : Nat} (h : Fam B w bh hs ll ow off) {i : Nat} (hi : i < hs.length) {r : Sl} {x b : Nat}
    (hr : Own w' 3 1 r ((ll.getD i []).map iN ++ [iN x])) (hrb : r.a = some (blk b)) (hbo : hs[i].a = some (blk b) ∨ b = w.heap.size) (hB : B ≤ b) (hg : w.grownBy w' (some b)) :
    Blk w' bh 26 (hs.map Sl.val) ∧ Fam B (w'.setCell ((blk bh).add i) r.val) bh (hs.set i r) (ll.set i (ll.getD i [] ++ [x])) (upd ow b (off + i)) off := by
  have hbne : b ≠ bh := by
    rcases hbo with hb | hb
    · exact h.ne hi hb
    · have := h.head.lt; omega
  have hH : Blk w' bh 26 (hs.map Sl.val) := h.head.of_block (hg.block bh h.head.lt (fun e => hbne (Option.some.inj e).symm))
  have hrow : ∀ (j : Nat) (hj : j < hs.length) a, j ≠ i → hs[j].a = some a → a.block ≠ b := fun j hj a hne ha e => by
    rcases hbo with hb | hb
    · have h1 := (h.own j hj a ha).1
      have h2 := (h.own i hi _ hb).1
      rw [e] at h1
      simp only at h2
      omega
    · have := ((h.row j hj).lt ha).2; omega
  have stay : ∀ {s : Sl} {xs : List Value}, Own w' 3 1 s xs → Own (w'.setCell ((blk bh).add i) r.val) 3 1 s xs := fun ho => ho.of_block fun a ha => Below.heap_setCell _ _ _ _ (by rw [add_block]; exact own_ne ho hH (by decide) ha)
  refine ⟨hH, ?_, by simp [h.len], fun j hj => ?_, fun j hj a ha => ?_⟩
  · have := hH.set i r.val
    rwa [← List.map_set] at this
  · have hj' : j < hs.length := by simpa using hj
    by_cases e : j = i
    · subst e
      have : (ll.set j (ll.getD j [] ++ [x])).getD j [] = ll.getD j [] ++ [x] := by simp [List.getD, show j < ll.length by have := h.len; omega]
      rw [List.getElem_set_self, this, List.map_append]
      exact stay hr
    · have : (ll.set i (ll.getD i [] ++ [x])).getD j [] = ll.getD j [] := by simp only [List.getD]; rw [List.getElem?_set_ne (by omega)]
      rw [List.getElem_set_ne (by omega), this]
      exact stay ((h.row j hj').of_block fun a ha => hg.block _ ((h.row j hj').lt ha).2 (fun e' => hrow j hj' a e ha (Option.some.inj e')))
  · have hj' : j < hs.length := by simpa using hj
    by_cases e : j = i
    · subst e
      rw [List.getElem_set_self, hrb] at ha
      cases ha
      exact ⟨by simp [upd], hB⟩
    · rw [List.getElem_set_ne (by omega)] at ha
      refine ⟨?_, (h.own j hj' a ha).2⟩
      unfold upd
      rw [if_neg (hrow j hj' a e ha)]
      exact (h.own j hj' a ha).1
theorem Fam.isSS {B : Nat} {w : World} {bh n : Nat} {hs : List Sl} {ll : List (List Nat)} {ow : Nat → Nat} {off : Nat} (h : Fam B w bh hs ll ow off) (hn : hs.length = n) (hm : n ≤ 9223372036854775807) : IsNN w ⟨some (blk bh), n, n⟩ hs ll :=
  ⟨h.head.isS rfl hn.symm (Nat.le_refl _) hm, h.len, fun i hi hi' => by
    have := (h.row i hi).isS
    simpa [List.getD, hi'] using this⟩
theorem Fam.avoids {B : Nat} {w : World} {bh n : Nat} {hs : List Sl} {ll : List (List Nat)} {ow : Nat → Nat} {off : Nat} (h : Fam B w bh hs ll ow off) {b : Nat} {T : TypeId} {cs : List Value} (hB : Blk w b T cs) (hT : T ≠ 3) (hT' : T ≠ 26) : Avoids b ⟨some (blk bh), n, n⟩ hs :=
  ⟨fun a ha e => by
    cases ha
    have e : bh = b := e
    subst e
    exact hT' (hB.type h.head), fun i hi a ha => own_ne (h.row i hi) hB hT ha⟩
theorem Fam.new (B : Nat) (w : World) (n : Nat) (ow : Nat → Nat) (off bh : Nat) (hB : Blk w bh 26 (List.replicate n (.slice none 0 0))) : Fam B w bh (List.replicate n ⟨none, 0, 0⟩) (List.replicate n []) ow off := by
  refine ⟨?_, by simp, fun i hi => ?_, fun i hi a ha => ?_⟩
  · rw [List.map_replicate]; exact hB
  · have hi' : i < n := by simpa using hi
    simp only [List.getElem_replicate, List.getD, List.getElem?_replicate, if_pos hi', Option.getD_some, List.map_nil]
    exact Own.nil _ _ _
  · simp at ha

/-- A graph that the program has made. -/
def IsG (w : World) (gb : Nat) (nx : List (List Nat)) : Prop :=
  ∃ sn sa wk od bs hn ha, Blk w gb 139 (gCells sn sa wk od bs) ∧ IsNN w sn hn nx ∧ IsNN w sa ha (aheadOf nx) ∧ IsN w wk (walkOf nx) ∧ IsN w od (orderOf nx) ∧ BitsL bs fun i => (walkOf nx).contains i
theorem IsG.below {w w' : World} {gb : Nat} {nx : List (List Nat)} (h : IsG w gb nx) (hb : Below w.heap.size w w') : IsG w' gb nx :=
  let ⟨sn, sa, wk, od, bs, hn, ha, h1, h2, h3, h4, h5, h6⟩ := h
  ⟨sn, sa, wk, od, bs, hn, ha, h1.below hb, h2.below hb, h3.below hb, h4.below hb, h5.below hb, h6⟩
theorem IsG.lt {w : World} {gb : Nat} {nx : List (List Nat)} (h : IsG w gb nx) : gb < w.heap.size := let ⟨_, _, _, _, _, _, _, h1, _⟩ := h; h1.lt

/-- .. of which nothing lies below block B. -/
def IsGB (w : World) (B gb : Nat) (nx : List (List Nat)) : Prop :=
  B ≤ gb ∧ ∃ sn sa wk od bs hn ha, Blk w gb 139 (gCells sn sa wk od bs) ∧ IsNN w sn hn nx ∧ IsNN w sa ha (aheadOf nx) ∧ IsN w wk (walkOf nx) ∧ IsN w od (orderOf nx) ∧ BitsL bs (fun i => (walkOf nx).contains i) ∧
    Fresh B sn ∧ Fresh B sa ∧ Fresh B wk ∧ Fresh B od ∧ (∀ (i : Nat) (h : i < hn.length), Fresh B hn[i]) ∧ ∀ (i : Nat) (h : i < ha.length), Fresh B ha[i]
theorem IsGB.isG {w : World} {B gb : Nat} {nx : List (List Nat)} (h : IsGB w B gb nx) : IsG w gb nx :=
  let ⟨_, sn, sa, wk, od, bs, hn, ha, h1, h2, h3, h4, h5, h6, _⟩ := h
  ⟨sn, sa, wk, od, bs, hn, ha, h1, h2, h3, h4, h5, h6⟩
theorem IsGB.keep {w w' : World} {B gb : Nat} {nx : List (List Nat)} (h : IsGB w B gb nx) (hk : ∀ k, B ≤ k → k < w.heap.size → w'.heap[k]? = w.heap[k]?) : IsGB w' B gb nx := by
  obtain ⟨hg, sn, sa, wk, od, bs, hn, ha, h1, h2, h3, h4, h5, h6, f1, f2, f3, f4, f5, f6⟩ := h
  have st : ∀ {α : Type} {f : α → Value} {s : Sl} {l : List α}, IsS f w s l → Fresh B s → IsS f w' s l := fun hs hf => hs.of_block fun a ha hlt => hk _ (hf a ha) hlt
  exact ⟨hg, sn, sa, wk, od, bs, hn, ha, h1.of_block (hk gb hg h1.lt), ⟨st h2.top f1, h2.len, fun i g1 g2 => st (h2.row i g1 g2) (f5 i g1)⟩, ⟨st h3.top f2, h3.len, fun i g1 g2 => st (h3.row i g1 g2) (f6 i g1)⟩, st h4 f3, st h5 f4, h6, f1, f2, f3, f4, f5, f6⟩
theorem IsGB.below {w w' : World} {B gb : Nat} {nx : List (List Nat)} (h : IsGB w B gb nx) (hb : Below w.heap.size w w') : IsGB w' B gb nx := h.keep fun k _ hk => hb.block k hk

/-- graph.Of under way. -/
structure OS (w0 : World) (gb bn ba n : Nat) (w : World) (NX : List (List Nat)) : Prop where
  below : Below w0.heap.size w0 w
  len : NX.length = n
  g : Blk w gb 139 (gCells ⟨some (blk bn), n, n⟩ ⟨some (blk ba), n, n⟩ ⟨none, 0, 0⟩ ⟨none, 0, 0⟩ (List.replicate 64 (.int .u64 (0 : Int))))
  gB : w0.heap.size ≤ gb
  bnB : w0.heap.size ≤ bn
  baB : w0.heap.size ≤ ba
  ne : bn ≠ ba
  fam : ∃ hn ha ow, Fam w0.heap.size w bn hn NX ow 0 ∧ Fam w0.heap.size w ba ha (aheadOf NX) ow n
theorem OS.grown {w0 w w' : World} {gb bn ba n : Nat} {NX : List (List Nat)} (h : OS w0 gb bn ba n w NX) (hb : Below w.heap.size w w') : OS w0 gb bn ba n w' NX :=
  let ⟨hn, ha, ow, f1, f2⟩ := h.fam
  ⟨h.below.trans (hb.mono h.below.size), h.len, h.g.below hb, h.gB, h.bnB, h.baB, h.ne, hn, ha, ow, f1.grown hb, f2.grown hb⟩

set_option maxHeartbeats 1000000 in
/-- One edge more: both appends. -/
theorem push_step {w0 : World} {gb bn ba n : Nat} {w : World} {NX : List (List Nat)} (h : OS w0 gb bn ba n w NX) {i x : Nat} (hi : i < n) (hx : x < n) (hn : n ≤ 4096) (hlen : (NX.getD i []).length ≤ 4096) (hlenA : ((aheadOf NX).getD x []).length ≤ 4096)
    (hni : (NX.getD i []).contains x = false) (hgt : ∀ j, i < j → NX.getD j [] = []) {sb : Nat} {T : TypeId} {cs : List Value} (hT : T ≠ 3) (hT' : T ≠ 26) (hsb : Blk w sb T cs) {K : World → Prop}
    (hK : ∀ w', OS w0 gb bn ba n w' (NX.set i (NX.getD i [] ++ [x])) → Blk w' sb T cs → K w') :
    derefP (some (blk gb)) fun a18 =>
      ldS w.drew a18 fun x19 =>
      derefP (some (blk gb)) fun a20 =>
      ldS w.drew a20 fun x21 =>
      (0 ≤ (i : Int) ∧ (i : Int) < (x21.l : Int)) ∧
      derefP x21.a fun a22 =>
      ldS w.drew (a22.add (Int.toNat (i : Int))) fun x23 =>
      Nw (w.drew.alloc (.cells #[(.int .i64 (x : Int))] 3)) fun w14 =>
      w14.cell? (a22.add (Int.toNat (i : Int))) = some (.slice x23.a x23.l x23.c) ∧
      w14.cell? a20 = some (.slice x21.a x21.l x21.c) ∧
      w14.cell? a18 = some (.slice x19.a x19.l x19.c) ∧
      appendS Tryz.prog 26 (.slice x23.a x23.l x23.c) (.slice (some (blk w.drew.heap.size)) 1 1) w14 fun r24 w15 =>
      w15.cell? a18 = some (.slice x19.a x19.l x19.c) ∧
      (0 ≤ (i : Int) ∧ (i : Int) < (x19.l : Int)) ∧
      derefP x19.a fun a25 =>
      Wr w15 (a25.add (Int.toNat (i : Int))) ∧
      Nw (w15.setCell (a25.add (Int.toNat (i : Int))) (.slice r24.a r24.l r24.c)) fun w16 =>
      derefP (some (blk gb)) fun a26 =>
      ldS w16.drew (a26.add 1) fun x27 =>
      derefP (some (blk gb)) fun a28 =>
      ldS w16.drew (a28.add 1) fun x29 =>
      (0 ≤ (x : Int) ∧ (x : Int) < (x29.l : Int)) ∧
      derefP x29.a fun a30 =>
      ldS w16.drew (a30.add (Int.toNat (x : Int))) fun x31 =>
      Nw (w16.drew.alloc (.cells #[(.int .i64 (i : Int))] 3)) fun w17 =>
      w17.cell? (a30.add (Int.toNat (x : Int))) = some (.slice x31.a x31.l x31.c) ∧
      w17.cell? (a28.add 1) = some (.slice x29.a x29.l x29.c) ∧
      w17.cell? (a26.add 1) = some (.slice x27.a x27.l x27.c) ∧
      appendS Tryz.prog 26 (.slice x31.a x31.l x31.c) (.slice (some (blk w16.drew.heap.size)) 1 1) w17 fun r32 w18 =>
      w18.cell? (a26.add 1) = some (.slice x27.a x27.l x27.c) ∧
      (0 ≤ (x : Int) ∧ (x : Int) < (x27.l : Int)) ∧
      derefP x27.a fun a33 =>
      Wr w18 (a33.add (Int.toNat (x : Int))) ∧
      Nw (w18.setCell (a33.add (Int.toNat (x : Int))) (.slice r32.a r32.l r32.c)) fun w19 => K w19 := by
  obtain ⟨hbel, hNX, hG, hgB, hbnB, hbaB, hne, hn', ha', ow, f1, f2⟩ := h
  have hnl : hn'.length = n := by rw [f1.len, hNX]
  have hal : ha'.length = n := by rw [f2.len, ahead_length, hNX]
  have hBsz : w0.heap.size ≤ w.heap.size := hbel.size
  have hmax : n ≤ 9223372036854775807 := by omega
  refine ⟨⟨some (blk bn), n, n⟩, hG.drew.cell0 rfl, ⟨some (blk bn), n, n⟩, hG.drew.cell0 rfl, ?_⟩
  refine elemS (s := ⟨some (blk bn), n, n⟩) (f1.isSS hnl hmax).top.drew (k := i) (by omega) ?_
  refine Nw.gen fun w14 hw14 => ?_
  have hb14 : Below w.heap.size w w14 := by rw [hw14]; exact (Below.refl _ _).drew.alloc (by simp) _
  have ht14 : Blk w14 w.drew.heap.size 3 [iN x] := by rw [hw14]; exact Blk.new w.drew 3 #[iN x]
  have f1' := f1.grown hb14
  have f2' := f2.grown hb14
  have hG' := hG.below hb14
  have hsb' := hsb.below hb14
  have hz14 : w.heap.size ≤ w14.heap.size := hb14.size
  refine ⟨?_, hG'.cell0 rfl, hG'.cell0 rfl, ?_⟩
  · exact (f1'.isSS hnl hmax).top.cell _ rfl i (by omega)
  have hrow := f1'.row i (by omega)
  have hrl := own_len hrow
  refine append_one eInt hrow rfl ht14 (by omega) (by omega) fun r w15 hr _ ⟨b, hrb, hbo, hg⟩ => ?_
  have hbB : w0.heap.size ≤ b := by
    rcases hbo with hb | rfl
    · exact (f1'.own i (by omega) _ hb).2
    · omega
  obtain ⟨hH, f1p⟩ := f1'.push (by omega) hr hrb hbo hbB hg
  have hbT : ∃ cs, Blk w15 b 3 cs := by obtain ⟨cs, hc⟩ := hr.type hrb; exact ⟨cs, hc⟩
  have hnot : ∀ {b' : Nat} {T : TypeId} {cs : List Value}, Blk w14 b' T cs → T ≠ 3 → b' ≠ b ∧ Blk w15 b' T cs := fun hB hT => by
    have hb' : _ ≠ b := fun e => by
      rcases hbo with hb | hb
      · exact own_ne hrow hB hT hb e.symm
      · have := hB.lt; omega
    exact ⟨hb', hB.of_block (hg.block _ hB.lt (fun e => hb' (Option.some.inj e)))⟩
  have hG15 := (hnot hG' (by decide)).2
  have hgb := (hnot hG' (by decide)).1
  have hbba := (hnot f2'.head (by decide)).1
  have f2o := f2'.other (v := 0 + i) hg (Ne.symm hbba) (by
    rcases hbo with hb | hb
    · exact .inl ⟨_, (f1'.own i (by omega) _ hb).1, fun j hj => by omega⟩
    · exact .inr hb)
  refine ⟨hG15.cell0 rfl, ⟨by omega, by show (i : Int) < ((n : Nat) : Int); omega⟩, hH.wr (by simp; omega), Nw.gen fun w16 hw16 => ?_⟩
  have f1q := f1p
  have f2q := f2o.set_other hH hne (by decide) i r.val
  have hG16 : Blk w16 gb 139 (gCells ⟨some (blk bn), n, n⟩ ⟨some (blk ba), n, n⟩ ⟨none, 0, 0⟩ ⟨none, 0, 0⟩ (List.replicate 64 (.int .u64 (0 : Int)))) := by
    rw [hw16]; exact hG15.other (by rw [add_block]; exact hG15.apart hH (by decide)) _
  have hsb15 := (hnot hsb' hT).2
  have hsb16 : Blk w16 sb T cs := by
    rw [hw16]; exact hsb15.other (by rw [add_block]; exact hsb15.apart hH hT') _
  rw [show w15.setCell ((blk bn).add i) r.val = w16 from hw16.symm] at f1q f2q
  have hb16 : Below w0.heap.size w0 w16 := by
    rw [hw16]
    exact ((hbel.trans (hb14.mono hBsz)).trans (below_grown hg hbB (by omega))).setCell (by rw [add_block]; exact hbnB) _
  have hl1 : (hn'.set i r).length = n := by simp [hnl]
  have hBsz16 := hb16.size
  clear hw16 f1p f2o hH hG15 hnot hbT hr hg hrow f1' f2' hG' ht14 hw14 hb14 f1 f2 hG hsb hsb' hsb15
  -- the edge from behind
  refine ⟨⟨some (blk ba), n, n⟩, hG16.drew.cell rfl, ⟨some (blk ba), n, n⟩, hG16.drew.cell rfl, ?_⟩
  refine elemS (s := ⟨some (blk ba), n, n⟩) (f2q.isSS hal hmax).top.drew (k := x) (by omega) ?_
  refine Nw.gen fun w17 hw17 => ?_
  have hb17 : Below w16.heap.size w16 w17 := by rw [hw17]; exact (Below.refl _ _).drew.alloc (by simp) _
  have ht17 : Blk w17 w16.drew.heap.size 3 [iN i] := by rw [hw17]; exact Blk.new w16.drew 3 #[iN i]
  have f1' := f1q.grown hb17
  have f2' := f2q.grown hb17
  have hG' := hG16.below hb17
  have hsb' := hsb16.below hb17
  have hz17 : w16.heap.size ≤ w17.heap.size := hb17.size
  refine ⟨?_, hG'.cell rfl, hG'.cell rfl, ?_⟩
  · exact (f2'.isSS hal hmax).top.cell _ rfl x (by omega)
  have hrow := f2'.row x (by omega)
  have hrl := own_len hrow
  refine append_one eInt hrow rfl ht17 (by omega) (by omega) fun r2 w18 hr _ ⟨b2, hrb2, hbo2, hg2⟩ => ?_
  have hbB2 : w0.heap.size ≤ b2 := by
    rcases hbo2 with hb | rfl
    · exact (f2'.own x (by omega) _ hb).2
    · omega
  obtain ⟨hH, f2p⟩ := f2'.push (by omega) hr hrb2 hbo2 hbB2 hg2
  have hnot : ∀ {b' : Nat} {T : TypeId} {cs : List Value}, Blk w17 b' T cs → T ≠ 3 → b' ≠ b2 ∧ Blk w18 b' T cs := fun hB hT => by
    have hb' : _ ≠ b2 := fun e => by
      rcases hbo2 with hb | hb
      · exact own_ne hrow hB hT hb e.symm
      · have := hB.lt; omega
    exact ⟨hb', hB.of_block (hg2.block _ hB.lt (fun e => hb' (Option.some.inj e)))⟩
  have hG18 := (hnot hG' (by decide)).2
  have hbbn := (hnot f1'.head (by decide)).1
  have f1o := f1'.other (v := n + x) hg2 (Ne.symm hbbn) (by
    rcases hbo2 with hb | hb
    · exact .inl ⟨_, (f2'.own x (by omega) _ hb).1, fun j hj => by omega⟩
    · exact .inr hb)
  refine ⟨hG18.cell rfl, ⟨by omega, by show (x : Int) < ((n : Nat) : Int); omega⟩, hH.wr (by simp; omega), Nw.gen fun w19 hw19 => ?_⟩
  have f2z := f2p
  have f1z := f1o.set_other hH (Ne.symm hne) (by decide) x r2.val
  rw [show w18.setCell ((blk ba).add x) r2.val = w19 from hw19.symm] at f1z f2z
  have hsb18 := (hnot hsb' hT).2
  rw [← ahead_push (by omega) (by omega) hni hgt] at f2z
  refine hK w19 ⟨?_, by simp [hNX], ?_, hgB, hbnB, hbaB, hne, hn'.set i r, ha'.set x r2, _, f1z, f2z⟩ ?_
  · rw [hw19]
    exact ((hb16.trans (hb17.mono hBsz16)).trans (below_grown hg2 hbB2 (by omega))).setCell (by rw [add_block]; exact hbaB) _
  · rw [hw19]; exact hG18.other (by rw [add_block]; exact hG18.apart hH (by decide)) _
  · rw [hw19]; exact hsb18.other (by rw [add_block]; exact hsb18.apart hH hT') _

end Go.Proofs
namespace Go.Proofs
open Go.Gk Go.RowKit Go.Gr

theorem makeOk {n : Nat} {b : Int} (hb : b = 24 ∨ b = 8 ∨ b = 1) (h : n ≤ 4096) : (0 ≤ (n : Int) ∧ (n : Int) ≤ (n : Int) ∧ b * (n : Int) ≤ 281474976710656 ∧ (n : Int) ≤ 9223372036854775807) := by
  rcases hb with rfl | rfl | rfl <;> omega

theorem elemS_n {w : World} {s : Sl} {hs : List Sl} (h : IsS Sl.val w s hs) {n : Nat} (hn : s.l = n) {k : Nat} (hk : k < hs.length) {φ : Sl → Prop} (hφ : φ hs[k]) :
    (0 ≤ (k : Int) ∧ (k : Int) < (n : Int)) ∧ derefP s.a fun a => ldS w (a.add (Int.toNat (k : Int))) φ := by
  subst hn; exact elemS h hk hφ
/-- The input's rows as nodes. -/
abbrev natRows (ll : List (List Int)) : List (List Nat) := ll.map fun l => l.map Int.toNat
theorem natRows_getD (ll : List (List Int)) (i : Nat) (hi : i < ll.length) : (natRows ll).getD i [] = (ll[i]).map Int.toNat := by simp [natRows, List.getD, hi]
/-- All edges lead to nodes. -/
def Good (ll : List (List Int)) : Prop := ∀ l ∈ ll, ∀ x ∈ l, 0 ≤ x ∧ x < (ll.length : Int)
/-- The edges that the graph has. -/
abbrev edges (ll : List (List Int)) : List (List Nat) := (natRows ll).map dedup

theorem ahead_replicate (n : Nat) : aheadOf (List.replicate n ([] : List Nat)) = List.replicate n [] := by
  apply List.ext_getElem
  · simp [aheadOf]
  · intro j g1 g2
    simp only [aheadOf, List.getElem_map, List.getElem_range, List.getElem_replicate]
    rw [List.filter_eq_nil_iff]
    intro a ha
    have ha := List.mem_range.1 ha
    simp only [List.length_replicate] at ha
    simp [List.getD, ha]
theorem nxP_zero' (ll : List (List Int)) : nxP (natRows ll) 0 0 = List.replicate ll.length [] := by
  rw [nxP_zero]; simp [natRows]

set_option maxHeartbeats 1000000 in
theorem graph_Of_spec {s : Sl} {hs : List Sl} {ll : List (List Int)} {w : World} {R : Value → World → Prop} (h : IsII w s hs ll)
    (h2 : ll.length = 0 → R (.tuple #[.pointer none, .int .i64 2]) w)
    (h4 : 4096 < ll.length → R (.tuple #[.pointer none, .int .i64 4]) w)
    (hbad : 0 < ll.length → ll.length ≤ 4096 → ¬ Good ll → ∀ w', Below w.heap.size w w' → R (.tuple #[.pointer none, .int .i64 141]) w')
    (hok : 0 < ll.length → ll.length ≤ 4096 → Good ll → ∀ w' gb, Below w.heap.size w w' → IsGB w' w.heap.size gb (edges ll) → IsG w' gb (edges ll) → R (.tuple #[.pointer (some (blk gb)), .int .i64 0]) w') :
    callR Tryz.prog 37 #[.slice s.a s.l s.c] w R := by
  refine callR.of (graph_Of_calls s R w ?_) fun _ _ h => h
  have hsl : s.l = hs.length := h.top.len
  have hhl : hs.length = ll.length := h.len
  have hn : s.l = ll.length := by omega
  unfold L_graph_Of
  rw [hn]
  refine ifB_beq (fun he => h2 (by omega)) (fun hne => ifB_dec (fun hgt => h4 (by omega)) (fun hle => ?_))
  have hn0 : 0 < ll.length := by omega
  have hn1 : ll.length ≤ 4096 := by omega
  -- the memory is made, in either order
  refine JoinW.cut (fun st w7 => ∃ gb bn ba, st = (some (blk gb), ()) ∧ OS w gb bn ba ll.length w7 (nxP (natRows ll) 0 0)) ⟨?_, ?_⟩ ?_
  · refine ⟨makeOk (.inl rfl) hn1, Nw.gen fun w1 hw1 => ⟨makeOk (.inl rfl) hn1, Nw.gen fun w2 hw2 => Nw.gen fun w3 hw3 => ⟨w2.heap.size, w.heap.size, w1.heap.size, rfl, ?_⟩⟩⟩
    have hz1 : w1.heap.size = w.heap.size + 1 := by rw [hw1]; simp
    have hz2 : w2.heap.size = w.heap.size + 2 := by rw [hw2]; simp; omega
    have b1 : Blk w1 w.heap.size 26 (List.replicate ll.length (.slice none 0 0)) := by rw [hw1]; exact Blk.made w.drew _ _ _
    have b2 : Blk w2 w1.heap.size 26 (List.replicate ll.length (.slice none 0 0)) := by rw [hw2]; exact Blk.made w1 _ _ _
    have b1' : Blk w3 w.heap.size 26 (List.replicate ll.length (.slice none 0 0)) := by rw [hw3, hw2]; exact (b1.alloc _).alloc _
    have b2' : Blk w3 w1.heap.size 26 (List.replicate ll.length (.slice none 0 0)) := by rw [hw3]; exact b2.alloc _
    have hg : Blk w3 w2.heap.size 139 (gCells ⟨some (blk w.heap.size), ll.length, ll.length⟩ ⟨some (blk w1.heap.size), ll.length, ll.length⟩ ⟨none, 0, 0⟩ ⟨none, 0, 0⟩ (List.replicate 64 (.int .u64 (0 : Int)))) := by
      rw [hw3]; exact Blk.new w2 _ _
    refine ⟨?_, by rw [nxP_zero']; simp, hg, by omega, Nat.le_refl _, by omega, by omega, List.replicate ll.length ⟨none, 0, 0⟩, List.replicate ll.length ⟨none, 0, 0⟩, fun _ => 0, by rw [nxP_zero']; exact Fam.new _ w3 _ _ _ _ b1', by rw [nxP_zero', ahead_replicate]; exact Fam.new _ w3 _ _ _ _ b2'⟩
    · rw [hw3, hw2, hw1]; exact (((Below.refl _ _).drew.alloc (by simp) _).alloc (by simp) _).alloc (by simp; omega) _
  · refine ⟨makeOk (.inl rfl) hn1, Nw.gen fun w1 hw1 => ⟨makeOk (.inl rfl) hn1, Nw.gen fun w2 hw2 => Nw.gen fun w3 hw3 => ⟨w2.heap.size, w1.heap.size, w.heap.size, rfl, ?_⟩⟩⟩
    have hz1 : w1.heap.size = w.heap.size + 1 := by rw [hw1]; simp
    have hz2 : w2.heap.size = w.heap.size + 2 := by rw [hw2]; simp; omega
    have b1 : Blk w1 w.heap.size 26 (List.replicate ll.length (.slice none 0 0)) := by rw [hw1]; exact Blk.made w.drew _ _ _
    have b2 : Blk w2 w1.heap.size 26 (List.replicate ll.length (.slice none 0 0)) := by rw [hw2]; exact Blk.made w1 _ _ _
    have b1' : Blk w3 w.heap.size 26 (List.replicate ll.length (.slice none 0 0)) := by rw [hw3, hw2]; exact (b1.alloc _).alloc _
    have b2' : Blk w3 w1.heap.size 26 (List.replicate ll.length (.slice none 0 0)) := by rw [hw3]; exact b2.alloc _
    have hg : Blk w3 w2.heap.size 139 (gCells ⟨some (blk w1.heap.size), ll.length, ll.length⟩ ⟨some (blk w.heap.size), ll.length, ll.length⟩ ⟨none, 0, 0⟩ ⟨none, 0, 0⟩ (List.replicate 64 (.int .u64 (0 : Int)))) := by
      rw [hw3]; exact Blk.new w2 _ _
    refine ⟨?_, by rw [nxP_zero']; simp, hg, by omega, by omega, Nat.le_refl _, by omega, List.replicate ll.length ⟨none, 0, 0⟩, List.replicate ll.length ⟨none, 0, 0⟩, fun _ => 0, by rw [nxP_zero']; exact Fam.new _ w3 _ _ _ _ b2', by rw [nxP_zero', ahead_replicate]; exact Fam.new _ w3 _ _ _ _ b1'⟩
    · rw [hw3, hw2, hw1]; exact (((Below.refl _ _).drew.alloc (by simp) _).alloc (by simp) _).alloc (by simp; omega) _
  rintro _ w7 ⟨gb, bn, ba, rfl, hos⟩
  have hrl : (natRows ll).length = ll.length := by simp [natRows]
  -- row by row
  refine LoopW.count ll.length (by omega) (fun i w' => OS w gb bn ba ll.length w' (nxP (natRows ll) i 0) ∧ ∀ j, j < i → ∀ (hj : j < ll.length), ∀ x ∈ ll[j], 0 ≤ x ∧ x < (ll.length : Int)) ⟨hos, fun j hj => by omega⟩ ?_
  rintro i w8 hi ⟨hos8, hgood⟩ next hnext
  refine ifB_dec (fun hlt => ?_) (fun hge => ?_)
  · have hlt : i < ll.length := by dsimp only at hlt; omega
    have hin := h.below (w' := w8) (hos8.below.mono (Nat.le_refl _))
    refine elemS_n hin.top hn (k := i) (by omega) ?_
    refine Nw.gen fun w9 hw9 => ?_
    have hb9 : Below w8.heap.size w8 w9 := by rw [hw9]; exact (Below.refl _ _).alloc (Nat.le_refl _) _
    have hbits9 : Bits w9 (blk w8.heap.size) fun _ => false := by rw [hw9]; exact Bits.new w8 _
    have hB9 : Blk w9 w8.heap.size 137 (List.replicate 64 (.int .u64 (0 : Int))) := by rw [hw9]; exact Blk.new w8 _ _
    have hos9 := hos8.grown hb9
    have hsbB : w.heap.size ≤ w8.heap.size := hos8.below.size
    have hrow : ∀ {w' : World}, Below w.heap.size w w' → IsI w' (hs[i]'(by omega)) ll[i] := fun hb => (h.below hb).row i (by omega) hlt
    have hrn : (hs[i]'(by omega)).l = (ll[i]).length := (hrow hos9.below).len
    have hgd := natRows_getD ll i hlt
    clear hw9 hin
    -- edge by edge
    refine LoopW.count (ll[i]).length (hrow hos9.below).bound (fun k w' => OS w gb bn ba ll.length w' (nxP (natRows ll) i k) ∧ (∃ cs, Blk w' w8.heap.size 137 cs) ∧ Bits w' (blk w8.heap.size) (fun j => ((nxP (natRows ll) i k).getD i []).contains j) ∧
      ∀ j, j < k → ∀ (hj : j < (ll[i]).length), 0 ≤ ll[i][j] ∧ ll[i][j] < (ll.length : Int)) ⟨hos9, ⟨_, hB9⟩, ?_, fun j hj => by omega⟩ ?_
    · have e : (nxP (natRows ll) i 0).getD i [] = [] := by rw [nxP_getD (by omega)]; simp [dedup]
      rw [e]; simpa using hbits9
    rintro k w10 hk ⟨hos10, ⟨cs10, hB10⟩, hbits10, hgood10⟩ nxt hnxt
    refine ifB_dec (fun hltk => ?_) (fun hgek => ?_)
    · have hltk : k < (ll[i]).length := by dsimp only at hltk; omega
      refine JoinW.cut (fun _ w' => OS w gb bn ba ll.length w' (nxP (natRows ll) i (k + 1)) ∧ (∃ cs, Blk w' w8.heap.size 137 cs) ∧ Bits w' (blk w8.heap.size) (fun j => ((nxP (natRows ll) i (k + 1)).getD i []).contains j) ∧
        0 ≤ ll[i][k] ∧ ll[i][k] < (ll.length : Int)) ?_ fun _ w' hh => hnxt w' hltk ⟨hh.1, hh.2.1, hh.2.2.1, fun j hj hjl => by
          by_cases e : j = k
          · subst e; exact hh.2.2.2
          · exact hgood10 j (by omega) hjl⟩
      refine elemI (hrow hos10.below) hltk ?_
      have bad : ¬ (0 ≤ ll[i][k] ∧ ll[i][k] < (ll.length : Int)) → R (.tuple #[.pointer none, .int .i64 141]) w10 := fun hx =>
        hbad hn0 hn1 (fun hG => hx (hG _ (List.getElem_mem hlt) _ (List.getElem_mem hltk))) w10 hos10.below
      refine JoinW.cut (fun _ w' => w' = w10 ∧ 0 ≤ ll[i][k] ∧ ll[i][k] < (ll.length : Int)) (ifB_dec (fun hx => bad (by omega)) (fun hx => ifB_dec (fun hx' => bad (by omega)) (fun hx' => ⟨rfl, by omega, by omega⟩))) ?_
      rintro _ wx ⟨ewx, hx0, hx1⟩
      subst wx
      obtain ⟨x, hx⟩ := Int.eq_ofNat_of_zero_le hx0
      have hxn : x < ll.length := by omega
      have hrk : k < ((natRows ll).getD i []).length := by rw [hgd]; simpa using hltk
      have hrx : ((natRows ll).getD i [])[k] = x := by
        have : ((natRows ll).getD i [])[k] = (ll[i][k]).toNat := (List.getElem_of_eq hgd hrk).trans (List.getElem_map _)
        rw [this, hx]; rfl
      rw [hx]
      refine has_spec (i := x) (by omega) hbits10 ⟨_, rfl, ifB_not ?_⟩
      refine ifB_bool (fun hc => ?_) (fun hc => ?_)
      · have hskip := nxP_skip (rows := natRows ll) (i := i) (k := k) (by omega) hrk (by rw [hrx]; exact hc)
        rw [hskip]
        exact ⟨hos10, ⟨_, hB10⟩, hbits10, by omega, by omega⟩
      · have hpush := nxP_push (rows := natRows ll) (i := i) (k := k) (by omega) hrk (by rw [hrx]; exact hc)
        rw [hrx] at hpush
        refine add_spec (i := x) (by omega) hbits10 fun v hbits11 => ⟨rfl, ?_⟩
        generalize hw11 : w10.drew.setCell ((blk w8.heap.size).add (x / 64)) (.int .u64 (v : Int)) = w11 at hbits11 ⊢
        obtain ⟨cs11, hB11⟩ : ∃ cs, Blk w11 w8.heap.size 137 cs := by rw [← hw11]; exact ⟨_, hB10.drew.set _ _⟩
        have hos11 : OS w gb bn ba ll.length w11 (nxP (natRows ll) i k) := by
          obtain ⟨o1, o2, o3, o4, o5, o6, o7, hn', ha', ow, f1, f2⟩ := hos10
          have hne3 : gb ≠ w8.heap.size := o3.apart hB10 (by decide)
          have hne1 : w8.heap.size ≠ bn := hB10.apart f1.head (by decide)
          have hne2 : w8.heap.size ≠ ba := hB10.apart f2.head (by decide)
          rw [← hw11]
          exact ⟨o1.drew.setCell (by rw [add_block]; exact hsbB) _, o2, o3.drew.other (by rw [add_block]; exact hne3) _, o4, o5, o6, o7, hn', ha', ow,
            (f1.grown (w' := _) (Below.refl _ _).drew).set_other (hB10.drew) hne1 (by decide) _ _, (f2.grown (w' := _) (Below.refl _ _).drew).set_other (hB10.drew) hne2 (by decide) _ _⟩
        have hlen : ((nxP (natRows ll) i k).getD i []).length ≤ ll.length := by
          rw [nxP_getD (by omega), if_neg (by omega), if_pos rfl, hgd]
          refine dedup_le fun y hy => ?_
          obtain ⟨j, hj, rfl⟩ := List.mem_iff_getElem.1 hy
          have hj' : j < k ∧ j < (ll[i]).length := by simp at hj; omega
          have := hgood10 j hj'.1 hj'.2
          simp only [List.getElem_take, List.getElem_map]
          omega
        have hgt : ∀ j, i < j → (nxP (natRows ll) i k).getD j [] = [] := fun j hj => by
          by_cases hjn : j < (natRows ll).length
          · rw [nxP_getD hjn, if_neg (by omega), if_neg (by omega)]
          · rw [List.getD_eq_getElem?_getD, List.getElem?_eq_none (by rw [nxP_length]; omega)]; rfl
        refine push_step hos11 hlt hxn hn1 (by omega) (by have := ahead_le (nxP (natRows ll) i k) x; rw [nxP_length] at this; omega) hc hgt (by decide) (by decide) hB11 fun w' hos' hB' => ?_
        rw [hpush]
        refine ⟨hos', ⟨_, hB'⟩, ?_, by omega, by omega⟩
        have e : ∀ j, (((nxP (natRows ll) i k).set i ((nxP (natRows ll) i k).getD i [] ++ [x])).getD i []).contains j = (((nxP (natRows ll) i k).getD i []).contains j || j == x) := by
          intro j
          have : ((nxP (natRows ll) i k).set i ((nxP (natRows ll) i k).getD i [] ++ [x])).getD i [] = (nxP (natRows ll) i k).getD i [] ++ [x] := by simp [List.getD, nxP_length, hlt]
          rw [this, Bool.eq_iff_iff]
          simp
        have hbits' : Bits w' (blk w8.heap.size) (fun j => ((nxP (natRows ll) i k).getD i []).contains j || j == x) :=
          hbits11.of_block ((show w'.heap[w8.heap.size]? = _ from hB').trans (show w11.heap[w8.heap.size]? = _ from hB11).symm)
        simpa only [e] using hbits'
    · have hkk : k = (ll[i]).length := by dsimp only at hgek; omega
      subst hkk
      refine hnext w10 hlt ⟨?_, fun j hj hjl x hx => ?_⟩
      · have := nxP_next (natRows ll) i
        rw [hgd, List.length_map] at this
        rw [← this]
        exact hos10
      · by_cases e : j = i
        · subst e
          obtain ⟨m, hm, rfl⟩ := List.mem_iff_getElem.1 hx
          exact hgood10 m hm hm
        · exact hgood j (by omega) hjl x hx
  · -- the walk
    have hi' : i = ll.length := by dsimp only at hge; omega
    subst hi'
    have hG : Good ll := fun l hl x hx => by
      obtain ⟨j, hj, rfl⟩ := List.mem_iff_getElem.1 hl
      exact hgood j hj hj x hx
    have hnx : nxP (natRows ll) ll.length 0 = edges ll := by have := nxP_all (natRows ll); rwa [hrl] at this
    rw [hnx] at hos8
    obtain ⟨o1, o2, o3, o4, o5, o6, o7, hn', ha', ow, f1, f2⟩ := hos8
    have hl1 : hn'.length = ll.length := by rw [f1.len, o2]
    have hl2 : ha'.length = ll.length := by rw [f2.len, ahead_length, o2]
    have hrows : ∀ j, ∀ t ∈ (edges ll).getD j [], t < (edges ll).length := by
      intro j t ht
      by_cases hj : j < ll.length
      · have : (edges ll).getD j [] = dedup (ll[j].map Int.toNat) := by simp [edges, natRows, List.getD, hj]
        rw [this, mem_dedup] at ht
        obtain ⟨y, hy, rfl⟩ := List.mem_map.1 ht
        have := hG _ (List.getElem_mem hj) y hy
        simp [edges, natRows]
        omega
      · simp [edges, natRows, List.getD, hj] at ht
    refine walked_spec o3 (f1.isSS hl1 (by omega)) (f1.avoids o3 (by decide) (by decide)) (by rw [o2]; exact hn0) (by rw [o2]; exact hn1) hrows fun w' wk od bs hfr hGw hbits hwk hod hfw hfo => ⟨rfl, ?_⟩
    have hz := o1.size
    have gB : IsGB w' w.heap.size gb (edges ll) := by
      refine ⟨o4, _, _, wk, od, bs, hn', ha', hGw, ?_, ?_, hwk.isS, hod.isS, hbits, (fun a ha => by cases ha; exact o5), (fun a ha => by cases ha; exact o6), (fun a ha => by have := hfw a ha; omega), (fun a ha => by have := hfo a ha; omega), (fun i hi a ha => (f1.own i hi a ha).2), fun i hi a ha => (f2.own i hi a ha).2⟩
      · exact (f1.isSS hl1 (by omega)).fr hfr (Nat.le_refl _) (f1.avoids o3 (by decide) (by decide))
      · exact (f2.isSS hl2 (by omega)).fr hfr (Nat.le_refl _) (f2.avoids o3 (by decide) (by decide))
    refine hok hn0 hn1 hG w' gb ?_ gB gB.isG
    exact o1.trans ((hfr.mono (B' := w.heap.size) (X' := fun _ => False) o1.size (fun k hk e => by omega)).below)

end Go.Proofs

namespace Go.Proofs
open Go.Gk Go.RowKit Go.Gr

/-- A graph's rows: what Of lets through. -/
structure NxOk (nx : List (List Nat)) : Prop where
  pos : 0 < nx.length
  max : nx.length ≤ 4096
  rows : ∀ i, ∀ t ∈ nx.getD i [], t < nx.length
  nodup : ∀ i, (nx.getD i []).Nodup
theorem NxOk.row_le {nx : List (List Nat)} (h : NxOk nx) (i : Nat) : (nx.getD i []).length ≤ nx.length := nodup_le (h.nodup i) (h.rows i)
theorem NxOk.came {nx : List (List Nat)} (h : NxOk nx) : Came nx.length ([], []) (visit nx nx.length 0 ([], [])) :=
  visit_came h.rows nx.length 0 ([], []) h.pos (by simp) (by simp) (by simp)
theorem order_len (nx : List (List Nat)) : (orderOf nx).length = (walkOf nx).length := by
  have := visit_len nx nx.length 0 ([], [])
  simp [orderOf, walkOf] at this ⊢
  omega
theorem NxOk.walk_le {nx : List (List Nat)} (h : NxOk nx) : (walkOf nx).length ≤ nx.length := nodup_le h.came.nodup h.came.lt
theorem edges_getD {ll : List (List Int)} {j : Nat} (hj : j < ll.length) : (edges ll).getD j [] = dedup (ll[j].map Int.toNat) := by simp [edges, natRows, List.getD, hj]
theorem edges_length (ll : List (List Int)) : (edges ll).length = ll.length := by simp [edges, natRows]
theorem edges_ok {ll : List (List Int)} (h0 : 0 < ll.length) (h1 : ll.length ≤ 4096) (hG : Good ll) : NxOk (edges ll) := by
  refine ⟨by rw [edges_length]; exact h0, by rw [edges_length]; exact h1, fun j t ht => ?_, fun j => ?_⟩
  · by_cases hj : j < ll.length
    · rw [edges_getD hj, mem_dedup] at ht
      obtain ⟨y, hy, rfl⟩ := List.mem_map.1 ht
      have := hG _ (List.getElem_mem hj) y hy
      rw [edges_length]
      omega
    · simp [edges, natRows, List.getD, hj] at ht
  · by_cases hj : j < ll.length
    · rw [edges_getD hj]; exact dedup_nodup _
    · simp [edges, natRows, List.getD, hj]

theorem _root_.Go.Gk.IsS.toI {w : World} {s : Sl} {l : List Nat} (h : IsS iN w s l) : IsI w s (l.map fun (x : Nat) => (x : Int)) :=
  ⟨by rw [List.length_map]; exact h.len, h.cap, h.max, h.nil, fun a ha i hi => by rw [List.getElem_map]; exact h.cell a ha i (by simpa using hi)⟩

theorem gLen_spec {gb : Nat} {nx : List (List Nat)} {w : World} {R : Value → World → Prop} (h : IsG w gb nx) (hR : R (.int .i64 (nx.length : Int)) w) :
    callR Tryz.prog 38 #[.pointer (some (blk gb))] w R := by
  refine callR.of (graph_Graph_Len_calls _ R w ?_) fun _ _ h => h
  obtain ⟨sn, sa, wk, od, bs, hn, ha, h1, h2, h3, h4, h5, h6⟩ := h
  refine ⟨sn, h1.cell0 rfl, ?_⟩
  have e : sn.l = nx.length := by have := h2.top.len; have := h2.len; omega
  show R (.int .i64 (sn.l : Int)) w
  rw [e]; exact hR

theorem is_spec {gb : Nat} {nx : List (List Nat)} {i : Int} {w : World} {R : Value → World → Prop} (h : IsG w gb nx) (hR : R (.bool (decide (0 ≤ i ∧ i < nx.length))) w) :
    callR Tryz.prog 99 #[.pointer (some (blk gb)), .int .i64 i] w R := by
  refine callR.of (graph_Graph_is_calls _ i R w ?_) fun _ _ h => h
  refine ifB_dec (fun h0 => gLen_spec h ⟨_, rfl, ?_⟩) (fun h0 => ?_)
  · have : decide (i < (nx.length : Int)) = decide (0 ≤ i ∧ i < nx.length) := by
      rw [decide_eq_decide]; exact ⟨fun h => ⟨h0, h⟩, fun h => h.2⟩
    rw [this]; exact hR
  · have : decide (0 ≤ i ∧ i < (nx.length : Int)) = false := by rw [decide_eq_false_iff_not]; omega
    rw [this] at hR; exact hR

/-- Row i; none where i is no node. -/
def rowAt (ll : List (List Nat)) (i : Int) : List Nat := if 0 ≤ i then ll.getD i.toNat [] else []
theorem rowAt_nat (ll : List (List Nat)) (i : Nat) : rowAt ll (i : Int) = ll.getD i [] := by simp [rowAt]
theorem rowAt_out {ll : List (List Nat)} {i : Int} (h : ¬ (0 ≤ i ∧ i < ll.length)) : rowAt ll i = [] := by
  unfold rowAt
  split
  · rw [List.getD_eq_getElem?_getD, List.getElem?_eq_none (by omega)]; rfl
  · rfl

theorem Next_spec {gb : Nat} {nx : List (List Nat)} (hx : NxOk nx) {i : Int} {w : World} {R : Value → World → Prop} (h : IsG w gb nx)
    (hR : ∀ r w', Own w' 3 1 r ((rowAt nx i).map iN) → Fresh w.heap.size r → Below w.heap.size w w' → R (.slice r.a r.l r.c) w') :
    callR Tryz.prog 39 #[.pointer (some (blk gb)), .int .i64 i] w R := by
  refine callR.of (graph_Graph_Next_calls _ i R w ?_) fun _ _ h => h
  refine is_spec h ⟨_, rfl, ifB_not (ifB_dec (fun hi => ?_) (fun hi => ?_))⟩
  · obtain ⟨sn, sa, wk, od, bs, hn, ha, h1, h2, h3, h4, h5, h6⟩ := h
    obtain ⟨k, rfl⟩ := Int.eq_ofNat_of_zero_le hi.1
    have hk : k < nx.length := by have := hi.2; omega
    have hnl := h2.len
    have hrl := hx.row_le k
    have hrm := hx.max
    have hsz : nx[k].length * 8 ≤ 140737488355328 := by
      have e : nx[k] = nx.getD k [] := by simp [List.getD, hk]
      rw [e]; omega
    refine ⟨sn, h1.cell0 rfl, elemS h2.top (by omega) ?_⟩
    refine Clone_spec iN_one (h2.row k (by omega) hk) hsz fun r w' g1 g2 g3 => ⟨r, rfl, hR r w' ?_ g2 g3⟩
    rw [rowAt_nat]
    simpa [List.getD, hk] using g1
  · refine hR ⟨none, 0, 0⟩ w ?_ (fun a ha => by cases ha) (Below.refl _ _)
    rw [rowAt_out (by omega)]; exact Own.nil _ _ _

theorem Ahead_spec {gb : Nat} {nx : List (List Nat)} (hx : NxOk nx) {i : Int} {w : World} {R : Value → World → Prop} (h : IsG w gb nx)
    (hR : ∀ r w', Own w' 3 1 r ((rowAt (aheadOf nx) i).map iN) → Fresh w.heap.size r → Below w.heap.size w w' → R (.slice r.a r.l r.c) w') :
    callR Tryz.prog 40 #[.pointer (some (blk gb)), .int .i64 i] w R := by
  refine callR.of (graph_Graph_Ahead_calls _ i R w ?_) fun _ _ h => h
  refine is_spec h ⟨_, rfl, ifB_not (ifB_dec (fun hi => ?_) (fun hi => ?_))⟩
  · obtain ⟨sn, sa, wk, od, bs, hn, ha, h1, h2, h3, h4, h5, h6⟩ := h
    obtain ⟨k, rfl⟩ := Int.eq_ofNat_of_zero_le hi.1
    have hk : k < (aheadOf nx).length := by rw [ahead_length]; have := hi.2; omega
    have hnl := h3.len
    have hrl := ahead_le nx k
    have hrm := hx.max
    have hsz : (aheadOf nx)[k].length * 8 ≤ 140737488355328 := by
      have e : (aheadOf nx)[k] = (aheadOf nx).getD k [] := by simp [List.getD, hk]
      rw [e]; omega
    refine ⟨sa, h1.cell (n := 1) rfl, elemS h3.top (by omega) ?_⟩
    refine Clone_spec iN_one (h3.row k (by omega) hk) hsz fun r w' g1 g2 g3 => ⟨r, rfl, hR r w' ?_ g2 g3⟩
    rw [rowAt_nat]
    simpa [List.getD, hk] using g1
  · refine hR ⟨none, 0, 0⟩ w ?_ (fun a ha => by cases ha) (Below.refl _ _)
    rw [rowAt_out (by rw [ahead_length]; omega)]; exact Own.nil _ _ _

theorem Order_spec {gb : Nat} {nx : List (List Nat)} (hx : NxOk nx) {w : World} {R : Value → World → Prop} (h : IsG w gb nx)
    (hR : ∀ r w', Own w' 3 1 r ((orderOf nx).map iN) → Fresh w.heap.size r → Below w.heap.size w w' → R (.slice r.a r.l r.c) w') :
    callR Tryz.prog 42 #[.pointer (some (blk gb))] w R := by
  refine callR.of (graph_Graph_Order_calls _ R w ?_) fun _ _ h => h
  obtain ⟨sn, sa, wk, od, bs, hn, ha, h1, h2, h3, h4, h5, h6⟩ := h
  refine ⟨od, h1.cell (n := 3) rfl, Clone_spec iN_one h5 (by have := order_len nx; have := hx.walk_le; have := hx.max; omega) fun r w' g1 g2 g3 => ⟨r, rfl, hR r w' g1 g2 g3⟩⟩

/-- Is i a node that is reached? -/
def reachedOf (nx : List (List Nat)) (i : Int) : Bool := decide (0 ≤ i) && (walkOf nx).contains i.toNat
theorem Reached_spec {gb : Nat} {nx : List (List Nat)} (hx : NxOk nx) {i : Int} {w : World} {R : Value → World → Prop} (h : IsG w gb nx) (hR : R (.bool (reachedOf nx i)) w) :
    callR Tryz.prog 41 #[.pointer (some (blk gb)), .int .i64 i] w R := by
  refine callR.of (graph_Graph_Reached_calls _ i R w ?_) fun _ _ h => h
  refine is_spec h ⟨_, rfl, ifB_dec (fun hi => ?_) (fun hi => ?_)⟩
  · obtain ⟨sn, sa, wk, od, bs, hn, ha, h1, h2, h3, h4, h5, h6⟩ := h
    obtain ⟨k, rfl⟩ := Int.eq_ofNat_of_zero_le hi.1
    have hm := hx.max
    have hk : k < 4096 := by have := hi.2; omega
    refine has_spec hk (BitsL.bits h1 h6) ⟨_, rfl, ?_⟩
    simpa [reachedOf] using hR
  · have : reachedOf nx i = false := by
      unfold reachedOf
      by_cases h0 : 0 ≤ i
      · have : (walkOf nx).contains i.toNat = false := by
          rw [← Bool.not_eq_true, List.contains_iff_mem]
          intro hm
          have := hx.came.lt _ hm
          omega
        rw [this, Bool.and_false]
      · simp [h0]
    rw [this] at hR
    exact hR

end Go.Proofs

namespace Go.Proofs
open Go.Gk Go.RowKit Go.Gr

theorem pair_spec {a b : Int} {w : World} {R : Value → World → Prop}
    (hR : ∀ w', Below w.heap.size w w' → w'.heap.size = w.heap.size + 1 → Blk w' w.heap.size 3 [.int .i64 a, .int .i64 b] → IsI w' ⟨some (blk w.heap.size), 2, 2⟩ [a, b] → R (.slice (some (blk w.heap.size)) 2 2) w') :
    callR Tryz.prog 36 #[.int .i64 a, .int .i64 b] w R := by
  refine callR.of (intagliolaw14_pair_calls a b R w ?_) fun _ _ h => h
  refine ⟨by decide, Nw.gen fun w1 hw1 => ?_⟩
  have h1 : Blk w1 w.heap.size 3 [.int .i64 (0 : Int), .int .i64 (0 : Int)] := by rw [hw1]; exact Blk.made w _ _ 2
  have b1 : Below w.heap.size w w1 := by rw [hw1]; exact (Below.refl _ _).alloc (Nat.le_refl _) _
  have z1 : w1.heap.size = w.heap.size + 1 := by rw [hw1]; simp
  refine ⟨by decide, h1.wr (n := 0) (by simp), Nw.mk ?_⟩
  refine ⟨by decide, (h1.set 0 _).wr (n := 1) (by simp), Nw.mk ?_⟩
  have h3 := (h1.set 0 (.int .i64 a)).set 1 (.int .i64 b)
  refine hR _ ((b1.setCell (by rw [add_block]; exact Nat.le_refl _) _).setCell (by rw [add_block]; exact Nat.le_refl _) _) (by simpa [World.setCell] using z1) h3 ?_
  exact Blk.isS (f := Value.int .i64) (l := [a, b]) h3 rfl rfl (Nat.le_refl _) (show 2 ≤ 9223372036854775807 by decide)

/-- A slice of slices whose cells are numbers as of nodes. -/
theorem awake_spec {w : World} {R : Value → World → Prop} (hR : ∀ w', Below w.heap.size w w' → R (.bool true) w') : callR Tryz.prog 10 #[] w R := by
  refine callR.of (intagliolaw14_awake_calls R w ?_) fun _ _ h => h
  refine ⟨by decide, Nw.gen fun w1 hw1 => ?_⟩
  have h1 : Blk w1 w.heap.size 26 [.slice none 0 0, .slice none 0 0, .slice none 0 0] := by rw [hw1]; exact Blk.made w _ _ 3
  have b1 : Below w.heap.size w w1 := by rw [hw1]; exact (Below.refl _ _).alloc (Nat.le_refl _) _
  have z1 : w1.heap.size = w.heap.size + 1 := by rw [hw1]; simp
  refine pair_spec fun w2 b2 z2 p2 i2 => ⟨⟨_, 2, 2⟩, rfl, by decide, ?_⟩
  have h2 := h1.below b2
  refine ⟨h2.wr (n := 0) (by simp), Nw.gen fun w3 hw3 => ?_⟩
  have h3 : Blk w3 w.heap.size 26 [.slice (some (blk w1.heap.size)) 2 2, .slice none 0 0, .slice none 0 0] := by rw [hw3]; exact h2.set 0 _
  have p3 : Blk w3 w1.heap.size 3 [.int .i64 2, .int .i64 1] := by rw [hw3]; exact p2.other (by rw [add_block]; simp; omega) _
  have b3 : Below w.heap.size w w3 := by rw [hw3]; exact (b1.trans (b2.mono (by omega))).setCell (by rw [add_block]; exact Nat.le_refl _) _
  have z3 : w3.heap.size = w.heap.size + 2 := by rw [hw3]; simp [World.setCell]; omega
  refine pair_spec fun w4 b4 z4 p4 i4 => ⟨⟨_, 2, 2⟩, rfl, by decide, ?_⟩
  have h4 := h3.below b4
  refine ⟨h4.wr (n := 2) (by simp), Nw.gen fun w5 hw5 => ?_⟩
  have h5 : Blk w5 w.heap.size 26 [.slice (some (blk w1.heap.size)) 2 2, .slice none 0 0, .slice (some (blk w3.heap.size)) 2 2] := by rw [hw5]; exact h4.set 2 _
  have p5 : Blk w5 w1.heap.size 3 [.int .i64 2, .int .i64 1] := by rw [hw5]; exact (p3.below b4).other (by rw [add_block]; simp; omega) _
  have q5 : Blk w5 w3.heap.size 3 [.int .i64 0, .int .i64 2] := by rw [hw5]; exact p4.other (by rw [add_block]; simp; omega) _
  have b5 : Below w.heap.size w w5 := by rw [hw5]; exact (b3.trans (b4.mono (by omega))).setCell (by rw [add_block]; exact Nat.le_refl _) _
  have hin : IsII w5 ⟨some (blk w.heap.size), 3, 3⟩ [⟨some (blk w1.heap.size), 2, 2⟩, ⟨none, 0, 0⟩, ⟨some (blk w3.heap.size), 2, 2⟩] [[2, 1], [], [0, 2]] := by
    refine ⟨Blk.isS (f := Sl.val) h5 rfl rfl (Nat.le_refl _) (show 3 ≤ 9223372036854775807 by decide), rfl, fun i hi _ => ?_⟩
    match i, hi with
    | 0, _ => exact Blk.isS (f := Value.int .i64) (l := [2, 1]) p5 rfl rfl (Nat.le_refl _) (show 2 ≤ 9223372036854775807 by decide)
    | 1, _ => exact ⟨rfl, Nat.le_refl _, show 0 ≤ 9223372036854775807 by decide, fun _ => rfl, fun _ h => by cases h⟩
    | 2, _ => exact Blk.isS (f := Value.int .i64) (l := [0, 2]) q5 rfl rfl (Nat.le_refl _) (show 2 ≤ 9223372036854775807 by decide)
  have hGood : Good [[2, 1], [], [0, 2]] := by unfold Good; decide +kernel
  refine graph_Of_spec (s := ⟨some (blk w.heap.size), 3, 3⟩) hin (fun h => absurd h (by simp)) (fun h => absurd h (by simp)) (fun _ _ h => absurd hGood h) fun _ _ hG w6 gb b6 _ hg => ?_
  have hx : NxOk (edges [[2, 1], [], [0, 2]]) := edges_ok (by decide) (by decide) hG
  have hb6 : Below w.heap.size w w6 := b5.trans (b6.mono b5.size)
  refine ⟨_, _, rfl, ifB_true rfl ?_⟩
  refine gLen_spec hg ⟨_, rfl, ifB_true (by decide +kernel) ?_⟩
  refine Next_spec hx hg fun r8 w8 o8 f8 b8 => ⟨r8, rfl, ?_⟩
  refine pair_spec fun w9 b9 _ _ i9 => ⟨⟨_, 2, 2⟩, rfl, ?_⟩
  have e8 : (rowAt (edges [[2, 1], [], [0, 2]]) 0) = [2, 1] := by decide +kernel
  rw [e8] at o8
  refine Ints_spec (IsS.toI (Own.isS (o8.below b9))) i9 fun w10 _ b10 => ⟨_, rfl, ifB_true (by decide +kernel) ?_⟩
  have hb10 : Below w6.heap.size w6 w10 := b8.trans ((b9.mono b8.size).trans (b10.mono (by have := b8.size; have := b9.size; omega)))
  have hg10 := hg.below hb10
  refine Ahead_spec hx hg10 fun r11 w11 o11 f11 b11 => ⟨r11, rfl, ?_⟩
  refine pair_spec fun w12 b12 _ _ i12 => ⟨⟨_, 2, 2⟩, rfl, ?_⟩
  have e11 : (rowAt (aheadOf (edges [[2, 1], [], [0, 2]])) 2) = [0, 2] := by decide +kernel
  rw [e11] at o11
  refine Ints_spec (IsS.toI (Own.isS (o11.below b12))) i12 fun w13 _ b13 => ⟨_, rfl, ifB_true (by decide +kernel) ?_⟩
  have hb13 : Below w10.heap.size w10 w13 := b11.trans ((b12.mono b11.size).trans (b13.mono (by have := b11.size; have := b12.size; omega)))
  have hg13 := hg10.below hb13
  refine Reached_spec hx hg13 ⟨_, rfl, ifB_true (by decide +kernel) ?_⟩
  refine Order_spec hx hg13 fun r15 w15 o15 f15 b15 => ⟨r15, rfl, ?_⟩
  have e15 : orderOf (edges [[2, 1], [], [0, 2]]) = [0, 1, 2] := by decide +kernel
  have hl := own_len o15
  rw [e15] at hl
  rw [hl]
  refine hR w15 (hb6.trans ((hb10.mono hb6.size).trans ((hb13.mono ?_).trans (b15.mono ?_))))
  · have := hb6.size; have := hb10.size; omega
  · have := hb6.size; have := hb10.size; have := hb13.size; omega

end Go.Proofs

namespace Go.Proofs
open Go.Gk Go.RowKit Go.Gr

end Go.Proofs

namespace Go.Proofs
open Go.Gk Go.RowKit Go.Gr

theorem containsN (l : List Nat) (x : Nat) : (l.map fun (x : Nat) => (x : Int)).contains (x : Int) = l.contains x := by
  rw [Bool.eq_iff_iff]
  simp only [List.contains_iff_mem, List.mem_map]
  exact ⟨fun ⟨y, hy, e⟩ => by rw [show x = y by omega]; exact hy, fun h => ⟨x, h, rfl⟩⟩
end Go.Proofs
namespace Go.Proofs
open Go.Gk
set_option linter.unusedVariables false
set_option maxRecDepth 100000

/-- intaglio.intagliokit.Module -/
def a_intagliokit_Module : Ann := (.seq none .nil (.seq (some ⟨[2, 3], []⟩) (.seq none .nil (.cond (.seq none .nil .nil) .nil)) (.seq none (.seq none .nil (.one (.loop ⟨[2, 3], [(5, (.b (.int .i64)))]⟩ (.seq none (.seq none .nil (.cond .nil .nil)) (.seq none (.one (.seq none .nil (.cond (.seq none .nil .nil) .nil))) .nil))))) (.seq none .nil .nil))))
def L_intagliokit_Module (p0 : (Int × Int × Sl × Unit)) (p1 : (Int × Int × Sl × Unit)) (R : Value → World → Prop) (w : World) : Prop :=
 Nw (w.alloc (.cells #[(.int .u32 p0.1), (.int .u32 p0.2.1), (.slice p0.2.2.1.a p0.2.2.1.l p0.2.2.1.c)] 25)) fun w1 =>
 Nw (w1.alloc (.cells #[(.int .u32 p1.1), (.int .u32 p1.2.1), (.slice p1.2.2.1.a p1.2.2.1.l p1.2.2.1.c)] 25)) fun w2 =>
 JoinW (S := Unit) (fun m1 =>
 ldI w2 (blk w.heap.size) .u32 fun x3 =>
 ldI w2 (blk w1.heap.size) .u32 fun x4 =>
 ifB (x3 != x4)
 (R (.bool false) w2)
 (ldI w2 ((blk w.heap.size).add 1) .u32 fun x5 =>
 ldI w2 ((blk w1.heap.size).add 1) .u32 fun x6 =>
 ifB (x5 != x6)
 (R (.bool false) w2)
 (ldS w2 ((blk w.heap.size).add 2) fun x7 =>
 ldS w2 ((blk w1.heap.size).add 2) fun x8 =>
 ifB ((x7.l : Int) != (x8.l : Int))
 (R (.bool false) w2)
 (m1 (()) w2))))
 (fun s2 w3 =>
 LoopW (S := Int × Unit) (fun s9 w4 n10 =>
 ldS w4 ((blk w.heap.size).add 2) fun x11 =>
 ifB (decide (s9.1 < (x11.l : Int)))
 (ldS w4.drew ((blk w.heap.size).add 2) fun x12 =>
 (0 ≤ s9.1 ∧ s9.1 < (x12.l : Int)) ∧
 derefP x12.a fun a13 =>
 ldI w4.drew ((a13.add ((Int.toNat s9.1) * 4)).add 0) .u16 fun x14 =>
 ldI w4.drew ((a13.add ((Int.toNat s9.1) * 4)).add 1) .u32 fun x15 =>
 ldI w4.drew ((a13.add ((Int.toNat s9.1) * 4)).add 2) .u32 fun x16 =>
 ldS w4.drew ((a13.add ((Int.toNat s9.1) * 4)).add 3) fun x17 =>
 ldS w4.drew ((blk w1.heap.size).add 2) fun x18 =>
 (0 ≤ s9.1 ∧ s9.1 < (x18.l : Int)) ∧
 derefP x18.a fun a19 =>
 ldI w4.drew ((a19.add ((Int.toNat s9.1) * 4)).add 0) .u16 fun x20 =>
 ldI w4.drew ((a19.add ((Int.toNat s9.1) * 4)).add 1) .u32 fun x21 =>
 ldI w4.drew ((a19.add ((Int.toNat s9.1) * 4)).add 2) .u32 fun x22 =>
 ldS w4.drew ((a19.add ((Int.toNat s9.1) * 4)).add 3) fun x23 =>
 callR Tryz.prog 49 #[(.agg #[(.int .u16 x14), (.int .u32 x15), (.int .u32 x16), (.slice x17.a x17.l x17.c)]), (.agg #[(.int .u16 x20), (.int .u32 x21), (.int .u32 x22), (.slice x23.a x23.l x23.c)])] w4.drew fun v24 w5 =>
 ∃ x25 : Bool, v24 = (.bool x25) ∧
 ifB (!x25)
 (R (.bool false) w5)
 (n10 ((IntKind.i64.wrap (s9.1 + (1 : Int))), ()) w5))
 (R (.bool true) w4))
 ((0 : Int), ()) w3)
theorem intagliokit_Module_calls (p0 : (Int × Int × Sl × Unit)) (p1 : (Int × Int × Sl × Unit)) (R : Value → World → Prop) (w : World) (h : L_intagliokit_Module p0 p1 R w) : Calls Tryz.prog 14 #[(.agg #[(.int .u32 p0.1), (.int .u32 p0.2.1), (.slice p0.2.2.1.a p0.2.2.1.l p0.2.2.1.c)]), (.agg #[(.int .u32 p1.1), (.int .u32 p1.2.1), (.slice p1.2.2.1.a p1.2.2.1.l p1.2.2.1.c)])] w (Ret R) :=
 lw_calls (fs := Tryz.fs) (an := a_intagliokit_Module) (args := [(.agg #[(.int .u32 p0.1), (.int .u32 p0.2.1), (.slice p0.2.2.1.a p0.2.2.1.l p0.2.2.1.c)]), (.agg #[(.int .u32 p1.1), (.int .u32 p1.2.1), (.slice p1.2.2.1.a p1.2.2.1.l p1.2.2.1.c)])]) Tryz.fsOK Tryz.mixed Tryz.func14 (by kernel_rfl) (by kernel_rfl)
 (Eq.mpr (by kernel_rfl : lwFn Tryz.prog Tryz.fs Tryz.f14 a_intagliokit_Module [(.agg #[(.int .u32 p0.1), (.int .u32 p0.2.1), (.slice p0.2.2.1.a p0.2.2.1.l p0.2.2.1.c)]), (.agg #[(.int .u32 p1.1), (.int .u32 p1.2.1), (.slice p1.2.2.1.a p1.2.2.1.l p1.2.2.1.c)])] w R = L_intagliokit_Module p0 p1 R w) h)

/-- intaglio.ids.Check -/
def a_ids_Check : Ann := (.seq none .nil (.one (.seq none .nil (.seq none (.seq none .nil (.cond (.seq none .nil .nil) .nil)) (.seq none .nil (.seq none .nil (.seq none .nil (.seq none (.seq none .nil (.one (.loop ⟨[2, 5, 6, 29, 30], [(31, (.b (.int .i64)))]⟩ (.seq none .nil (.seq none (.cond .nil .nil) (.seq (some ⟨[2, 5, 6, 29, 30, 31], []⟩) (.one (.seq none .nil (.seq (some ⟨[2, 5, 6, 7, 8, 29, 30, 31], []⟩) (.seq none .nil (.cond (.seq none .nil .nil) .nil)) (.seq none .nil (.seq none (.seq none .nil (.one (.loop ⟨[2, 5, 6, 7, 29, 30, 31, 50, 51], [(9, (.b .bool)), (52, (.b (.int .i64)))]⟩ (.seq none .nil (.seq none (.cond .nil .nil) (.seq (some ⟨[2, 5, 6, 7, 29, 30, 31, 50, 51, 52], [(9, (.b .bool))]⟩) (.one (.seq none .nil (.seq none .nil (.seq none (.seq none .nil (.cond (.seq none .nil .nil) .nil)) .nil)))) .nil)))))) (.seq (some ⟨[2, 7], []⟩) (.seq none .nil (.cond .nil .nil)) (.seq none .nil .nil))))))) .nil)))))) (.seq none .nil .nil)))))))))
def L_ids_Check (p0 : (Int × Int × Sl × Unit)) (R : Value → World → Prop) (w : World) : Prop :=
 Nw (w.alloc (.cells #[(.int .u32 p0.1), (.int .u32 p0.2.1), (.slice p0.2.2.1.a p0.2.2.1.l p0.2.2.1.c)] 25)) fun w1 =>
 Nw (w1.alloc (.cells #[(.int .i64 (0 : Int)), (.int .i64 (0 : Int))] 33)) fun w2 =>
 ldI w2 ((blk w.heap.size).add 0) .u32 fun x1 =>
 ldI w2 ((blk w.heap.size).add 1) .u32 fun x2 =>
 ldS w2 ((blk w.heap.size).add 2) fun x3 =>
 callR Tryz.prog 100 #[(.agg #[(.int .u32 x1), (.int .u32 x2), (.slice x3.a x3.l x3.c)])] w2 fun v4 w3 =>
 ∃ x5 : (Int × Int × Int × Int × Int × Int × Int × Int × Int × Int × Int × Int × Int × Int × Int × Int × Int × Int × Int × Int × Unit), ∃ x6 : (Int × Int × Unit), v4 = (.tuple #[(.agg #[(.int .i64 x5.1), (.int .i64 x5.2.1), (.int .i64 x5.2.2.1), (.int .i64 x5.2.2.2.1), (.int .i64 x5.2.2.2.2.1), (.int .i64 x5.2.2.2.2.2.1), (.int .i64 x5.2.2.2.2.2.2.1), (.int .i64 x5.2.2.2.2.2.2.2.1), (.int .i64 x5.2.2.2.2.2.2.2.2.1), (.int .i64 x5.2.2.2.2.2.2.2.2.2.1), (.int .i64 x5.2.2.2.2.2.2.2.2.2.2.1), (.int .i64 x5.2.2.2.2.2.2.2.2.2.2.2.1), (.int .i64 x5.2.2.2.2.2.2.2.2.2.2.2.2.1), (.int .i64 x5.2.2.2.2.2.2.2.2.2.2.2.2.2.1), (.int .i64 x5.2.2.2.2.2.2.2.2.2.2.2.2.2.2.1), (.int .i64 x5.2.2.2.2.2.2.2.2.2.2.2.2.2.2.2.1), (.int .i64 x5.2.2.2.2.2.2.2.2.2.2.2.2.2.2.2.2.1), (.int .i64 x5.2.2.2.2.2.2.2.2.2.2.2.2.2.2.2.2.2.1), (.int .i64 x5.2.2.2.2.2.2.2.2.2.2.2.2.2.2.2.2.2.2.1), (.int .i64 x5.2.2.2.2.2.2.2.2.2.2.2.2.2.2.2.2.2.2.2.1)]), (.agg #[(.int .i64 x6.1), (.int .i64 x6.2.1)])]) ∧
 Nw (w3.alloc (.cells (List.toArray (List.replicate 20 (.int .i64 (0 : Int)))) 143)) fun w4 =>
 Nw (w4.alloc (.cells #[(.int .i64 (0 : Int)), (.int .i64 (0 : Int))] 33)) fun w5 =>
 Wr w5 (blk w3.heap.size) ∧
 Nw (w5.setCell (blk w3.heap.size) (.int .i64 x5.1)) fun w6 =>
 Wr w6 ((blk w3.heap.size).add 1) ∧
 Nw (w6.setCell ((blk w3.heap.size).add 1) (.int .i64 x5.2.1)) fun w7 =>
 Wr w7 ((blk w3.heap.size).add 2) ∧
 Nw (w7.setCell ((blk w3.heap.size).add 2) (.int .i64 x5.2.2.1)) fun w8 =>
 Wr w8 ((blk w3.heap.size).add 3) ∧
 Nw (w8.setCell ((blk w3.heap.size).add 3) (.int .i64 x5.2.2.2.1)) fun w9 =>
 Wr w9 ((blk w3.heap.size).add 4) ∧
 Nw (w9.setCell ((blk w3.heap.size).add 4) (.int .i64 x5.2.2.2.2.1)) fun w10 =>
 Wr w10 ((blk w3.heap.size).add 5) ∧
 Nw (w10.setCell ((blk w3.heap.size).add 5) (.int .i64 x5.2.2.2.2.2.1)) fun w11 =>
 Wr w11 ((blk w3.heap.size).add 6) ∧
 Nw (w11.setCell ((blk w3.heap.size).add 6) (.int .i64 x5.2.2.2.2.2.2.1)) fun w12 =>
 Wr w12 ((blk w3.heap.size).add 7) ∧
 Nw (w12.setCell ((blk w3.heap.size).add 7) (.int .i64 x5.2.2.2.2.2.2.2.1)) fun w13 =>
 Wr w13 ((blk w3.heap.size).add 8) ∧
 Nw (w13.setCell ((blk w3.heap.size).add 8) (.int .i64 x5.2.2.2.2.2.2.2.2.1)) fun w14 =>
 Wr w14 ((blk w3.heap.size).add 9) ∧
 Nw (w14.setCell ((blk w3.heap.size).add 9) (.int .i64 x5.2.2.2.2.2.2.2.2.2.1)) fun w15 =>
 Wr w15 ((blk w3.heap.size).add 10) ∧
 Nw (w15.setCell ((blk w3.heap.size).add 10) (.int .i64 x5.2.2.2.2.2.2.2.2.2.2.1)) fun w16 =>
 Wr w16 ((blk w3.heap.size).add 11) ∧
 Nw (w16.setCell ((blk w3.heap.size).add 11) (.int .i64 x5.2.2.2.2.2.2.2.2.2.2.2.1)) fun w17 =>
 Wr w17 ((blk w3.heap.size).add 12) ∧
 Nw (w17.setCell ((blk w3.heap.size).add 12) (.int .i64 x5.2.2.2.2.2.2.2.2.2.2.2.2.1)) fun w18 =>
 Wr w18 ((blk w3.heap.size).add 13) ∧
 Nw (w18.setCell ((blk w3.heap.size).add 13) (.int .i64 x5.2.2.2.2.2.2.2.2.2.2.2.2.2.1)) fun w19 =>
 Wr w19 ((blk w3.heap.size).add 14) ∧
 Nw (w19.setCell ((blk w3.heap.size).add 14) (.int .i64 x5.2.2.2.2.2.2.2.2.2.2.2.2.2.2.1)) fun w20 =>
 Wr w20 ((blk w3.heap.size).add 15) ∧
 Nw (w20.setCell ((blk w3.heap.size).add 15) (.int .i64 x5.2.2.2.2.2.2.2.2.2.2.2.2.2.2.2.1)) fun w21 =>
 Wr w21 ((blk w3.heap.size).add 16) ∧
 Nw (w21.setCell ((blk w3.heap.size).add 16) (.int .i64 x5.2.2.2.2.2.2.2.2.2.2.2.2.2.2.2.2.1)) fun w22 =>
 Wr w22 ((blk w3.heap.size).add 17) ∧
 Nw (w22.setCell ((blk w3.heap.size).add 17) (.int .i64 x5.2.2.2.2.2.2.2.2.2.2.2.2.2.2.2.2.2.1)) fun w23 =>
 Wr w23 ((blk w3.heap.size).add 18) ∧
 Nw (w23.setCell ((blk w3.heap.size).add 18) (.int .i64 x5.2.2.2.2.2.2.2.2.2.2.2.2.2.2.2.2.2.2.1)) fun w24 =>
 Wr w24 ((blk w3.heap.size).add 19) ∧
 Nw (w24.setCell ((blk w3.heap.size).add 19) (.int .i64 x5.2.2.2.2.2.2.2.2.2.2.2.2.2.2.2.2.2.2.2.1)) fun w25 =>
 Wr w25 (blk w4.heap.size) ∧
 Nw (w25.setCell (blk w4.heap.size) (.int .i64 x6.1)) fun w26 =>
 Wr w26 ((blk w4.heap.size).add 1) ∧
 Nw (w26.setCell ((blk w4.heap.size).add 1) (.int .i64 x6.2.1)) fun w27 =>
 ldI w27 (blk w4.heap.size) .i64 fun x7 =>
 ifB (x7 != (0 : Int))
 (ldI w27 ((blk w4.heap.size).add 0) .i64 fun x8 =>
 ldI w27 ((blk w4.heap.size).add 1) .i64 fun x9 =>
 Wr w27 (blk w1.heap.size) ∧
 Nw (w27.setCell (blk w1.heap.size) (.int .i64 x8)) fun w28 =>
 Wr w28 ((blk w1.heap.size).add 1) ∧
 Nw (w28.setCell ((blk w1.heap.size).add 1) (.int .i64 x9)) fun w29 =>
 ldI w29 ((blk w1.heap.size).add 0) .i64 fun x10 =>
 ldI w29 ((blk w1.heap.size).add 1) .i64 fun x11 =>
 R (.agg #[(.int .i64 x10), (.int .i64 x11)]) w29)
 (ldS w27 ((blk w.heap.size).add 2) fun x12 =>
 callR Tryz.prog 101 #[(.slice x12.a x12.l x12.c)] w27 fun v13 w30 =>
 ∃ x14 : Option Nat, v13 = (.map x14) ∧
 (0 ≤ (7 : Int) ∧ (7 : Int) < (10 : Int)) ∧
 ldI w30 (((blk w3.heap.size).add (7 * 2)).add 0) .i64 fun x15 =>
 ldI w30 (((blk w3.heap.size).add (7 * 2)).add 1) .i64 fun x16 =>
 Nw (w30.alloc (.cells #[(.int .i64 (0 : Int)), (.int .i64 (0 : Int))] 142)) fun w31 =>
 Wr w31 (blk w30.heap.size) ∧
 Nw (w31.setCell (blk w30.heap.size) (.int .i64 x15)) fun w32 =>
 Wr w32 ((blk w30.heap.size).add 1) ∧
 Nw (w32.setCell ((blk w30.heap.size).add 1) (.int .i64 x16)) fun w33 =>
 ldS w33 ((blk w.heap.size).add 2) fun x17 =>
 LoopW (S := Int × Unit) (fun s18 w34 n19 =>
 ifB (decide (s18.1 < (x17.l : Int)))
 (JoinW (S := Unit) (fun m20 =>
 (0 ≤ s18.1 ∧ s18.1 < (x17.l : Int)) ∧
 derefP x17.a fun a22 =>
 ldI w34 ((a22.add ((Int.toNat s18.1) * 4)).add 0) .u16 fun x23 =>
 ldI w34 ((a22.add ((Int.toNat s18.1) * 4)).add 1) .u32 fun x24 =>
 ldI w34 ((a22.add ((Int.toNat s18.1) * 4)).add 2) .u32 fun x25 =>
 ldS w34 ((a22.add ((Int.toNat s18.1) * 4)).add 3) fun x26 =>
 Nw (w34.alloc (.cells #[(.int .u16 (0 : Int)), (.int .u32 (0 : Int)), (.int .u32 (0 : Int)), (.slice none 0 0)] 41)) fun w35 =>
 Wr w35 (blk w34.heap.size) ∧
 Nw (w35.setCell (blk w34.heap.size) (.int .u16 x23)) fun w36 =>
 Wr w36 ((blk w34.heap.size).add 1) ∧
 Nw (w36.setCell ((blk w34.heap.size).add 1) (.int .u32 x24)) fun w37 =>
 Wr w37 ((blk w34.heap.size).add 2) ∧
 Nw (w37.setCell ((blk w34.heap.size).add 2) (.int .u32 x25)) fun w38 =>
 Wr w38 ((blk w34.heap.size).add 3) ∧
 Nw (w38.setCell ((blk w34.heap.size).add 3) (.slice x26.a x26.l x26.c)) fun w39 =>
 JoinW (S := Unit) (fun m27 =>
 ldI w39 ((blk w34.heap.size).add 2) .u32 fun x29 =>
 ifB (x29 != (0 : Int))
 (ldI w39 ((blk w34.heap.size).add 2) .u32 fun x30 =>
 lookV Tryz.prog 99 (.map x14) (.int .u32 x30) (BK.int .i64) w39 fun (x31 : Int) =>
 ifB (decide (x31 < s18.1))
 (Wr w39 (blk w1.heap.size) ∧
 Nw (w39.setCell (blk w1.heap.size) (.int .i64 (90 : Int))) fun w40 =>
 Wr w40 ((blk w1.heap.size).add 1) ∧
 Nw (w40.setCell ((blk w1.heap.size).add 1) (.int .i64 s18.1)) fun w41 =>
 ldI w41 ((blk w1.heap.size).add 0) .i64 fun x32 =>
 ldI w41 ((blk w1.heap.size).add 1) .i64 fun x33 =>
 R (.agg #[(.int .i64 x32), (.int .i64 x33)]) w41)
 (m27 (()) w39))
 (m27 (()) w39))
 (fun s28 w42 =>
 ldI w42 ((blk w34.heap.size).add 0) .u16 fun x34 =>
 ldI w42 ((blk w34.heap.size).add 1) .u32 fun x35 =>
 ldI w42 ((blk w34.heap.size).add 2) .u32 fun x36 =>
 ldS w42 ((blk w34.heap.size).add 3) fun x37 =>
 callR Tryz.prog 102 #[(.agg #[(.int .u16 x34), (.int .u32 x35), (.int .u32 x36), (.slice x37.a x37.l x37.c)])] w42 fun v38 w43 =>
 ∃ x39 : Sl, v38 = (.slice x39.a x39.l x39.c) ∧
 LoopW (S := Bool × Int × Unit) (fun s40 w44 n41 =>
 ifB (decide (s40.2.1 < (x39.l : Int)))
 (JoinW (S := Bool × Unit) (fun m42 =>
 (0 ≤ s40.2.1 ∧ s40.2.1 < (x39.l : Int)) ∧
 derefP x39.a fun a44 =>
 ldI w44 (a44.add (Int.toNat s40.2.1)) .u32 fun x45 =>
 lookOk Tryz.prog 99 (.map x14) (.int .u32 x45) (BK.int .i64) w44 fun (x46 : Int) (b47 : Bool) =>
 ifB (!b47)
 (Wr w44 (blk w1.heap.size) ∧
 Nw (w44.setCell (blk w1.heap.size) (.int .i64 (91 : Int))) fun w45 =>
 Wr w45 ((blk w1.heap.size).add 1) ∧
 Nw (w45.setCell ((blk w1.heap.size).add 1) (.int .i64 s18.1)) fun w46 =>
 ldI w46 ((blk w1.heap.size).add 0) .i64 fun x48 =>
 ldI w46 ((blk w1.heap.size).add 1) .i64 fun x49 =>
 R (.agg #[(.int .i64 x48), (.int .i64 x49)]) w46)
 (ifB s40.1
 (m42 (true, ()) w44)
 (m42 ((decide (x46 ≥ s18.1)), ()) w44)))
 (fun s43 w47 =>
 n41 (s43.1, (IntKind.i64.wrap (s40.2.1 + (1 : Int))), ()) w47))
 (JoinW (S := Unit) (fun m50 =>
 ifB (!s40.1)
 (m20 (()) w44)
 (ldI w44 (blk w30.heap.size) .i64 fun x52 =>
 ifB (decide (s18.1 < x52))
 (m20 (()) w44)
 (ldI w44 ((blk w30.heap.size).add 1) .i64 fun x53 =>
 ifB (decide (s18.1 ≥ x53))
 (m20 (()) w44)
 (m50 (()) w44))))
 (fun s51 w48 =>
 Wr w48 (blk w1.heap.size) ∧
 Nw (w48.setCell (blk w1.heap.size) (.int .i64 (92 : Int))) fun w49 =>
 Wr w49 ((blk w1.heap.size).add 1) ∧
 Nw (w49.setCell ((blk w1.heap.size).add 1) (.int .i64 s18.1)) fun w50 =>
 ldI w50 ((blk w1.heap.size).add 0) .i64 fun x54 =>
 ldI w50 ((blk w1.heap.size).add 1) .i64 fun x55 =>
 R (.agg #[(.int .i64 x54), (.int .i64 x55)]) w50)))
 (false, (0 : Int), ()) w43))
 (fun s21 w51 =>
 n19 ((IntKind.i64.wrap (s18.1 + (1 : Int))), ()) w51))
 (Wr w34 (blk w1.heap.size) ∧
 Nw (w34.setCell (blk w1.heap.size) (.int .i64 (0 : Int))) fun w52 =>
 Wr w52 ((blk w1.heap.size).add 1) ∧
 Nw (w52.setCell ((blk w1.heap.size).add 1) (.int .i64 (0 : Int))) fun w53 =>
 ldI w53 ((blk w1.heap.size).add 0) .i64 fun x56 =>
 ldI w53 ((blk w1.heap.size).add 1) .i64 fun x57 =>
 R (.agg #[(.int .i64 x56), (.int .i64 x57)]) w53))
 ((0 : Int), ()) w33)
theorem ids_Check_calls (p0 : (Int × Int × Sl × Unit)) (R : Value → World → Prop) (w : World) (h : L_ids_Check p0 R w) : Calls Tryz.prog 44 #[(.agg #[(.int .u32 p0.1), (.int .u32 p0.2.1), (.slice p0.2.2.1.a p0.2.2.1.l p0.2.2.1.c)])] w (Ret R) :=
 lw_calls (fs := Tryz.fs) (an := a_ids_Check) (args := [(.agg #[(.int .u32 p0.1), (.int .u32 p0.2.1), (.slice p0.2.2.1.a p0.2.2.1.l p0.2.2.1.c)])]) Tryz.fsOK Tryz.mixed Tryz.func44 (by kernel_rfl) (by kernel_rfl)
 (Eq.mpr (by kernel_rfl : lwFn Tryz.prog Tryz.fs Tryz.f44 a_ids_Check [(.agg #[(.int .u32 p0.1), (.int .u32 p0.2.1), (.slice p0.2.2.1.a p0.2.2.1.l p0.2.2.1.c)])] w R = L_ids_Check p0 R w) h)

/-- intaglio.intaglioref09.Check -/
def a_intaglioref09_Check : Ann := (.seq none .nil (.seq none .nil (.seq none (.seq none .nil (.cond (.seq none .nil .nil) .nil)) (.seq none (.seq none .nil (.one (.loop ⟨[1, 2], [(4, (.b (.int .i64)))]⟩ (.seq none (.seq none .nil (.cond .nil .nil)) (.seq none (.one (.seq none .nil (.seq none .nil (.cond (.seq none .nil .nil) .nil)))) .nil))))) (.seq none .nil .nil)))))
def L_intaglioref09_Check (p0 : (Int × Int × Sl × Unit)) (R : Value → World → Prop) (w : World) : Prop :=
 Nw (w.alloc (.cells #[(.int .u32 p0.1), (.int .u32 p0.2.1), (.slice p0.2.2.1.a p0.2.2.1.l p0.2.2.1.c)] 25)) fun w1 =>
 Nw (w1.alloc (.cells #[(.int .i64 (0 : Int)), (.int .i64 (0 : Int))] 33)) fun w2 =>
 ldI w2 ((blk w.heap.size).add 0) .u32 fun x1 =>
 ldI w2 ((blk w.heap.size).add 1) .u32 fun x2 =>
 ldS w2 ((blk w.heap.size).add 2) fun x3 =>
 callR Tryz.prog 30 #[(.agg #[(.int .u32 x1), (.int .u32 x2), (.slice x3.a x3.l x3.c)])] w2 fun v4 w3 =>
 ∃ x5 : (Int × Int × Unit), v4 = (.agg #[(.int .i64 x5.1), (.int .i64 x5.2.1)]) ∧
 Nw (w3.alloc (.cells #[(.int .i64 (0 : Int)), (.int .i64 (0 : Int))] 33)) fun w4 =>
 Wr w4 (blk w3.heap.size) ∧
 Nw (w4.setCell (blk w3.heap.size) (.int .i64 x5.1)) fun w5 =>
 Wr w5 ((blk w3.heap.size).add 1) ∧
 Nw (w5.setCell ((blk w3.heap.size).add 1) (.int .i64 x5.2.1)) fun w6 =>
 ldI w6 (blk w3.heap.size) .i64 fun x6 =>
 ifB (x6 != (0 : Int))
 (ldI w6 ((blk w3.heap.size).add 0) .i64 fun x7 =>
 ldI w6 ((blk w3.heap.size).add 1) .i64 fun x8 =>
 Wr w6 (blk w1.heap.size) ∧
 Nw (w6.setCell (blk w1.heap.size) (.int .i64 x7)) fun w7 =>
 Wr w7 ((blk w1.heap.size).add 1) ∧
 Nw (w7.setCell ((blk w1.heap.size).add 1) (.int .i64 x8)) fun w8 =>
 ldI w8 ((blk w1.heap.size).add 0) .i64 fun x9 =>
 ldI w8 ((blk w1.heap.size).add 1) .i64 fun x10 =>
 R (.agg #[(.int .i64 x9), (.int .i64 x10)]) w8)
 (LoopW (S := Int × Unit) (fun s11 w9 n12 =>
 ldS w9 ((blk w.heap.size).add 2) fun x13 =>
 ifB (decide (s11.1 < (x13.l : Int)))
 (ldS w9 ((blk w.heap.size).add 2) fun x14 =>
 callR Tryz.prog 105 #[(.slice x14.a x14.l x14.c), (.int .i64 s11.1)] w9 fun v15 w10 =>
 ∃ x16 : Int, v15 = (.int .i64 x16) ∧
 ifB (x16 != (0 : Int))
 (Wr w10 (blk w1.heap.size) ∧
 Nw (w10.setCell (blk w1.heap.size) (.int .i64 x16)) fun w11 =>
 Wr w11 ((blk w1.heap.size).add 1) ∧
 Nw (w11.setCell ((blk w1.heap.size).add 1) (.int .i64 s11.1)) fun w12 =>
 ldI w12 ((blk w1.heap.size).add 0) .i64 fun x17 =>
 ldI w12 ((blk w1.heap.size).add 1) .i64 fun x18 =>
 R (.agg #[(.int .i64 x17), (.int .i64 x18)]) w12)
 (n12 ((IntKind.i64.wrap (s11.1 + (1 : Int))), ()) w10))
 (Wr w9 (blk w1.heap.size) ∧
 Nw (w9.setCell (blk w1.heap.size) (.int .i64 (0 : Int))) fun w13 =>
 Wr w13 ((blk w1.heap.size).add 1) ∧
 Nw (w13.setCell ((blk w1.heap.size).add 1) (.int .i64 (0 : Int))) fun w14 =>
 ldI w14 ((blk w1.heap.size).add 0) .i64 fun x19 =>
 ldI w14 ((blk w1.heap.size).add 1) .i64 fun x20 =>
 R (.agg #[(.int .i64 x19), (.int .i64 x20)]) w14))
 ((0 : Int), ()) w6)
theorem intaglioref09_Check_calls (p0 : (Int × Int × Sl × Unit)) (R : Value → World → Prop) (w : World) (h : L_intaglioref09_Check p0 R w) : Calls Tryz.prog 47 #[(.agg #[(.int .u32 p0.1), (.int .u32 p0.2.1), (.slice p0.2.2.1.a p0.2.2.1.l p0.2.2.1.c)])] w (Ret R) :=
 lw_calls (fs := Tryz.fs) (an := a_intaglioref09_Check) (args := [(.agg #[(.int .u32 p0.1), (.int .u32 p0.2.1), (.slice p0.2.2.1.a p0.2.2.1.l p0.2.2.1.c)])]) Tryz.fsOK Tryz.mixed Tryz.func47 (by kernel_rfl) (by kernel_rfl)
 (Eq.mpr (by kernel_rfl : lwFn Tryz.prog Tryz.fs Tryz.f47 a_intaglioref09_Check [(.agg #[(.int .u32 p0.1), (.int .u32 p0.2.1), (.slice p0.2.2.1.a p0.2.2.1.l p0.2.2.1.c)])] w R = L_intaglioref09_Check p0 R w) h)

/-- intaglio.intaglioref09.Fault -/
def a_intaglioref09_Fault : Ann := (.seq none .nil (.seq none (.seq none .nil (.cond (.seq none .nil .nil) .nil)) (.seq none .nil (.seq none (.seq none .nil (.one (.loop ⟨[0, 1, 5], [(6, (.b (.int .i64)))]⟩ (.seq none (.seq none .nil (.cond .nil .nil)) (.seq none (.one (.seq none .nil (.cond (.seq none .nil .nil) .nil))) .nil))))) (.seq none (.seq none .nil (.one (.loop ⟨[0, 1, 5], [(7, (.b (.int .i64)))]⟩ (.seq none (.seq none .nil (.cond .nil .nil)) (.seq (some ⟨[0, 1, 5, 7], []⟩) (.one (.seq none .nil (.cond (.seq none .nil .nil) .nil))) .nil))))) (.seq none .nil .nil))))))
def L_intaglioref09_Fault (p0 : Sl) (p1 : Int) (R : Value → World → Prop) (w : World) : Prop :=
 (0 ≤ p1 ∧ p1 < (p0.l : Int)) ∧
 derefP p0.a fun a1 =>
 ldI w ((a1.add ((Int.toNat p1) * 4)).add 2) .u32 fun x2 =>
 callR Tryz.prog 142 #[(.slice p0.a p0.l p0.c), (.int .u32 x2), (.int .i64 p1)] w fun v3 w1 =>
 ∃ x4 : Int, v3 = (.int .i64 x4) ∧
 ifB (decide (x4 ≥ (0 : Int)))
 (R (.int .i64 (90 : Int)) w1)
 ((0 ≤ p1 ∧ p1 < (p0.l : Int)) ∧
 derefP p0.a fun a5 =>
 ldI w1 ((a5.add ((Int.toNat p1) * 4)).add 0) .u16 fun x6 =>
 ldI w1 ((a5.add ((Int.toNat p1) * 4)).add 1) .u32 fun x7 =>
 ldI w1 ((a5.add ((Int.toNat p1) * 4)).add 2) .u32 fun x8 =>
 ldS w1 ((a5.add ((Int.toNat p1) * 4)).add 3) fun x9 =>
 callR Tryz.prog 143 #[(.agg #[(.int .u16 x6), (.int .u32 x7), (.int .u32 x8), (.slice x9.a x9.l x9.c)])] w1 fun v10 w2 =>
 ∃ x11 : Sl, v10 = (.slice x11.a x11.l x11.c) ∧
 LoopW (S := Int × Unit) (fun s12 w3 n13 =>
 ifB (decide (s12.1 < (x11.l : Int)))
 ((0 ≤ s12.1 ∧ s12.1 < (x11.l : Int)) ∧
 derefP x11.a fun a14 =>
 ldI w3 (a14.add (Int.toNat s12.1)) .u32 fun x15 =>
 callR Tryz.prog 142 #[(.slice p0.a p0.l p0.c), (.int .u32 x15), (.int .i64 (p0.l : Int))] w3 fun v16 w4 =>
 ∃ x17 : Int, v16 = (.int .i64 x17) ∧
 ifB (decide (x17 < (0 : Int)))
 (R (.int .i64 (91 : Int)) w4)
 (n13 ((IntKind.i64.wrap (s12.1 + (1 : Int))), ()) w4))
 (LoopW (S := Int × Unit) (fun s18 w5 n19 =>
 ifB (decide (s18.1 < (x11.l : Int)))
 (JoinW (S := Unit) (fun m20 =>
 (0 ≤ p1 ∧ p1 < (p0.l : Int)) ∧
 derefP p0.a fun a22 =>
 ldI w5 ((a22.add ((Int.toNat p1) * 4)).add 0) .u16 fun x23 =>
 ldI w5 ((a22.add ((Int.toNat p1) * 4)).add 1) .u32 fun x24 =>
 ldI w5 ((a22.add ((Int.toNat p1) * 4)).add 2) .u32 fun x25 =>
 ldS w5 ((a22.add ((Int.toNat p1) * 4)).add 3) fun x26 =>
 callR Tryz.prog 79 #[(.agg #[(.int .u16 x23), (.int .u32 x24), (.int .u32 x25), (.slice x26.a x26.l x26.c)])] w5 fun v27 w6 =>
 ∃ x28 : Int, v27 = (.int .i64 x28) ∧
 ifB (x28 == (7 : Int))
 ((0 ≤ s18.1 ∧ s18.1 < (x11.l : Int)) ∧
 derefP x11.a fun a29 =>
 ldI w6 (a29.add (Int.toNat s18.1)) .u32 fun x30 =>
 callR Tryz.prog 142 #[(.slice p0.a p0.l p0.c), (.int .u32 x30), (.int .i64 p1)] w6 fun v31 w7 =>
 ∃ x32 : Int, v31 = (.int .i64 x32) ∧
 ifB (decide (x32 < (0 : Int)))
 (R (.int .i64 (92 : Int)) w7)
 (m20 (()) w7))
 (m20 (()) w6))
 (fun s21 w8 =>
 n19 ((IntKind.i64.wrap (s18.1 + (1 : Int))), ()) w8))
 (R (.int .i64 (0 : Int)) w5))
 ((0 : Int), ()) w3))
 ((0 : Int), ()) w2)
theorem intaglioref09_Fault_calls (p0 : Sl) (p1 : Int) (R : Value → World → Prop) (w : World) (h : L_intaglioref09_Fault p0 p1 R w) : Calls Tryz.prog 105 #[(.slice p0.a p0.l p0.c), (.int .i64 p1)] w (Ret R) :=
 lw_calls (fs := Tryz.fs) (an := a_intaglioref09_Fault) (args := [(.slice p0.a p0.l p0.c), (.int .i64 p1)]) Tryz.fsOK Tryz.mixed Tryz.func105 (by kernel_rfl) (by kernel_rfl)
 (Eq.mpr (by kernel_rfl : lwFn Tryz.prog Tryz.fs Tryz.f105 a_intaglioref09_Fault [(.slice p0.a p0.l p0.c), (.int .i64 p1)] w R = L_intaglioref09_Fault p0 p1 R w) h)

end Go.Proofs
namespace Go.Proofs
open Go.Gk
set_option linter.unusedVariables false
set_option maxRecDepth 100000

/-- intaglio.ids.makers -/
def a_ids_makers : Ann := (.seq none .nil (.seq none .nil (.seq none (.seq none .nil (.one (.loop ⟨[], [(9, (.b (.int .i64))), (10, (.agg [(.int .u16), (.int .u32), (.int .u32), .slice]))]⟩ (.seq none (.seq none .nil .nil) (.one (.seq none .nil (.cond .nil .nil))))))) (.seq none .nil .nil))))
def L_ids_makers (p0 : Sl) (R : Value → World → Prop) (w : World) : Prop :=
 Nw (w.alloc (.map #[] 0)) fun w1 =>
 Nw (w1.alloc (.cells #[(.map none)] 99)) fun w2 =>
 Wr w2 (blk w1.heap.size) ∧
 Nw (w2.setCell (blk w1.heap.size) (.map (some w.heap.size))) fun w3 =>
 callR Tryz.prog 139 #[(.slice p0.a p0.l p0.c)] w3 fun v1 w4 =>
 ∃ x2 : Value, v1 = x2 ∧
 RangeW Tryz.prog Tryz.fs x2 w4 (T := Int × (Int × Int × Int × Sl × Unit) × Unit) (fun s3 => [(.int .i64 s3.1), (.agg #[(.int .u16 s3.2.1.1), (.int .u32 s3.2.1.2.1), (.int .u32 s3.2.1.2.2.1), (.slice s3.2.1.2.2.2.1.a s3.2.1.2.2.2.1.l s3.2.1.2.2.2.1.c)])])
 (fun mk4 l5 s3 w5 S6 =>
 Nw (w5.alloc (.cells #[(.int .u16 (0 : Int)), (.int .u32 (0 : Int)), (.int .u32 (0 : Int)), (.slice none 0 0)] 41)) fun w6 =>
 Wr w6 (blk w5.heap.size) ∧
 Nw (w6.setCell (blk w5.heap.size) (.int .u16 s3.2.1.1)) fun w7 =>
 Wr w7 ((blk w5.heap.size).add 1) ∧
 Nw (w7.setCell ((blk w5.heap.size).add 1) (.int .u32 s3.2.1.2.1)) fun w8 =>
 Wr w8 ((blk w5.heap.size).add 2) ∧
 Nw (w8.setCell ((blk w5.heap.size).add 2) (.int .u32 s3.2.1.2.2.1)) fun w9 =>
 Wr w9 ((blk w5.heap.size).add 3) ∧
 Nw (w9.setCell ((blk w5.heap.size).add 3) (.slice s3.2.1.2.2.2.1.a s3.2.1.2.2.2.1.l s3.2.1.2.2.2.1.c)) fun w10 =>
 w10.heap[l5]? = some (mk4 .ready none) ∧
 Nw (w10.putObj l5 (mk4 .busy none)) fun w11 =>
 ldI w11 ((blk w5.heap.size).add 2) .u32 fun x8 =>
 ifB (x8 != (0 : Int))
 (ldM w11 (blk w1.heap.size) fun x9 =>
 ldI w11 ((blk w5.heap.size).add 2) .u32 fun x10 =>
 updW Tryz.prog 99 (.map x9) (.int .u32 x10) (.int .i64 s3.1) w11 fun w12 =>
 w12.heap[l5]? = some (mk4 .busy none) ∧
 S6 (.bool true) (w12.putObj l5 (mk4 .ready none)))
 (w11.heap[l5]? = some (mk4 .busy none) ∧
 S6 (.bool true) (w11.putObj l5 (mk4 .ready none))))
 (fun mk4 l5 d7 w13 =>
 rangeOut mk4 l5 .ready none w13 fun w14 =>
 ldM w14 (blk w1.heap.size) fun x11 =>
 closeM (d7 :: []) w14 fun w15 =>
 R (.map x11) w15)
theorem ids_makers_calls (p0 : Sl) (R : Value → World → Prop) (w : World) (h : L_ids_makers p0 R w) : Calls Tryz.prog 101 #[(.slice p0.a p0.l p0.c)] w (Ret R) :=
 lwR_calls (fs := Tryz.fs) (an := a_ids_makers) (args := [(.slice p0.a p0.l p0.c)]) Tryz.fsOK Tryz.mixed Tryz.func101 (by kernel_rfl) (by kernel_rfl)
 (Eq.mpr (by kernel_rfl : lwRFn Tryz.prog Tryz.fs Tryz.f101 a_ids_makers [(.slice p0.a p0.l p0.c)] w R = L_ids_makers p0 R w) h)

/-- slices.Backward[[]intaglio.api.Inst,intaglio.api.Inst] -/
def a_slices_Backward_sapi_Inst_api_Inst : Ann := (.seq none .nil (.seq none .nil .nil))
def L_slices_Backward_sapi_Inst_api_Inst (p0 : Sl) (R : Value → World → Prop) (w : World) : Prop :=
 Nw (w.alloc (.cells #[(.slice p0.a p0.l p0.c)] 23)) fun w1 =>
 R (.func (.func 171) #[] #[(.pointer (some (blk w.heap.size)))]) w1
theorem slices_Backward_sapi_Inst_api_Inst_calls (p0 : Sl) (R : Value → World → Prop) (w : World) (h : L_slices_Backward_sapi_Inst_api_Inst p0 R w) : Calls Tryz.prog 139 #[(.slice p0.a p0.l p0.c)] w (Ret R) :=
 lw_calls (fs := Tryz.fs) (an := a_slices_Backward_sapi_Inst_api_Inst) (args := [(.slice p0.a p0.l p0.c)]) Tryz.fsOK Tryz.mixed Tryz.func139 (by kernel_rfl) (by kernel_rfl)
 (Eq.mpr (by kernel_rfl : lwFn Tryz.prog Tryz.fs Tryz.f139 a_slices_Backward_sapi_Inst_api_Inst [(.slice p0.a p0.l p0.c)] w R = L_slices_Backward_sapi_Inst_api_Inst p0 R w) h)

/-- intaglio.intaglioref09.Maker -/
def a_intaglioref09_Maker : Ann := (.seq none .nil (.seq none (.seq none .nil (.one (.loop ⟨[0, 1, 2], [(7, (.b (.int .i64)))]⟩ (.seq none (.seq none .nil (.cond .nil .nil)) (.seq (some ⟨[0, 1, 2, 7], []⟩) (.one (.seq none .nil (.cond (.seq none .nil .nil) .nil))) .nil))))) (.seq none .nil .nil)))
def L_intaglioref09_Maker (p0 : Sl) (p1 : Int) (p2 : Int) (R : Value → World → Prop) (w : World) : Prop :=
 LoopW (S := Int × Unit) (fun s1 w1 n2 =>
 ifB (decide (s1.1 < p2))
 (JoinW (S := Unit) (fun m3 =>
 (0 ≤ s1.1 ∧ s1.1 < (p0.l : Int)) ∧
 derefP p0.a fun a5 =>
 ldI w1 ((a5.add ((Int.toNat s1.1) * 4)).add 2) .u32 fun x6 =>
 ifB (x6 == p1)
 (ifB (p1 != (0 : Int))
 (R (.int .i64 s1.1) w1)
 (m3 (()) w1))
 (m3 (()) w1))
 (fun s4 w2 =>
 n2 ((IntKind.i64.wrap (s1.1 + (1 : Int))), ()) w2))
 (R (.int .i64 (-1 : Int)) w1))
 ((0 : Int), ()) w
theorem intaglioref09_Maker_calls (p0 : Sl) (p1 : Int) (p2 : Int) (R : Value → World → Prop) (w : World) (h : L_intaglioref09_Maker p0 p1 p2 R w) : Calls Tryz.prog 142 #[(.slice p0.a p0.l p0.c), (.int .u32 p1), (.int .i64 p2)] w (Ret R) :=
 lw_calls (fs := Tryz.fs) (an := a_intaglioref09_Maker) (args := [(.slice p0.a p0.l p0.c), (.int .u32 p1), (.int .i64 p2)]) Tryz.fsOK Tryz.mixed Tryz.func142 (by kernel_rfl) (by kernel_rfl)
 (Eq.mpr (by kernel_rfl : lwFn Tryz.prog Tryz.fs Tryz.f142 a_intaglioref09_Maker [(.slice p0.a p0.l p0.c), (.int .u32 p1), (.int .i64 p2)] w R = L_intaglioref09_Maker p0 p1 p2 R w) h)

/-- slices.Backward[[]intaglio.api.Inst,intaglio.api.Inst] 1 -/
def a_slices_Backward_sapi_Inst_api_Inst__1 : Ann := (.seq none .nil (.one (.loop ⟨[0, 1], [(3, (.b (.int .i64)))]⟩ (.seq none (.seq none .nil (.cond .nil .nil)) (.seq none (.one (.seq none .nil (.cond .nil .nil))) .nil)))))
def L_slices_Backward_sapi_Inst_api_Inst__1 (p0 : Value) (c0 : Addr) (R : Value → World → Prop) (w : World) : Prop :=
 ldS w c0 fun x1 =>
 LoopW (S := Int × Unit) (fun s2 w1 n3 =>
 ifB (decide (s2.1 ≥ (0 : Int)))
 (ldS w1 c0 fun x4 =>
 (0 ≤ s2.1 ∧ s2.1 < (x4.l : Int)) ∧
 derefP x4.a fun a5 =>
 ldI w1 ((a5.add ((Int.toNat s2.1) * 4)).add 0) .u16 fun x6 =>
 ldI w1 ((a5.add ((Int.toNat s2.1) * 4)).add 1) .u32 fun x7 =>
 ldI w1 ((a5.add ((Int.toNat s2.1) * 4)).add 2) .u32 fun x8 =>
 ldS w1 ((a5.add ((Int.toNat s2.1) * 4)).add 3) fun x9 =>
 callV Tryz.prog Tryz.fs p0 [(.int .i64 s2.1), (.agg #[(.int .u16 x6), (.int .u32 x7), (.int .u32 x8), (.slice x9.a x9.l x9.c)])] w1 fun v10 w2 =>
 ∃ x11 : Bool, v10 = (.bool x11) ∧
 ifB (!x11)
 (R (.tuple #[]) w2)
 (n3 ((IntKind.i64.wrap (s2.1 - (1 : Int))), ()) w2))
 (R (.tuple #[]) w1))
 ((IntKind.i64.wrap ((x1.l : Int) - (1 : Int))), ()) w
theorem slices_Backward_sapi_Inst_api_Inst__1_calls (p0 : Value) (c0 : Addr) (R : Value → World → Prop) (w : World) (h : L_slices_Backward_sapi_Inst_api_Inst__1 p0 c0 R w) : Calls Tryz.prog 171 #[p0, (.pointer (some c0))] w (Ret R) :=
 lw_calls (fs := Tryz.fs) (an := a_slices_Backward_sapi_Inst_api_Inst__1) (args := [p0, (.pointer (some c0))]) Tryz.fsOK Tryz.mixed Tryz.func171 (by kernel_rfl) (by kernel_rfl)
 (Eq.mpr (by kernel_rfl : lwFn Tryz.prog Tryz.fs Tryz.f171 a_slices_Backward_sapi_Inst_api_Inst__1 [p0, (.pointer (some c0))] w R = L_slices_Backward_sapi_Inst_api_Inst__1 p0 c0 R w) h)

end Go.Proofs
namespace Go.Proofs
open Go.Gk
set_option linter.unusedVariables false
set_option maxRecDepth 100000

end Go.Proofs
namespace Go.Proofs
open Go.Gk
set_option linter.unusedVariables false
set_option maxRecDepth 100000

/-- intaglio.intagliokit.CopyModule -/
def a_intagliokit_CopyModule : Ann := (.seq none .nil (.seq none .nil (.seq none (.seq none .nil (.one (.loop ⟨[1, 2, 3], [(4, (.b (.int .i64)))]⟩ (.seq none (.seq none .nil (.cond .nil .nil)) (.seq none (.one .nil) .nil))))) (.seq none .nil (.seq none .nil .nil)))))
def L_intagliokit_CopyModule (p0 : (Int × Int × Sl × Unit)) (R : Value → World → Prop) (w : World) : Prop :=
 Nw (w.alloc (.cells #[(.int .u32 p0.1), (.int .u32 p0.2.1), (.slice p0.2.2.1.a p0.2.2.1.l p0.2.2.1.c)] 25)) fun w1 =>
 Nw (w1.alloc (.cells #[(.int .u32 (0 : Int)), (.int .u32 (0 : Int)), (.slice none 0 0)] 25)) fun w2 =>
 ldS w2 ((blk w.heap.size).add 2) fun x1 =>
 (0 ≤ (x1.l : Int) ∧ (x1.l : Int) ≤ (x1.l : Int) ∧ (40 : Int) * (x1.l : Int) ≤ 281474976710656 ∧ (x1.l : Int) ≤ 9223372036854775807) ∧
 Nw (w2.alloc (.cells (madeCells #[(.int .u16 (0 : Int)), (.int .u32 (0 : Int)), (.int .u32 (0 : Int)), (.slice none 0 0)] (x1.l * 4)) 41)) fun w3 =>
 LoopW (S := Int × Unit) (fun s2 w4 n3 =>
 ldS w4 ((blk w.heap.size).add 2) fun x4 =>
 ifB (decide (s2.1 < (x4.l : Int)))
 (ldS w4 ((blk w.heap.size).add 2) fun x5 =>
 (0 ≤ s2.1 ∧ s2.1 < (x5.l : Int)) ∧
 derefP x5.a fun a6 =>
 ldI w4 ((a6.add ((Int.toNat s2.1) * 4)).add 0) .u16 fun x7 =>
 ldI w4 ((a6.add ((Int.toNat s2.1) * 4)).add 1) .u32 fun x8 =>
 ldI w4 ((a6.add ((Int.toNat s2.1) * 4)).add 2) .u32 fun x9 =>
 ldS w4 ((a6.add ((Int.toNat s2.1) * 4)).add 3) fun x10 =>
 callR Tryz.prog 43 #[(.agg #[(.int .u16 x7), (.int .u32 x8), (.int .u32 x9), (.slice x10.a x10.l x10.c)])] w4 fun v11 w5 =>
 ∃ x12 : (Int × Int × Int × Sl × Unit), v11 = (.agg #[(.int .u16 x12.1), (.int .u32 x12.2.1), (.int .u32 x12.2.2.1), (.slice x12.2.2.2.1.a x12.2.2.2.1.l x12.2.2.2.1.c)]) ∧
 (0 ≤ s2.1 ∧ s2.1 < (x1.l : Int)) ∧
 Wr w5 ((blk w2.heap.size).add ((Int.toNat s2.1) * 4)) ∧
 Nw (w5.setCell ((blk w2.heap.size).add ((Int.toNat s2.1) * 4)) (.int .u16 x12.1)) fun w6 =>
 Wr w6 (((blk w2.heap.size).add ((Int.toNat s2.1) * 4)).add 1) ∧
 Nw (w6.setCell (((blk w2.heap.size).add ((Int.toNat s2.1) * 4)).add 1) (.int .u32 x12.2.1)) fun w7 =>
 Wr w7 (((blk w2.heap.size).add ((Int.toNat s2.1) * 4)).add 2) ∧
 Nw (w7.setCell (((blk w2.heap.size).add ((Int.toNat s2.1) * 4)).add 2) (.int .u32 x12.2.2.1)) fun w8 =>
 Wr w8 (((blk w2.heap.size).add ((Int.toNat s2.1) * 4)).add 3) ∧
 Nw (w8.setCell (((blk w2.heap.size).add ((Int.toNat s2.1) * 4)).add 3) (.slice x12.2.2.2.1.a x12.2.2.2.1.l x12.2.2.2.1.c)) fun w9 =>
 n3 ((IntKind.i64.wrap (s2.1 + (1 : Int))), ()) w9)
 (Wr w4 ((blk w.heap.size).add 2) ∧
 Nw (w4.setCell ((blk w.heap.size).add 2) (.slice (some (blk w2.heap.size)) x1.l x1.l)) fun w10 =>
 ldI w10 ((blk w.heap.size).add 0) .u32 fun x13 =>
 ldI w10 ((blk w.heap.size).add 1) .u32 fun x14 =>
 ldS w10 ((blk w.heap.size).add 2) fun x15 =>
 Wr w10 (blk w1.heap.size) ∧
 Nw (w10.setCell (blk w1.heap.size) (.int .u32 x13)) fun w11 =>
 Wr w11 ((blk w1.heap.size).add 1) ∧
 Nw (w11.setCell ((blk w1.heap.size).add 1) (.int .u32 x14)) fun w12 =>
 Wr w12 ((blk w1.heap.size).add 2) ∧
 Nw (w12.setCell ((blk w1.heap.size).add 2) (.slice x15.a x15.l x15.c)) fun w13 =>
 ldI w13 ((blk w1.heap.size).add 0) .u32 fun x16 =>
 ldI w13 ((blk w1.heap.size).add 1) .u32 fun x17 =>
 ldS w13 ((blk w1.heap.size).add 2) fun x18 =>
 R (.agg #[(.int .u32 x16), (.int .u32 x17), (.slice x18.a x18.l x18.c)]) w13))
 ((0 : Int), ()) w3
theorem intagliokit_CopyModule_calls (p0 : (Int × Int × Sl × Unit)) (R : Value → World → Prop) (w : World) (h : L_intagliokit_CopyModule p0 R w) : Calls Tryz.prog 11 #[(.agg #[(.int .u32 p0.1), (.int .u32 p0.2.1), (.slice p0.2.2.1.a p0.2.2.1.l p0.2.2.1.c)])] w (Ret R) :=
 lw_calls (fs := Tryz.fs) (an := a_intagliokit_CopyModule) (args := [(.agg #[(.int .u32 p0.1), (.int .u32 p0.2.1), (.slice p0.2.2.1.a p0.2.2.1.l p0.2.2.1.c)])]) Tryz.fsOK Tryz.mixed Tryz.func11 (by kernel_rfl) (by kernel_rfl)
 (Eq.mpr (by kernel_rfl : lwFn Tryz.prog Tryz.fs Tryz.f11 a_intagliokit_CopyModule [(.agg #[(.int .u32 p0.1), (.int .u32 p0.2.1), (.slice p0.2.2.1.a p0.2.2.1.l p0.2.2.1.c)])] w R = L_intagliokit_CopyModule p0 R w) h)

end Go.Proofs
namespace Go.Proofs
open Go.Gk Go.RowKit Go.Gm

/-- What CopyModule lays: the instructions at block b, each one's arguments in a block of its own behind. -/
def Cpy (w : World) (b : Nat) (pl : List PI) : Prop :=
  ∃ hs : List Ins, hs.length = pl.length ∧ Blk w b 41 (flat inV hs) ∧ ∀ (j : Nat) (h : j < hs.length) (h' : j < pl.length), ∃ c, b < c ∧ hs[j] = mkIn pl[j] ⟨some (blk c), pl[j].2.2.2.length, pl[j].2.2.2.length⟩ ∧ Blk w c 61 (flat agV pl[j].2.2.2)
theorem Cpy.below {w w' : World} {b : Nat} {pl : List PI} (h : Cpy w b pl) (hb : Below w.heap.size w w') : Cpy w' b pl := by
  obtain ⟨hs, h1, h2, h3⟩ := h
  refine ⟨hs, h1, h2.below hb, fun j hj hj' => ?_⟩
  obtain ⟨c, h4, h5, h6⟩ := h3 j hj hj'
  exact ⟨c, h4, h5, h6.below hb⟩
theorem Cpy.isPl {w : World} {b : Nat} {pl : List PI} (h : Cpy w b pl) (hm : pl.length ≤ 9223372036854775807) (hm' : ∀ p ∈ pl, p.2.2.2.length ≤ 9223372036854775807) : IsPl w ⟨some (blk b), pl.length, pl.length⟩ pl := by
  obtain ⟨hs, h1, h2, h3⟩ := h
  refine ⟨rfl, Nat.le_refl _, hm, (fun h => by cases h), fun a ha k hk => ?_⟩
  cases ha
  obtain ⟨c, h4, h5, h6⟩ := h3 k (by omega) hk
  refine ⟨⟨some (blk c), pl[k].2.2.2.length, pl[k].2.2.2.length⟩, fun j hj => ?_, Blk.isC agV_len (by omega) h6 (hm' _ (List.getElem_mem hk))⟩
  rw [← h5]
  have hg := flat_get inV_len hs k (by omega) j hj
  have hlt : j < (inV (hs[k]'(by omega))).length := hj
  rw [List.getElem?_eq_getElem hlt] at hg ⊢
  exact h2.cell hg
theorem CopyModule_spec {x : Mo} {pl : List PI} {w : World} {R : Value → World → Prop} (hN : IsPl w x.2.2.1 pl) (hp : PlOk pl)
    (hR : ∀ b w', w.heap.size ≤ b → Cpy w' b pl → IsPl w' ⟨some (blk b), pl.length, pl.length⟩ pl → Below w.heap.size w w' → R (moA (x.1, x.2.1, ⟨some (blk b), pl.length, pl.length⟩, ())) w') :
    callR Tryz.prog 11 #[moA x] w R := by
  refine callR.of (intagliokit_CopyModule_calls x R w ?_) fun _ _ h => h
  refine lay_of fun w1 hB1 b1 z1 => ?_
  have hB1 : Blk w1 w.heap.size 25 (moV x) := hB1
  refine lay_of fun w2 hC2 b2 z2 => ?_
  have hC2 : Blk w2 w1.heap.size 25 [.int .u32 0, .int .u32 0, .slice none 0 0] := hC2
  have hB2 := hB1.below b2
  have hl := hN.len
  have h40 := hp.len
  refine hB2.rS (n := 2) rfl ⟨⟨by omega, by omega, by omega, by omega⟩, ?_⟩
  refine lay_of fun w3 hD3 b3 z3 => ?_
  have hb3 := (b1.on b2).on b3
  have hB3 := hB2.below b3
  have hC3 := hC2.below b3
  have hargs : ∀ p ∈ pl, p.2.2.2.length ≤ 9223372036854775807 := fun p h => by have := hp.args p h; omega
  refine LoopW.count pl.length hN.bound (fun k w' => Below w.heap.size w w' ∧ w3.heap.size ≤ w'.heap.size ∧ Blk w' w.heap.size 25 (moV x) ∧ Blk w' w1.heap.size 25 [.int .u32 0, .int .u32 0, .slice none 0 0] ∧
      ∃ (hs : List Ins) (r : List Value), hs.length = k ∧ Blk w' w2.heap.size 41 (flat inV hs ++ r) ∧ r.length = (pl.length - k) * 4 ∧
        ∀ (j : Nat) (h : j < hs.length) (h' : j < pl.length), ∃ c, w2.heap.size < c ∧ hs[j] = mkIn pl[j] ⟨some (blk c), pl[j].2.2.2.length, pl[j].2.2.2.length⟩ ∧ Blk w' c 61 (flat agV pl[j].2.2.2))
    ⟨hb3, Nat.le_refl _, hB3, hC3, [], _, rfl, by simpa [flat] using hD3, by rw [Array.length_toList, size_madeCells, hl]; simp, fun j h _ => by cases h⟩ ?_
  rintro k w4 hk ⟨hb, hz, hB, hC, hs, r, hhl, hD, hr, hrow⟩ next hnext
  refine hB.rS (n := 2) rfl (ifB_dec (fun hlt => ?_) (fun hge => ?_))
  · have hlt : k < pl.length := by dsimp only at hlt; omega
    refine hB.rS (n := 2) rfl (elemPI (hN.below hb) hlt fun t ht => ?_)
    refine CopyInst_spec (x := mkIn pl[k] t) ht (hp.args _ (List.getElem_mem hlt)) fun c w5 hc hA5 hI5 b5 => ⟨mkIn pl[k] ⟨some (blk c), pl[k].2.2.2.length, pl[k].2.2.2.length⟩, rfl, ?_⟩
    have hb5 := hb.on b5
    have hD5 := hD.below b5
    have hB5 := hB.below b5
    have hC5 := hC.below b5
    have s5 := b5.size
    refine ⟨⟨by omega, by dsimp only; omega⟩, ?_⟩
    have hfl : (flat inV hs).length = k * 4 := by rw [flat_length inV_len, hhl]
    obtain ⟨r', hr', e⟩ := set4 (flat inV hs) (cs := r) (m := pl.length - (k + 1)) (by rw [hr]; congr 1; omega) (.int .u16 pl[k].1) (.int .u32 pl[k].2.1) (.int .u32 pl[k].2.2.1) (.slice (some (blk c)) pl[k].2.2.2.length pl[k].2.2.2.length)
    rw [hfl] at e
    have hcl : (flat inV hs ++ r).length = pl.length * 4 := by rw [List.length_append, hfl, hr, ← Nat.add_mul]; congr 1; omega
    dsimp only
    rw [show Int.toNat (k : Int) = k from rfl]
    simp only [add_add']
    have hD1 := hD5.set (k * 4) (.int .u16 pl[k].1)
    have hD2 := hD1.set (k * 4 + 1) (.int .u32 pl[k].2.1)
    have hD3 := hD2.set (k * 4 + 2) (.int .u32 pl[k].2.2.1)
    have hD4 := hD3.set (k * 4 + 3) (.slice (some (blk c)) pl[k].2.2.2.length pl[k].2.2.2.length)
    have c1 := (((Chg.set w2.heap.size (k * 4) w5 (.int .u16 pl[k].1)).trans (Chg.set w2.heap.size (k * 4 + 1) _ (.int .u32 pl[k].2.1))).trans (Chg.set w2.heap.size (k * 4 + 2) _ (.int .u32 pl[k].2.2.1))).trans
      (Chg.set w2.heap.size (k * 4 + 3) _ (.slice (some (blk c)) pl[k].2.2.2.length pl[k].2.2.2.length))
    refine ⟨hD5.wr (by omega), hD1.wr (by rw [List.length_set]; omega), hD2.wr (by rw [List.length_set, List.length_set]; omega), hD3.wr (by rw [List.length_set, List.length_set, List.length_set]; omega), ?_⟩
    refine hnext _ hlt ⟨c1.below hb5 (by omega), by rw [c1.size]; omega, c1.blk hB5 (by omega), c1.blk hC5 (by omega), hs ++ [mkIn pl[k] ⟨some (blk c), pl[k].2.2.2.length, pl[k].2.2.2.length⟩], r', by simp [hhl], ?_, hr', ?_⟩
    · rw [e] at hD4
      have e2 : flat inV (hs ++ [mkIn pl[k] ⟨some (blk c), pl[k].2.2.2.length, pl[k].2.2.2.length⟩]) = flat inV hs ++ inV (mkIn pl[k] ⟨some (blk c), pl[k].2.2.2.length, pl[k].2.2.2.length⟩) := by
        simp [flat]
      rw [e2]
      exact hD4
    · intro j h h'
      by_cases hj : j < hs.length
      · obtain ⟨c', g1, g2, g3⟩ := hrow j hj h'
        refine ⟨c', g1, ?_, c1.blk (g3.below b5) (by omega)⟩
        rw [List.getElem_append_left hj]
        exact g2
      · have hj' : j = k := by simp at h; omega
        subst hj'
        refine ⟨c, by omega, ?_, c1.blk hA5 (by omega)⟩
        rw [List.getElem_append_right (by omega)]
        simp [hhl]
  · have hk' : k = pl.length := by dsimp only at hge; omega
    subst hk'
    simp only [Nat.sub_self, Nat.zero_mul] at hr
    have : r = [] := List.eq_nil_of_length_eq_zero hr
    subst this
    rw [List.append_nil] at hD
    refine ⟨hB.wr (n := 2) (by simp), ?_⟩
    rw [hl]
    have c1 := Chg.set w.heap.size 2 w4 (.slice (some (blk w2.heap.size)) pl.length pl.length)
    have hB5 : Blk _ w.heap.size 25 (moV (x.1, x.2.1, ⟨some (blk w2.heap.size), pl.length, pl.length⟩, ())) := hB.set 2 (.slice (some (blk w2.heap.size)) pl.length pl.length)
    have hb5 := c1.below hb (Nat.le_refl _)
    have hC5 := c1.blk hC (by omega)
    have hD5 := c1.blk hD (by omega)
    refine Nw.mk (Mo.load hB5 ?_)
    refine st3 hC5 rfl fun w6 hC6 c6 => ?_
    have hC6 : Blk w6 w1.heap.size 25 (moV (x.1, x.2.1, ⟨some (blk w2.heap.size), pl.length, pl.length⟩, ())) := hC6
    have hcp : Cpy w6 w2.heap.size pl := ⟨hs, hhl, c6.blk hD5 (by omega), fun j h h' => by
      obtain ⟨c', g1, g2, g3⟩ := hrow j h h'
      exact ⟨c', g1, g2, c6.blk (c1.blk g3 (by omega)) (by omega)⟩⟩
    refine Mo.load hC6 ?_
    exact hR w2.heap.size w6 (by omega) hcp (hcp.isPl hN.bound hargs) (c6.below hb5 (by omega))


end Go.Proofs
namespace Go.Proofs
open Go.Gk Go.RowKit Go.Gm

abbrev Prs := List (Int × Int)
abbrev idsA (l : List Ag) : List Int := (l.filter fun a => a.1 == 1).map (·.2.1)
def allI (p : PI) : List Int := p.2.1 :: p.2.2.1 :: idsA p.2.2.2
def allP (pl : List PI) : List Int := pl.flatMap allI
open Classical in
/-- Of an instruction without fault: its ids lie below the bound, what is an id bears no text. -/
theorem fault_ids {p : PI} {bd : Int} (h : faultI p bd = 0) (hb : 0 < bd) (h0 : 0 ≤ p.2.1 ∧ 0 ≤ p.2.2.1 ∧ ∀ x ∈ p.2.2.2, 0 ≤ x.2.1) :
    (∀ n ∈ allI p, 0 ≤ n ∧ n < bd) ∧ ∀ x ∈ p.2.2.2, x.1 = 1 → x.2.2.size = 0 := by
  unfold faultI at h
  cases hfr : frm p.1 with
  | none => rw [faultP_none hfr] at h; cases h
  | some g =>
    rw [faultP_some hfr] at h
    have hek : errK g p.2.1 p.2.2.1 p.2.2.2 bd p.2.2.2.length = 0 := by
      refine Classical.byContradiction fun hne => ?_
      unfold faultF at h
      rw [if_pos hne] at h
      exact hne h
    obtain ⟨e1, e2, e3⟩ := errK_all hek
    have hw := argK_all e3
    have idlt : ∀ {must : Bool} {n e : Int}, idP must n bd e = 0 → e ≠ 0 → n < bd := by
      intro must n e hi he
      unfold idP at hi
      split at hi
      · rename_i hm
        split at hi
        · cases hi
        · rename_i hno
          cases must with
          | true => exact Int.not_le.1 fun hle => hno ⟨rfl, hle⟩
          | false =>
            have : n = 0 := by
              refine Classical.byContradiction fun hn => ?_
              rw [bne_iff_ne.2 hn] at hm
              cases hm
            omega
      · exact absurd hi he
    have hx : ∀ x ∈ p.2.2.2, x.1 = 1 → (x.2.1 < bd) ∧ x.2.2.size = 0 := by
      intro x hx h1
      obtain ⟨j, hj, rfl⟩ := List.mem_iff_getElem.1 hx
      have := hw j hj
      unfold werr at this
      rw [getD_lt hj] at this
      unfold wrongP at this
      split at this
      · cases this
      · split at this
        · cases this
        · rename_i n1
          split at this
          · cases this
          · rename_i n2
            refine ⟨Int.not_le.1 fun hle => n2 ⟨h1, .inr hle⟩, ?_⟩
            refine Classical.byContradiction fun hne => n1 (.inr ⟨by rw [h1]; decide, hne⟩)
    refine ⟨fun n hn => ?_, fun x hx' h1 => (hx x hx' h1).2⟩
    unfold allI at hn
    rcases List.mem_cons.1 hn with rfl | hn
    · exact ⟨h0.1, idlt e1 (by decide)⟩
    · rcases List.mem_cons.1 hn with rfl | hn
      · exact ⟨h0.2.1, idlt e2 (by decide)⟩
      · obtain ⟨x, hx', rfl⟩ := List.mem_map.1 hn
        obtain ⟨hx1, hx2⟩ := List.mem_filter.1 hx'
        exact ⟨h0.2.2 x hx1, (hx x hx1 (by simpa using hx2)).1⟩

end Go.Proofs
namespace Go.Proofs
open Go.Gk Go.RowKit Go.Gm

theorem _root_.Go.Gk.Blk.rM0 {w : World} {b : Nat} {T : TypeId} {cs : List Value} (h : Blk w b T cs) {x : Option Nat} (hn : cs[0]? = some (.map x)) {φ : Option Nat → Prop} (hφ : φ x) : ldM w (blk b) φ := ⟨x, h.cell0 hn, hφ⟩
theorem uU32 : Tryz.prog.underlying 22 = some (.int .u32) := by kernel_rfl
end Go.Proofs
namespace Go.Proofs
open Go.Gk
set_option linter.unusedVariables false
set_option maxRecDepth 100000

end Go.Proofs
namespace Go.Proofs
open Go.Gk Go.RowKit

end Go.Proofs
namespace Go.Proofs
open Go.Gk Go.RowKit Go.Gm

def KeyN (L : List (Int × Int)) : Prop := (L.map (·.1)).Nodup
theorem keys_set (k v : Int) : ∀ L : List (Int × Int), (setL L k v).map (·.1) = L.map (·.1) ∨ ((setL L k v).map (·.1) = L.map (·.1) ++ [k] ∧ k ∉ L.map (·.1))
  | [] => .inr ⟨rfl, by simp⟩
  | p :: r => by
    simp only [setL]
    split
    · rename_i e
      left
      simp [e]
    · rename_i e
      rcases keys_set k v r with h | ⟨h1, h2⟩
      · left
        simp [h]
      · right
        refine ⟨by simp [h1], ?_⟩
        rw [List.map_cons, List.mem_cons, not_or]
        exact ⟨e, h2⟩
theorem KeyN.set {L : List (Int × Int)} (h : KeyN L) (k v : Int) : KeyN (setL L k v) := by
  unfold KeyN at h ⊢
  rcases keys_set k v L with e | ⟨e, hk⟩
  · rw [e]; exact h
  · rw [e]
    refine List.nodup_append.2 ⟨h, by simp, ?_⟩
    intro a ha b hb e'
    rw [List.mem_singleton] at hb
    rw [e', hb] at ha
    exact hk ha

def mk1 (pl : List PI) (id : Int) (k : Nat) : Bool := (pl.getD k pi0).2.2.1 == id && id != 0
def makerI (pl : List PI) (id : Int) (n : Nat) : Int := match (List.range n).find? (mk1 pl id) with
  | some k => (k : Int)
  | none => -1
/-- The map L says who makes an id, of the instructions from k on. -/
def MkOk (L : List (Int × Int)) (pl : List PI) (k : Nat) : Prop := ∀ id, (lookL L id = none → ∀ j, k ≤ j → j < pl.length → mk1 pl id j = false) ∧
  ∀ v, lookL L id = some v → ∃ j : Nat, v = (j : Int) ∧ k ≤ j ∧ j < pl.length ∧ mk1 pl id j = true ∧ ∀ i, k ≤ i → i < j → mk1 pl id i = false
theorem MkOk.end (pl : List PI) : MkOk [] pl pl.length := fun _ => ⟨fun _ j h1 h2 => by omega, fun v h => by cases h⟩
theorem MkOk.step {L : List (Int × Int)} {pl : List PI} {k : Nat} (h : MkOk L pl (k + 1)) (hk : k < pl.length) : MkOk (if pl[k].2.2.1 ≠ 0 then setL L pl[k].2.2.1 k else L) pl k := by
  have hm : ∀ id, mk1 pl id k = (pl[k].2.2.1 == id && id != 0) := fun id => by unfold mk1; rw [getD_lt hk]
  intro id
  obtain ⟨h1, h2⟩ := h id
  by_cases e0 : pl[k].2.2.1 = 0
  · rw [if_neg (fun h => h e0)]
    have hf : mk1 pl id k = false := by
      rw [hm, e0]
      by_cases e : id = 0
      · rw [e]; rfl
      · rw [beq_eq_false_iff_ne.2 (fun h => e h.symm), Bool.false_and]
    refine ⟨fun hn j g1 g2 => ?_, fun v hv => ?_⟩
    · by_cases e : j = k
      · subst e; exact hf
      · exact h1 hn j (by omega) g2
    · obtain ⟨j, q1, q2, q3, q4, q5⟩ := h2 v hv
      refine ⟨j, q1, by omega, q3, q4, fun i g1 g2 => ?_⟩
      by_cases e : i = k
      · subst e; exact hf
      · exact q5 i (by omega) g2
  · rw [if_pos e0, lookL_set]
    by_cases e : id = pl[k].2.2.1
    · rw [if_pos e]
      refine ⟨fun hn => by (cases hn), fun v hv => ⟨k, (Option.some.inj hv).symm, Nat.le_refl _, hk, ?_, fun i g1 g2 => by omega⟩⟩
      rw [hm, e]
      simp [e0]
    · rw [if_neg e]
      have hf : mk1 pl id k = false := by rw [hm, beq_eq_false_iff_ne.2 (fun h => e h.symm), Bool.false_and]
      refine ⟨fun hn j g1 g2 => ?_, fun v hv => ?_⟩
      · by_cases e : j = k
        · subst e; exact hf
        · exact h1 hn j (by omega) g2
      · obtain ⟨j, q1, q2, q3, q4, q5⟩ := h2 v hv
        refine ⟨j, q1, by omega, q3, q4, fun i g1 g2 => ?_⟩
        by_cases e : i = k
        · subst e; exact hf
        · exact q5 i (by omega) g2
theorem MkOk.range {L : List (Int × Int)} {pl : List PI} (h : MkOk L pl 0) {id v : Int} (hv : lookL L id = some v) : ∃ p ∈ pl, p.2.2.1 = id := by
  obtain ⟨j, _, _, q3, q4, _⟩ := (h id).2 v hv
  refine ⟨pl[j], List.getElem_mem q3, ?_⟩
  unfold mk1 at q4
  rw [getD_lt q3, Bool.and_eq_true, beq_iff_eq] at q4
  exact q4.1

theorem uMapI : Tryz.prog.underlying 99 = some (.map 22 3) := by kernel_rfl
theorem Backward1_spec {y : Value} {s : Sl} {pl : List PI} {pb : Nat} {w : World} (Inv : Nat → World → Prop) (S : World → Prop) (h0 : Inv pl.length w)
    (hkeep : ∀ k w', Inv k w' → w'.cell? (blk pb) = some (.slice s.a s.l s.c) ∧ IsPl w' s pl)
    (hround : ∀ k (hk : k < pl.length) t w', Inv (k + 1) w' → callV Tryz.prog Tryz.fs y [.int .i64 (k : Int), inA (mkIn pl[k] t)] w' fun v w'' => (v = .bool true ∧ Inv k w'') ∨ (v = .bool false ∧ S w''))
    (hend : ∀ w', Inv 0 w' → S w') : Calls Tryz.prog 171 #[y, .pointer (some (blk pb))] w (Ret fun _ w' => S w') := by
  refine slices_Backward_sapi_Inst_api_Inst__1_calls y (blk pb) _ w ⟨s, (hkeep _ _ h0).1, ?_⟩
  have hlen := (hkeep _ _ h0).2.len
  have hmax := (hkeep _ _ h0).2.bound
  dsimp only
  rw [hlen, wrap64_in (by omega) (by omega)]
  refine LoopW.ghost (fun j st w' => j ≤ pl.length ∧ st = ((j : Int) - 1, ()) ∧ Inv j w') pl.length ⟨Nat.le_refl _, rfl, h0⟩ ?_
  rintro k _ w1 ⟨hk, rfl, hI⟩ next hnext
  refine ifB_dec (fun h => ?_) (fun h => ?_)
  · obtain ⟨j, rfl⟩ : ∃ j, k = j + 1 := ⟨k - 1, by dsimp only at h; omega⟩
    have hlt : j < pl.length := by omega
    obtain ⟨c1, c2⟩ := hkeep _ _ hI
    have ej : (((j + 1 : Nat) : Int) - 1) = (j : Int) := by omega
    dsimp only
    rw [ej]
    refine ⟨s, c1, elemPI c2 hlt fun t _ => ?_⟩
    refine callV.mono (hround j hlt t w1 hI) fun v w2 hv => ?_
    rcases hv with ⟨rfl, hv⟩ | ⟨rfl, hv⟩
    · refine ⟨true, rfl, ifB_false rfl ?_⟩
      rw [wrap64_in (by omega) (by omega)]
      exact hnext j _ _ (by omega) ⟨by omega, rfl, hv⟩
    · exact ⟨false, rfl, ifB_true rfl hv⟩
  · have hk0 : k = 0 := by dsimp only at h; omega
    subst hk0
    exact hend w1 hI
theorem makers_spec {s : Sl} {pl : List PI} {w : World} {R : Value → World → Prop} (hN : IsPl w s pl)
    (hR : ∀ w' L, IsMp w' w.heap.size .i64 L → MkOk L pl 0 → KeyN L → Below w.heap.size w w' → R (.map (some w.heap.size)) w') : callR Tryz.prog 101 #[.slice s.a s.l s.c] w R := by
  refine callR.of (ids_makers_calls s R w ?_) fun _ _ h => h
  refine Nw.gen fun w1 e1 => ?_
  have m1 : IsMp w1 w.heap.size .i64 [] := by rw [e1]; exact IsMp.new _ _
  have b1 : Below w.heap.size w w1 := by rw [e1]; exact (Below.refl _ _).alloc (Nat.le_refl _) _
  have z1 : w1.heap.size = w.heap.size + 1 := by rw [e1]; simp
  clear e1
  refine Nw.gen fun w2 e2 => ?_
  have hB2 : Blk w2 w1.heap.size 99 [.map none] := by rw [e2]; exact Blk.new _ _ _
  have b2 : Below w1.heap.size w1 w2 := by rw [e2]; exact (Below.refl _ _).alloc (Nat.le_refl _) _
  have z2 : w2.heap.size = w.heap.size + 2 := by rw [e2]; simp [z1]
  clear e2
  refine ⟨hB2.wr0 (by simp), Nw.gen fun w3 e3 => ?_⟩
  have c3 : Chg w1.heap.size w2 w3 := by rw [e3]; exact Chg.set w1.heap.size 0 w2 _
  have hB3 : Blk w3 w1.heap.size 99 [.map (some w.heap.size)] := by rw [e3]; exact hB2.set0 _
  clear e3
  have m3 := (m1.below b2).of_block (c3.block _ (by omega))
  have hb3 : Below w.heap.size w w3 := c3.below (b1.on b2) (by omega)
  have z3 := c3.size
  refine callR.of (slices_Backward_sapi_Inst_api_Inst_calls s _ w3 ?_) fun _ _ h => h
  refine lay_of fun w4 hC4 b4 z4 => ⟨_, rfl, ?_⟩
  have hC4 : Blk w4 w3.heap.size 23 [.slice s.a s.l s.c] := hC4
  intro mk hy
  have hcf : Tryz.fs.contains 171 = true := by kernel_rfl
  unfold callF
  simp only [hcf]
  generalize hw5 : ((w4.alloc (.deferred (some []))).alloc (mk .ready none)) = w5
  have b5 : Below w4.heap.size w4 w5 := by rw [← hw5]; exact laid_below w4 _ _
  have hd5 : w5.heap[w4.heap.size]? = some (.deferred (some [])) := by rw [← hw5]; exact laid_d w4 _ _
  have hl5 : w5.heap[w4.heap.size + 1]? = some (mk .ready none) := by rw [← hw5]; exact laid_l w4 _ _
  clear hw5
  have b35 := b4.on b5
  refine Backward1_spec (y := .func (.yield (w4.heap.size + 1)) #[] #[]) (s := s) (pl := pl)
    (fun k w' => w'.heap[w4.heap.size + 1]? = some (mk .ready none) ∧ w'.heap[w4.heap.size]? = some (.deferred (some [])) ∧ Blk w' w1.heap.size 99 [.map (some w.heap.size)] ∧ Blk w' w3.heap.size 23 [.slice s.a s.l s.c] ∧ Below w.heap.size w w' ∧
      ∃ L, IsMp w' w.heap.size .i64 L ∧ MkOk L pl k ∧ KeyN L) _
    ⟨hl5, hd5, hB3.below b35, hC4.below b5, hb3.on b35, [], m3.below b35, MkOk.end pl, by simp [KeyN]⟩ ?_ ?_ ?_
  · rintro k w' ⟨h1, h2, h3, h4, h5, _⟩
    exact ⟨h4.cell0 rfl, hN.below h5⟩
  · rintro k hk t w' ⟨h1, h2, h3, h4, h5, L, h6, h7, h8⟩
    have hlt' : w4.heap.size + 1 < w'.heap.size := (Array.getElem?_eq_some_iff.1 h1).1
    refine hy ((k : Int), mkIn pl[k] t, ()) w' _ h1 ?_
    refine box4 rfl fun w6 hI6 b6 z6 => ?_
    have hI6 : Blk w6 w'.heap.size 41 (inV (mkIn pl[k] t)) := hI6
    have hl6 : w6.heap[w4.heap.size + 1]? = some (mk .ready none) := (b6.block _ hlt').trans h1
    refine ⟨hl6, Nw.gen fun w7 e7 => ?_⟩
    have s6 := b6.size
    have hlt6 : w4.heap.size + 1 < w6.heap.size := by omega
    have ho7 : ∀ b, b ≠ w4.heap.size + 1 → w7.heap[b]? = w6.heap[b]? := fun b hb => by rw [e7]; exact World.putObj_heap_other hb
    have z7 : w7.heap.size = w6.heap.size := by rw [e7]; simp
    have hl7 : w7.heap[w4.heap.size + 1]? = some (mk .busy none) := by rw [e7]; exact put_self hlt6 _
    have hb7 : Below w.heap.size w w7 := by rw [e7]; exact (h5.on b6).putObj (by omega) _
    clear e7
    have d7 : w7.heap[w4.heap.size]? = some (.deferred (some [])) := by rw [ho7 _ (by omega), b6.block _ (by omega)]; exact h2
    have k3 := (h3.below b6).of_block (ho7 _ (by have := b4.size; omega))
    have k4 := (h4.below b6).of_block (ho7 _ (by omega))
    have k6 := (h6.below b6).of_block (ho7 _ (by omega))
    have kI := hI6.of_block (ho7 _ (by omega))
    have hst := h7.step hk
    have hput : ∀ {w8 : World}, w8.heap[w4.heap.size + 1]? = some (mk .busy none) → w4.heap.size + 1 < w8.heap.size := fun h => (Array.getElem?_eq_some_iff.1 h).1
    refine kI.rI (n := 2) rfl (ifB_bne (fun e => ?_) (fun e => ?_))
    · have e' : pl[k].2.2.1 ≠ 0 := e
      rw [if_pos e'] at hst
      refine k3.rM0 rfl (kI.rI (n := 2) rfl ?_)
      refine updW_of uMapI uU32 k6 fun w8 m8 c8 => ?_
      have hl8 : w8.heap[w4.heap.size + 1]? = some (mk .busy none) := by rw [c8.block _ (by omega)]; exact hl7
      refine ⟨hl8, .inl ⟨rfl, put_self (hput hl8) _, ?_, ?_, ?_, ?_, _, ?_, hst, h8.set _ _⟩⟩
      · rw [World.putObj_heap_other (by omega), c8.block _ (by omega)]; exact d7
      · exact (c8.blk k3 (by omega)).put (by omega) _
      · exact (c8.blk k4 (by omega)).put (by omega) _
      · exact (c8.below hb7 (Nat.le_refl _)).putObj (by omega) _
      · exact m8.of_block (World.putObj_heap_other (by omega))
    · have e' : ¬ pl[k].2.2.1 ≠ 0 := fun h => h e
      rw [if_neg e'] at hst
      refine ⟨hl7, .inl ⟨rfl, put_self (by omega) _, ?_, ?_, ?_, ?_, L, ?_, hst, h8⟩⟩
      · rw [World.putObj_heap_other (by omega)]; exact d7
      · exact k3.put (by omega) _
      · exact k4.put (by omega) _
      · exact hb7.putObj (by omega) _
      · exact k6.of_block (World.putObj_heap_other (by omega))
  · rintro w' ⟨h1, h2, h3, h4, h5, L, h6, h7, h8⟩
    refine ⟨h1, ?_⟩
    have k3 := h3.put (l := w4.heap.size + 1) (by omega) (mk .exhausted none)
    refine k3.rM0 rfl (closeM_one (by rw [World.putObj_heap_other (by omega)]; exact h2) ?_)
    refine hR _ L ?_ h7 h8 ?_
    · exact (h6.of_block (World.putObj_heap_other (by omega))).of_block (World.putObj_heap_other (by omega))
    · exact (h5.putObj (by omega) _).putObj (by omega) _

end Go.Proofs
namespace Go.Proofs
open Go.Gk Go.RowKit Go.Gm

section
variable {x : Mo} {pl : List PI} {w : World} {R : Value → World → Prop}
theorem rMaker_spec {s : Sl} {id n : Int} (hN : IsPl w s pl) (hn : n = (pl.length : Int)) (hR : R (.int .i64 (makerI pl id pl.length)) w) : callR Tryz.prog 142 #[.slice s.a s.l s.c, .int .u32 id, .int .i64 n] w R := by
  subst hn
  refine callR.of (intaglioref09_Maker_calls s id pl.length R w ?_) fun _ _ h => h
  have hlen := hN.len
  refine LoopW.count pl.length hN.bound (fun k w' => w' = w ∧ ∀ j, j < k → mk1 pl id j = false) ⟨rfl, fun j hj => by omega⟩ ?_
  rintro k w1 hk ⟨hw, hj⟩ next hnext
  subst hw
  refine ifB_dec (fun h => ?_) (fun h => ?_)
  · have hlt : k < pl.length := by dsimp only at h; omega
    have hm : mk1 pl id k = (pl[k].2.2.1 == id && id != 0) := by unfold mk1; rw [getD_lt hlt]
    refine JoinW.cut (fun _ w' => w' = w1 ∧ mk1 pl id k = false) ?_ ?_
    · refine elemPr hN hlt (ifB_beq (fun e1 => ?_) (fun e1 => ⟨rfl, by rw [hm, beq_eq_false_iff_ne.2 e1, Bool.false_and]⟩))
      refine ifB_bne (fun e2 => ?_) (fun e2 => ⟨rfl, by rw [hm, e2]; simp⟩)
      have : makerI pl id pl.length = (k : Int) := by
        unfold makerI
        rw [find_first hlt (by rw [hm, beq_iff_eq.2 e1, bne_iff_ne.2 e2]; rfl) hj]
      rwa [this] at hR
    · rintro _ w2 ⟨hw, hno⟩
      refine hnext w2 hlt ⟨hw, fun j hj' => ?_⟩
      by_cases e : j = k
      · subst e; exact hno
      · exact hj j (by omega)
  · have hk' : k = pl.length := by dsimp only at h; omega
    have : makerI pl id pl.length = -1 := by
      unfold makerI
      have : (List.range pl.length).find? (mk1 pl id) = none := by
        rw [List.find?_eq_none]
        intro j hj'
        rw [hj j (by rw [hk']; exact List.mem_range.1 hj')]
        simp
      rw [this]
    rwa [this] at hR
end

end Go.Proofs
namespace Go.Proofs
open Go.Gk Go.RowKit Go.Gm

abbrev T20 := Int × Int × Int × Int × Int × Int × Int × Int × Int × Int × Int × Int × Int × Int × Int × Int × Int × Int × Int × Int × Unit
abbrev l20 (x : T20) : List Int := [x.1, x.2.1, x.2.2.1, x.2.2.2.1, x.2.2.2.2.1, x.2.2.2.2.2.1, x.2.2.2.2.2.2.1, x.2.2.2.2.2.2.2.1, x.2.2.2.2.2.2.2.2.1, x.2.2.2.2.2.2.2.2.2.1, x.2.2.2.2.2.2.2.2.2.2.1, x.2.2.2.2.2.2.2.2.2.2.2.1, x.2.2.2.2.2.2.2.2.2.2.2.2.1, x.2.2.2.2.2.2.2.2.2.2.2.2.2.1, x.2.2.2.2.2.2.2.2.2.2.2.2.2.2.1, x.2.2.2.2.2.2.2.2.2.2.2.2.2.2.2.1, x.2.2.2.2.2.2.2.2.2.2.2.2.2.2.2.2.1, x.2.2.2.2.2.2.2.2.2.2.2.2.2.2.2.2.2.1, x.2.2.2.2.2.2.2.2.2.2.2.2.2.2.2.2.2.2.1, x.2.2.2.2.2.2.2.2.2.2.2.2.2.2.2.2.2.2.2.1]
abbrev sp20 (x : T20) : List Value := [.int .i64 x.1, .int .i64 x.2.1, .int .i64 x.2.2.1, .int .i64 x.2.2.2.1, .int .i64 x.2.2.2.2.1, .int .i64 x.2.2.2.2.2.1, .int .i64 x.2.2.2.2.2.2.1, .int .i64 x.2.2.2.2.2.2.2.1, .int .i64 x.2.2.2.2.2.2.2.2.1, .int .i64 x.2.2.2.2.2.2.2.2.2.1, .int .i64 x.2.2.2.2.2.2.2.2.2.2.1, .int .i64 x.2.2.2.2.2.2.2.2.2.2.2.1, .int .i64 x.2.2.2.2.2.2.2.2.2.2.2.2.1, .int .i64 x.2.2.2.2.2.2.2.2.2.2.2.2.2.1, .int .i64 x.2.2.2.2.2.2.2.2.2.2.2.2.2.2.1, .int .i64 x.2.2.2.2.2.2.2.2.2.2.2.2.2.2.2.1, .int .i64 x.2.2.2.2.2.2.2.2.2.2.2.2.2.2.2.2.1, .int .i64 x.2.2.2.2.2.2.2.2.2.2.2.2.2.2.2.2.2.1, .int .i64 x.2.2.2.2.2.2.2.2.2.2.2.2.2.2.2.2.2.2.1, .int .i64 x.2.2.2.2.2.2.2.2.2.2.2.2.2.2.2.2.2.2.2.1]
abbrev ag20 (x : T20) : Value := .agg #[.int .i64 x.1, .int .i64 x.2.1, .int .i64 x.2.2.1, .int .i64 x.2.2.2.1, .int .i64 x.2.2.2.2.1, .int .i64 x.2.2.2.2.2.1, .int .i64 x.2.2.2.2.2.2.1, .int .i64 x.2.2.2.2.2.2.2.1, .int .i64 x.2.2.2.2.2.2.2.2.1, .int .i64 x.2.2.2.2.2.2.2.2.2.1, .int .i64 x.2.2.2.2.2.2.2.2.2.2.1, .int .i64 x.2.2.2.2.2.2.2.2.2.2.2.1, .int .i64 x.2.2.2.2.2.2.2.2.2.2.2.2.1, .int .i64 x.2.2.2.2.2.2.2.2.2.2.2.2.2.1, .int .i64 x.2.2.2.2.2.2.2.2.2.2.2.2.2.2.1, .int .i64 x.2.2.2.2.2.2.2.2.2.2.2.2.2.2.2.1, .int .i64 x.2.2.2.2.2.2.2.2.2.2.2.2.2.2.2.2.1, .int .i64 x.2.2.2.2.2.2.2.2.2.2.2.2.2.2.2.2.2.1, .int .i64 x.2.2.2.2.2.2.2.2.2.2.2.2.2.2.2.2.2.2.1, .int .i64 x.2.2.2.2.2.2.2.2.2.2.2.2.2.2.2.2.2.2.2.1]
theorem l20_of {ps : List Int} (h : ps.length = 20) : ∃ x : T20, ps = l20 x := by
  match ps, h with
  | [a0, a1, a2, a3, a4, a5, a6, a7, a8, a9, a10, a11, a12, a13, a14, a15, a16, a17, a18, a19], _ => exact ⟨(a0, a1, a2, a3, a4, a5, a6, a7, a8, a9, a10, a11, a12, a13, a14, a15, a16, a17, a18, a19, ()), rfl⟩
theorem _root_.Go.Gk.Blk.rI2 {w : World} {b : Nat} {T : TypeId} {cs : List Value} (h : Blk w b T cs) {m n : Nat} {κ : IntKind} {x : Int} (hn : cs[m + n]? = some (.int κ x)) {φ : Int → Prop} (hφ : φ x) : ldI w (((Gk.blk b).add m).add n) κ φ := by
  rw [add_add']; exact h.rI hn hφ
theorem ld20 {w : World} {b : Nat} {T : TypeId} {x : T20} (h : Blk w b T (sp20 x)) {φ : Int → Int → Int → Int → Int → Int → Int → Int → Int → Int → Int → Int → Int → Int → Int → Int → Int → Int → Int → Int → Prop} (hφ : φ x.1 x.2.1 x.2.2.1 x.2.2.2.1 x.2.2.2.2.1 x.2.2.2.2.2.1 x.2.2.2.2.2.2.1 x.2.2.2.2.2.2.2.1 x.2.2.2.2.2.2.2.2.1 x.2.2.2.2.2.2.2.2.2.1 x.2.2.2.2.2.2.2.2.2.2.1 x.2.2.2.2.2.2.2.2.2.2.2.1 x.2.2.2.2.2.2.2.2.2.2.2.2.1 x.2.2.2.2.2.2.2.2.2.2.2.2.2.1 x.2.2.2.2.2.2.2.2.2.2.2.2.2.2.1 x.2.2.2.2.2.2.2.2.2.2.2.2.2.2.2.1 x.2.2.2.2.2.2.2.2.2.2.2.2.2.2.2.2.1 x.2.2.2.2.2.2.2.2.2.2.2.2.2.2.2.2.2.1 x.2.2.2.2.2.2.2.2.2.2.2.2.2.2.2.2.2.2.1 x.2.2.2.2.2.2.2.2.2.2.2.2.2.2.2.2.2.2.2.1) :
      ldI w ((blk b).add 0) .i64 fun x0 =>
      ldI w ((blk b).add 1) .i64 fun x1 =>
      ldI w ((blk b).add 2) .i64 fun x2 =>
      ldI w ((blk b).add 3) .i64 fun x3 =>
      ldI w ((blk b).add 4) .i64 fun x4 =>
      ldI w ((blk b).add 5) .i64 fun x5 =>
      ldI w ((blk b).add 6) .i64 fun x6 =>
      ldI w ((blk b).add 7) .i64 fun x7 =>
      ldI w ((blk b).add 8) .i64 fun x8 =>
      ldI w ((blk b).add 9) .i64 fun x9 =>
      ldI w ((blk b).add 10) .i64 fun x10 =>
      ldI w ((blk b).add 11) .i64 fun x11 =>
      ldI w ((blk b).add 12) .i64 fun x12 =>
      ldI w ((blk b).add 13) .i64 fun x13 =>
      ldI w ((blk b).add 14) .i64 fun x14 =>
      ldI w ((blk b).add 15) .i64 fun x15 =>
      ldI w ((blk b).add 16) .i64 fun x16 =>
      ldI w ((blk b).add 17) .i64 fun x17 =>
      ldI w ((blk b).add 18) .i64 fun x18 =>
      ldI w ((blk b).add 19) .i64 fun x19 =>
      φ x0 x1 x2 x3 x4 x5 x6 x7 x8 x9 x10 x11 x12 x13 x14 x15 x16 x17 x18 x19 :=
  h.rI (n := 0) rfl (h.rI (n := 1) rfl (h.rI (n := 2) rfl (h.rI (n := 3) rfl (h.rI (n := 4) rfl (h.rI (n := 5) rfl (h.rI (n := 6) rfl (h.rI (n := 7) rfl (h.rI (n := 8) rfl (h.rI (n := 9) rfl (h.rI (n := 10) rfl (h.rI (n := 11) rfl (h.rI (n := 12) rfl (h.rI (n := 13) rfl (h.rI (n := 14) rfl (h.rI (n := 15) rfl (h.rI (n := 16) rfl (h.rI (n := 17) rfl (h.rI (n := 18) rfl (h.rI (n := 19) rfl (hφ))))))))))))))))))))
theorem ld20c {w : World} {b : Nat} {T : TypeId} {v0 v1 : Value} {r : List Value} {x : T20} (h : Blk w b T (v0 :: v1 :: (sp20 x ++ r))) {φ : Int → Int → Int → Int → Int → Int → Int → Int → Int → Int → Int → Int → Int → Int → Int → Int → Int → Int → Int → Int → Prop} (hφ : φ x.1 x.2.1 x.2.2.1 x.2.2.2.1 x.2.2.2.2.1 x.2.2.2.2.2.1 x.2.2.2.2.2.2.1 x.2.2.2.2.2.2.2.1 x.2.2.2.2.2.2.2.2.1 x.2.2.2.2.2.2.2.2.2.1 x.2.2.2.2.2.2.2.2.2.2.1 x.2.2.2.2.2.2.2.2.2.2.2.1 x.2.2.2.2.2.2.2.2.2.2.2.2.1 x.2.2.2.2.2.2.2.2.2.2.2.2.2.1 x.2.2.2.2.2.2.2.2.2.2.2.2.2.2.1 x.2.2.2.2.2.2.2.2.2.2.2.2.2.2.2.1 x.2.2.2.2.2.2.2.2.2.2.2.2.2.2.2.2.1 x.2.2.2.2.2.2.2.2.2.2.2.2.2.2.2.2.2.1 x.2.2.2.2.2.2.2.2.2.2.2.2.2.2.2.2.2.2.1 x.2.2.2.2.2.2.2.2.2.2.2.2.2.2.2.2.2.2.2.1) :
      ldI w (((blk b).add 2).add 0) .i64 fun x0 =>
      ldI w (((blk b).add 2).add 1) .i64 fun x1 =>
      ldI w (((blk b).add 2).add 2) .i64 fun x2 =>
      ldI w (((blk b).add 2).add 3) .i64 fun x3 =>
      ldI w (((blk b).add 2).add 4) .i64 fun x4 =>
      ldI w (((blk b).add 2).add 5) .i64 fun x5 =>
      ldI w (((blk b).add 2).add 6) .i64 fun x6 =>
      ldI w (((blk b).add 2).add 7) .i64 fun x7 =>
      ldI w (((blk b).add 2).add 8) .i64 fun x8 =>
      ldI w (((blk b).add 2).add 9) .i64 fun x9 =>
      ldI w (((blk b).add 2).add 10) .i64 fun x10 =>
      ldI w (((blk b).add 2).add 11) .i64 fun x11 =>
      ldI w (((blk b).add 2).add 12) .i64 fun x12 =>
      ldI w (((blk b).add 2).add 13) .i64 fun x13 =>
      ldI w (((blk b).add 2).add 14) .i64 fun x14 =>
      ldI w (((blk b).add 2).add 15) .i64 fun x15 =>
      ldI w (((blk b).add 2).add 16) .i64 fun x16 =>
      ldI w (((blk b).add 2).add 17) .i64 fun x17 =>
      ldI w (((blk b).add 2).add 18) .i64 fun x18 =>
      ldI w (((blk b).add 2).add 19) .i64 fun x19 =>
      φ x0 x1 x2 x3 x4 x5 x6 x7 x8 x9 x10 x11 x12 x13 x14 x15 x16 x17 x18 x19 :=
  h.rI2 (m := 2) (n := 0) rfl (h.rI2 (m := 2) (n := 1) rfl (h.rI2 (m := 2) (n := 2) rfl (h.rI2 (m := 2) (n := 3) rfl (h.rI2 (m := 2) (n := 4) rfl (h.rI2 (m := 2) (n := 5) rfl (h.rI2 (m := 2) (n := 6) rfl (h.rI2 (m := 2) (n := 7) rfl (h.rI2 (m := 2) (n := 8) rfl (h.rI2 (m := 2) (n := 9) rfl (h.rI2 (m := 2) (n := 10) rfl (h.rI2 (m := 2) (n := 11) rfl (h.rI2 (m := 2) (n := 12) rfl (h.rI2 (m := 2) (n := 13) rfl (h.rI2 (m := 2) (n := 14) rfl (h.rI2 (m := 2) (n := 15) rfl (h.rI2 (m := 2) (n := 16) rfl (h.rI2 (m := 2) (n := 17) rfl (h.rI2 (m := 2) (n := 18) rfl (h.rI2 (m := 2) (n := 19) rfl (hφ))))))))))))))))))))
theorem st20 {b : Nat} {T : TypeId} {cs : List Value} {x : T20} {K : World → Prop} {w : World} (hB : Blk w b T cs) (hl : cs.length = 20) (hK : ∀ w', Blk w' b T (sp20 x) → Chg b w w' → K w') :
      Wr w (blk b) ∧ Nw (w.setCell (blk b) (.int .i64 x.1)) fun u0 =>
      Wr u0 ((blk b).add 1) ∧ Nw (u0.setCell ((blk b).add 1) (.int .i64 x.2.1)) fun u1 =>
      Wr u1 ((blk b).add 2) ∧ Nw (u1.setCell ((blk b).add 2) (.int .i64 x.2.2.1)) fun u2 =>
      Wr u2 ((blk b).add 3) ∧ Nw (u2.setCell ((blk b).add 3) (.int .i64 x.2.2.2.1)) fun u3 =>
      Wr u3 ((blk b).add 4) ∧ Nw (u3.setCell ((blk b).add 4) (.int .i64 x.2.2.2.2.1)) fun u4 =>
      Wr u4 ((blk b).add 5) ∧ Nw (u4.setCell ((blk b).add 5) (.int .i64 x.2.2.2.2.2.1)) fun u5 =>
      Wr u5 ((blk b).add 6) ∧ Nw (u5.setCell ((blk b).add 6) (.int .i64 x.2.2.2.2.2.2.1)) fun u6 =>
      Wr u6 ((blk b).add 7) ∧ Nw (u6.setCell ((blk b).add 7) (.int .i64 x.2.2.2.2.2.2.2.1)) fun u7 =>
      Wr u7 ((blk b).add 8) ∧ Nw (u7.setCell ((blk b).add 8) (.int .i64 x.2.2.2.2.2.2.2.2.1)) fun u8 =>
      Wr u8 ((blk b).add 9) ∧ Nw (u8.setCell ((blk b).add 9) (.int .i64 x.2.2.2.2.2.2.2.2.2.1)) fun u9 =>
      Wr u9 ((blk b).add 10) ∧ Nw (u9.setCell ((blk b).add 10) (.int .i64 x.2.2.2.2.2.2.2.2.2.2.1)) fun u10 =>
      Wr u10 ((blk b).add 11) ∧ Nw (u10.setCell ((blk b).add 11) (.int .i64 x.2.2.2.2.2.2.2.2.2.2.2.1)) fun u11 =>
      Wr u11 ((blk b).add 12) ∧ Nw (u11.setCell ((blk b).add 12) (.int .i64 x.2.2.2.2.2.2.2.2.2.2.2.2.1)) fun u12 =>
      Wr u12 ((blk b).add 13) ∧ Nw (u12.setCell ((blk b).add 13) (.int .i64 x.2.2.2.2.2.2.2.2.2.2.2.2.2.1)) fun u13 =>
      Wr u13 ((blk b).add 14) ∧ Nw (u13.setCell ((blk b).add 14) (.int .i64 x.2.2.2.2.2.2.2.2.2.2.2.2.2.2.1)) fun u14 =>
      Wr u14 ((blk b).add 15) ∧ Nw (u14.setCell ((blk b).add 15) (.int .i64 x.2.2.2.2.2.2.2.2.2.2.2.2.2.2.2.1)) fun u15 =>
      Wr u15 ((blk b).add 16) ∧ Nw (u15.setCell ((blk b).add 16) (.int .i64 x.2.2.2.2.2.2.2.2.2.2.2.2.2.2.2.2.1)) fun u16 =>
      Wr u16 ((blk b).add 17) ∧ Nw (u16.setCell ((blk b).add 17) (.int .i64 x.2.2.2.2.2.2.2.2.2.2.2.2.2.2.2.2.2.1)) fun u17 =>
      Wr u17 ((blk b).add 18) ∧ Nw (u17.setCell ((blk b).add 18) (.int .i64 x.2.2.2.2.2.2.2.2.2.2.2.2.2.2.2.2.2.2.1)) fun u18 =>
      Wr u18 ((blk b).add 19) ∧ Nw (u18.setCell ((blk b).add 19) (.int .i64 x.2.2.2.2.2.2.2.2.2.2.2.2.2.2.2.2.2.2.2.1)) fun u19 =>
      K u19 :=
  stC_all (vs := sp20 x) hB hl hK
end Go.Proofs
namespace Go.Proofs
open Go.Gk Go.RowKit Go.Gm

theorem Fns.chg {w w' : World} {fs : Sl} {L : List Fe} {b : Nat} {T : TypeId} {cs : List Value} (h : Fns w fs L) (c : Chg b w w') (hB : Blk w b T cs) (h1 : 29 ≠ T) (h2 : 3 ≠ T) (h3 : 69 ≠ T) : Fns w' fs L := by
  have f : Fr w.heap.size (fun k => k = b) w w' := c.fr
  exact ⟨f.own h.own fun b e e2 => by subst e2; exact own_apart h.own hB h1 e, fun x hx =>
    ⟨f.own (h.row x hx).1 fun b e e2 => by subst e2; exact own_apart (h.row x hx).1 hB h2 e, f.own (h.row x hx).2 fun b e e2 => by subst e2; exact own_apart (h.row x hx).2 hB h3 e⟩⟩
section
variable {x : Mo} {pl : List PI} {w : World} {R : Value → World → Prop}
theorem read_spec (hN : IsPl w x.2.2.1 pl) (hp : PlOk pl)
    (hok : ∀ bc ps fs L w', layP x.2.1 pl = (0, 0) → Ct w w' bc x.2.2.1 pl.length ps fs → PartsTo pl 10 pl.length ps → Fns w' fs L → Fresh w.heap.size fs → cutF pl pl.length = L.map (·.1) → GoodL pl pl.length →
      R (.tuple #[.pointer (some (blk bc)), .agg #[.int .i64 0, .int .i64 0]]) w')
    (hbad : ∀ w', Below w.heap.size w w' → (layP x.2.1 pl).1 ≠ 0 → R (.tuple #[.pointer none, .agg #[.int .i64 (layP x.2.1 pl).1, .int .i64 ((layP x.2.1 pl).2 : Int)]]) w') :
    callR Tryz.prog 103 #[moA x] w R := by
  refine callR.of (layout_read_calls x R w ?_) fun _ _ h => h
  refine lay_of fun w1 hB1 b1 z1 => ?_
  have hB1 : Blk w1 w.heap.size 25 (moV x) := hB1
  refine lay_of fun w2 hC2 b2 z2 => ?_
  have hC2 : Blk w2 w1.heap.size 33 [.int .i64 0, .int .i64 0] := hC2
  have hb2 := b1.on b2
  have s1 := b1.size
  have hlen := hN.len
  have h40 := hp.len
  refine Mo.load (hB1.below b2) ?_
  refine Shape_spec (x := x) (hN.below hb2) hp fun w3 b3 => ⟨((shapeP x.2.1 pl).1, ((shapeP x.2.1 pl).2 : Int), ()), rfl, ?_⟩
  refine box2 rfl fun w4 h4 b4 z4 => ?_
  have b24 := b3.on b4
  have hb4 := hb2.on b24
  have hB4 := (hB1.below b2).below b24
  have hC4 := hC2.below b24
  have s24 := b24.size
  refine h4.rI0 rfl (ifB_bne (fun e => ?_) (fun e => ?_))
  · have e' : (shapeP x.2.1 pl).1 ≠ 0 := e
    have hl : layP x.2.1 pl = shapeP x.2.1 pl := if_pos e'
    rw [hl] at hbad
    refine Sp.load h4.drew ?_
    refine st2 hC4.drew rfl fun w5 h5 c5 => Sp.load h5 ?_
    exact hbad w5 (c5.below hb4.drew (by omega)) e'
  · have e' : (shapeP x.2.1 pl).1 = 0 := e
    have hl : layP x.2.1 pl = chkP pl := if_neg (fun h => h e')
    refine hB4.rS (n := 2) (x := x.2.2.1) rfl ?_
    refine lay_of fun w9 h9 b9 z9 => ?_
    have h9 : Blk w9 w4.heap.size 151 (ctV x.2.2.1 (0 : Nat) (List.replicate 20 0) ⟨none, 0, 0⟩) := h9
    have hCt : Ct w4 w9 w4.heap.size x.2.2.1 0 (List.replicate 20 0) ⟨none, 0, 0⟩ := ⟨Nat.le_refl _, b9, h9, List.length_replicate⟩
    have s4 := hb4.size
    generalize hbc : w4.heap.size = bc at hCt z9
    refine cut_spec hCt (hN.below hb4) h40 (fun ps fs L w10 hC10 f10 hg ho hP hL hF hcut => ?_) (fun n ps fs w10 hC10 f10 hS => ?_)
    · refine ⟨true, rfl, ifB_true rfl ?_⟩
      have hlay : layP x.2.1 pl = (0, 0) := by rw [hl, chk_end hg, if_neg (by rw [ho]; decide)]
      have hR1 := hC4.below hC10.b0
      have hCw : Ct w w10 bc x.2.2.1 pl.length ps fs := ⟨by omega, hb4.on hC10.b0, hC10.blk, hC10.len⟩
      refine st2 hR1 rfl fun w12 h12 c12 => Sp.load h12 ?_
      exact hok bc ps fs L w12 hlay (hCw.chg c12 (by omega) (by omega)) hP (hL.chg c12 hR1 (by decide) (by decide) (by decide)) (fun a ha => by have := hF a ha; have := b9.size; omega) hcut hg
    · refine ⟨false, rfl, ifB_false rfl ?_⟩
      have bd : Below w10.heap.size w10 w10.drew := (Below.refl _ _).drew
      have hlay : layP x.2.1 pl = (if n < pl.length then 50 else 51, n) := by rw [hl]; exact hS.chk
      rw [hlay] at hbad
      have hBm := (hB4.below hC10.b0)
      have hR1 := hC4.below hC10.b0
      have hbw : Below w.heap.size w w10 := hb4.on hC10.b0
      refine hC10.blk.drew.rI (n := 1) rfl (hBm.drew.rS (n := 2) (x := x.2.2.1) rfl (ifB_dec (fun h => ?_) (fun h => ?_)))
      · have hlt : n < pl.length := by omega
        rw [if_pos hlt] at hbad
        refine hC10.blk.drew.drew.rI (n := 1) rfl (st2 hR1.drew.drew rfl fun w13 h13 c13 => Sp.load h13 ?_)
        exact hbad w13 (c13.below hbw.drew.drew (by omega)) (show (50 : Int) ≠ 0 by decide)
      · have hlt : ¬ n < pl.length := by omega
        rw [if_neg hlt] at hbad
        refine hC10.blk.drew.drew.rI (n := 1) rfl (st2 hR1.drew.drew rfl fun w13 h13 c13 => Sp.load h13 ?_)
        exact hbad w13 (c13.below hbw.drew.drew (by omega)) (show (51 : Int) ≠ 0 by decide)
theorem Parts_spec (hN : IsPl w x.2.2.1 pl) (hp : PlOk pl)
    (hR : ∀ (y : T20) w', Below w.heap.size w w' → ((layP x.2.1 pl).1 = 0 → PartsTo pl 10 pl.length (l20 y) ∧ GoodL pl pl.length) → R (.tuple #[ag20 y, .agg #[.int .i64 (layP x.2.1 pl).1, .int .i64 ((layP x.2.1 pl).2 : Int)]]) w') :
    callR Tryz.prog 100 #[moA x] w R := by
  refine callR.of (layout_Parts_calls x R w ?_) fun _ _ h => h
  refine lay_of fun w1 hB1 b1 z1 => ?_
  have hB1 : Blk w1 w.heap.size 25 (moV x) := hB1
  refine lay_of fun w2 hA2 b2 z2 => ?_
  refine lay_of fun w3 hC3 b3 z3 => ?_
  have hC3 : Blk w3 w2.heap.size 33 [.int .i64 0, .int .i64 0] := hC3
  have hb23 := b2.on b3
  have hb3 := b1.on hb23
  have s1 := b1.size
  refine Mo.load (hB1.below hb23) ?_
  refine read_spec (x := x) (hN.below hb3) hp (fun bc ps fs L w4 hlay hC4 hP hL hF hcut hg => ⟨some (blk bc), (0, 0, ()), rfl, ?_⟩) (fun w4 b4 hne => ⟨none, ((layP x.2.1 pl).1, ((layP x.2.1 pl).2 : Int), ()), rfl, ?_⟩)
  · rw [hlay] at hR
    refine box2 rfl fun w7 h7 b7 z7 => ?_
    have hC7 := hC4.below b7
    have b37 := hC4.b0.on b7
    have hA7 := ((hA2.below b3).below b37).drew
    have hS7 := (hC3.below b37).drew
    have hbw := (hb3.on b37).drew
    have s37 := b37.size
    have h7 := h7.drew
    obtain ⟨y, rfl⟩ := l20_of hC7.len
    have hct := hC7.blk.drew
    generalize w7.drew = w8 at hct hA7 hS7 hbw h7
    refine ifB_false rfl (derefP_some rfl (ld20c (x := y) hct ?_))
    refine Sp.load h7 ?_
    refine st20 (x := y) hA7 rfl fun w49 h49 c49 => ?_
    have hS49 := c49.blk hS7 (by omega)
    have h7' := c49.blk h7 (by have := hC4.b0.size; omega)
    refine ⟨h7'.cell (n := 0) rfl, h7'.cell (n := 1) rfl, ?_⟩
    refine st2 hS49 rfl fun w51 h51 c51 => ?_
    refine ld20 (x := y) (c51.blk h49 (by omega)) (Sp.load h51 ?_)
    exact hR y w51 (c51.below (c49.below hbw (by omega)) (by omega)) fun _ => ⟨hP, hg⟩
  · refine box2 rfl fun w7 h7 b7 z7 => ?_
    have b37 := b4.on b7
    have hA7 := ((hA2.below b3).below b37).drew
    have hS7 := (hC3.below b37).drew
    have hbw := (hb3.on b37).drew
    have s37 := b37.size
    have s34 := b4.size
    have h7 := h7.drew
    generalize w7.drew = w8 at hA7 hS7 hbw h7
    refine ifB_true rfl (Sp.load h7 ?_)
    refine st20 (x := (0, 0, 0, 0, 0, 0, 0, 0, 0, 0, 0, 0, 0, 0, 0, 0, 0, 0, 0, 0, ())) hA7 rfl fun w49 h49 c49 => ?_
    have hS49 := c49.blk hS7 (by omega)
    have h7' := c49.blk h7 (by omega)
    refine ⟨h7'.cell (n := 0) rfl, h7'.cell (n := 1) rfl, ?_⟩
    refine st2 hS49 rfl fun w51 h51 c51 => ?_
    refine ld20 (x := (0, 0, 0, 0, 0, 0, 0, 0, 0, 0, 0, 0, 0, 0, 0, 0, 0, 0, 0, 0, ())) (c51.blk h49 (by omega)) (Sp.load h51 ?_)
    exact hR _ w51 (c51.below (c49.below hbw (by omega)) (by omega)) fun h => absurd h hne
end
end Go.Proofs
namespace Go.Proofs
open Go.Gk Go.RowKit Go.Gm

theorem makerI_iff {pl : List PI} {id : Int} {n : Nat} : 0 ≤ makerI pl id n ↔ ∃ k, k < n ∧ mk1 pl id k = true := by
  unfold makerI
  constructor
  · intro h
    cases e : (List.range n).find? (mk1 pl id) with
    | none => rw [e] at h; exact absurd h (by decide)
    | some k => exact ⟨k, List.mem_range.1 (List.mem_of_find?_eq_some e), List.find?_some e⟩
  · rintro ⟨k, h1, h2⟩
    cases e : (List.range n).find? (mk1 pl id) with
    | none =>
      rw [List.find?_eq_none] at e
      exact absurd h2 (e k (List.mem_range.2 h1))
    | some k => exact Int.natCast_nonneg k
theorem mk1_zero (pl : List PI) (k : Nat) : mk1 pl 0 k = false := by unfold mk1; simp
theorem MkOk.lt {L : List (Int × Int)} {pl : List PI} (h : MkOk L pl 0) {id v : Int} (hv : lookL L id = some v) (n : Nat) : v < n ↔ 0 ≤ makerI pl id n := by
  obtain ⟨j, rfl, _, q3, q4, q5⟩ := (h id).2 v hv
  rw [makerI_iff]
  constructor
  · intro hh
    exact ⟨j, by omega, q4⟩
  · rintro ⟨k, h1, h2⟩
    rcases Nat.lt_or_ge k j with g | g
    · rw [q5 k (Nat.zero_le _) g] at h2; cases h2
    · omega
theorem MkOk.none {L : List (Int × Int)} {pl : List PI} (h : MkOk L pl 0) {id : Int} (hv : lookL L id = none) : makerI pl id pl.length < 0 := by
  rcases Int.lt_or_le (makerI pl id pl.length) 0 with g | g
  · exact g
  · obtain ⟨k, h1, h2⟩ := makerI_iff.1 g
    rw [(h id).1 hv k (Nat.zero_le _) h1] at h2
    cases h2
theorem MkOk.some {L : List (Int × Int)} {pl : List PI} (h : MkOk L pl 0) {id v : Int} (hv : lookL L id = some v) : 0 ≤ makerI pl id pl.length := by
  obtain ⟨j, _, _, q3, q4, _⟩ := (h id).2 v hv
  exact makerI_iff.2 ⟨j, q3, q4⟩
def idsAt (pl : List PI) (n : Nat) : List Int := idsP (ix pl n).2.1 (ix pl n).2.2.2
def fltP (pl : List PI) (n : Nat) : Int :=
  if 0 ≤ makerI pl (ix pl n).2.2.1 n then 90
  else if (idsAt pl n).any (fun id => decide (makerI pl id pl.length < 0)) = true then 91
  else if partP (ix pl n) = 7 ∧ (idsAt pl n).any (fun id => decide (makerI pl id n < 0)) = true then 92 else 0
def chk9P (bound : Int) (pl : List PI) : Int × Nat := if (layP bound pl).1 ≠ 0 then layP bound pl else match (List.range pl.length).find? (fun k => fltP pl k != 0) with
  | some k => (fltP pl k, k)
  | none => (0, 0)
theorem chk9_lay {bound : Int} {pl : List PI} (h : (layP bound pl).1 ≠ 0) : chk9P bound pl = layP bound pl := if_pos h
theorem chk9_bad {bound : Int} {pl : List PI} (h : ¬ (layP bound pl).1 ≠ 0) {n : Nat} (hn : n < pl.length) (hj : ∀ j, j < n → fltP pl j = 0) (hf : fltP pl n ≠ 0) : chk9P bound pl = (fltP pl n, n) := by
  unfold chk9P
  rw [if_neg h, find_first hn (by rw [bne_iff_ne.2 hf]) fun j hj' => by rw [hj j hj']; rfl]
theorem chk9_good {bound : Int} {pl : List PI} (h : ¬ (layP bound pl).1 ≠ 0) (hj : ∀ j, j < pl.length → fltP pl j = 0) : chk9P bound pl = (0, 0) := by
  unfold chk9P
  have : (List.range pl.length).find? (fun k => fltP pl k != 0) = none := by
    rw [List.find?_eq_none]
    intro j hj'
    rw [hj j (List.mem_range.1 hj')]
    simp
  rw [if_neg h, this]
theorem any_lt {α : Type} {l : List α} {p : α → Bool} {k : Nat} (hk : k < l.length) (h : p l[k] = true) : l.any p = true := List.any_eq_true.2 ⟨l[k], List.getElem_mem hk, h⟩
theorem any_none {α : Type} {l : List α} {p : α → Bool} (h : ∀ k (hk : k < l.length), p l[k] = false) : l.any p = false := by
  cases e : l.any p
  · rfl
  · obtain ⟨x, h1, h2⟩ := List.any_eq_true.1 e
    obtain ⟨k, hk, rfl⟩ := List.mem_iff_getElem.1 h1
    rw [h k hk] at h2
    cases h2

section
variable {x : Mo} {pl : List PI} {w : World} {R : Value → World → Prop}
theorem rMakerN_spec {s : Sl} {id : Int} {n : Nat} (hN : IsPl w s pl) (hn : n ≤ pl.length) (hR : R (.int .i64 (makerI pl id n)) w) : callR Tryz.prog 142 #[.slice s.a s.l s.c, .int .u32 id, .int .i64 (n : Int)] w R := by
  refine callR.of (intaglioref09_Maker_calls s id n R w ?_) fun _ _ h => h
  have hlen := hN.len
  have hbd := hN.bound
  refine LoopW.count n (by omega) (fun k w' => w' = w ∧ ∀ j, j < k → mk1 pl id j = false) ⟨rfl, fun j hj => by omega⟩ ?_
  rintro k w1 hk ⟨hw, hj⟩ next hnext
  subst hw
  refine ifB_dec (fun h => ?_) (fun h => ?_)
  · have hkn : k < n := by dsimp only at h; omega
    have hlt : k < pl.length := by omega
    have hm : mk1 pl id k = (pl[k].2.2.1 == id && id != 0) := by unfold mk1; rw [getD_lt hlt]
    refine JoinW.cut (fun _ w' => w' = w1 ∧ mk1 pl id k = false) ?_ ?_
    · refine elemPr hN hlt (ifB_beq (fun e1 => ?_) (fun e1 => ⟨rfl, by rw [hm, beq_eq_false_iff_ne.2 e1, Bool.false_and]⟩))
      refine ifB_bne (fun e2 => ?_) (fun e2 => ⟨rfl, by rw [hm, e2]; simp⟩)
      have : makerI pl id n = (k : Int) := by
        unfold makerI
        rw [find_first hkn (by rw [hm, beq_iff_eq.2 e1, bne_iff_ne.2 e2]; rfl) hj]
      rwa [this] at hR
    · rintro _ w2 ⟨hw, hno⟩
      refine hnext w2 hkn ⟨hw, fun j hj' => ?_⟩
      by_cases e : j = k
      · subst e; exact hno
      · exact hj j (by omega)
  · have hk' : k = n := by dsimp only at h; omega
    have : makerI pl id n = -1 := by
      unfold makerI
      have : (List.range n).find? (mk1 pl id) = none := by
        rw [List.find?_eq_none]
        intro j hj'
        rw [hj j (by rw [hk']; exact List.mem_range.1 hj')]
        simp
      rw [this]
    rwa [this] at hR
theorem r9Fault_spec {s : Sl} {n : Nat} (hN : IsPl w s pl) (hp : PlOk pl) (hn : n < pl.length) (hR : ∀ w', Below w.heap.size w w' → R (.int .i64 (fltP pl n)) w') :
    callR Tryz.prog 105 #[.slice s.a s.l s.c, .int .i64 (n : Int)] w R := by
  refine callR.of (intaglioref09_Fault_calls s n R w ?_) fun _ _ h => h
  have hlen := hN.len
  have h40 := hp.len
  unfold fltP at hR
  have eix : pl[n] = ix pl n := (ix_lt hn).symm
  refine elemPr hN hn ?_
  rw [eix]
  refine rMakerN_spec hN (by omega) ⟨_, rfl, ifB_dec (fun h => ?_) (fun h => ?_)⟩
  · have := hR w (Below.refl _ _)
    rwa [if_pos h] at this
  have hR : ∀ w', Below w.heap.size w w' → R (.int .i64 (if (idsAt pl n).any (fun id => decide (makerI pl id pl.length < 0)) = true then 91 else if partP (ix pl n) = 7 ∧ (idsAt pl n).any (fun id => decide (makerI pl id n < 0)) = true then 92 else 0)) w' := fun w' hb => by
    have := hR w' hb
    rwa [if_neg h] at this
  refine elemPI hN hn fun t ht => ?_
  refine rIds_spec (x := mkIn pl[n] t) ht (hp.args _ (List.getElem_mem hn)) fun r w2 hO hF b2 => ⟨r, rfl, ?_⟩
  have hO : Own w2 22 1 r ((idsAt pl n).map (Value.int .u32)) := by unfold idsAt; rw [← eix]; exact hO
  generalize idsAt pl n = ids at hO hR
  have hI2 := hO.isS
  have hrl := hI2.len
  have hib := hI2.bound
  refine LoopW.count ids.length hib (fun k w' => w' = w2 ∧ ∀ j (hj : j < ids.length), j < k → decide (makerI pl ids[j] pl.length < 0) = false) ⟨rfl, fun j hj h => by omega⟩ ?_
  rintro k w3 hk ⟨hw, hj⟩ next hnext
  subst hw
  have hN3 := hN.below b2
  refine ifB_dec (fun h => ?_) (fun h => ?_)
  · have hlt : k < ids.length := by dsimp only at h; omega
    refine elemU hI2 hlt ?_
    refine rMaker_spec hN3 (by rw [hlen]) ⟨_, rfl, ifB_dec (fun hneg => ?_) (fun hneg => ?_)⟩
    · have := hR w3 b2
      rwa [if_pos (any_lt hlt (decide_eq_true hneg))] at this
    · refine hnext w3 hlt ⟨rfl, fun j hjl hjk => ?_⟩
      by_cases e : j = k
      · subst e; exact decide_eq_false hneg
      · exact hj j hjl (by omega)
  · have hk' : k = ids.length := by dsimp only at h; omega
    have n91 : ¬ ids.any (fun id => decide (makerI pl id pl.length < 0)) = true := by rw [any_none fun j hjl => hj j hjl (by omega)]; decide
    refine LoopW.count ids.length hib (fun k w' => Below w3.heap.size w3 w' ∧ ∀ j (hj : j < ids.length), j < k → ¬ (partP (ix pl n) = 7 ∧ makerI pl ids[j] n < 0)) ⟨Below.refl _ _, fun j hj h => by omega⟩ ?_
    rintro k w5 hk ⟨hb5, hj5⟩ next hnext
    have hb25 := b2.on hb5
    have hI5 := hI2.below hb5
    refine ifB_dec (fun h => ?_) (fun h => ?_)
    · have hlt : k < ids.length := by dsimp only at h; omega
      refine JoinW.cut (fun _ w' => Below w3.heap.size w3 w' ∧ ¬ (partP (ix pl n) = 7 ∧ makerI pl ids[k] n < 0)) ?_ ?_
      · refine elemPI (hN.below hb25) hn fun t ht => ?_
        refine rPart_spec (x := mkIn pl[n] t) ht fun w6 b6 => ⟨_, rfl, ?_⟩
        rw [show partP (piOf (mkIn pl[n] t) pl[n].2.2.2) = partP (ix pl n) by rw [← eix]]
        have hb6 := hb5.on b6
        refine ifB_beq (fun e7 => ?_) (fun e7 => ⟨hb6, fun ⟨g, _⟩ => e7 (by rw [g]; rfl)⟩)
        refine elemU (hI5.below b6) hlt ?_
        refine rMakerN_spec (hN.below (b2.on hb6)) (by omega) ⟨_, rfl, ifB_dec (fun hneg => ?_) (fun hneg => ⟨hb6, fun ⟨_, g⟩ => hneg g⟩)⟩
        have := hR w6 (b2.on hb6)
        rwa [if_neg n91, if_pos ⟨by omega, any_lt hlt (decide_eq_true hneg)⟩] at this
      · rintro _ w8 ⟨hb8, hno⟩
        refine hnext w8 hlt ⟨hb8, fun j hjl hjk => ?_⟩
        by_cases e : j = k
        · subst e; exact hno
        · exact hj5 j hjl (by omega)
    · have hk' : k = ids.length := by dsimp only at h; omega
      have n92 : ¬ (partP (ix pl n) = 7 ∧ ids.any (fun id => decide (makerI pl id n < 0)) = true) := by
        rintro ⟨g1, g2⟩
        obtain ⟨y, y1, y2⟩ := List.any_eq_true.1 g2
        obtain ⟨j, hjl, rfl⟩ := List.mem_iff_getElem.1 y1
        exact hj5 j hjl (by omega) ⟨g1, of_decide_eq_true y2⟩
      have := hR w5 hb25
      rwa [if_neg n91, if_neg n92] at this
theorem r9Check_spec (hN : IsPl w x.2.2.1 pl) (hp : PlOk pl) (hR : ∀ w', Below w.heap.size w w' → R (.agg #[.int .i64 (chk9P x.2.1 pl).1, .int .i64 ((chk9P x.2.1 pl).2 : Int)]) w') :
    callR Tryz.prog 47 #[moA x] w R := by
  refine callR.of (intaglioref09_Check_calls x R w ?_) fun _ _ h => h
  refine lay_of fun w1 hB1 b1 z1 => ?_
  have hB1 : Blk w1 w.heap.size 25 (moV x) := hB1
  refine lay_of fun w2 hC2 b2 z2 => ?_
  have hC2 : Blk w2 w1.heap.size 33 [.int .i64 0, .int .i64 0] := hC2
  have hb2 := b1.on b2
  have s1 := b1.size
  have hlen := hN.len
  have h40 := hp.len
  refine Mo.load (hB1.below b2) ?_
  refine r5Check_spec (x := x) (hN.below hb2) hp fun w3 b3 => ⟨((layP x.2.1 pl).1, ((layP x.2.1 pl).2 : Int), ()), rfl, ?_⟩
  refine box2 rfl fun w4 h4 b4 z4 => ?_
  have b24 := b3.on b4
  have hb4 := hb2.on b24
  have hB4 := (hB1.below b2).below b24
  have hC4 := hC2.below b24
  have out : ∀ {w' : World} {a b : Int}, Below w4.heap.size w4 w' → (chk9P x.2.1 pl).1 = a → (((chk9P x.2.1 pl).2 : Nat) : Int) = b → Wr w' (blk w1.heap.size) ∧ Nw (w'.setCell (blk w1.heap.size) (.int .i64 a)) fun w7 => Wr w7 ((blk w1.heap.size).add 1) ∧
      Nw (w7.setCell ((blk w1.heap.size).add 1) (.int .i64 b)) fun w8 => ldI w8 ((blk w1.heap.size).add 0) .i64 fun x9 => ldI w8 ((blk w1.heap.size).add 1) .i64 fun x10 => R (.agg #[(.int .i64 x9), (.int .i64 x10)]) w8 := by
    intro w' a b hb e1 e2
    subst e1 e2
    exact st2 (hC4.below hb) rfl fun w8 h8 c8 => Sp.load h8 (hR w8 (c8.below (hb4.on hb) (by omega)))
  refine h4.rI0 rfl (ifB_bne (fun e => ?_) (fun e => ?_))
  · have e' : (layP x.2.1 pl).1 ≠ 0 := e
    have hl := chk9_lay e'
    exact Sp.load h4 (out (Below.refl _ _) (by rw [hl]) (by rw [hl]))
  · have e' : ¬ (layP x.2.1 pl).1 ≠ 0 := fun h => h e
    refine LoopW.count pl.length hN.bound (fun k w' => Below w4.heap.size w4 w' ∧ ∀ j, j < k → fltP pl j = 0) ⟨Below.refl _ _, fun j hj => by omega⟩ ?_
    rintro k w5 hk ⟨hb5, hj5⟩ next hnext
    have hN5 := hN.below (hb4.on hb5)
    refine (hB4.below hb5).rS (n := 2) (x := x.2.2.1) rfl (ifB_dec (fun h => ?_) (fun h => ?_))
    · have hlt : k < pl.length := by dsimp only at h; omega
      refine (hB4.below hb5).rS (n := 2) (x := x.2.2.1) rfl ?_
      refine r9Fault_spec hN5 hp hlt fun w6 b6 => ⟨_, rfl, ?_⟩
      have hb6 := hb5.on b6
      refine ifB_bne (fun e1 => ?_) (fun e1 => ?_)
      · have hb := chk9_bad e' hlt hj5 e1
        exact out hb6 (by rw [hb]) (by rw [hb])
      · refine hnext w6 hlt ⟨hb6, fun j hjk => ?_⟩
        by_cases ej : j = k
        · subst ej; exact e1
        · exact hj5 j (by omega)
    · have hk' : k = pl.length := by dsimp only at h; omega
      have hg := chk9_good e' (fun j hj => hj5 j (by omega))
      exact out hb5 (by rw [hg]) (by rw [hg]; rfl)
end
end Go.Proofs
namespace Go.Proofs
open Go.Gk Go.RowKit Go.Gm

theorem zInt : ∃ i, Tryz.prog.info? 3 = some i ∧ i.zero = some (.int .i64 0) := ⟨Tryz.t3, by kernel_rfl, rfl⟩
section
variable {x : Mo} {pl : List PI} {w : World} {R : Value → World → Prop}
theorem Check_spec (hN : IsPl w x.2.2.1 pl) (hp : PlOk pl) (hR : ∀ w', Below w.heap.size w w' → R (.agg #[.int .i64 (chk9P x.2.1 pl).1, .int .i64 ((chk9P x.2.1 pl).2 : Int)]) w') :
    callR Tryz.prog 44 #[moA x] w R := by
  refine callR.of (ids_Check_calls x R w ?_) fun _ _ h => h
  refine lay_of fun w1 hB1 b1 z1 => ?_
  have hB1 : Blk w1 w.heap.size 25 (moV x) := hB1
  refine lay_of fun w2 hC2 b2 z2 => ?_
  have hC2 : Blk w2 w1.heap.size 33 [.int .i64 0, .int .i64 0] := hC2
  have hb2 := b1.on b2
  have s1 := b1.size
  have hlen := hN.len
  have h40 := hp.len
  refine Mo.load (hB1.below b2) ?_
  refine Parts_spec (x := x) (hN.below hb2) hp fun y w3 b3 hP => ⟨y, ((layP x.2.1 pl).1, ((layP x.2.1 pl).2 : Int), ()), rfl, ?_⟩
  refine lay_of fun w4 hY4 b4 z4 => ?_
  refine lay_of fun w5 hE5 b5 z5 => ?_
  have hE5 : Blk w5 w4.heap.size 33 [.int .i64 0, .int .i64 0] := hE5
  refine st20 (x := y) (hY4.below b5) rfl fun w25 hY25 c25 => ?_
  refine st2 (c25.blk hE5 (by omega)) rfl fun w27 hE27 c27 => ?_
  have hY27 := c27.blk hY25 (by omega)
  have b327 : Below w3.heap.size w3 w27 := c27.below (c25.below (b4.on b5) (Nat.le_refl _)) (by omega)
  have b227 := b3.on b327
  have hb27 := hb2.on b227
  have hB27 := (hB1.below b2).below b227
  have hC27 := hC2.below b227
  have out : ∀ {w' : World} {a b : Int}, Below w27.heap.size w27 w' → (chk9P x.2.1 pl).1 = a → (((chk9P x.2.1 pl).2 : Nat) : Int) = b → Wr w' (blk w1.heap.size) ∧ Nw (w'.setCell (blk w1.heap.size) (.int .i64 a)) fun w7 => Wr w7 ((blk w1.heap.size).add 1) ∧
      Nw (w7.setCell ((blk w1.heap.size).add 1) (.int .i64 b)) fun w8 => ldI w8 ((blk w1.heap.size).add 0) .i64 fun x9 => ldI w8 ((blk w1.heap.size).add 1) .i64 fun x10 => R (.agg #[(.int .i64 x9), (.int .i64 x10)]) w8 := by
    intro w' a b hb e1 e2
    subst e1 e2
    exact st2 (hC27.below hb) rfl fun w8 h8 c8 => Sp.load h8 (hR w8 (c8.below (hb27.on hb) (by omega)))
  refine hE27.rI0 rfl (ifB_bne (fun e => ?_) (fun e => ?_))
  · have e' : (layP x.2.1 pl).1 ≠ 0 := e
    have hl := chk9_lay e'
    exact Sp.load hE27 (out (Below.refl _ _) (by rw [hl]) (by rw [hl]))
  have e0 : (layP x.2.1 pl).1 = 0 := e
  have e' : ¬ (layP x.2.1 pl).1 ≠ 0 := fun h => h e
  obtain ⟨hPT, hG⟩ := hP e0
  obtain ⟨q1, q2, q3, q4⟩ := hPT 7 (by omega)
  generalize hfr : (l20 y).getD (2 * 7) 0 = from_ at q1 q2 q4
  generalize hto : (l20 y).getD (2 * 7 + 1) 0 = to_ at q2 q3 q4
  refine hB27.rS (n := 2) (x := x.2.2.1) rfl ?_
  refine makers_spec (hN.below hb27) fun w30 L hM30 hMk hKN b30 => ⟨some w27.heap.size, rfl, ⟨by omega, by omega⟩, ?_⟩
  have hY30 := hY27.below b30
  refine hY30.rI2 (m := 7 * 2) (n := 0) (x := from_) (by rw [← hfr]; rfl) (hY30.rI2 (m := 7 * 2) (n := 1) (x := to_) (by rw [← hto]; rfl) ?_)
  refine box2 rfl fun w33 hG33 b33 z33 => ?_
  have b2733 := b30.on b33
  have hM33 := hM30.below b33
  have hB33 := hB27.below b2733
  refine hB33.rS (n := 2) (x := x.2.2.1) rfl ?_
  refine LoopW.count pl.length hN.bound (fun k w' => Below w33.heap.size w33 w' ∧ ∀ j, j < k → fltP pl j = 0) ⟨Below.refl _ _, fun j hj => by omega⟩ ?_
  rintro k w34 hk ⟨hb34, hj⟩ next hnext
  have hb2734 := b2733.on hb34
  have hN34 := hN.below (hb27.on hb2734)
  refine ifB_dec (fun h => ?_) (fun h => ?_)
  · have hlt : k < pl.length := by dsimp only at h; omega
    have eix : pl[k] = ix pl k := (ix_lt hlt).symm
    refine JoinW.cut (fun _ w' => Below w33.heap.size w33 w' ∧ fltP pl k = 0) ?_ ?_
    · refine elemPI hN34 hlt fun t ht => ?_
      refine box4 rfl fun w39 h39 b39 z39 => ?_
      have h39 : Blk w39 w34.heap.size 41 (inV (mkIn pl[k] t)) := h39
      have hb39 := hb34.on b39
      refine JoinW.cut (fun _ w' => w' = w39 ∧ ¬ 0 ≤ makerI pl (ix pl k).2.2.1 k) ?_ ?_
      · refine h39.rI (n := 2) rfl (ifB_bne (fun e1 => ?_) (fun e1 => ⟨rfl, fun g => ?_⟩))
        · have e1 : pl[k].2.2.1 ≠ 0 := e1
          refine h39.rI (n := 2) rfl (lookV_of uMapI uU32 zInt (hM33.below hb39) ?_)
          have hmk : mk1 pl (ix pl k).2.2.1 k = true := by unfold mk1; rw [← eix, getD_lt hlt, beq_self_eq_true, bne_iff_ne.2 e1]; rfl
          cases hl : lookL L pl[k].2.2.1 with
          | none =>
            have := (hMk pl[k].2.2.1).1 hl k (Nat.zero_le _) hlt
            rw [← eix] at hmk
            rw [hmk] at this
            cases this
          | some v =>
            have hv := hMk.lt hl k
            rw [eix] at hv
            refine ifB_dec (fun h => ?_) (fun h => ⟨rfl, fun g => h (hv.2 g)⟩)
            have hf : fltP pl k = 90 := by unfold fltP; rw [if_pos (hv.1 h)]
            have hb := chk9_bad e' hlt hj (by rw [hf]; decide)
            exact out (b2733.on hb39) (by rw [hb, hf]) (by rw [hb])
        · have e1 : pl[k].2.2.1 = 0 := e1
          rw [← eix, e1] at g
          obtain ⟨j, _, h2⟩ := makerI_iff.1 g
          rw [mk1_zero] at h2
          cases h2
      · rintro _ w42 ⟨rfl, n90⟩
        refine Ins.load h39 ?_
        have hfl : fltP pl k = if (idsAt pl k).any (fun id => decide (makerI pl id pl.length < 0)) = true then 91 else if partP (ix pl k) = 7 ∧ (idsAt pl k).any (fun id => decide (makerI pl id k < 0)) = true then 92 else 0 := by
          unfold fltP; rw [if_neg n90]
        refine Ids_spec (x := mkIn pl[k] t) (ht.below b39) (hp.args _ (List.getElem_mem hlt)) fun r w43 hO hF b43 => ⟨r, rfl, ?_⟩
        have hO : Own w43 22 1 r ((idsAt pl k).map (Value.int .u32)) := by unfold idsAt; rw [← eix]; exact hO
        generalize idsAt pl k = ids at hO hfl
        have hI := hO.isS
        have hrl := hI.len
        have hib := hI.bound
        have hb43 := hb39.on b43
        refine LoopW.ghost (fun j (st : Bool × Int × Unit) w' => ∃ (i : Nat), j = ids.length - i ∧ i ≤ ids.length ∧ w' = w43 ∧ st.2.1 = (i : Int) ∧ (∀ q (hq : q < ids.length), q < i → 0 ≤ makerI pl ids[q] pl.length) ∧ (st.1 = true ↔ ∃ q, ∃ hq : q < ids.length, q < i ∧ makerI pl ids[q] k < 0)) ids.length
          ⟨0, rfl, Nat.zero_le _, rfl, rfl, fun q hq h => by omega, ⟨fun h => (by cases h), fun ⟨q, hq, h, _⟩ => by omega⟩⟩ ?_
        rintro _ ⟨ah, _, _⟩ w44 ⟨i, rfl, hi, hw, e2, hmd, hah⟩ next2 hnext2
        dsimp only at e2 hah
        subst hw e2
        refine ifB_dec (fun h => ?_) (fun h => ?_)
        · have hil : i < ids.length := by dsimp only at h; omega
          refine JoinW.cut (fun (st : Bool × Unit) w' => w' = w44 ∧ 0 ≤ makerI pl ids[i] pl.length ∧ (st.1 = true ↔ ah = true ∨ makerI pl ids[i] k < 0)) ?_ ?_
          · refine elemU hI hil (lookOk_of uMapI uU32 zInt (hM33.below hb43) ?_)
            cases hl : lookL L ids[i] with
            | none =>
              refine ifB_true rfl ?_
              have hf : fltP pl k = 91 := by rw [hfl, if_pos (any_lt hil (decide_eq_true (hMk.none hl)))]
              have hb := chk9_bad e' hlt hj (by rw [hf]; decide)
              exact out (b2733.on hb43) (by rw [hb, hf]) (by rw [hb])
            | some v =>
              refine ifB_false rfl ?_
              have hv := hMk.lt hl k
              refine ifB_bool (fun hat => ⟨rfl, hMk.some hl, ⟨fun _ => .inl hat, fun _ => rfl⟩⟩) (fun haf => ⟨rfl, hMk.some hl, ?_⟩)
              show (decide (v ≥ (k : Int)) = true ↔ _)
              have haf : ah = false := haf
              rw [haf]
              constructor
              · intro g
                have := of_decide_eq_true g
                right
                rcases Int.lt_or_le (makerI pl ids[i] k) 0 with q | q
                · exact q
                · have := hv.2 q; omega
              · rintro (g | g)
                · cases g
                · refine decide_eq_true ?_
                  rcases Int.lt_or_le v k with q | q
                  · have := hv.1 q; omega
                  · exact q
          · rintro ⟨ah', _⟩ w47 ⟨hw, hmi, hah'⟩
            dsimp only at hah' ⊢
            subst hw
            rw [wrap64_succ (by omega)]
            refine hnext2 (ids.length - (i + 1)) _ _ (by omega) ⟨i + 1, rfl, hil, rfl, rfl, fun q hq h => ?_, ?_⟩
            · by_cases eq : q = i
              · subst eq; exact hmi
              · exact hmd q hq (by omega)
            · dsimp only
              rw [hah', hah]
              constructor
              · rintro (⟨q, hq, h1, h2⟩ | g)
                · exact ⟨q, hq, by omega, h2⟩
                · exact ⟨i, hil, by omega, g⟩
              · rintro ⟨q, hq, h1, h2⟩
                by_cases eq : q = i
                · subst eq; exact .inr h2
                · exact .inl ⟨q, hq, by omega, h2⟩
        · have hil : i = ids.length := by dsimp only at h; omega
          subst hil
          have n91 : ¬ ids.any (fun id => decide (makerI pl id pl.length < 0)) = true := by
            rw [any_none (p := fun id => decide (makerI pl id pl.length < 0)) fun q hq => decide_eq_false (by have := hmd q hq hq; omega)]
            decide
          rw [if_neg n91] at hfl
          have hany : ids.any (fun id => decide (makerI pl id k < 0)) = ah := by
            rw [Bool.eq_iff_iff, hah]
            constructor
            · intro g
              obtain ⟨y', y1, y2⟩ := List.any_eq_true.1 g
              obtain ⟨q, hq, rfl⟩ := List.mem_iff_getElem.1 y1
              exact ⟨q, hq, hq, of_decide_eq_true y2⟩
            · rintro ⟨q, hq, _, h2⟩
              exact any_lt hq (decide_eq_true h2)
          rw [hany] at hfl
          have hq4 := q4 k hlt
          have hG44 := hG33.below hb43
          refine JoinW.cut (fun _ w' => w' = w44 ∧ partP (ix pl k) = 7 ∧ ah = true) ?_ ?_
          · refine ifB_not (ifB_bool (fun hat => ?_) (fun haf => ⟨hb43, by have haf : ah = false := haf; rw [hfl, if_neg (fun g => by rw [haf] at g; cases g.2)]⟩))
            refine hG44.rI0 rfl (ifB_dec (fun h1 => ⟨hb43, ?_⟩) (fun h1 => ?_))
            · rw [hfl, if_neg (fun g => by have := hq4.2 g.1; dsimp only at h1; omega)]
            · refine hG44.rI (n := 1) rfl (ifB_dec (fun h2 => ⟨hb43, ?_⟩) (fun h2 => ⟨rfl, hq4.1 ⟨by dsimp only at h1; omega, by dsimp only at h2; omega⟩, hat⟩))
              rw [hfl, if_neg (fun g => by have := hq4.2 g.1; dsimp only at h2; omega)]
          · rintro _ w48 ⟨rfl, g1, g2⟩
            have hf : fltP pl k = 92 := by rw [hfl, if_pos ⟨g1, g2⟩]
            have hb := chk9_bad e' hlt hj (by rw [hf]; decide)
            exact out (b2733.on hb43) (by rw [hb, hf]) (by rw [hb])
    · rintro _ w51 ⟨hb51, hf⟩
      refine hnext w51 hlt ⟨hb51, fun j hjk => ?_⟩
      by_cases ej : j = k
      · subst ej; exact hf
      · exact hj j (by omega)
  · have hk' : k = pl.length := by dsimp only at h; omega
    have hg := chk9_good e' (fun j hj' => hj j (by omega))
    exact out hb2734 (by rw [hg]) (by rw [hg]; rfl)

noncomputable instance decPl (a b : List PI) : Decidable (a = b) := Classical.propDecidable _
theorem Module_spec {y : Mo} {ql : List PI} (hN : IsPl w x.2.2.1 pl) (hM : IsPl w y.2.2.1 ql) (hR : ∀ w', Below w.heap.size w w' → R (.bool (decide (x.1 = y.1 ∧ x.2.1 = y.2.1 ∧ pl = ql))) w') :
    callR Tryz.prog 14 #[moA x, moA y] w R := by
  refine callR.of (intagliokit_Module_calls x y R w ?_) fun _ _ h => h
  refine lay_of fun w1 hB1 b1 z1 => ?_
  have hB1 : Blk w1 w.heap.size 25 (moV x) := hB1
  refine lay_of fun w2 hC2 b2 z2 => ?_
  have hC2 : Blk w2 w1.heap.size 25 (moV y) := hC2
  have hB2 := hB1.below b2
  have hb2 := b1.on b2
  have hl1 := hN.len
  have hl2 := hM.len
  have no : ¬ (x.1 = y.1 ∧ x.2.1 = y.2.1 ∧ pl = ql) → ∀ {w'}, Below w.heap.size w w' → R (.bool false) w' := fun h {w'} hb => by
    have := hR w' hb
    rwa [decide_eq_false h] at this
  refine JoinW.cut (fun _ w' => w' = w2 ∧ x.1 = y.1 ∧ x.2.1 = y.2.1 ∧ pl.length = ql.length) ?_ ?_
  · refine hB2.rI0 rfl (hC2.rI0 rfl (ifB_bne (fun e => no (fun h => e h.1) hb2) (fun e1 => ?_)))
    refine hB2.rI (n := 1) rfl (hC2.rI (n := 1) rfl (ifB_bne (fun e => no (fun h => e h.2.1) hb2) (fun e2 => ?_)))
    refine hB2.rS (n := 2) (x := x.2.2.1) rfl (hC2.rS (n := 2) (x := y.2.2.1) rfl (ifB_bne (fun e => no (fun h => e (by rw [hl1, hl2, h.2.2])) hb2) (fun e3 => ⟨rfl, e1, e2, by omega⟩)))
  · rintro _ w3 ⟨rfl, e1, e2, e3⟩
    refine LoopW.count pl.length hN.bound (fun k w' => Below w3.heap.size w3 w' ∧ ∀ j (h1 : j < pl.length) (h2 : j < ql.length), j < k → pl[j] = ql[j]) ⟨Below.refl _ _, fun j _ _ h => by omega⟩ ?_
    rintro k w4 hk ⟨hb, hj⟩ next hnext
    have hB4 := hB2.below hb
    have hC4 := hC2.below hb
    have hbw := hb2.on hb
    have bd : Below w4.heap.size w4 w4.drew := (Below.refl _ _).drew
    refine hB4.rS (n := 2) (x := x.2.2.1) rfl (ifB_dec (fun h => ?_) (fun h => ?_))
    · have hlt : k < pl.length := by dsimp only at h; omega
      have hlq : k < ql.length := by omega
      refine hB4.drew.rS (n := 2) (x := x.2.2.1) rfl (elemPI (hN.below (hbw.on bd)) hlt fun t ht => hC4.drew.rS (n := 2) (x := y.2.2.1) rfl (elemPI (hM.below (hbw.on bd)) hlq fun u hu => ?_))
      refine Inst_spec (x := mkIn pl[k] t) (y := mkIn ql[k] u) ht hu fun w5 b5 => ⟨_, rfl, ?_⟩
      have hb5 := hb.on (bd.on b5)
      have same : (mkIn pl[k] t).1 = (mkIn ql[k] u).1 ∧ (mkIn pl[k] t).2.1 = (mkIn ql[k] u).2.1 ∧ (mkIn pl[k] t).2.2.1 = (mkIn ql[k] u).2.2.1 ∧ pl[k].2.2.2 = ql[k].2.2.2 ↔ pl[k] = ql[k] :=
        ⟨fun ⟨g1, g2, g3, g4⟩ => Prod.ext g1 (Prod.ext g2 (Prod.ext g3 g4)), fun g => by rw [g]; exact ⟨rfl, rfl, rfl, rfl⟩⟩
      refine ifB_not (ifB_bool (fun h1 => ?_) (fun h1 => ?_))
      · refine hnext w5 hlt ⟨hb5, fun j q1 q2 hjk => ?_⟩
        by_cases ej : j = k
        · subst ej; exact same.1 (of_decide_eq_true h1)
        · exact hj j q1 q2 (by omega)
      · refine no (fun g => of_decide_eq_false h1 (same.2 ?_)) (hb2.on hb5)
        obtain ⟨_, _, g⟩ := g
        subst g
        rfl
    · have hk' : k = pl.length := by dsimp only at h; omega
      have := hR w4 hbw
      rw [decide_eq_true ⟨e1, e2, List.ext_getElem e3 fun j q1 q2 => hj j q1 q2 (by omega)⟩] at this
      exact this

end
end Go.Proofs
namespace Go.Proofs
open Go.Gk Go.RowKit Go.Gm

/-- What Check says, where it says nothing. -/
theorem chk9_ok {bd : Int} {pl : List PI} (h : (chk9P bd pl).1 = 0) : chk9P bd pl = (0, 0) ∧ (layP bd pl).1 = 0 ∧ ∀ k, k < pl.length → fltP pl k = 0 := by
  unfold chk9P at h ⊢
  by_cases h1 : (layP bd pl).1 ≠ 0
  · rw [if_pos h1] at h; exact absurd h h1
  · rw [if_neg h1] at h ⊢
    have h1 : (layP bd pl).1 = 0 := Classical.not_not.1 h1
    cases hf : (List.range pl.length).find? (fun k => fltP pl k != 0) with
    | none =>
      refine ⟨rfl, h1, fun k hk => ?_⟩
      have := List.find?_eq_none.1 hf k (List.mem_range.2 hk)
      simpa using this
    | some k =>
      rw [hf] at h
      have := List.find?_some hf
      dsimp only at h
      rw [h] at this
      simp at this
theorem lay_shape {bd : Int} {pl : List PI} (h : (layP bd pl).1 = 0) : (shapeP bd pl).1 = 0 := by
  unfold layP at h
  by_cases h1 : (shapeP bd pl).1 ≠ 0
  · rw [if_pos h1] at h; exact h
  · exact Classical.not_not.1 h1
/-- No result is made twice. -/
theorem flt_new {pl : List PI} {k : Nat} (h : fltP pl k = 0) (h0 : (ix pl k).2.2.1 ≠ 0) : ∀ j, j < k → j < pl.length → (ix pl j).2.2.1 ≠ (ix pl k).2.2.1 := by
  intro j hj hl e
  have n90 : ¬ 0 ≤ makerI pl (ix pl k).2.2.1 k := by
    intro g
    unfold fltP at h
    rw [if_pos g] at h
    cases h
  refine n90 (makerI_iff.2 ⟨j, hj, ?_⟩)
  unfold mk1
  rw [show pl.getD j pi0 = ix pl j from ?_, e, beq_self_eq_true, bne_iff_ne.2 h0]
  · rfl
  · rw [getD_lt hl, ix_lt hl]
/-- The ids of a whole module are below its bound. -/
theorem ids_range {bd : Int} {pl : List PI} (hp : PlOk pl) (h0 : 0 ≤ bd) (h : (shapeP bd pl).1 = 0) : ∀ n ∈ allP pl, 0 ≤ n ∧ n < bd := by
  obtain ⟨h1, h2⟩ := shape_ok h
  intro n hn
  obtain ⟨p, hp', hn⟩ := List.mem_flatMap.1 hn
  obtain ⟨k, hk, rfl⟩ := List.getElem_of_mem hp'
  have := hp.nums _ (List.getElem_mem hk)
  exact (fault_ids (h2 k hk) (by omega) ⟨this.1.1, this.2.1.1, fun x hx => (this.2.2 x hx).1⟩).1 n hn
end Go.Proofs

namespace Go.Proofs
open Go.Gk Go.RowKit Go.Gm

/-- What is known where an instruction has no fault. -/
theorem fault_all {p : PI} {b : Int} (h : faultI p b = 0) : ∃ f, frm p.1 = some f ∧ idP f.ty p.2.1 b 40 = 0 ∧ idP f.re p.2.2.1 b 41 = 0 ∧ (∀ j, j < p.2.2.2.length → werr f p.2.2.2 b j = 0) ∧
    wholeP f p.2.2.2.length = true ∧ roomP f p.2.2.2 ≤ 65535 := by
  unfold faultI at h
  cases hf : frm p.1 with
  | none => rw [faultP_none hf] at h; cases h
  | some f =>
    rw [faultP_some hf] at h
    unfold faultF at h
    by_cases e1 : errK f p.2.1 p.2.2.1 p.2.2.2 b p.2.2.2.length ≠ 0
    · rw [if_pos e1] at h; exact absurd h e1
    rw [if_neg e1] at h
    obtain ⟨q1, q2, q3⟩ := errK_all (Classical.not_not.1 e1)
    by_cases e2 : wholeP f p.2.2.2.length = false
    · rw [if_pos e2] at h; exact absurd h (by decide)
    rw [if_neg e2] at h
    by_cases e3 : 65535 < roomP f p.2.2.2
    · rw [if_pos e3] at h; exact absurd h (by decide)
    exact ⟨f, rfl, q1, q2, argK_all q3, by simpa using e2, by omega⟩
theorem tot_le {bound : Int} {pl : List PI} (h : (shapeP bound pl).1 = 0) : totP pl pl.length ≤ 1048576 := by
  cases hl : pl.length with
  | zero => simp [totP]
  | succ n =>
    unfold shapeP at h
    split at h
    · cases h
    · split at h
      · dsimp only at h
        split at h
        · rename_i hf; exact absurd h hf
        · cases h
      · rename_i hn
        have := List.find?_eq_none.1 hn n (List.mem_range.2 (by omega))
        unfold badI at this
        simp only [Bool.or_eq_true, not_or, decide_eq_true_eq] at this
        omega
/-- What is known of a module that Check lets pass. -/
structure Whole9 (bd : Int) (pl : List PI) : Prop where
  shape : (shapeP bd pl).1 = 0
  lim : 0 < bd ∧ bd ≤ 65536
  rng : ∀ n ∈ allP pl, 0 ≤ n ∧ n < bd
  new : ∀ k, k < pl.length → (ix pl k).2.2.1 ≠ 0 → ∀ j, j < k → j < pl.length → (ix pl j).2.2.1 ≠ (ix pl k).2.2.1
  made : ∀ n ∈ allP pl, n ≠ 0 → ∃ k, k < pl.length ∧ (ix pl k).2.2.1 = n
  ok : chk9P bd pl = (0, 0)
theorem Whole9.of {bd : Int} {pl : List PI} (hp : PlOk pl) (h0 : 0 ≤ bd) (h : (chk9P bd pl).1 = 0) : Whole9 bd pl := by
  obtain ⟨c1, c2, c3⟩ := chk9_ok h
  have hs := lay_shape c2
  have hbd := (shape_ok hs).1
  refine ⟨hs, by omega, ids_range hp h0 hs, fun k hk h0 => flt_new (c3 k hk) h0, fun n hn h0 => ?_, c1⟩
  obtain ⟨p, hp', hn⟩ := List.mem_flatMap.1 hn
  obtain ⟨k, hk, rfl⟩ := List.getElem_of_mem hp'
  have hr : n = pl[k].2.2.1 ∨ n ∈ idsAt pl k := by
    unfold idsAt idsP idsN
    rw [ix_lt hk, List.take_length]
    simp only [allI, List.mem_cons] at hn
    rcases hn with e | e | e
    · right
      refine List.mem_append_left _ ?_
      rw [if_neg (by rw [← e]; exact h0), e]
      exact List.mem_singleton.2 rfl
    · exact .inl e
    · right
      exact List.mem_append_right _ e
  rcases hr with e | e
  · exact ⟨k, hk, by rw [ix_lt hk, e]⟩
  · have hf := c3 k hk
    unfold fltP at hf
    by_cases e1 : 0 ≤ makerI pl (ix pl k).2.2.1 k
    · rw [if_pos e1] at hf; exact absurd hf (by decide)
    rw [if_neg e1] at hf
    by_cases e2 : (idsAt pl k).any (fun id => decide (makerI pl id pl.length < 0)) = true
    · rw [if_pos e2] at hf; exact absurd hf (by decide)
    have : 0 ≤ makerI pl n pl.length := by
      rcases Int.lt_or_le (makerI pl n pl.length) 0 with q | q
      · exact absurd (List.any_eq_true.2 ⟨n, e, decide_eq_true q⟩) e2
      · exact q
    obtain ⟨j, hj, hm⟩ := makerI_iff.1 this
    unfold mk1 at hm
    rw [Bool.and_eq_true] at hm
    exact ⟨j, hj, beq_iff_eq.1 hm.1⟩
end Go.Proofs

namespace Go.Proofs
open Go.Gk Go.RowKit Go.Gm

theorem perm_of_subset {α : Type} [BEq α] [LawfulBEq α] : ∀ {S T : List α}, S.Nodup → (∀ x ∈ S, x ∈ T) → T.length ≤ S.length → T.Perm S
  | [], T, _, _, h => by
    cases T with
    | nil => exact List.Perm.refl _
    | cons a r => simp at h
  | x :: S, T, hn, hs, h => by
    have hx := hs x List.mem_cons_self
    obtain ⟨h1, h2⟩ := List.nodup_cons.1 hn
    refine (List.perm_cons_erase hx).trans (List.Perm.cons x (perm_of_subset h2 (fun y hy => ?_) ?_))
    · exact (List.mem_erase_of_ne (fun e => by subst e; exact h1 hy)).2 (hs y (List.mem_cons_of_mem _ hy))
    · rw [List.length_erase_of_mem hx]
      simp at h
      omega
abbrev rngI (n : Nat) : List Int := (List.range n).map fun (k : Nat) => (k : Int)
theorem rngI_nodup (n : Nat) : (rngI n).Nodup := by
  refine List.pairwise_map.2 (List.nodup_range.imp fun {a b} h => ?_)
  omega
theorem mem_rngI {n : Nat} {x : Int} : x ∈ rngI n ↔ 0 ≤ x ∧ x < n := by
  constructor
  · intro h
    obtain ⟨k, hk, rfl⟩ := List.mem_map.1 h
    have := List.mem_range.1 hk
    omega
  · rintro ⟨h1, h2⟩
    exact List.mem_map.2 ⟨x.toNat, List.mem_range.2 (by omega), by omega⟩
/-- May ids below a bound be renamed so? -/
structure WayP (bd : Int) (T : List Int) : Prop where
  len : (T.length : Int) = bd
  zero : T.getD 0 1 = 0
  perm : T.Perm (rngI T.length)
noncomputable instance wayD (bd : Int) (T : List Int) : Decidable (WayP bd T) := Classical.propDecidable _
theorem WayP.nodup {bd : Int} {T : List Int} (h : WayP bd T) : T.Nodup := h.perm.nodup_iff.2 (rngI_nodup _)
abbrev toG (T : List Int) (n : Int) : Int := T.getD n.toNat 0
/-- The words that rename back. -/
theorem WayP.back {bd : Int} {T S : List Int} (h : WayP bd T) (hb : 0 < bd) (hl : S.length = T.length) (hS : ∀ i (hi : i < T.length), S.getD T[i].toNat 0 = (i : Int)) : WayP bd S ∧ ∀ n : Int, 0 ≤ n → n < bd → toG S (toG T n) = n := by
  have hlen := h.len
  have hT : ∀ i (hi : i < T.length), 0 ≤ T[i] ∧ T[i] < T.length := fun i hi => mem_rngI.1 (h.perm.mem_iff.1 (List.getElem_mem hi))
  refine ⟨⟨by rw [hl]; exact hlen, ?_, ?_⟩, fun n n1 n2 => ?_⟩
  · have h0 := h.zero
    rw [getD_lt (by omega)] at h0
    have := hS 0 (by omega)
    rw [h0] at this
    rw [getD_lt (by omega)]
    rwa [show (0 : Int).toNat = 0 from rfl, getD_lt (by omega)] at this
  · rw [hl]
    refine perm_of_subset (rngI_nodup _) (fun x hx => ?_) (by simp [hl])
    obtain ⟨x1, x2⟩ := mem_rngI.1 hx
    have := hS x.toNat (by omega)
    have hq := hT x.toNat (by omega)
    rw [getD_lt (by omega)] at this
    rw [show x = ((x.toNat : Nat) : Int) by omega, ← this]
    exact List.getElem_mem _
  · unfold toG
    rw [getD_lt (show n.toNat < T.length by omega), hS n.toNat (by omega)]
    omega
end Go.Proofs
namespace Go.Proofs
open Go.Gk Go.RowKit Go.Gm

abbrev Fv := Int × Int × Sl × Sl × Int × Unit
abbrev fvV (v : Fv) : List Value := [.int .u32 v.1, .int .i64 v.2.1, .slice v.2.2.1.a v.2.2.1.l v.2.2.1.c, .slice v.2.2.2.1.a v.2.2.2.1.l v.2.2.2.1.c, .int .i64 v.2.2.2.2.1]
abbrev fvA (v : Fv) : Value := .agg #[.int .u32 v.1, .int .i64 v.2.1, .slice v.2.2.1.a v.2.2.1.l v.2.2.1.c, .slice v.2.2.2.1.a v.2.2.2.1.l v.2.2.2.1.c, .int .i64 v.2.2.2.2.1]
abbrev IsBk (w : World) (s : Sl) (l : List (Int × Int × Int)) : Prop := IsC 3 blV w s l
structure IsFn (w : World) (v : Fv) (f : FnL) : Prop where
  id : v.1 = f.id
  at_ : v.2.1 = f.at_
  ps : IsI w v.2.2.1 f.ps
  bk : IsBk w v.2.2.2.1 f.bk
  en : v.2.2.2.2.1 = f.en
noncomputable instance fnD : DecidableEq FnL := fun _ _ => Classical.propDecidable _
section
variable {w w' : World} {v : Fv} {f g : FnL} {R : Value → World → Prop}
theorem IsFn.below (h : IsFn w v f) (hb : Below w.heap.size w w') : IsFn w' v f := ⟨h.id, h.at_, h.ps.below hb, IsC.below blV_len h.bk hb, h.en⟩
theorem Fv.load {b : Nat} {T : TypeId} (h : Blk w b T (fvV v)) {φ : Int → Int → Sl → Sl → Int → Prop} (hφ : φ v.1 v.2.1 v.2.2.1 v.2.2.2.1 v.2.2.2.2.1) :
    ldI w ((blk b).add 0) .u32 fun x1 => ldI w ((blk b).add 1) .i64 fun x2 => ldS w ((blk b).add 2) fun x3 => ldS w ((blk b).add 3) fun x4 => ldI w ((blk b).add 4) .i64 fun x5 => φ x1 x2 x3 x4 x5 :=
  h.rI (n := 0) (x := v.1) rfl (h.rI (n := 1) (x := v.2.1) rfl (h.rS (n := 2) (x := v.2.2.1) rfl (h.rS (n := 3) (x := v.2.2.2.1) rfl (h.rI (n := 4) (x := v.2.2.2.2.1) rfl hφ))))
theorem Fns.isFn {fs : Sl} {L : List Fe} (h : Fns w fs L) {x : Fe} (hx : x ∈ L) : IsFn w (x.1.id, x.1.at_, x.2.1, x.2.2, x.1.en, ()) x.1 :=
  ⟨rfl, rfl, (h.row x hx).1.isS, Own.isC blV_len (by omega) (h.row x hx).2, rfl⟩
theorem elemFn {fs : Sl} {L : List Fe} (h : Fns w fs L) {k : Nat} (hk : k < L.length) {φ : Int → Int → Sl → Sl → Int → Prop} (hφ : φ L[k].1.id L[k].1.at_ L[k].2.1 L[k].2.2 L[k].1.en) :
    (0 ≤ (k : Int) ∧ (k : Int) < (fs.l : Int)) ∧ derefP fs.a fun a => ldI w ((a.add (Int.toNat (k : Int) * 5)).add 0) .u32 fun x1 => ldI w ((a.add (Int.toNat (k : Int) * 5)).add 1) .i64 fun x2 => ldS w ((a.add (Int.toNat (k : Int) * 5)).add 2) fun x3 => ldS w ((a.add (Int.toNat (k : Int) * 5)).add 3) fun x4 => ldI w ((a.add (Int.toNat (k : Int) * 5)).add 4) .i64 fun x5 => φ x1 x2 x3 x4 x5 := by
  have hc : IsC 5 feV w fs L := Own.isC feV_len (by omega) h.own
  obtain ⟨a, ha⟩ := hc.base hk
  have hcell := hc.cell a ha k hk
  refine ⟨⟨by omega, by have := h.len; omega⟩, derefP_some ha ⟨_, ?_, _, ?_, _, ?_, _, ?_, _, ?_, hφ⟩⟩
  · rw [add_add']; exact hcell 0 (by omega)
  · rw [add_add']; exact hcell 1 (by omega)
  · rw [add_add']; exact hcell 2 (by omega)
  · rw [add_add']; exact hcell 3 (by omega)
  · rw [add_add']; exact hcell 4 (by omega)
theorem elemBk {s : Sl} {l : List (Int × Int × Int)} (h : IsBk w s l) {k : Nat} (hk : k < l.length) {φ : Int → Int → Int → Prop} (hφ : φ l[k].1 l[k].2.1 l[k].2.2) :
    (0 ≤ (k : Int) ∧ (k : Int) < (s.l : Int)) ∧ derefP s.a fun a => ldI w ((a.add (Int.toNat (k : Int) * 3)).add 0) .u32 fun x => ldI w ((a.add (Int.toNat (k : Int) * 3)).add 1) .i64 fun y => ldI w ((a.add (Int.toNat (k : Int) * 3)).add 2) .i64 fun z => φ x y z := by
  obtain ⟨a, ha⟩ := h.base hk
  have hc := h.cell a ha k hk
  refine ⟨⟨by omega, by have := h.len; omega⟩, derefP_some ha ⟨_, ?_, _, ?_, _, ?_, hφ⟩⟩
  · rw [add_add']; exact hc 0 (by omega)
  · rw [add_add']; exact hc 1 (by omega)
  · rw [add_add']; exact hc 2 (by omega)

theorem EqI_spec {s t : Sl} {l m : List Int} (hs : IsI w s l) (ht : IsI w t m) (hR : ∀ w', Below w.heap.size w w' → R (.bool (decide (l = m))) w') : callR Tryz.prog 132 #[.slice s.a s.l s.c, .slice t.a t.l t.c] w R := by
  refine callR.of (slices_Equal_sint_int_calls s t R w ?_) fun _ _ h => h
  have h1 := hs.len
  have h2 := ht.len
  have no : l ≠ m → ∀ {w'}, Below w.heap.size w w' → R (.bool false) w' := fun h {w'} hb => by
    have := hR w' hb
    rwa [decide_eq_false h] at this
  refine ifB_bne (fun e => no (fun h => e (by rw [h1, h2, h])) (Below.refl _ _)) (fun e => ?_)
  refine LoopW.count l.length hs.bound (fun k w' => Below w.heap.size w w' ∧ ∀ j (q1 : j < l.length) (q2 : j < m.length), j < k → l[j] = m[j]) ⟨Below.refl _ _, fun j _ _ h => by omega⟩ ?_
  rintro k w1 hk ⟨hb, hj⟩ next hnext
  refine ifB_dec (fun h => ?_) (fun h => ?_)
  · have hlt : k < l.length := by dsimp only at h; omega
    have hlm : k < m.length := by omega
    refine elemI (hs.below hb.drew) hlt (elemI (ht.below hb.drew) hlm (ifB_bne (fun e => no (fun g => e (by subst g; rfl)) hb.drew) (fun e => hnext _ hlt ⟨hb.drew, fun j q1 q2 hjk => ?_⟩)))
    by_cases ej : j = k
    · subst ej; exact e
    · exact hj j q1 q2 (by omega)
  · have hk' : k = l.length := by dsimp only at h; omega
    have := hR w1 hb
    rwa [decide_eq_true (List.ext_getElem (by omega) fun j q1 q2 => hj j q1 q2 (by omega))] at this
theorem EqB_spec {s t : Sl} {l m : List (Int × Int × Int)} (hs : IsBk w s l) (ht : IsBk w t m) (hR : ∀ w', Below w.heap.size w w' → R (.bool (decide (l = m))) w') : callR Tryz.prog 133 #[.slice s.a s.l s.c, .slice t.a t.l t.c] w R := by
  refine callR.of (slices_Equal_sapi_Block_api_Block_calls s t R w ?_) fun _ _ h => h
  have h1 := hs.len
  have h2 := ht.len
  have no : l ≠ m → ∀ {w'}, Below w.heap.size w w' → R (.bool false) w' := fun h {w'} hb => by
    have := hR w' hb
    rwa [decide_eq_false h] at this
  refine ifB_bne (fun e => no (fun h => e (by rw [h1, h2, h])) (Below.refl _ _)) (fun e => ?_)
  refine LoopW.count l.length hs.bound (fun k w' => Below w.heap.size w w' ∧ ∀ j (q1 : j < l.length) (q2 : j < m.length), j < k → l[j] = m[j]) ⟨Below.refl _ _, fun j _ _ h => by omega⟩ ?_
  rintro k w1 hk ⟨hb, hj⟩ next hnext
  refine ifB_dec (fun h => ?_) (fun h => ?_)
  · have hlt : k < l.length := by dsimp only at h; omega
    have hlm : k < m.length := by omega
    refine elemBk (IsC.below blV_len hs hb.drew) hlt (elemBk (IsC.below blV_len ht hb.drew) hlm (ifB_not (ifB_bool (fun e => hnext _ hlt ⟨hb.drew, fun j q1 q2 hjk => ?_⟩) (fun e => no (fun g => ?_) hb.drew))))
    · by_cases ej : j = k
      · subst ej
        simp only [Bool.and_true, Bool.and_eq_true, beq_iff_eq] at e
        exact Prod.ext e.1 (Prod.ext e.2.1 e.2.2)
      · exact hj j q1 q2 (by omega)
    · subst g
      simp at e
  · have hk' : k = l.length := by dsimp only at h; omega
    have := hR w1 hb
    rwa [decide_eq_true (List.ext_getElem (by omega) fun j q1 q2 => hj j q1 q2 (by omega))] at this
theorem sameF_spec {u : Fv} (hf : IsFn w v f) (hg : IsFn w u g) (hR : ∀ w', Below w.heap.size w w' → R (.bool (decide (f = g))) w') : callR Tryz.prog 87 #[fvA v, fvA u] w R := by
  refine callR.of (graph_same_calls v u R w ?_) fun _ _ h => h
  refine lay_of fun w1 hA1 b1 z1 => ?_
  have hA1 : Blk w1 w.heap.size 29 (fvV v) := hA1
  refine lay_of fun w2 hB2 b2 z2 => ?_
  have hB2 : Blk w2 w1.heap.size 29 (fvV u) := hB2
  have hA2 := hA1.below b2
  have hb2 := b1.on b2
  have no : f ≠ g → ∀ {w'}, Below w.heap.size w w' → R (.bool false) w' := fun h {w'} hb => by
    have := hR w' hb
    rwa [decide_eq_false h] at this
  refine hA2.rI0 (x := v.1) rfl (hB2.rI0 (x := u.1) rfl (ifB_beq (fun e1 => ?_) (fun e => no (fun h => e (by rw [hf.id, hg.id, h])) hb2)))
  refine hA2.rI (n := 1) (x := v.2.1) rfl (hB2.rI (n := 1) (x := u.2.1) rfl (ifB_beq (fun e2 => ?_) (fun e => no (fun h => e (by rw [hf.at_, hg.at_, h])) hb2)))
  refine hA2.rI (n := 4) (x := v.2.2.2.2.1) rfl (hB2.rI (n := 4) (x := u.2.2.2.2.1) rfl (ifB_beq (fun e3 => ?_) (fun e => no (fun h => e (by rw [hf.en, hg.en, h])) hb2)))
  refine hA2.rS (n := 2) (x := v.2.2.1) rfl (hB2.rS (n := 2) (x := u.2.2.1) rfl ?_)
  refine EqI_spec (hf.ps.below hb2) (hg.ps.below hb2) fun w3 b3 => ⟨_, rfl, ?_⟩
  have hb3 := hb2.on b3
  refine ifB_dec (fun e4 => ?_) (fun e => no (fun h => e (by rw [h])) hb3)
  refine (hA2.below b3).rS (n := 3) (x := v.2.2.2.1) rfl ((hB2.below b3).rS (n := 3) (x := u.2.2.2.1) rfl ?_)
  refine EqB_spec (IsC.below blV_len hf.bk hb3) (IsC.below blV_len hg.bk hb3) fun w4 b4 => ⟨_, rfl, ?_⟩
  have := hR w4 (hb3.on b4)
  have e : decide (f.bk = g.bk) = decide (f = g) := by
    rw [decide_eq_decide]
    constructor
    · intro e5
      have q1 := hf.id.symm.trans (e1.trans hg.id)
      have q2 := hf.at_.symm.trans (e2.trans hg.at_)
      have q3 := hf.en.symm.trans (e3.trans hg.en)
      cases f; cases g
      simp_all
    · intro h; rw [h]
  rw [e]
  exact this
theorem Contains_fn {fs : Sl} {L : List Fe} {vb : Nat} (hL : Fns w fs L) (hV : Blk w vb 29 (fvV v)) (hf : IsFn w v f) (hR : ∀ w', Below w.heap.size w w' → R (.bool (decide (f ∈ L.map (·.1)))) w') :
    callR Tryz.prog 85 #[.slice fs.a fs.l fs.c, .func (.func 86) #[] #[.pointer (some (blk vb))]] w R := by
  refine callR.of (slices_ContainsFunc_sapi_Func_api_Func_calls fs _ R w ?_) fun _ _ h => h
  refine callR.of (slices_IndexFunc_sapi_Func_api_Func_calls fs _ _ w ?_) fun _ _ h => h
  have hl := hL.len
  have hcap : fs.l ≤ 9223372036854775807 := by
    have hc : IsC 5 feV w fs L := Own.isC feV_len (by omega) hL.own
    have := hc.bound
    omega
  have hcf : Tryz.fs.contains 86 = true := by kernel_rfl
  refine LoopW.count L.length (by omega) (fun k w' => Below w.heap.size w w' ∧ ∀ j (h : j < L.length), j < k → L[j].1 ≠ f) ⟨Below.refl _ _, fun j _ h => by omega⟩ ?_
  rintro k w1 hk ⟨hb, hj⟩ next hnext
  refine ifB_dec (fun h => ?_) (fun h => ?_)
  · have hlt : k < L.length := by dsimp only at h; omega
    refine elemFn (hL.below hb) hlt ?_
    unfold callV
    simp only [hcf]
    refine callR.of (graph_New_1_calls (L[k].1.id, L[k].1.at_, L[k].2.1, L[k].2.2, L[k].1.en, ()) (blk vb) _ w1 ?_) fun _ _ h => h
    refine lay_of fun w2 hX2 b2 z2 => ?_
    have hX2 : Blk w2 w1.heap.size 29 (fvV (L[k].1.id, L[k].1.at_, L[k].2.1, L[k].2.2, L[k].1.en, ())) := hX2
    have hb2 := hb.on b2
    refine Fv.load hX2 (Fv.load (hV.below hb2) ?_)
    refine sameF_spec (((hL.below hb2).isFn (List.getElem_mem hlt))) (hf.below hb2) fun w3 b3 => ⟨_, rfl, _, rfl, ?_⟩
    have hb3 := hb2.on b3
    refine ifB_dec (fun e => ?_) (fun e => hnext w3 hlt ⟨hb3, fun j q1 q2 => ?_⟩)
    · refine ⟨_, rfl, ?_⟩
      have := hR w3 hb3
      rw [decide_eq_true (List.mem_map.2 ⟨L[k], List.getElem_mem hlt, e⟩)] at this
      rwa [decide_eq_true (by omega)]
    · by_cases ej : j = k
      · subst ej; exact e
      · exact hj j q1 (by omega)
  · refine ⟨_, rfl, ?_⟩
    have := hR w1 hb
    rw [decide_eq_false (fun hm => by
      obtain ⟨x, hx, e⟩ := List.mem_map.1 hm
      obtain ⟨j, hj', rfl⟩ := List.getElem_of_mem hx
      exact hj j hj' (by dsimp only at h; omega) e)] at this
    rwa [decide_eq_false (by decide)]
end

section
variable {x : Mo} {pl : List PI} {w : World} {R : Value → World → Prop}
theorem Cut_spec (hN : IsPl w x.2.2.1 pl) (hp : PlOk pl)
    (hok : ∀ fs L w', (layP x.2.1 pl).1 = 0 → Below w.heap.size w w' → Fns w' fs L → L.map (·.1) = cutF pl pl.length → R (.tuple #[.slice fs.a fs.l fs.c, .agg #[.int .i64 0, .int .i64 0]]) w')
    (hbad : ∀ w', (layP x.2.1 pl).1 ≠ 0 → Below w.heap.size w w' → R (.tuple #[.slice none 0 0, .agg #[.int .i64 (layP x.2.1 pl).1, .int .i64 ((layP x.2.1 pl).2 : Int)]]) w') :
    callR Tryz.prog 45 #[moA x] w R := by
  refine callR.of (layout_Cut_calls x R w ?_) fun _ _ h => h
  refine lay_of fun w1 hB1 b1 z1 => ?_
  have hB1 : Blk w1 w.heap.size 25 (moV x) := hB1
  refine lay_of fun w2 hC2 b2 z2 => ?_
  have hC2 : Blk w2 w1.heap.size 33 [.int .i64 0, .int .i64 0] := hC2
  have hb2 := b1.on b2
  refine Mo.load (hB1.below b2) ?_
  refine read_spec (x := x) (hN.below hb2) hp (fun bc ps fs L w3 hlay hC3 hP hL hF hcut hg => ⟨some (blk bc), (0, 0, ()), rfl, ?_⟩) (fun w3 b3 hne => ⟨none, ((layP x.2.1 pl).1, ((layP x.2.1 pl).2 : Int), ()), rfl, ?_⟩)
  · refine box2 rfl fun w6 h6 b6 z6 => ?_
    have b26 := hC3.b0.on b6
    have hCc := (hC3.below b6).drew
    have hS6 := (hC2.below b26).drew
    have h6' := h6.drew
    refine ifB_false rfl (derefP_some rfl ?_)
    refine hCc.blk.rS (n := 22) (x := fs) (ctV_f hCc.len) ?_
    have s26 := b26.size
    refine Sp.load h6' (st2 hS6 rfl fun w8 hS8 c8 => Sp.load hS8 ?_)
    have hL6 : Fns w6.drew fs L := (hL.below b6).below (Below.refl _ _).drew
    exact hok fs L w8 (by rw [hlay]) (c8.below ((hb2.on b26).drew) (by omega)) (hL6.chg c8 hS6 (by decide) (by decide) (by decide)) hcut.symm
  · refine box2 rfl fun w6 h6 b6 z6 => ?_
    have b26 := b3.on b6
    have hS6 := (hC2.below b26).drew
    have h6' := h6.drew
    refine ifB_true rfl (Sp.load h6' (st2 hS6 rfl fun w8 hS8 c8 => Sp.load hS8 ?_))
    exact hbad w8 hne (c8.below ((hb2.on b26).drew) (by omega))
end

theorem uFind : Tryz.prog.underlying 131 = some (.map 22 3) := by kernel_rfl
section
variable {w : World} {R : Value → World → Prop} {r : Nat} {M : List (Int × Int)}
theorem all_find {s : Sl} {ls : List Int} (hM : IsMp w r .i64 M) (hs : IsS (Value.int .u32) w s ls) (hmax : 8 * ls.length ≤ 140737488355328)
    (hok : ∀ t w', (∀ n ∈ ls, (lookL M n).isSome = true) → Own w' 3 1 t ((ls.map fun n => (lookL M n).getD 0).map (Value.int .i64)) → Fresh w.heap.size t → Below w.heap.size w w' → R (.tuple #[.slice t.a t.l t.c, .bool true]) w')
    (hbad : ∀ w', (∃ n ∈ ls, lookL M n = none) → Below w.heap.size w w' → R (.tuple #[.slice none 0 0, .bool false]) w') :
    callR Tryz.prog 89 #[.map (some r), .slice s.a s.l s.c] w R := by
  refine callR.of (graph_finder_all_calls (some r) s R w ?_) fun _ _ h => h
  have hl := hs.len
  refine LoopW.countSl ls.length hs.bound (fun k t w' => Own w' 3 1 t (((ls.take k).map fun n => (lookL M n).getD 0).map (Value.int .i64)) ∧ Fresh w.heap.size t ∧ Below w.heap.size w w' ∧ ∀ j (h : j < ls.length), j < k → (lookL M ls[j]).isSome = true)
    ⟨Own.nil _ _ _, fun a ha => by (cases ha), Below.refl _ _, fun j _ h => by omega⟩ ?_
  rintro k t w1 hk ⟨hO, hF, hb, hj⟩ next hnext
  refine ifB_dec (fun h => ?_) (fun h => ?_)
  · have hlt : k < ls.length := by dsimp only at h; omega
    refine elemU (hs.below hb) hlt (lookOk_of uFind uU32 zInt (hM.below hb) ?_)
    refine ifB_not (ifB_bool (fun hsome => ?_) (fun hnone => ?_))
    · refine lay_of fun w2 hD2 b2 z2 => ?_
      have htl : t.l = k := by
        have := hO.1
        rw [List.length_map, List.length_map, List.length_take] at this
        omega
      refine push_fresh eInt (hO.below b2) (hb.on b2) hF rfl hD2 (by omega) (by omega) fun t' w3 hO3 hb3 hF3 => hnext t' w3 hlt ⟨?_, hF3, hb3, fun j q1 q2 => ?_⟩
      · rw [List.take_succ_eq_append_getElem hlt, List.map_append, List.map_append]
        exact hO3
      · by_cases ej : j = k
        · subst ej; exact hsome
        · exact hj j q1 (by omega)
    · have hnone : (lookL M ls[k]).isSome = false := hnone
      exact hbad w1 ⟨ls[k], List.getElem_mem hlt, by simpa using hnone⟩ hb
  · have hk' : k = ls.length := by dsimp only at h; omega
    subst hk'
    rw [List.take_length] at hO
    refine hok t w1 (fun n hn => ?_) hO hF hb
    obtain ⟨j, hj', rfl⟩ := List.getElem_of_mem hn
    exact hj j hj' hj'
/-- What stands right ahead of a block's last instruction says. -/
def mrgP (M : List (Int × Int)) (op : Int) (al : List Ag) (lop : Int) : Option Mg :=
  if op = 247 then (match lookL M (al.getD 0 ag0).2.1 with
    | some a => some (if lop = 251 then 3 else 1, a, -1)
    | none => none)
  else if op = 246 then (match lookL M (al.getD 0 ag0).2.1, lookL M (al.getD 1 ag0).2.1 with
    | some a, some b => some (2, a, b)
    | _, _ => none)
  else some (0, -1, -1)
theorem merge_spec {i last : Ins} {al : List Ag} (hM : IsMp w r .i64 M) (hI : IsAg w i.2.2.2.1 al) (h1 : i.1 = 247 → 0 < al.length) (h2 : i.1 = 246 → 1 < al.length)
    (hR : ∀ (m : Mg) (b : Bool) w', Below w.heap.size w w' → (b = true → mrgP M i.1 al last.1 = some m) → (b = false → mrgP M i.1 al last.1 = none) → R (.tuple #[.agg #[.int .u8 m.1, .int .i64 m.2.1, .int .i64 m.2.2], .bool b]) w') :
    callR Tryz.prog 88 #[.map (some r), inA i, inA last] w R := by
  refine callR.of (graph_finder_merge_calls (some r) i last R w ?_) fun _ _ h => h
  refine lay_of fun w1 hA1 b1 z1 => ?_
  have hA1 : Blk w1 w.heap.size 41 (inV i) := hA1
  refine lay_of fun w2 hB2 b2 z2 => ?_
  have hB2 : Blk w2 w1.heap.size 41 (inV last) := hB2
  refine lay_of fun w3 hX3 b3 z3 => ?_
  have hX3 : Blk w3 w2.heap.size 121 [.int .u8 0, .int .i64 0, .int .i64 0] := hX3
  refine box3 rfl fun w7 hY7 b7 z7 => ?_
  have hY7 : Blk w7 w3.heap.size 121 (mgV (0, -1, -1)) := hY7
  have b17 := (b2.on b3).on b7
  have hb7 := b1.on b17
  have hA7 := hA1.below b17
  have hB7 := hB2.below (b3.on b7)
  have hX7 := hX3.below b7
  have hM7 := hM.below hb7
  have hI7 : IsAg w7 i.2.2.2.1 al := hI.below hb7
  have hal := hI.len
  have out : ∀ {w' : World} (y : Mg), Blk w' w2.heap.size 121 [.int .u8 0, .int .i64 0, .int .i64 0] → ∀ {K : Int → Int → Int → World → Prop}, (∀ w'', Chg w2.heap.size w' w'' → K y.1 y.2.1 y.2.2 w'') →
      Wr w' (blk w2.heap.size) ∧ Nw (w'.setCell (blk w2.heap.size) (.int .u8 y.1)) fun w10 => Wr w10 ((blk w2.heap.size).add 1) ∧ Nw (w10.setCell ((blk w2.heap.size).add 1) (.int .i64 y.2.1)) fun w11 => Wr w11 ((blk w2.heap.size).add 2) ∧ Nw (w11.setCell ((blk w2.heap.size).add 2) (.int .i64 y.2.2)) fun w12 =>
        ldI w12 ((blk w2.heap.size).add 0) .u8 fun x11 => ldI w12 ((blk w2.heap.size).add 1) .i64 fun x12 => ldI w12 ((blk w2.heap.size).add 2) .i64 fun x13 => K x11 x12 x13 w12 := fun {w'} y hX {K} hK =>
    st3 hX rfl fun w'' hX'' c => hX''.rI (n := 0) (x := y.1) rfl (hX''.rI (n := 1) (x := y.2.1) rfl (hX''.rI (n := 2) (x := y.2.2) rfl (hK w'' c)))
  have ldY : ∀ {w' : World}, Blk w' w3.heap.size 121 (mgV (0, -1, -1)) → ∀ {φ : Int → Int → Int → Prop}, φ 0 (-1) (-1) → ldI w' ((blk w3.heap.size).add 0) .u8 fun x8 => ldI w' ((blk w3.heap.size).add 1) .i64 fun x9 => ldI w' ((blk w3.heap.size).add 2) .i64 fun x10 => φ x8 x9 x10 := fun {w'} hY {φ} hφ =>
    hY.rI (n := 0) (x := 0) rfl (hY.rI (n := 1) (x := -1) rfl (hY.rI (n := 2) (x := -1) rfl hφ))
  refine hA7.rI0 (x := i.1) rfl (ifB_beq (fun e247 => ?_) (fun e247 => ?_))
  · have hl0 := h1 e247
    have hm : mrgP M i.1 al last.1 = (match lookL M (al.getD 0 ag0).2.1 with
        | some a => some (if last.1 = 251 then 3 else 1, a, -1)
        | none => none) := by unfold mrgP; rw [if_pos e247]
    refine hA7.rS (n := 3) (x := i.2.2.2.1) rfl ?_
    refine elemAn hI7 (k := 0) hl0 ?_
    refine lay_of fun w8 hD8 b8 z8 => ?_
    have hD8 : Blk w8 w7.heap.size 22 (([al[0].2.1] : List Int).map (Value.int .u32)) := hD8
    refine all_find (s := ⟨some (blk w7.heap.size), 1, 1⟩) (ls := [al[0].2.1]) (hM7.below b8) (hD8.isS rfl rfl (Nat.le_refl _) (by dsimp only; omega)) (by simp) (fun t w9 hs hO9 hF9 b9 => ⟨t, true, rfl, ifB_false rfl ?_⟩) (fun w9 hn b9 => ⟨⟨none, 0, 0⟩, false, rfl, ifB_true rfl ?_⟩)
    · have b79 := b8.on b9
      have hs0 := hs _ (List.mem_singleton.2 rfl)
      obtain ⟨a, ha⟩ := Option.isSome_iff_exists.1 hs0
      rw [getD_lt hl0, ha] at hm
      have hO9 : Own w9 3 1 t ([a].map (Value.int .i64)) := by
        simp only [List.map_cons, List.map_nil, ha, Option.getD_some] at hO9 ⊢
        exact hO9
      refine JoinW.cut (fun (st : Int × Unit) w' => w' = w9 ∧ st.1 = if last.1 = 251 then 3 else 1) ?_ ?_
      · refine (hB7.below b79).rI0 (x := last.1) rfl (ifB_beq (fun e => ⟨rfl, ?_⟩) (fun e => ⟨rfl, ?_⟩))
        · rw [if_pos e]
        · rw [if_neg e]
      · rintro ⟨kd, _⟩ w9 ⟨rfl, rfl⟩
        refine elemI hO9.isS (k := 0) (by simp) ?_
        refine out (if last.1 = 251 then 3 else 1, a, -1) (hX7.below b79) fun w12 c12 => ?_
        exact hR _ true w12 (c12.below (hb7.on b79) (by have := b1.size; have := b2.size; omega)) (fun _ => hm) (fun h => by cases h)
    · have b79 := b8.on b9
      obtain ⟨n, hn1, hn2⟩ := hn
      rw [List.mem_singleton.1 hn1] at hn2
      rw [getD_lt hl0, hn2] at hm
      refine ldY (hY7.below b79) (out (0, -1, -1) (hX7.below b79) fun w12 c12 => ?_)
      exact hR (0, -1, -1) false w12 (c12.below (hb7.on b79) (by have := b1.size; have := b2.size; omega)) (fun h => by cases h) (fun _ => hm)
  refine ifB_beq (fun e246 => ?_) (fun e246 => ?_)
  · have hl0 := h2 e246
    have hm : mrgP M i.1 al last.1 = (match lookL M (al.getD 0 ag0).2.1, lookL M (al.getD 1 ag0).2.1 with
        | some a, some b => some (2, a, b)
        | _, _ => none) := by unfold mrgP; rw [if_neg e247, if_pos e246]
    have bd : Below w7.heap.size w7 w7.drew := (Below.refl _ _).drew
    have hId : IsAg w7.drew i.2.2.2.1 al := hI7.below bd
    refine hA7.drew.rS (n := 3) (x := i.2.2.2.1) rfl ?_
    refine elemAn hId (k := 0) (by omega) ?_
    refine hA7.drew.rS (n := 3) (x := i.2.2.2.1) rfl ?_
    refine elemAn hId (k := 1) hl0 ?_
    refine lay_of fun w8 hD8 b8 z8 => ?_
    have hD8 : Blk w8 w7.drew.heap.size 22 (([al[0].2.1, al[1].2.1] : List Int).map (Value.int .u32)) := hD8
    have b78 := bd.on b8
    refine all_find (s := ⟨some (blk w7.drew.heap.size), 2, 2⟩) (ls := [al[0].2.1, al[1].2.1]) (hM7.below b78) (hD8.isS rfl rfl (Nat.le_refl _) (by dsimp only; omega)) (by simp) (fun t w9 hs hO9 hF9 b9 => ⟨t, true, rfl, ifB_false rfl ?_⟩) (fun w9 hn b9 => ⟨⟨none, 0, 0⟩, false, rfl, ifB_true rfl ?_⟩)
    · have b79 := b78.on b9
      obtain ⟨a, ha⟩ := Option.isSome_iff_exists.1 (hs al[0].2.1 (by simp))
      obtain ⟨b, hb⟩ := Option.isSome_iff_exists.1 (hs al[1].2.1 (by simp))
      rw [getD_lt (show 0 < al.length by omega), getD_lt hl0, ha, hb] at hm
      have hO9 : Own w9 3 1 t ([a, b].map (Value.int .i64)) := by
        simp only [List.map_cons, List.map_nil, ha, hb, Option.getD_some] at hO9 ⊢
        exact hO9
      refine elemI hO9.drew.isS (k := 0) (by simp) (elemI hO9.drew.isS (k := 1) (by simp) ?_)
      refine out (2, a, b) ((hX7.below b79).drew) fun w12 c12 => ?_
      exact hR _ true w12 (c12.below ((hb7.on b79).drew) (by have := b1.size; have := b2.size; omega)) (fun _ => hm) (fun h => by cases h)
    · have b79 := b78.on b9
      obtain ⟨n, hn1, hn2⟩ := hn
      have hm' : mrgP M i.1 al last.1 = none := by
        rw [hm, getD_lt (show 0 < al.length by omega), getD_lt hl0]
        rcases List.mem_cons.1 hn1 with e | e
        · rw [← e, hn2]
        · rw [← List.mem_singleton.1 e, hn2]
          cases lookL M al[0].2.1 <;> rfl
      refine ldY (hY7.below b79) (out (0, -1, -1) (hX7.below b79) fun w12 c12 => ?_)
      exact hR (0, -1, -1) false w12 (c12.below (hb7.on b79) (by have := b1.size; have := b2.size; omega)) (fun h => by cases h) (fun _ => hm')
  · refine ldY hY7 (out (0, -1, -1) hX7 fun w12 c12 => ?_)
    exact hR (0, -1, -1) true w12 (c12.below hb7 (by have := b1.size; have := b2.size; omega)) (fun _ => by unfold mrgP; rw [if_neg e247, if_neg e246]) (fun h => by cases h)
end
end Go.Proofs
namespace Go.Proofs
open Go.Gk Go.RowKit Go.ChangeShapes Go.WideShapes Go.Deep

namespace Jn
section
variable {H : Type} {enc : TypeId × Value → H}
set_option maxRecDepth 100000 in
/-- A []int in the cells cs. -/
theorem open_intsC {W : World} {fuel0 : Nat} {cs : List Value} {d : DataW H} {p : List MemPlace} (hf : DataW.trod enc Tryz.prog W 0 (fun _ => true) true fuel0 26 cs = some (d, p)) :
    ∃ (s : Sl) (l : List Int), cs = [.slice s.a s.l s.c] ∧ IsI W s l := by
  have c1 : Tryz.prog.cellsOf 3 = 1 := by kernel_rfl
  have hm63 : maxLen = 9223372036854775807 := by decide +kernel
  rcases open_slice Tryz.underlying26 hf with ⟨hcs0, hx⟩ | ⟨a, len, cap, m, n, D, Pl, hcs0, _, hl, hm, hmm, hx, hrows⟩
  · exact ⟨⟨none, 0, 0⟩, [], hcs0, ⟨rfl, Nat.le_refl _, Nat.zero_le _, fun _ => rfl, fun a ha => by cases ha⟩⟩
  · have hmm : m = cap := by simpa using hmm
    subst hmm
    have each : ∀ i, i < len → ∃ q : Int, True ∧ W.cell? (a.add i) = some (.int .i64 q) := by
      intro i hi
      obtain ⟨cs', h1, h2⟩ := hrows i (by omega)
      rw [c1] at h1
      obtain ⟨_, hlen, hcell⟩ := World.cells?_some h1
      have hc0 := hcell 0 (by omega)
      rw [add_add', Nat.mul_one, Nat.add_zero] at hc0
      match cs', hlen with
      | [u0], _ =>
        obtain ⟨q, hq, _⟩ := uI Tryz.underlying3 h2
        simp only [List.cons.injEq, and_true] at hq
        subst hq
        exact ⟨q, trivial, hc0⟩
    obtain ⟨q, hq⟩ := choose_lt each
    refine ⟨⟨some a, len, m⟩, (List.range len).map q, hcs0, ⟨by simp, hl, by rw [← hm63]; exact hm, (fun h => by cases h), ?_⟩⟩
    intro a' ha i hi
    cases ha
    have hi' : i < len := by simpa using hi
    simp only [List.getElem_map, List.getElem_range]
    exact (hq i hi').2
set_option maxRecDepth 100000 in
/-- A []api.Block in the cells cs. -/
theorem open_blocksC {W : World} {fuel0 : Nat} {cs : List Value} {d : DataW H} {p : List MemPlace} (hf : DataW.trod enc Tryz.prog W 0 (fun _ => true) true fuel0 27 cs = some (d, p)) :
    ∃ (s : Sl) (l : List (Int × Int × Int)), cs = [.slice s.a s.l s.c] ∧ IsBk W s l := by
  have c3 : Tryz.prog.cellsOf 69 = 3 := by kernel_rfl
  have cu : Tryz.prog.cellsOf 22 = 1 := by kernel_rfl
  have ci : Tryz.prog.cellsOf 3 = 1 := by kernel_rfl
  have hm63 : maxLen = 9223372036854775807 := by decide +kernel
  rcases open_slice Tryz.underlying27 hf with ⟨hcs0, hx⟩ | ⟨a, len, cap, m, n, D, Pl, hcs0, _, hl, hm, hmm, hx, hrows⟩
  · exact ⟨⟨none, 0, 0⟩, [], hcs0, ⟨rfl, Nat.le_refl _, Nat.zero_le _, fun _ => rfl, fun a ha => by cases ha⟩⟩
  · have hmm : m = cap := by simpa using hmm
    subst hmm
    have each : ∀ i, i < len → ∃ x : Int × Int × Int, True ∧ ∀ j, j < 3 → W.cell? (a.add (i * 3 + j)) = (blV x)[j]? := by
      intro i hi
      obtain ⟨cs', h1, h2⟩ := hrows i (by omega)
      rw [c3] at h1
      obtain ⟨_, hlen, hcell⟩ := World.cells?_some h1
      obtain ⟨y0, y1, y2, k, _, _, g0, g1, g2⟩ := trod_struct3 Tryz.underlying69 h2
      match cs', hlen with
      | [v0, v1, v2], _ =>
        have g0' : DataW.trod enc Tryz.prog W 0 (fun _ => true) true k 22 [v0] = some y0 := by simpa [cu] using g0
        have g1' : DataW.trod enc Tryz.prog W 0 (fun _ => true) true k 3 [v1] = some y1 := by simpa [ci] using g1
        have g2' : DataW.trod enc Tryz.prog W 0 (fun _ => true) true k 3 [v2] = some y2 := by simpa [ci] using g2
        obtain ⟨n0, e0, _⟩ := uI Tryz.underlying22 g0'
        obtain ⟨n1, e1, _⟩ := uI Tryz.underlying3 g1'
        obtain ⟨n2, e2, _⟩ := uI Tryz.underlying3 g2'
        simp only [List.cons.injEq, and_true] at e0 e1 e2
        subst e0 e1 e2
        refine ⟨(n0, n1, n2), trivial, fun j hj => ?_⟩
        have := hcell j hj
        rw [add_add'] at this
        exact this
    obtain ⟨q, hq⟩ := choose_lt each
    refine ⟨⟨some a, len, m⟩, (List.range len).map q, hcs0, ⟨by simp, hl, by rw [← hm63]; exact hm, (fun h => by cases h), ?_⟩⟩
    intro a' ha i hi j hj
    cases ha
    have hi' : i < len := by simpa using hi
    rw [(hq i hi').2 j hj]
    simp
set_option maxRecDepth 100000 in
/-- An api.Func that is handed in. -/
theorem open_func {W : World} {base : Nat} {v : Value} {d : DataW H} {p : List MemPlace} (hv : Value.okWide Tryz.prog W .any base 29 v) (h0 : DataW.Trod enc Tryz.prog W 0 (fun _ => true) true 29 v d p) :
    ∃ (x : Fv) (f : FnL), v = fvA x ∧ IsFn W x f := by
  obtain ⟨cs, rfl, hcs⟩ := okWide_struct Tryz.underlying29 hv
  obtain ⟨fuel, hf⟩ := h0
  obtain ⟨xs, n, _, hx, hl, hlen, hff⟩ := DataW.trod_struct Tryz.underlying29 hf
  have hsz : Tryz.prog.cellsOf 29 = 5 := by kernel_rfl
  have c0 : Tryz.prog.cellsOf 22 = 1 := by kernel_rfl
  have c1 : Tryz.prog.cellsOf 3 = 1 := by kernel_rfl
  have c2 : Tryz.prog.cellsOf 26 = 1 := by kernel_rfl
  have c3 : Tryz.prog.cellsOf 27 = 1 := by kernel_rfl
  rw [hsz] at hcs
  match xs, hlen with
  | [y0, y1, y2, y3, y4], _ =>
    have f0 := hff 0 _ rfl
    have f1 := hff 1 _ rfl
    have f2 := hff 2 _ rfl
    have f3 := hff 3 _ rfl
    have f4 := hff 4 _ rfl
    obtain ⟨u0, u1, u2, u3, u4, hu⟩ : ∃ u0 u1 u2 u3 u4, cs.toList = [u0, u1, u2, u3, u4] := by
      have hl4 : cs.toList.length = 5 := by simpa using hcs
      match cs.toList, hl4 with
      | [u0, u1, u2, u3, u4], _ => exact ⟨u0, u1, u2, u3, u4, rfl⟩
    have hce : (Value.agg cs).cells.toList = [u0, u1, u2, u3, u4] := by simpa [Value.cells] using hu
    simp only [hce, List.getElem?_cons_zero, List.getElem?_cons_succ] at f0 f1 f2 f3 f4
    have f0' : DataW.trod enc Tryz.prog W 0 (fun _ => true) true n 22 [u0] = some y0 := by simpa [c0] using f0
    have f1' : DataW.trod enc Tryz.prog W 0 (fun _ => true) true n 3 [u1] = some y1 := by simpa [c1] using f1
    have f2' : DataW.trod enc Tryz.prog W 0 (fun _ => true) true n 26 [u2] = some y2 := by simpa [c2] using f2
    have f3' : DataW.trod enc Tryz.prog W 0 (fun _ => true) true n 27 [u3] = some y3 := by simpa [c3] using f3
    have f4' : DataW.trod enc Tryz.prog W 0 (fun _ => true) true n 3 [u4] = some y4 := by simpa [c1] using f4
    obtain ⟨a, ha, _⟩ := uI Tryz.underlying22 f0'
    obtain ⟨b, hb, _⟩ := uI Tryz.underlying3 f1'
    obtain ⟨s, l, h1, h2⟩ := open_intsC (d := y2.1) (p := y2.2) f2'
    obtain ⟨t, m, h3, h4⟩ := open_blocksC (d := y3.1) (p := y3.2) f3'
    obtain ⟨e, he, _⟩ := uI Tryz.underlying3 f4'
    refine ⟨(a, b, s, t, e, ()), ⟨a, b, e, l, m⟩, ?_, ⟨rfl, rfl, h2, h4, rfl⟩⟩
    have : cs = cs.toList.toArray := by simp
    rw [this, hu]
    simp only [List.cons.injEq, and_true] at ha hb h1 h3 he
    rw [ha, hb, h1, h3, he]
end
end Jn
end Go.Proofs
