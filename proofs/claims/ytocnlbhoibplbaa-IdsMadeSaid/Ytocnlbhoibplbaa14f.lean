/-
  Contracts of the small functions that the statements of layer 14 reach; The set of bits that the program keeps (graph.bits): has, add; Contracts of slices.Reverse and of the walk in the depth (graph.walked and its closure); Contracts of graph.walked's closure, and of graph.walked; Contract of graph.walked; Rows that grow beside each other; contract of graph.Of.
-/
import Derived.Test.YtocnlbhoibplbaaGkN
import Derived.Test.YtocnlbhoibplbaaL14
import Derived.Test.Ytocnlbhoibplbaa14m
/-!
  Contracts of the small functions that the statements of layer 14 reach.
-/
namespace Go.Proofs
open Go.Gk Go.RowKit

theorem eInt : ElemT Try.prog 40 3 1 8 := ⟨by kernel_rfl, Try.t3, .int .i64 0, by kernel_rfl, rfl, rfl, rfl, rfl⟩

/-- The place of the first n, or -1. -/
def placeOf (l : List Int) (n : Int) : Int := match l.findIdx? (· == n) with | some i => i | none => -1
theorem Ints_spec {s t : Sl} {l m : List Int} {w : World} {R : Value → World → Prop} (hs : IsI w s l) (ht : IsI w t m) (hR : ∀ w', w'.heap = w.heap → Below w.heap.size w w' → R (.bool (decide (l = m))) w') :
    callR Try.prog 23 #[.slice s.a s.l s.c, .slice t.a t.l t.c] w R := by
  refine callR.of (intagliokit_Ints_calls s t R w ?_) fun _ _ h => h
  have e1 := hs.len
  have e2 := ht.len
  refine ifB_bne (fun hne => ?_) (fun he => ?_)
  · have : decide (l = m) = false := by
      rw [decide_eq_false_iff_not]; intro e; subst e; omega
    have := this ▸ hR w rfl (Below.refl _ _)
    exact this
  · have hlm : l.length = m.length := by omega
    refine LoopW.count l.length hs.bound (fun k w' => w'.heap = w.heap ∧ Below w.heap.size w w' ∧ l.take k = m.take k) ⟨rfl, Below.refl _ _, by simp⟩ ?_
    rintro k w' hk ⟨hh, hb, hI⟩ next hnext
    refine ifB_dec (fun hlt => ?_) (fun hge => ?_)
    · have hlt : k < l.length := by dsimp only at hlt; omega
      refine elemI (hs.heap (w' := w'.drew) hh) hlt (elemI (ht.heap (w' := w'.drew) hh) (by omega) (ifB_bne (fun hne => ?_) (fun he => ?_)))
      · have : decide (l = m) = false := by
          rw [decide_eq_false_iff_not]; intro e; subst e; exact hne rfl
        have := this ▸ hR w'.drew hh hb.drew
        exact this
      · exact hnext _ hlt ⟨hh, hb.drew, by rw [List.take_succ_eq_append_getElem hlt, List.take_succ_eq_append_getElem (by omega), hI, he]⟩
    · have : l = m := by
        have hk' : k = l.length := by dsimp only at hge; omega
        subst hk'
        rwa [List.take_length, hlm, List.take_length] at hI
      have := (decide_eq_true this) ▸ hR w' hh hb
      exact this

theorem Clone_spec {α : Type} {f : α → Value} {s : Sl} {l : List α} {w : World} {R : Value → World → Prop} (hf : ∀ x, (f x).oneCell' = true) (h : IsS f w s l) (hl : l.length * 8 ≤ 140737488355328)
    (hR : ∀ r w', Own w' 3 1 r (l.map f) → Fresh w.heap.size r → Below w.heap.size w w' → R (.slice r.a r.l r.c) w') :
    callR Try.prog 67 #[.slice s.a s.l s.c] w R := by
  refine callR.of (slices_Clone_sint_int_calls s R w ?_) fun _ _ h => h
  refine ifB_bool (fun hn => ?_) (fun hn => ?_)
  · have hn : s.a = none := by simpa using hn
    have hc := h.nil hn
    have : l = [] := List.eq_nil_of_length_eq_zero (by have := h.len; have := h.cap; omega)
    subst this
    exact hR ⟨none, 0, 0⟩ w (Own.nil _ _ _) (fun a ha => by cases ha) (Below.refl _ _)
  · obtain ⟨a, ha⟩ : ∃ a, s.a = some a := by
      cases hs : s.a with
      | none => rw [hs] at hn; cases hn
      | some a => exact ⟨a, rfl⟩
    refine Nw.gen fun w1 hw1 => ?_
    have hB : Blk w1 w.heap.size 3 [] := by rw [hw1]; exact Blk.new w 3 #[]
    have hb1 : Below w.heap.size w w1 := by rw [hw1]; exact (Below.refl _ _).alloc (Nat.le_refl _) _
    have hO : Own w1 3 1 ⟨some (blk w.heap.size), 0, 0⟩ [] := ⟨rfl, .inr ⟨_, [], rfl, hB, Nat.le_refl _, by simp, rfl, rfl⟩⟩
    have h' := h.below hb1
    rw [ha, h.len]
    refine append_own eInt hO (m := l.length) (news := l.map f) (by simp) (fun j u hj => ?_) (fun u hu => ?_) (by have := h.bound; simp; omega) (by simpa using hl) fun r w' h1 _ h3 => ?_
    · rw [List.getElem?_map] at hj
      obtain ⟨x, hx, rfl⟩ := Option.map_eq_some_iff.1 hj
      obtain ⟨hlt, rfl⟩ := List.getElem?_eq_some_iff.1 hx
      exact h'.cell a ha j hlt
    · obtain ⟨x, _, rfl⟩ := List.mem_map.1 hu
      exact hf x
    · rcases h3 with ⟨_, rfl, rfl⟩ | ⟨b, h4, h5, h6⟩
      · exact hR _ _ h1 (fun a ha => by cases ha; exact Nat.le_refl _) hb1
      · have hbb : w.heap.size ≤ b := by
          rcases h5 with h5 | h5
          · cases h5; exact Nat.le_refl _
          · have := hb1.size; omega
        refine hR _ _ h1 (fun a ha => by rw [h4] at ha; cases ha; exact hbb) (hb1.trans (below_grown h6 hbb hb1.size))

end Go.Proofs

/-!
  The set of bits that the program keeps (graph.bits): has, add.
-/
namespace Go.Proofs
open Go.Gk Go.RowKit

/-- 64 words at a hold the set S of numbers below 4096. -/
def Bits (w : World) (a : Addr) (S : Nat → Bool) : Prop :=
  a.spot = none ∧ ∀ j, j < 64 → ∃ x : Nat, x < 2 ^ 64 ∧ w.cell? (a.add j) = some (.int .u64 x) ∧ w.frozen? (a.add j) = false ∧ ∀ k, k < 64 → x.testBit k = S (64 * j + k)
theorem Bits.of_block {w w' : World} {a : Addr} {S : Nat → Bool} (h : Bits w a S) (hb : w'.heap[a.block]? = w.heap[a.block]?) : Bits w' a S := by
  refine ⟨h.1, fun j hj => ?_⟩
  obtain ⟨x, h1, h2, h3, h4⟩ := h.2 j hj
  refine ⟨x, h1, ?_, ?_, h4⟩
  · rw [World.cell?_of_block (w := w) (by rw [add_block]; exact hb)]; exact h2
  · rw [World.frozen?_of_block (w := w) (by rw [add_block]; exact hb)]; exact h3
theorem Bits.lt {w : World} {a : Addr} {S : Nat → Bool} (h : Bits w a S) : a.block < w.heap.size := by
  obtain ⟨x, _, h2, _⟩ := h.2 0 (by omega)
  have := World.block_lt_of_cell? w _ h2
  rwa [add_block] at this
theorem Bits.below {w w' : World} {a : Addr} {S : Nat → Bool} (h : Bits w a S) (hb : Below w.heap.size w w') : Bits w' a S := h.of_block (hb.block _ h.lt)
theorem Bits.new (w : World) (T : TypeId) : Bits (w.alloc (.cells (List.toArray (List.replicate 64 (.int .u64 (0 : Int)))) T)) (blk w.heap.size) fun _ => false := by
  have hB := Blk.new w T (List.toArray (List.replicate 64 (.int .u64 (0 : Int))))
  refine ⟨rfl, fun j hj => ⟨0, by decide, hB.cell ?_, hB.frozen j, fun k _ => by simp⟩⟩
  rw [List.getElem?_replicate, if_pos hj]
  rfl

theorem bit_has (x k : Nat) (hx : x < 2 ^ 64) (hk : k < 64) :
    ((IntKind.u64.wrap (BitVec.toNat (BitVec.ofInt (IntKind.bits .u64) (Int.fdiv (x : Int) (2 ^ (min k (IntKind.bits .u64)))) &&& BitVec.ofInt (IntKind.bits .u64) (1 : Int)) : Int)) == (1 : Int)) = x.testBit k := by
  have hb : IntKind.bits .u64 = 64 := rfl
  have hm : min k (IntKind.bits .u64) = k := by rw [hb]; omega
  rw [hm]
  have e1 : Int.fdiv (x : Int) (2 ^ k) = ((x / 2 ^ k : Nat) : Int) := by
    rw [show ((2 : Int) ^ k) = ((2 ^ k : Nat) : Int) by simp, Int.ofNat_fdiv]
  rw [e1]
  have e2 : (BitVec.ofInt (IntKind.bits .u64) ((x / 2 ^ k : Nat) : Int) &&& BitVec.ofInt (IntKind.bits .u64) (1 : Int)).toNat = x / 2 ^ k % 2 := by
    rw [BitVec.toNat_and, BitVec.ofInt_natCast, BitVec.toNat_ofNat, show (BitVec.ofInt (IntKind.bits .u64) (1 : Int)).toNat = 1 from rfl, Nat.and_one_is_mod, hb]
    have : x / 2 ^ k < 2 ^ 64 := Nat.lt_of_le_of_lt (Nat.div_le_self _ _) hx
    rw [Nat.mod_eq_of_lt this]
  rw [e2, IntKind.wrap_u64, Nat.testBit_eq_decide_div_mod_eq]
  rcases Nat.mod_two_eq_zero_or_one (x / 2 ^ k) with h | h <;> simp [h]
theorem bit_add (x k : Nat) (hx : x < 2 ^ 64) (hk : k < 64) :
    (IntKind.u64.wrap (BitVec.toNat (BitVec.ofInt (IntKind.bits .u64) (x : Int) ||| BitVec.ofInt (IntKind.bits .u64) (IntKind.u64.wrap ((1 : Int) * 2 ^ (min k (IntKind.bits .u64))))) : Int)) = ((x ||| 2 ^ k : Nat) : Int) ∧ x ||| 2 ^ k < 2 ^ 64 := by
  have hb : IntKind.bits .u64 = 64 := rfl
  have hm : min k (IntKind.bits .u64) = k := by rw [hb]; omega
  rw [hm]
  have hp : 2 ^ k < 2 ^ 64 := Nat.pow_lt_pow_right (by omega) hk
  have e1 : IntKind.u64.wrap ((1 : Int) * 2 ^ k) = ((2 ^ k : Nat) : Int) := by
    rw [show (1 : Int) * 2 ^ k = ((2 ^ k : Nat) : Int) by simp, IntKind.wrap_u64]
    generalize 2 ^ k = p at hp
    omega
  have hlt : x ||| 2 ^ k < 2 ^ 64 := Nat.or_lt_two_pow hx hp
  refine ⟨?_, hlt⟩
  rw [e1, BitVec.toNat_or, BitVec.ofInt_natCast, BitVec.ofInt_natCast, BitVec.toNat_ofNat, BitVec.toNat_ofNat, hb, Nat.mod_eq_of_lt hx, Nat.mod_eq_of_lt hp, IntKind.wrap_u64]
  omega
theorem wrap_div (i : Nat) (hi : i < 4096) : IntKind.i64.wrap (Int.tdiv (i : Int) (64 : Int)) = ((i / 64 : Nat) : Int) := by
  have : Int.tdiv (i : Int) 64 = ((i / 64 : Nat) : Int) := by rw [Int.tdiv_eq_ediv_of_nonneg (by omega)]; omega
  rw [this, wrap64_in (by omega) (by omega)]
theorem tmod_64 (i : Nat) : Int.tmod (i : Int) 64 = ((i % 64 : Nat) : Int) := by
  rw [Int.tmod_eq_emod_of_nonneg (by omega)]; omega

theorem has_spec {a : Addr} {S : Nat → Bool} {i : Nat} (hi : i < 4096) {w : World} {R : Value → World → Prop} (h : Bits w a S) (hR : R (.bool (S i)) w) :
    callR Try.prog 63 #[.pointer (some a), .int .i64 i] w R := by
  refine callR.of (graph_bits_has_calls _ _ R w ?_) fun _ _ h => h
  unfold L_graph_bits_has
  obtain ⟨x, h1, h2, _, h4⟩ := h.2 (i / 64) (by omega)
  rw [wrap_div i hi, tmod_64]
  refine ⟨⟨by omega, by omega⟩, x, h2, ifB_dec (fun hlt => by omega) (fun _ => ?_)⟩
  rw [Int.toNat_natCast, bit_has x (i % 64) h1 (by omega), h4 _ (by omega), Nat.div_add_mod]
  exact hR

theorem add_spec {a : Addr} {S : Nat → Bool} {i : Nat} (hi : i < 4096) {w : World} {R : Value → World → Prop} (h : Bits w a S)
    (hR : ∀ x : Nat, Bits (w.drew.setCell (a.add (i / 64)) (.int .u64 x)) a (fun j => S j || j == i) → R (.tuple #[]) (w.drew.setCell (a.add (i / 64)) (.int .u64 x))) :
    callR Try.prog 64 #[.pointer (some a), .int .i64 i] w R := by
  refine callR.of (graph_bits_add_calls _ _ R w ?_) fun _ _ h => h
  unfold L_graph_bits_add
  obtain ⟨x, h1, h2, h3, h4⟩ := h.2 (i / 64) (by omega)
  rw [wrap_div i hi, tmod_64]
  refine ⟨⟨by omega, by omega⟩, x, h2, ifB_dec (fun hlt => by omega) (fun _ => ?_)⟩
  refine ⟨⟨by omega, by omega⟩, ⟨⟨_, h2⟩, h3⟩, Nw.mk ?_⟩
  obtain ⟨e1, e2⟩ := bit_add x (i % 64) h1 (by omega)
  rw [Int.toNat_natCast, Int.toNat_natCast, e1]
  refine hR _ ⟨h.1, fun j hj => ?_⟩
  have hblk : (a.add j).block = (a.add (i / 64)).block := by rw [add_block, add_block]
  have hfz : ∀ v, (w.drew.setCell (a.add (i / 64)) v).frozen? (a.add j) = w.frozen? (a.add j) := fun v => by simp
  by_cases hj' : j = i / 64
  · subst hj'
    refine ⟨x ||| 2 ^ (i % 64), e2, ?_, by rw [hfz]; exact h3, fun k hk => ?_⟩
    · exact World.cell?_setCell_same _ _ _ (by exact h2)
    · rw [Nat.testBit_or, h4 k hk, Nat.testBit_two_pow]
      congr 1
      have := Nat.div_add_mod i 64
      by_cases hki : i % 64 = k
      · simp [hki]; omega
      · simp [hki]; omega
  · obtain ⟨y, g1, g2, g3, g4⟩ := h.2 j hj
    refine ⟨y, g1, ?_, by rw [hfz]; exact g3, fun k hk => ?_⟩
    · rw [World.cell?_setCell_other]
      · exact g2
      · have hs := h.1
        obtain ⟨ab, ao, asp⟩ := a
        simp only at hs
        subst hs
        unfold Addr.add
        split <;> split <;> simp <;> omega
    · rw [g4 k hk]
      have : (64 * j + k == i) = false := by simp; omega
      simp [this]

end Go.Proofs

/-!
  Contracts of slices.Reverse and of the walk in the depth (graph.walked and its closure).
-/
namespace Go.Proofs
open Go.Gk Go.RowKit Go.Gr

/-- The cell of a node's number. -/
abbrev iN (x : Nat) : Value := .int .i64 (x : Int)
abbrev IsN (w : World) (s : Sl) (l : List Nat) : Prop := IsS iN w s l
theorem iN_one (x : Nat) : (iN x).oneCell' = true := rfl
theorem elemN {w : World} {s : Sl} {l : List Nat} (h : IsN w s l) {k : Nat} (hk : k < l.length) {φ : Int → Prop} (hφ : φ (l[k] : Int)) :
    (0 ≤ (k : Int) ∧ (k : Int) < (s.l : Int)) ∧ derefP s.a fun a => ldI w (a.add (Int.toNat (k : Int))) .i64 φ :=
  h.addr hk fun a _ hc => ⟨(l[k] : Int), hc, hφ⟩
/-- Below block B nothing has turned but the blocks X. -/
structure Fr (B : Nat) (X : Nat → Prop) (w w' : World) : Prop where
  os : w'.os = w.os
  tape : w'.tape = w.tape
  output : w'.output = w.output
  size : w.heap.size ≤ w'.heap.size
  block : ∀ k, k < B → ¬ X k → w'.heap[k]? = w.heap[k]?
theorem Fr.refl (B : Nat) (X : Nat → Prop) (w : World) : Fr B X w w := ⟨rfl, rfl, rfl, Nat.le_refl _, fun _ _ _ => rfl⟩
theorem Fr.trans {B : Nat} {X : Nat → Prop} {a b c : World} (h : Fr B X a b) (k : Fr B X b c) : Fr B X a c :=
  ⟨k.os.trans h.os, k.tape.trans h.tape, k.output.trans h.output, Nat.le_trans h.size k.size, fun i hi hx => (k.block i hi hx).trans (h.block i hi hx)⟩
theorem Fr.of_below {B : Nat} {X : Nat → Prop} {w w' : World} (h : Below B w w') : Fr B X w w' := ⟨h.os, h.tape, h.output, h.size, fun k hk _ => h.block k hk⟩
theorem Fr.set {B : Nat} {X : Nat → Prop} {w w' : World} (h : Fr B X w w') {a : Addr} (ha : B ≤ a.block ∨ X a.block) (v : Value) : Fr B X w (w'.setCell a v) :=
  h.trans ⟨rfl, rfl, rfl, by simp [World.setCell], fun k hk hx => Below.heap_setCell _ _ _ _ (fun e => by
    rcases ha with ha | ha
    · omega
    · exact hx (e ▸ ha))⟩
theorem Fr.drew {B : Nat} {X : Nat → Prop} {w w' : World} (h : Fr B X w w') : Fr B X w w'.drew := h.trans ⟨rfl, rfl, rfl, Nat.le_refl _, fun _ _ _ => rfl⟩
theorem Fr.alloc {B : Nat} {X : Nat → Prop} {w w' : World} (h : Fr B X w w') (hB : B ≤ w'.heap.size) (o : Obj) : Fr B X w (w'.alloc o) :=
  h.trans (Fr.of_below ((Below.refl _ _).alloc hB o))
theorem Fr.grown {B : Nat} {X : Nat → Prop} {w w' w'' : World} (h : Fr B X w w') {b : Nat} (hg : w'.grownBy w'' (some b)) (hb : B ≤ b) (hB : B ≤ w'.heap.size) : Fr B X w w'' :=
  h.trans (Fr.of_below (below_grown hg hb hB))
theorem Fr.below {B : Nat} {w w' : World} (h : Fr B (fun _ => False) w w') : Below B w w' := ⟨h.os, h.tape, h.output, h.size, fun k hk => h.block k hk id⟩
theorem Fr.mono {B B' : Nat} {X X' : Nat → Prop} {w w' : World} (h : Fr B X w w') (hB : B' ≤ B) (hX : ∀ k, k < B' → X k → X' k) : Fr B' X' w w' :=
  ⟨h.os, h.tape, h.output, h.size, fun k hk hx => h.block k (by omega) (fun hh => hx (hX k hk hh))⟩

theorem Reverse_spec {s : Sl} {l : List Nat} {w : World} {R : Value → World → Prop} (h : Own w 3 1 s (l.map iN))
    (hR : ∀ w', Own w' 3 1 s (l.reverse.map iN) → Only s w w' → R (.tuple #[]) w') :
    callR Try.prog 89 #[.slice s.a s.l s.c] w R := by
  refine callR.of (slices_Reverse_sint_int_calls s R w ?_) fun _ _ h => h
  have hlen : s.l = l.length := by have := h.1; simp at this; omega
  have hbd := h.isS.bound
  unfold L_slices_Reverse_sint_int
  rw [hlen, wrap64_in (by omega) (by omega)]
  -- behind i rounds the first i and the last i stand turned
  let M : Nat → List Nat := fun i => (List.range l.length).map fun k => if k < i ∨ l.length ≤ k + i then l.getD (l.length - 1 - k) 0 else l.getD k 0
  have hM0 : M 0 = l := by
    apply List.ext_getElem
    · simp [M]
    · intro k h1 h2
      have h2' : ¬ l.length ≤ k := by omega
      simp [M, h2', h2]
  refine LoopW.ghost (fun j st w' => ∃ i : Nat, 2 * i ≤ l.length + 1 ∧ j = l.length + 1 - i ∧ st = ((i : Int), (l.length : Int) - 1 - i, ()) ∧ Only s w w' ∧ Own w' 3 1 s ((M i).map iN)) _ ⟨0, by omega, rfl, by simp, Only.refl _ _, by rw [hM0]; exact h⟩ ?_
  rintro _ _ w' ⟨i, hi, rfl, rfl, hO, hX⟩ next hnext
  refine ifB_dec (fun hlt => ?_) (fun hge => ?_)
  · have hlt : 2 * i + 1 < l.length := by dsimp only at hlt; omega
    have hj : (l.length : Int) - 1 - i = ((l.length - 1 - i : Nat) : Int) := by omega
    have hX' : Own w'.drew 3 1 s ((M i).map iN) := hX
    have hS := hX'.isS
    have hml : (M i).length = l.length := by simp [M]
    dsimp only
    rw [hj]
    have g1 : (M i)[l.length - 1 - i]'(by rw [hml]; omega) = l.getD (l.length - 1 - i) 0 := by
      simp only [M, List.getElem_map, List.getElem_range]
      rw [if_neg (by omega)]
    have g2 : (M i)[i]'(by rw [hml]; omega) = l.getD i 0 := by
      simp only [M, List.getElem_map, List.getElem_range]
      rw [if_neg (by omega)]
    rw [show (l.length : Int) = (s.l : Int) by omega]
    refine elemN hS (by rw [hml]; omega) (elemN hS (by rw [hml]; omega) ?_)
    rcases hX'.2 with e | ⟨b, cs, ha, hB, h1, h2, h3, h4⟩
    · rw [e] at hlen; simp at hlen; omega
    · refine ⟨⟨by omega, by omega⟩, derefP_some ha ⟨hB.wr (n := i) (by omega), Nw.mk ?_⟩⟩
      have hB2 := hB.set i (iN ((M i)[l.length - 1 - i]'(by rw [hml]; omega)))
      refine ⟨⟨by omega, by omega⟩, derefP_some ha ⟨hB2.wr (n := l.length - 1 - i) (by rw [List.length_set]; omega), Nw.mk ?_⟩⟩
      have hB3 := hB2.set (l.length - 1 - i) (iN ((M i)[i]'(by rw [hml]; omega)))
      have e1 : IntKind.i64.wrap ((i : Int) + 1) = ((i + 1 : Nat) : Int) := wrap64_succ (by omega)
      have e2 : IntKind.i64.wrap (((l.length - 1 - i : Nat) : Int) - 1) = (l.length : Int) - 1 - ((i + 1 : Nat) : Int) := by rw [wrap64_in (by omega) (by omega)]; omega
      rw [e1, e2]
      refine hnext (l.length + 1 - (i + 1)) _ _ (by omega) ⟨i + 1, by omega, rfl, rfl, (hO.drew.set ha _ _).set ha _ _, ?_⟩
      refine ⟨by simp [M, hlen], .inr ⟨b, _, ha, hB3, h1, h2, by simpa using h3, ?_⟩⟩
      have hcs : ∀ k, k < l.length → cs[k]? = some (iN (l.getD (if k < i ∨ l.length ≤ k + i then l.length - 1 - k else k) 0)) := by
        intro k hk
        have : (cs.take (s.l * 1))[k]? = cs[k]? := List.getElem?_take_of_lt (by omega)
        rw [← this, h4]
        simp only [M, List.getElem?_map, List.getElem?_range hk, Option.map_some]
        split <;> rfl
      apply List.ext_getElem?
      intro k
      by_cases hk : k < l.length
      · rw [List.getElem?_take_of_lt (by omega)]
        simp only [M, List.getElem?_map, List.getElem?_range hk, Option.map_some]
        by_cases k1 : k = l.length - 1 - i
        · subst k1
          rw [List.getElem?_set_self (by rw [List.length_set]; omega), g2, if_pos (by omega)]
          congr 3
          omega
        · rw [List.getElem?_set_ne (by omega)]
          by_cases k2 : k = i
          · subst k2
            rw [List.getElem?_set_self (by omega), g1, if_pos (by omega)]
          · rw [List.getElem?_set_ne (by omega), hcs k hk]
            by_cases k3 : k < i ∨ l.length ≤ k + i
            · rw [if_pos k3, if_pos (by omega)]
            · rw [if_neg k3, if_neg (by omega)]
      · rw [List.getElem?_eq_none (by simp; omega), List.getElem?_eq_none (by simp [M]; omega)]
  · have hge : l.length ≤ 2 * i + 1 := by dsimp only at hge; omega
    refine hR w' ?_ hO
    have : M i = l.reverse := by
      apply List.ext_getElem
      · simp [M]
      · intro k h1 h2
        have hk : k < l.length := by simpa using h2
        simp only [M, List.getElem_map, List.getElem_range, List.getElem_reverse]
        by_cases k3 : k < i ∨ l.length ≤ k + i
        · rw [if_pos k3]; simp [List.getD, show l.length - 1 - k < l.length by omega]
        · rw [if_neg k3]
          have : k = l.length - 1 - k := by omega
          simp only [List.getD, List.getElem?_eq_getElem hk, Option.getD_some]
          congr 1
    rw [← this]
    exact hX

end Go.Proofs

/-!
  Contracts of graph.walked's closure, and of graph.walked.
-/
namespace Go.Proofs
open Go.Gk Go.RowKit Go.Gr

/-- 64 words that hold the set S. -/
def BitsL (bs : List Value) (S : Nat → Bool) : Prop :=
  bs.length = 64 ∧ ∀ j, j < 64 → ∃ x : Nat, x < 2 ^ 64 ∧ bs[j]? = some (.int .u64 (x : Int)) ∧ ∀ k, k < 64 → x.testBit k = S (64 * j + k)
theorem BitsL.zero : BitsL (List.replicate 64 (.int .u64 (0 : Int))) fun _ => false :=
  ⟨List.length_replicate, fun j hj => ⟨0, by decide, by rw [List.getElem?_replicate, if_pos hj]; rfl, fun k _ => Nat.zero_testBit k⟩⟩
theorem BitsL.bits {w : World} {b : Nat} {T : TypeId} {v0 v1 v2 v3 : Value} {bs : List Value} {S : Nat → Bool} (h : Blk w b T (v0 :: v1 :: v2 :: v3 :: bs)) (hb : BitsL bs S) : Bits w ((blk b).add 4) S := by
  refine ⟨by rw [add_blk], fun j hj => ?_⟩
  obtain ⟨x, h1, h2, h3⟩ := hb.2 j hj
  rw [add_add _ _ _ rfl]
  refine ⟨x, h1, h.cell ?_, h.frozen _, h3⟩
  rw [show 4 + j = j + 1 + 1 + 1 + 1 by omega]
  simpa using h2
theorem Bits.list {w : World} {b : Nat} {T : TypeId} {v0 v1 v2 v3 : Value} {bs : List Value} {S : Nat → Bool} (h : Blk w b T (v0 :: v1 :: v2 :: v3 :: bs)) (hl : bs.length = 64) (hb : Bits w ((blk b).add 4) S) : BitsL bs S := by
  refine ⟨hl, fun j hj => ?_⟩
  obtain ⟨x, h1, h2, _, h3⟩ := hb.2 j hj
  rw [add_add _ _ _ rfl] at h2
  have hj' : bs[j]? = some bs[j] := List.getElem?_eq_getElem (by omega)
  have := h.cell (n := 4 + j) (v := bs[j]) (by rw [show 4 + j = j + 1 + 1 + 1 + 1 by omega]; exact hj')
  rw [h2] at this
  exact ⟨x, h1, by rw [hj', ← Option.some.inj this], h3⟩
theorem BitsL.congr {bs : List Value} {S S' : Nat → Bool} (h : BitsL bs S) (hs : ∀ i, S i = S' i) : BitsL bs S' :=
  ⟨h.1, fun j hj => let ⟨x, h1, h2, h3⟩ := h.2 j hj; ⟨x, h1, h2, fun k hk => by rw [h3 k hk, hs]⟩⟩

/-- Slices of slices whose elements are f's cells. -/
structure IsSS {α : Type} (f : α → Value) (w : World) (s : Sl) (hs : List Sl) (ll : List (List α)) : Prop where
  top : IsS Sl.val w s hs
  len : hs.length = ll.length
  row : ∀ (i : Nat) (h : i < hs.length) (h' : i < ll.length), IsS f w hs[i] ll[i]
abbrev IsNN (w : World) (s : Sl) (hs : List Sl) (ll : List (List Nat)) : Prop := IsSS iN w s hs ll
theorem IsSS.below {α : Type} {f : α → Value} {w w' : World} {s : Sl} {hs : List Sl} {ll : List (List α)} (h : IsSS f w s hs ll) (hb : Below w.heap.size w w') : IsSS f w' s hs ll :=
  ⟨h.top.below hb, h.len, fun i h1 h2 => (h.row i h1 h2).below hb⟩
/-- None of these blocks is b. -/
def Avoids (b : Nat) (s : Sl) (hs : List Sl) : Prop := (∀ a, s.a = some a → a.block ≠ b) ∧ ∀ (i : Nat) (h : i < hs.length) a, hs[i].a = some a → a.block ≠ b
theorem _root_.Go.Gk.IsS.fr {α : Type} {f : α → Value} {w w' : World} {s : Sl} {l : List α} (h : IsS f w s l) {B b : Nat} (hb : Fr B (· = b) w w') (hB : w.heap.size ≤ B) (hn : ∀ a, s.a = some a → a.block ≠ b) : IsS f w' s l :=
  h.of_block fun a ha hlt => hb.block _ (by omega) (hn a ha)
theorem IsSS.fr {α : Type} {f : α → Value} {w w' : World} {s : Sl} {hs : List Sl} {ll : List (List α)} (h : IsSS f w s hs ll) {B b : Nat} (hb : Fr B (· = b) w w') (hB : w.heap.size ≤ B) (hn : Avoids b s hs) : IsSS f w' s hs ll :=
  ⟨h.top.fr hb hB hn.1, h.len, fun i h1 h2 => (h.row i h1 h2).fr hb hB (hn.2 i h1)⟩

/-- The graph's block. -/
abbrev gCells (sn sa wk od : Sl) (bs : List Value) : List Value := sn.val :: sa.val :: wk.val :: od.val :: bs
/-- What holds while the walk is under way: of what lay when it began the graph's block alone has turned. -/
structure CS (w1 : World) (B gb : Nat) (sn sa : Sl) (w : World) (s : List Nat × List Nat) : Prop where
  fr : Fr B (· = gb) w1 w
  st : ∃ wk od bs, Blk w gb 102 (gCells sn sa wk od bs) ∧ BitsL bs (fun i => s.1.contains i) ∧ Own w 3 1 wk (s.1.map iN) ∧ Own w 3 1 od (s.2.map iN) ∧
    Fresh B wk ∧ Fresh B od ∧ ∀ a b, wk.a = some a → od.a = some b → a.block ≠ b.block

/-- What holds from the walk's beginning on. -/
structure CW (w1 : World) (B b0 b1 gb : Nat) (sn : Sl) (hs : List Sl) (nx : List (List Nat)) : Prop where
  size : w1.heap.size = B
  gblt : gb < B
  box0 : Blk w1 b0 63 [.pointer (some (blk gb))]
  box1 : Blk w1 b1 103 [.func (.func 88) #[] #[.pointer (some (blk b0)), .pointer (some (blk b1))]]
  ne0 : b0 ≠ gb
  ne1 : b1 ≠ gb
  next : IsNN w1 sn hs nx
  avoid : Avoids gb sn hs
  max : nx.length ≤ 4096
  rows : ∀ i, ∀ t ∈ nx.getD i [], t < nx.length

theorem own_len {w : World} {s : Sl} {l : List Nat} (h : Own w 3 1 s (l.map iN)) : s.l = l.length := by have := h.1; simp at this; omega
theorem own_ne {w : World} {s : Sl} {xs : List Value} (h : Own w 3 1 s xs) {b : Nat} {T : TypeId} {cs : List Value} (hB : Blk w b T cs) (hT : T ≠ 3) {a : Addr} (ha : s.a = some a) : a.block ≠ b := by
  intro e
  obtain ⟨cs', hB'⟩ := h.type ha
  rw [e] at hB'
  exact hT (hB.type hB')

set_option maxHeartbeats 1000000 in
theorem come_spec {w1 : World} {B b0 b1 gb : Nat} {sn sa : Sl} {hs : List Sl} {nx : List (List Nat)} (cw : CW w1 B b0 b1 gb sn hs nx) :
    ∀ (f i : Nat) (s : List Nat × List Nat) (w : World) (R : Value → World → Prop), i < nx.length → i ∉ s.1 → s.1.Nodup → (∀ x ∈ s.1, x < nx.length) → nx.length ≤ s.1.length + f → s.2.length ≤ s.1.length →
      CS w1 B gb sn sa w s → (∀ w', CS w1 B gb sn sa w' (visit nx f i s) → (visit nx f i s).2.length ≤ (visit nx f i s).1.length → R (.tuple #[]) w') →
      callR Try.prog 88 #[.int .i64 (i : Int), .pointer (some (blk b0)), .pointer (some (blk b1))] w R := by
  intro f
  induction f with
  | zero =>
    intro i s w R hi hni hnd hlt hf
    have := nodup_lt hnd hlt hi hni
    omega
  | succ f ih =>
    intro i s w R hi hni hnd hlt hf h2l hcs hR
    have hmax := cw.max
    have hslt := nodup_lt hnd hlt hi hni
    refine callR.of (graph_Graph_walked_1_calls (i : Int) (blk b0) (blk b1) R w ?_) fun _ _ h => h
    -- what is read of the boxes and the edges, whatever the walk has done
    have box0 : ∀ {w' : World}, Fr B (· = gb) w1 w' → Blk w' b0 63 [.pointer (some (blk gb))] := fun hf => cw.box0.of_block (hf.block _ (by have := cw.box0.lt; have := cw.size; omega) cw.ne0)
    have box1 : ∀ {w' : World}, Fr B (· = gb) w1 w' → Blk w' b1 103 [.func (.func 88) #[] #[.pointer (some (blk b0)), .pointer (some (blk b1))]] := fun hf => cw.box1.of_block (hf.block _ (by have := cw.box1.lt; have := cw.size; omega) cw.ne1)
    have next : ∀ {w' : World}, Fr B (· = gb) w1 w' → IsNN w' sn hs nx := fun hf => cw.next.fr hf (by rw [cw.size]; exact Nat.le_refl _) cw.avoid
    obtain ⟨hfr, wk, od, bs, hG, hbits, hwk, hod, hfw, hfo, hap⟩ := hcs
    have hBsz : ∀ {w' : World}, Fr B (· = gb) w1 w' → B ≤ w'.heap.size := fun hf => by have := hf.size; have := cw.size; omega
    refine ⟨some (blk gb), (box0 hfr).cell0 rfl, ?_⟩
    refine add_spec (S := fun i => s.1.contains i) (i := i) (by omega) (hbits.bits hG) fun x hx => ⟨rfl, ?_⟩
    -- the bit is set
    generalize hw2 : w.drew.setCell (((blk gb).add 4).add (i / 64)) (.int .u64 (x : Int)) = w2 at hx ⊢
    have hG2 : Blk w2 gb 102 (gCells sn sa wk od (bs.set (i / 64) (.int .u64 (x : Int)))) := by
      rw [← hw2, add_add _ _ _ rfl]
      have := (hG.drew).set (4 + i / 64) (.int .u64 (x : Int))
      rw [show 4 + i / 64 = i / 64 + 1 + 1 + 1 + 1 by omega] at this ⊢
      exact this
    have hfr2 : Fr B (· = gb) w1 w2 := by rw [← hw2]; exact hfr.drew.set (.inr (by rw [add_block, add_block])) _
    have hb2 := Bits.list hG2 (by rw [List.length_set]; exact hbits.1) hx
    have stay : ∀ {sl : Sl} {xs : List Value}, Own w 3 1 sl xs → Own w2 3 1 sl xs := fun h => h.of_block fun a ha => by
      rw [← hw2]; exact Below.heap_setCell _ _ _ _ (by rw [add_block, add_block]; exact own_ne h hG (by decide) ha)
    have hwk2 := stay hwk
    have hod2 := stay hod
    clear hw2 stay hG hbits hwk hod hx
    generalize bs.set (i / 64) (.int .u64 (x : Int)) = bs2 at hG2 hb2
    -- i is appended to the walk
    refine ⟨some (blk gb), (box0 hfr2).cell0 rfl, ⟨some (blk gb), (box0 hfr2).cell0 rfl, wk, hG2.cell rfl, Nw.gen fun w3 hw3 => ?_⟩⟩
    have hG3 : Blk w3 gb 102 (gCells sn sa wk od bs2) := by rw [hw3]; exact hG2.drew.alloc _
    have hfr3 : Fr B (· = gb) w1 w3 := by rw [hw3]; exact hfr2.drew.alloc (hBsz hfr2.drew) _
    have ht3 : Blk w3 w2.drew.heap.size 3 [iN i] := by rw [hw3]; exact Blk.new w2.drew 3 #[iN i]
    have hwk3 : Own w3 3 1 wk (s.1.map iN) := by rw [hw3]; exact hwk2.drew.alloc _
    have hod3 : Own w3 3 1 od (s.2.map iN) := by rw [hw3]; exact hod2.drew.alloc _
    have hsz3 : w3.heap.size = w2.heap.size + 1 := by rw [hw3]; simp
    refine ⟨hG3.cell rfl, (box0 hfr3).cell0 rfl, (box0 hfr3).cell0 rfl, ?_⟩
    have hwl := own_len hwk3
    refine append_one eInt hwk3 rfl ht3 (by omega) (by omega) fun r w4 hr hrl ⟨b, hrb, hbo, hg⟩ => ?_
    have hbB : B ≤ b := by
      rcases hbo with hb | rfl
      · exact hfw _ hb
      · exact hBsz hfr3
    have hfr4 : Fr B (· = gb) w1 w4 := hfr3.grown hg hbB (hBsz hfr3)
    have hbgb : gb ≠ b := by have := cw.gblt; omega
    have hG4 : Blk w4 gb 102 (gCells sn sa wk od bs2) := hG3.of_block (hg.block gb hG3.lt (fun e => hbgb (Option.some.inj e)))
    have hodne : ∀ a, od.a = some a → a.block ≠ b := fun a ha e => by
      rcases hbo with hb | hb
      · exact hap _ _ hb ha e.symm
      · have := (hod3.lt ha).2; omega
    have hod4 : Own w4 3 1 od (s.2.map iN) := hod3.of_block fun a ha => hg.block _ (hod3.lt ha).2 (fun e => hodne a ha (Option.some.inj e))
    refine ⟨(box0 hfr4).cell0 rfl, hG4.wr (by simp), Nw.gen fun w5 hw5 => ?_⟩
    have hG5 : Blk w5 gb 102 (gCells sn sa r od bs2) := by rw [hw5]; exact hG4.set 2 _
    have hfr5 : Fr B (· = gb) w1 w5 := by rw [hw5]; exact hfr4.set (.inr (by rw [add_block])) _
    have stay5 : ∀ {sl : Sl} {xs : List Value}, Own w4 3 1 sl xs → Own w5 3 1 sl xs := fun h => h.of_block fun a ha => by
      rw [hw5]; exact Below.heap_setCell _ _ _ _ (by rw [add_block]; exact own_ne h hG4 (by decide) ha)
    have hcs5 : CS w1 B gb sn sa w5 (s.1 ++ [i], s.2) := by
      refine ⟨hfr5, r, od, bs2, hG5, hb2.congr fun j => ?_, ?_, stay5 hod4, fun a ha => ?_, hfo, fun a c ha hc => ?_⟩
      · rw [Bool.eq_iff_iff]; simp
      · simpa using stay5 hr
      · rw [hrb] at ha; cases ha; exact hbB
      · rw [hrb] at ha; cases ha; exact (hodne c hc).symm
    clear hw3 hG3 hfr3 ht3 hwk3 hod3 hsz3 hG4 hod4 hw5 stay5 hr hg hG2 hb2 hwk2 hod2 hfr2 hfr4 hfr
    -- the edges
    refine ⟨some (blk gb), (box0 hfr5).cell0 rfl, sn, hG5.cell0 rfl, ?_⟩
    have hnx5 := next hfr5
    have hlen : hs.length = nx.length := hnx5.len
    refine elemS hnx5.top (k := i) (by omega) ?_
    clear hG5 hnx5
    have hrow : ∀ {w' : World}, Fr B (· = gb) w1 w' → IsN w' (hs[i]'(by omega)) (nx.getD i []) := fun hf => by
      have := (next hf).row i (by omega) hi
      simpa [List.getD, hi] using this
    generalize hrl' : nx.getD i [] = row at hrow
    have hrt : ∀ t ∈ row, t < nx.length := fun t ht => cw.rows i t (by rw [hrl']; exact ht)
    have hrn : (hs[i]'(by omega)).l = row.length := (hrow hfr5).len
    have base : Came nx.length s (s.1 ++ [i], s.2) := ⟨by
        rw [List.nodup_append]
        exact ⟨hnd, by simp, fun x hx y hy => by simp at hy; subst hy; intro e; subst e; exact hni hx⟩, fun x hx => by
        simp at hx
        rcases hx with hx | rfl
        · exact hlt x hx
        · exact hi, [i], rfl⟩
    have rowsOk : ∀ i, ∀ t ∈ nx.getD i [], t < nx.length := cw.rows
    refine LoopW.count row.length (hrow hfr5).bound (fun k w' => CS w1 B gb sn sa w' (visitAll nx f (row.take k) (s.1 ++ [i], s.2)) ∧ Came nx.length (s.1 ++ [i], s.2) (visitAll nx f (row.take k) (s.1 ++ [i], s.2)) ∧
      (visitAll nx f (row.take k) (s.1 ++ [i], s.2)).2.length < (visitAll nx f (row.take k) (s.1 ++ [i], s.2)).1.length) ⟨by simpa [visitAll] using hcs5, ?_, by simp [visitAll]; omega⟩ ?_
    · simp only [List.take_zero]
      exact ⟨base.nodup, base.lt, [], by simp [visitAll]⟩
    rintro k w6 hk ⟨hcs6, hcame, hlen6⟩ nxt hnext
    generalize hst : visitAll nx f (row.take k) (s.1 ++ [i], s.2) = st at hcs6 hcame hlen6
    refine ifB_dec (fun hlt6 => ?_) (fun hge => ?_)
    · have hlt6 : k < row.length := by dsimp only at hlt6; omega
      have hsnoc : visitAll nx f (row.take (k + 1)) (s.1 ++ [i], s.2) = if st.1.contains row[k] then st else visit nx f row[k] st := by
        rw [List.take_succ_eq_append_getElem hlt6, visitAll_snoc, hst]
      refine JoinW.cut (fun _ w' => CS w1 B gb sn sa w' (visitAll nx f (row.take (k + 1)) (s.1 ++ [i], s.2)) ∧ Came nx.length (s.1 ++ [i], s.2) (visitAll nx f (row.take (k + 1)) (s.1 ++ [i], s.2)) ∧
        (visitAll nx f (row.take (k + 1)) (s.1 ++ [i], s.2)).2.length < (visitAll nx f (row.take (k + 1)) (s.1 ++ [i], s.2)).1.length) ?_ fun _ w' h => hnext w' hlt6 h
      have hfr6 := hcs6.fr
      obtain ⟨wk6, od6, bs6, hG6, hb6, _⟩ := hcs6.st
      refine elemN (hrow hfr6) hlt6 ⟨some (blk gb), (box0 hfr6).cell0 rfl, ?_⟩
      have hrk := hrt row[k] (List.getElem_mem hlt6)
      refine has_spec (S := fun i => st.1.contains i) (i := row[k]) (by omega) (hb6.bits hG6) ⟨_, rfl, ?_⟩
      rw [hsnoc]
      cases hc : st.1.contains row[k] with
      | true => exact ⟨hcs6, hcame, hlen6⟩
      | false =>
        have hnm : row[k] ∉ st.1 := by simpa using hc
        refine ⟨_, (box1 hfr6).cell0 rfl, ?_⟩
        have hmore : st.1.length ≥ (s.1 ++ [i]).length := by obtain ⟨l, e⟩ := hcame.more; rw [e]; simp
        have hvc := visit_came rowsOk f row[k] st hrk hcame.nodup hcame.lt hnm
        have := ih row[k] st w6 (fun v w' => v = .tuple #[] ∧ CS w1 B gb sn sa w' (visit nx f row[k] st) ∧ Came nx.length (s.1 ++ [i], s.2) (visit nx f row[k] st) ∧ (visit nx f row[k] st).2.length < (visit nx f row[k] st).1.length)
          hrk hnm hcame.nodup hcame.lt (by simp at hmore; omega) (by omega) hcs6 (fun w' h _ => ⟨rfl, h, ?_, ?_⟩)
        · exact this
        · obtain ⟨l1, e1⟩ := hcame.more
          obtain ⟨l2, e2⟩ := hvc.more
          exact ⟨hvc.nodup, hvc.lt, l1 ++ l2, by rw [e2, e1, List.append_assoc]⟩
        · have := visit_len nx f row[k] st
          omega
    · -- i is left
      have hkk : k = row.length := by dsimp only at hge; omega
      subst hkk
      rw [List.take_length] at hst
      have hvis : visit nx (f + 1) i s = (st.1, st.2 ++ [i]) := by rw [visit_succ, hrl', hst]
      rw [hvis] at hR
      clear hst
      obtain ⟨hfr6, wk6, od6, bs6, hG6, hb6, hwk6, hod6, hfw6, hfo6, hap6⟩ := hcs6
      refine ⟨some (blk gb), (box0 hfr6.drew).cell0 rfl, some (blk gb), (box0 hfr6.drew).cell0 rfl, od6, hG6.drew.cell rfl, Nw.gen fun w7 hw7 => ?_⟩
      have hG7 : Blk w7 gb 102 (gCells sn sa wk6 od6 bs6) := by rw [hw7]; exact hG6.drew.alloc _
      have hfr7 : Fr B (· = gb) w1 w7 := by rw [hw7]; exact hfr6.drew.alloc (hBsz hfr6.drew) _
      have ht7 : Blk w7 w6.drew.heap.size 3 [iN i] := by rw [hw7]; exact Blk.new w6.drew 3 #[iN i]
      have hwk7 : Own w7 3 1 wk6 (st.1.map iN) := by rw [hw7]; exact hwk6.drew.alloc _
      have hod7 : Own w7 3 1 od6 (st.2.map iN) := by rw [hw7]; exact hod6.drew.alloc _
      refine ⟨hG7.cell rfl, (box0 hfr7).cell0 rfl, (box0 hfr7).cell0 rfl, ?_⟩
      have hwl := own_len hod7
      have hsl := nodup_le hcame.nodup hcame.lt
      refine append_one eInt hod7 rfl ht7 (by omega) (by omega) fun r w8 hr hrl ⟨b, hrb, hbo, hg⟩ => ?_
      have hbB : B ≤ b := by
        rcases hbo with hb | rfl
        · exact hfo6 _ hb
        · exact hBsz hfr7
      have hfr8 : Fr B (· = gb) w1 w8 := hfr7.grown hg hbB (hBsz hfr7)
      have hbgb : gb ≠ b := by have := cw.gblt; omega
      have hG8 : Blk w8 gb 102 (gCells sn sa wk6 od6 bs6) := hG7.of_block (hg.block gb hG7.lt (fun e => hbgb (Option.some.inj e)))
      have hwkne : ∀ a, wk6.a = some a → a.block ≠ b := fun a ha e => by
        rcases hbo with hb | hb
        · exact hap6 _ _ ha hb e
        · have := (hwk7.lt ha).2; omega
      have hwk8 : Own w8 3 1 wk6 (st.1.map iN) := hwk7.of_block fun a ha => hg.block _ (hwk7.lt ha).2 (fun e => hwkne a ha (Option.some.inj e))
      refine ⟨(box0 hfr8).cell0 rfl, hG8.wr (by simp), Nw.gen fun w9 hw9 => ?_⟩
      have hG9 : Blk w9 gb 102 (gCells sn sa wk6 r bs6) := by rw [hw9]; exact hG8.set 3 _
      have hfr9 : Fr B (· = gb) w1 w9 := by rw [hw9]; exact hfr8.set (.inr (by rw [add_block])) _
      have stay9 : ∀ {sl : Sl} {xs : List Value}, Own w8 3 1 sl xs → Own w9 3 1 sl xs := fun h => h.of_block fun a ha => by
        rw [hw9]; exact Below.heap_setCell _ _ _ _ (by rw [add_block]; exact own_ne h hG8 (by decide) ha)
      refine hR w9 ⟨hfr9, wk6, r, bs6, hG9, hb6, stay9 hwk8, by simpa using stay9 hr, hfw6, fun a ha => ?_, fun a c ha hc => ?_⟩ (by simp; omega)
      · rw [hrb] at ha; cases ha; exact hbB
      · rw [hrb] at hc; cases hc; exact hwkne a ha

end Go.Proofs

/-!
  Contract of graph.walked.
-/
namespace Go.Proofs
open Go.Gk Go.RowKit Go.Gr

theorem fr_only {B : Nat} {X : Nat → Prop} {w w' w'' : World} {s : Sl} (h : Fr B X w w') (ho : Only s w' w'') (hs : Fresh B s) : Fr B X w w'' := h.trans (Fr.of_below (ho.below hs))

theorem walked_spec {gb : Nat} {sn sa : Sl} {hs : List Sl} {nx : List (List Nat)} {w : World} {R : Value → World → Prop}
    (hG : Blk w gb 102 (gCells sn sa ⟨none, 0, 0⟩ ⟨none, 0, 0⟩ (List.replicate 64 (.int .u64 (0 : Int))))) (hnx : IsNN w sn hs nx) (hav : Avoids gb sn hs)
    (h0 : 0 < nx.length) (hmax : nx.length ≤ 4096) (hrows : ∀ i, ∀ t ∈ nx.getD i [], t < nx.length)
    (hR : ∀ w' wk od bs, Fr w.heap.size (· = gb) w w' → Blk w' gb 102 (gCells sn sa wk od bs) → BitsL bs (fun i => (walkOf nx).contains i) → Own w' 3 1 wk ((walkOf nx).map iN) →
      Own w' 3 1 od ((orderOf nx).map iN) → Fresh w.heap.size wk → Fresh w.heap.size od → R (.tuple #[]) w') :
    callR Try.prog 65 #[.pointer (some (blk gb))] w R := by
  refine callR.of (graph_Graph_walked_calls _ R w ?_) fun _ _ h => h
  have hgl := hG.lt
  refine Nw.gen fun w1 hw1 => Nw.gen fun w2 hw2 => ?_
  have hz1 : w1.heap.size = w.heap.size + 1 := by rw [hw1]; simp
  have hB0 : Blk w2 w.heap.size 63 [.pointer (some (blk gb))] := by rw [hw2, hw1]; exact (Blk.new w _ #[_]).alloc _
  have hB1 : Blk w2 w1.heap.size 103 [.nilFunc] := by rw [hw2]; exact Blk.new w1 _ #[_]
  have hb2 : Below w.heap.size w w2 := by rw [hw2, hw1]; exact ((Below.refl _ _).alloc (Nat.le_refl _) _).alloc (by simp) _
  have hz2 : w2.heap.size = w.heap.size + 2 := by rw [hw2, hw1]; simp
  refine ⟨hB1.wr0 (by simp), Nw.gen fun w3 hw3 => ?_⟩
  have hz3 : w3.heap.size = w.heap.size + 2 := by rw [hw3]; simpa [World.setCell] using hz2
  have hb3 : Below w.heap.size w w3 := by rw [hw3]; exact hb2.setCell (by simp; omega) _
  have hB0' : Blk w3 w.heap.size 63 [.pointer (some (blk gb))] := by rw [hw3]; exact hB0.other (by simp; omega) _
  have hB1' : Blk w3 w1.heap.size 103 [.func (.func 88) #[] #[.pointer (some (blk w.heap.size)), .pointer (some (blk w1.heap.size))]] := by rw [hw3]; exact hB1.set0 _
  have hG3 := hG.below hb3
  have cw : CW w3 w3.heap.size w.heap.size w1.heap.size gb sn hs nx :=
    ⟨rfl, by omega, hB0', hB1', by omega, by omega, hnx.below hb3, hav, hmax, hrows⟩
  refine ⟨_, hB1'.cell0 rfl, ?_⟩
  have cs : CS w3 w3.heap.size gb sn sa w3 ([], []) :=
    ⟨Fr.refl _ _ _, ⟨none, 0, 0⟩, ⟨none, 0, 0⟩, _, hG3, BitsL.zero.congr (fun i => by simp), Own.nil _ _ _, Own.nil _ _ _, fun a h => (by cases h), fun a h => (by cases h), fun a b h => by cases h⟩
  refine come_spec cw nx.length 0 ([], []) w3 _ h0 (by simp) (by simp) (by simp) (by simp) (by simp) cs fun w4 hcs _ => ⟨rfl, ?_⟩
  obtain ⟨hfr, wk, od, bs, hG4, hbits, hwk, hod, hfw, hfo, hap⟩ := hcs
  have hB04 : Blk w4 w.heap.size 63 [.pointer (some (blk gb))] := hB0'.of_block (hfr.block _ (by omega) (by show ¬ w.heap.size = gb; omega))
  refine ⟨some (blk gb), hB04.cell0 rfl, od, hG4.cell rfl, ?_⟩
  refine Reverse_spec hod fun w5 hod5 honly => ⟨rfl, ?_⟩
  have hne : ∀ a, od.a = some a → a.block ≠ gb := fun a ha => own_ne hod hG4 (by decide) ha
  have hG5 := hG4.of_block (honly.block gb hne)
  have hwk5 : Own w5 3 1 wk ((visit nx nx.length 0 ([], [])).1.map iN) := hwk.of_block fun a ha => honly.block _ fun b hb => (hap a b ha hb).symm
  have hfr5 : Fr w3.heap.size (· = gb) w3 w5 := fr_only hfr honly hfo
  refine hR w5 wk od bs (Fr.trans (Fr.of_below hb3) (hfr5.mono (by omega) (fun _ _ h => h))) hG5 hbits hwk5 (by simpa [orderOf] using hod5) (fun a ha => ?_) (fun a ha => ?_)
  · have := hfw a ha; omega
  · have := hfo a ha; omega

end Go.Proofs

/-!
  Rows that grow beside each other; contract of graph.Of.
-/
namespace Go.Proofs
open Go.Gk Go.RowKit Go.Gr

/-- Block bh holds the headers hs of rows that the code itself grows; ow tells which block is whose. -/
structure Fam (B : Nat) (w : World) (bh : Nat) (hs : List Sl) (ll : List (List Nat)) (ow : Nat → Nat) (off : Nat) : Prop where
  head : Blk w bh 40 (hs.map Sl.val)
  len : hs.length = ll.length
  row : ∀ (i : Nat) (h : i < hs.length), Own w 3 1 hs[i] ((ll.getD i []).map iN)
  own : ∀ (i : Nat) (h : i < hs.length) a, hs[i].a = some a → ow a.block = off + i ∧ B ≤ a.block

def upd (ow : Nat → Nat) (b v : Nat) : Nat → Nat := fun k => if k = b then v else ow k

theorem Fam.ne {B : Nat} {w : World} {bh : Nat} {hs : List Sl} {ll : List (List Nat)} {ow : Nat → Nat} {off : Nat} (h : Fam B w bh hs ll ow off) {i : Nat} (hi : i < hs.length) {a : Addr} (ha : hs[i].a = some a) : a.block ≠ bh :=
  own_ne (h.row i hi) h.head (by decide) ha
/-- The other family, while a block that is none of its own is written or made. -/
theorem Fam.other {B : Nat} {w w' : World} {bh : Nat} {hs : List Sl} {ll : List (List Nat)} {ow : Nat → Nat} {off b v : Nat} (h : Fam B w bh hs ll ow off) (hg : w.grownBy w' (some b)) (hb : b ≠ bh)
    (hn : (∃ v', ow b = v' ∧ ∀ i, i < hs.length → v' ≠ off + i) ∨ b = w.heap.size) : Fam B w' bh hs ll (upd ow b v) off := by
  have hrow : ∀ (i : Nat) (hi : i < hs.length) a, hs[i].a = some a → a.block ≠ b := fun i hi a ha e => by
    rcases hn with ⟨v', h1, h2⟩ | h1
    · exact h2 i hi (by rw [← h1, ← e]; exact (h.own i hi a ha).1)
    · have := ((h.row i hi).lt ha).2; omega
  refine ⟨h.head.of_block (hg.block bh h.head.lt (fun e => hb (Option.some.inj e).symm)), h.len, fun i hi => (h.row i hi).of_block fun a ha => hg.block _ ((h.row i hi).lt ha).2 (fun e => hrow i hi a ha (Option.some.inj e)), fun i hi a ha => ?_⟩
  refine ⟨?_, (h.own i hi a ha).2⟩
  unfold upd
  rw [if_neg (hrow i hi a ha)]
  exact (h.own i hi a ha).1
/-- A store elsewhere. -/
theorem Fam.set_other {B : Nat} {w : World} {bh : Nat} {hs : List Sl} {ll : List (List Nat)} {ow : Nat → Nat} {off : Nat} (h : Fam B w bh hs ll ow off) {b : Nat} {T : TypeId} {cs : List Value} (hB : Blk w b T cs) (hb : b ≠ bh) (hT : T ≠ 3) (n : Nat) (v : Value) :
    Fam B (w.setCell ((blk b).add n) v) bh hs ll ow off := by
  refine ⟨h.head.other (by rw [add_block]; exact Ne.symm hb) v, h.len, fun i hi => (h.row i hi).of_block fun a ha => Below.heap_setCell _ _ _ _ (by rw [add_block]; exact own_ne (h.row i hi) hB hT ha), h.own⟩
theorem Fam.grown {B : Nat} {w w' : World} {bh : Nat} {hs : List Sl} {ll : List (List Nat)} {ow : Nat → Nat} {off : Nat} (h : Fam B w bh hs ll ow off) (hb : Below w.heap.size w w') : Fam B w' bh hs ll ow off :=
  ⟨h.head.below hb, h.len, fun i hi => (h.row i hi).below hb, h.own⟩
/-- The row i has grown by x, and its header is stored. -/
theorem Fam.push {B : Nat} {w w' : World} {bh : Nat} {hs : List Sl} {ll : List (List Nat)} {ow : Nat → Nat} {off : Nat} (h : Fam B w bh hs ll ow off) {i : Nat} (hi : i < hs.length) {r : Sl} {x b : Nat}
    (hr : Own w' 3 1 r ((ll.getD i []).map iN ++ [iN x])) (hrb : r.a = some (blk b)) (hbo : hs[i].a = some (blk b) ∨ b = w.heap.size) (hB : B ≤ b) (hg : w.grownBy w' (some b)) :
    Blk w' bh 40 (hs.map Sl.val) ∧ Fam B (w'.setCell ((blk bh).add i) r.val) bh (hs.set i r) (ll.set i (ll.getD i [] ++ [x])) (upd ow b (off + i)) off := by
  have hbne : b ≠ bh := by
    rcases hbo with hb | hb
    · exact h.ne hi hb
    · have := h.head.lt; omega
  have hH : Blk w' bh 40 (hs.map Sl.val) := h.head.of_block (hg.block bh h.head.lt (fun e => hbne (Option.some.inj e).symm))
  have hrow : ∀ (j : Nat) (hj : j < hs.length) a, j ≠ i → hs[j].a = some a → a.block ≠ b := fun j hj a hne ha e => by
    rcases hbo with hb | hb
    · have h1 := (h.own j hj a ha).1
      have h2 := (h.own i hi _ hb).1
      rw [e] at h1
      simp only at h2
      omega
    · have := ((h.row j hj).lt ha).2; omega
  have stay : ∀ {s : Sl} {xs : List Value}, Own w' 3 1 s xs → Own (w'.setCell ((blk bh).add i) r.val) 3 1 s xs := fun ho => ho.of_block fun a ha => Below.heap_setCell _ _ _ _ (by rw [add_block]; exact own_ne ho hH (by decide) ha)
  refine ⟨hH, ?_, by simp [h.len], fun j hj => ?_, fun j hj a ha => ?_⟩
  · have := hH.set i r.val
    rwa [← List.map_set] at this
  · have hj' : j < hs.length := by simpa using hj
    by_cases e : j = i
    · subst e
      have : (ll.set j (ll.getD j [] ++ [x])).getD j [] = ll.getD j [] ++ [x] := by simp [List.getD, show j < ll.length by have := h.len; omega]
      rw [List.getElem_set_self, this, List.map_append]
      exact stay hr
    · have : (ll.set i (ll.getD i [] ++ [x])).getD j [] = ll.getD j [] := by simp only [List.getD]; rw [List.getElem?_set_ne (by omega)]
      rw [List.getElem_set_ne (by omega), this]
      exact stay ((h.row j hj').of_block fun a ha => hg.block _ ((h.row j hj').lt ha).2 (fun e' => hrow j hj' a e ha (Option.some.inj e')))
  · have hj' : j < hs.length := by simpa using hj
    by_cases e : j = i
    · subst e
      rw [List.getElem_set_self, hrb] at ha
      cases ha
      exact ⟨by simp [upd], hB⟩
    · rw [List.getElem_set_ne (by omega)] at ha
      refine ⟨?_, (h.own j hj' a ha).2⟩
      unfold upd
      rw [if_neg (hrow j hj' a e ha)]
      exact (h.own j hj' a ha).1
theorem Fam.isSS {B : Nat} {w : World} {bh n : Nat} {hs : List Sl} {ll : List (List Nat)} {ow : Nat → Nat} {off : Nat} (h : Fam B w bh hs ll ow off) (hn : hs.length = n) (hm : n ≤ 9223372036854775807) : IsNN w ⟨some (blk bh), n, n⟩ hs ll :=
  ⟨h.head.isS rfl hn.symm (Nat.le_refl _) hm, h.len, fun i hi hi' => by
    have := (h.row i hi).isS
    simpa [List.getD, hi'] using this⟩
theorem Fam.avoids {B : Nat} {w : World} {bh n : Nat} {hs : List Sl} {ll : List (List Nat)} {ow : Nat → Nat} {off : Nat} (h : Fam B w bh hs ll ow off) {b : Nat} {T : TypeId} {cs : List Value} (hB : Blk w b T cs) (hT : T ≠ 3) (hT' : T ≠ 40) : Avoids b ⟨some (blk bh), n, n⟩ hs :=
  ⟨fun a ha e => by
    cases ha
    have e : bh = b := e
    subst e
    exact hT' (hB.type h.head), fun i hi a ha => own_ne (h.row i hi) hB hT ha⟩
theorem Fam.new (B : Nat) (w : World) (n : Nat) (ow : Nat → Nat) (off bh : Nat) (hB : Blk w bh 40 (List.replicate n (.slice none 0 0))) : Fam B w bh (List.replicate n ⟨none, 0, 0⟩) (List.replicate n []) ow off := by
  refine ⟨?_, by simp, fun i hi => ?_, fun i hi a ha => ?_⟩
  · rw [List.map_replicate]; exact hB
  · have hi' : i < n := by simpa using hi
    simp only [List.getElem_replicate, List.getD, List.getElem?_replicate, if_pos hi', Option.getD_some, List.map_nil]
    exact Own.nil _ _ _
  · simp at ha

/-- A graph that the program has made. -/
def IsG (w : World) (gb : Nat) (nx : List (List Nat)) : Prop :=
  ∃ sn sa wk od bs hn ha, Blk w gb 102 (gCells sn sa wk od bs) ∧ IsNN w sn hn nx ∧ IsNN w sa ha (aheadOf nx) ∧ IsN w wk (walkOf nx) ∧ IsN w od (orderOf nx) ∧ BitsL bs fun i => (walkOf nx).contains i
theorem IsG.below {w w' : World} {gb : Nat} {nx : List (List Nat)} (h : IsG w gb nx) (hb : Below w.heap.size w w') : IsG w' gb nx :=
  let ⟨sn, sa, wk, od, bs, hn, ha, h1, h2, h3, h4, h5, h6⟩ := h
  ⟨sn, sa, wk, od, bs, hn, ha, h1.below hb, h2.below hb, h3.below hb, h4.below hb, h5.below hb, h6⟩
theorem IsG.lt {w : World} {gb : Nat} {nx : List (List Nat)} (h : IsG w gb nx) : gb < w.heap.size := let ⟨_, _, _, _, _, _, _, h1, _⟩ := h; h1.lt

/-- .. of which nothing lies below block B. -/
def IsGB (w : World) (B gb : Nat) (nx : List (List Nat)) : Prop :=
  B ≤ gb ∧ ∃ sn sa wk od bs hn ha, Blk w gb 102 (gCells sn sa wk od bs) ∧ IsNN w sn hn nx ∧ IsNN w sa ha (aheadOf nx) ∧ IsN w wk (walkOf nx) ∧ IsN w od (orderOf nx) ∧ BitsL bs (fun i => (walkOf nx).contains i) ∧
    Fresh B sn ∧ Fresh B sa ∧ Fresh B wk ∧ Fresh B od ∧ (∀ (i : Nat) (h : i < hn.length), Fresh B hn[i]) ∧ ∀ (i : Nat) (h : i < ha.length), Fresh B ha[i]
theorem IsGB.isG {w : World} {B gb : Nat} {nx : List (List Nat)} (h : IsGB w B gb nx) : IsG w gb nx :=
  let ⟨_, sn, sa, wk, od, bs, hn, ha, h1, h2, h3, h4, h5, h6, _⟩ := h
  ⟨sn, sa, wk, od, bs, hn, ha, h1, h2, h3, h4, h5, h6⟩
theorem IsGB.keep {w w' : World} {B gb : Nat} {nx : List (List Nat)} (h : IsGB w B gb nx) (hk : ∀ k, B ≤ k → k < w.heap.size → w'.heap[k]? = w.heap[k]?) : IsGB w' B gb nx := by
  obtain ⟨hg, sn, sa, wk, od, bs, hn, ha, h1, h2, h3, h4, h5, h6, f1, f2, f3, f4, f5, f6⟩ := h
  have st : ∀ {α : Type} {f : α → Value} {s : Sl} {l : List α}, IsS f w s l → Fresh B s → IsS f w' s l := fun hs hf => hs.of_block fun a ha hlt => hk _ (hf a ha) hlt
  exact ⟨hg, sn, sa, wk, od, bs, hn, ha, h1.of_block (hk gb hg h1.lt), ⟨st h2.top f1, h2.len, fun i g1 g2 => st (h2.row i g1 g2) (f5 i g1)⟩, ⟨st h3.top f2, h3.len, fun i g1 g2 => st (h3.row i g1 g2) (f6 i g1)⟩, st h4 f3, st h5 f4, h6, f1, f2, f3, f4, f5, f6⟩
theorem IsGB.below {w w' : World} {B gb : Nat} {nx : List (List Nat)} (h : IsGB w B gb nx) (hb : Below w.heap.size w w') : IsGB w' B gb nx := h.keep fun k _ hk => hb.block k hk

/-- graph.Of under way. -/
structure OS (w0 : World) (gb bn ba n : Nat) (w : World) (NX : List (List Nat)) : Prop where
  below : Below w0.heap.size w0 w
  len : NX.length = n
  g : Blk w gb 102 (gCells ⟨some (blk bn), n, n⟩ ⟨some (blk ba), n, n⟩ ⟨none, 0, 0⟩ ⟨none, 0, 0⟩ (List.replicate 64 (.int .u64 (0 : Int))))
  gB : w0.heap.size ≤ gb
  bnB : w0.heap.size ≤ bn
  baB : w0.heap.size ≤ ba
  ne : bn ≠ ba
  fam : ∃ hn ha ow, Fam w0.heap.size w bn hn NX ow 0 ∧ Fam w0.heap.size w ba ha (aheadOf NX) ow n
theorem OS.grown {w0 w w' : World} {gb bn ba n : Nat} {NX : List (List Nat)} (h : OS w0 gb bn ba n w NX) (hb : Below w.heap.size w w') : OS w0 gb bn ba n w' NX :=
  let ⟨hn, ha, ow, f1, f2⟩ := h.fam
  ⟨h.below.trans (hb.mono h.below.size), h.len, h.g.below hb, h.gB, h.bnB, h.baB, h.ne, hn, ha, ow, f1.grown hb, f2.grown hb⟩

set_option maxHeartbeats 1000000 in
/-- One edge more: both appends. -/
theorem push_step {w0 : World} {gb bn ba n : Nat} {w : World} {NX : List (List Nat)} (h : OS w0 gb bn ba n w NX) {i x : Nat} (hi : i < n) (hx : x < n) (hn : n ≤ 4096) (hlen : (NX.getD i []).length ≤ 4096) (hlenA : ((aheadOf NX).getD x []).length ≤ 4096)
    (hni : (NX.getD i []).contains x = false) (hgt : ∀ j, i < j → NX.getD j [] = []) {sb : Nat} {T : TypeId} {cs : List Value} (hT : T ≠ 3) (hT' : T ≠ 40) (hsb : Blk w sb T cs) {K : World → Prop}
    (hK : ∀ w', OS w0 gb bn ba n w' (NX.set i (NX.getD i [] ++ [x])) → Blk w' sb T cs → K w') :
    derefP (some (blk gb)) fun a18 =>
      ldS w.drew a18 fun x19 =>
      derefP (some (blk gb)) fun a20 =>
      ldS w.drew a20 fun x21 =>
      (0 ≤ (i : Int) ∧ (i : Int) < (x21.l : Int)) ∧
      derefP x21.a fun a22 =>
      ldS w.drew (a22.add (Int.toNat (i : Int))) fun x23 =>
      Nw (w.drew.alloc (.cells #[(.int .i64 (x : Int))] 3)) fun w14 =>
      w14.cell? (a22.add (Int.toNat (i : Int))) = some (.slice x23.a x23.l x23.c) ∧
      w14.cell? a20 = some (.slice x21.a x21.l x21.c) ∧
      w14.cell? a18 = some (.slice x19.a x19.l x19.c) ∧
      appendS Try.prog 40 (.slice x23.a x23.l x23.c) (.slice (some (blk w.drew.heap.size)) 1 1) w14 fun r24 w15 =>
      w15.cell? a18 = some (.slice x19.a x19.l x19.c) ∧
      (0 ≤ (i : Int) ∧ (i : Int) < (x19.l : Int)) ∧
      derefP x19.a fun a25 =>
      Wr w15 (a25.add (Int.toNat (i : Int))) ∧
      Nw (w15.setCell (a25.add (Int.toNat (i : Int))) (.slice r24.a r24.l r24.c)) fun w16 =>
      derefP (some (blk gb)) fun a26 =>
      ldS w16.drew (a26.add 1) fun x27 =>
      derefP (some (blk gb)) fun a28 =>
      ldS w16.drew (a28.add 1) fun x29 =>
      (0 ≤ (x : Int) ∧ (x : Int) < (x29.l : Int)) ∧
      derefP x29.a fun a30 =>
      ldS w16.drew (a30.add (Int.toNat (x : Int))) fun x31 =>
      Nw (w16.drew.alloc (.cells #[(.int .i64 (i : Int))] 3)) fun w17 =>
      w17.cell? (a30.add (Int.toNat (x : Int))) = some (.slice x31.a x31.l x31.c) ∧
      w17.cell? (a28.add 1) = some (.slice x29.a x29.l x29.c) ∧
      w17.cell? (a26.add 1) = some (.slice x27.a x27.l x27.c) ∧
      appendS Try.prog 40 (.slice x31.a x31.l x31.c) (.slice (some (blk w16.drew.heap.size)) 1 1) w17 fun r32 w18 =>
      w18.cell? (a26.add 1) = some (.slice x27.a x27.l x27.c) ∧
      (0 ≤ (x : Int) ∧ (x : Int) < (x27.l : Int)) ∧
      derefP x27.a fun a33 =>
      Wr w18 (a33.add (Int.toNat (x : Int))) ∧
      Nw (w18.setCell (a33.add (Int.toNat (x : Int))) (.slice r32.a r32.l r32.c)) fun w19 => K w19 := by
  obtain ⟨hbel, hNX, hG, hgB, hbnB, hbaB, hne, hn', ha', ow, f1, f2⟩ := h
  have hnl : hn'.length = n := by rw [f1.len, hNX]
  have hal : ha'.length = n := by rw [f2.len, ahead_length, hNX]
  have hBsz : w0.heap.size ≤ w.heap.size := hbel.size
  have hmax : n ≤ 9223372036854775807 := by omega
  refine ⟨⟨some (blk bn), n, n⟩, hG.drew.cell0 rfl, ⟨some (blk bn), n, n⟩, hG.drew.cell0 rfl, ?_⟩
  refine elemS (s := ⟨some (blk bn), n, n⟩) (f1.isSS hnl hmax).top.drew (k := i) (by omega) ?_
  refine Nw.gen fun w14 hw14 => ?_
  have hb14 : Below w.heap.size w w14 := by rw [hw14]; exact (Below.refl _ _).drew.alloc (by simp) _
  have ht14 : Blk w14 w.drew.heap.size 3 [iN x] := by rw [hw14]; exact Blk.new w.drew 3 #[iN x]
  have f1' := f1.grown hb14
  have f2' := f2.grown hb14
  have hG' := hG.below hb14
  have hsb' := hsb.below hb14
  have hz14 : w.heap.size ≤ w14.heap.size := hb14.size
  refine ⟨?_, hG'.cell0 rfl, hG'.cell0 rfl, ?_⟩
  · exact (f1'.isSS hnl hmax).top.cell _ rfl i (by omega)
  have hrow := f1'.row i (by omega)
  have hrl := own_len hrow
  refine append_one eInt hrow rfl ht14 (by omega) (by omega) fun r w15 hr _ ⟨b, hrb, hbo, hg⟩ => ?_
  have hbB : w0.heap.size ≤ b := by
    rcases hbo with hb | rfl
    · exact (f1'.own i (by omega) _ hb).2
    · omega
  obtain ⟨hH, f1p⟩ := f1'.push (by omega) hr hrb hbo hbB hg
  have hbT : ∃ cs, Blk w15 b 3 cs := by obtain ⟨cs, hc⟩ := hr.type hrb; exact ⟨cs, hc⟩
  have hnot : ∀ {b' : Nat} {T : TypeId} {cs : List Value}, Blk w14 b' T cs → T ≠ 3 → b' ≠ b ∧ Blk w15 b' T cs := fun hB hT => by
    have hb' : _ ≠ b := fun e => by
      rcases hbo with hb | hb
      · exact own_ne hrow hB hT hb e.symm
      · have := hB.lt; omega
    exact ⟨hb', hB.of_block (hg.block _ hB.lt (fun e => hb' (Option.some.inj e)))⟩
  have hG15 := (hnot hG' (by decide)).2
  have hgb := (hnot hG' (by decide)).1
  have hbba := (hnot f2'.head (by decide)).1
  have f2o := f2'.other (v := 0 + i) hg (Ne.symm hbba) (by
    rcases hbo with hb | hb
    · exact .inl ⟨_, (f1'.own i (by omega) _ hb).1, fun j hj => by omega⟩
    · exact .inr hb)
  refine ⟨hG15.cell0 rfl, ⟨by omega, by show (i : Int) < ((n : Nat) : Int); omega⟩, hH.wr (by simp; omega), Nw.gen fun w16 hw16 => ?_⟩
  have f1q := f1p
  have f2q := f2o.set_other hH hne (by decide) i r.val
  have hG16 : Blk w16 gb 102 (gCells ⟨some (blk bn), n, n⟩ ⟨some (blk ba), n, n⟩ ⟨none, 0, 0⟩ ⟨none, 0, 0⟩ (List.replicate 64 (.int .u64 (0 : Int)))) := by
    rw [hw16]; exact hG15.other (by rw [add_block]; exact hG15.apart hH (by decide)) _
  have hsb15 := (hnot hsb' hT).2
  have hsb16 : Blk w16 sb T cs := by
    rw [hw16]; exact hsb15.other (by rw [add_block]; exact hsb15.apart hH hT') _
  rw [show w15.setCell ((blk bn).add i) r.val = w16 from hw16.symm] at f1q f2q
  have hb16 : Below w0.heap.size w0 w16 := by
    rw [hw16]
    exact ((hbel.trans (hb14.mono hBsz)).trans (below_grown hg hbB (by omega))).setCell (by rw [add_block]; exact hbnB) _
  have hl1 : (hn'.set i r).length = n := by simp [hnl]
  have hBsz16 := hb16.size
  clear hw16 f1p f2o hH hG15 hnot hbT hr hg hrow f1' f2' hG' ht14 hw14 hb14 f1 f2 hG hsb hsb' hsb15
  -- the edge from behind
  refine ⟨⟨some (blk ba), n, n⟩, hG16.drew.cell rfl, ⟨some (blk ba), n, n⟩, hG16.drew.cell rfl, ?_⟩
  refine elemS (s := ⟨some (blk ba), n, n⟩) (f2q.isSS hal hmax).top.drew (k := x) (by omega) ?_
  refine Nw.gen fun w17 hw17 => ?_
  have hb17 : Below w16.heap.size w16 w17 := by rw [hw17]; exact (Below.refl _ _).drew.alloc (by simp) _
  have ht17 : Blk w17 w16.drew.heap.size 3 [iN i] := by rw [hw17]; exact Blk.new w16.drew 3 #[iN i]
  have f1' := f1q.grown hb17
  have f2' := f2q.grown hb17
  have hG' := hG16.below hb17
  have hsb' := hsb16.below hb17
  have hz17 : w16.heap.size ≤ w17.heap.size := hb17.size
  refine ⟨?_, hG'.cell rfl, hG'.cell rfl, ?_⟩
  · exact (f2'.isSS hal hmax).top.cell _ rfl x (by omega)
  have hrow := f2'.row x (by omega)
  have hrl := own_len hrow
  refine append_one eInt hrow rfl ht17 (by omega) (by omega) fun r2 w18 hr _ ⟨b2, hrb2, hbo2, hg2⟩ => ?_
  have hbB2 : w0.heap.size ≤ b2 := by
    rcases hbo2 with hb | rfl
    · exact (f2'.own x (by omega) _ hb).2
    · omega
  obtain ⟨hH, f2p⟩ := f2'.push (by omega) hr hrb2 hbo2 hbB2 hg2
  have hnot : ∀ {b' : Nat} {T : TypeId} {cs : List Value}, Blk w17 b' T cs → T ≠ 3 → b' ≠ b2 ∧ Blk w18 b' T cs := fun hB hT => by
    have hb' : _ ≠ b2 := fun e => by
      rcases hbo2 with hb | hb
      · exact own_ne hrow hB hT hb e.symm
      · have := hB.lt; omega
    exact ⟨hb', hB.of_block (hg2.block _ hB.lt (fun e => hb' (Option.some.inj e)))⟩
  have hG18 := (hnot hG' (by decide)).2
  have hbbn := (hnot f1'.head (by decide)).1
  have f1o := f1'.other (v := n + x) hg2 (Ne.symm hbbn) (by
    rcases hbo2 with hb | hb
    · exact .inl ⟨_, (f2'.own x (by omega) _ hb).1, fun j hj => by omega⟩
    · exact .inr hb)
  refine ⟨hG18.cell rfl, ⟨by omega, by show (x : Int) < ((n : Nat) : Int); omega⟩, hH.wr (by simp; omega), Nw.gen fun w19 hw19 => ?_⟩
  have f2z := f2p
  have f1z := f1o.set_other hH (Ne.symm hne) (by decide) x r2.val
  rw [show w18.setCell ((blk ba).add x) r2.val = w19 from hw19.symm] at f1z f2z
  have hsb18 := (hnot hsb' hT).2
  rw [← ahead_push (by omega) (by omega) hni hgt] at f2z
  refine hK w19 ⟨?_, by simp [hNX], ?_, hgB, hbnB, hbaB, hne, hn'.set i r, ha'.set x r2, _, f1z, f2z⟩ ?_
  · rw [hw19]
    exact ((hb16.trans (hb17.mono hBsz16)).trans (below_grown hg2 hbB2 (by omega))).setCell (by rw [add_block]; exact hbaB) _
  · rw [hw19]; exact hG18.other (by rw [add_block]; exact hG18.apart hH (by decide)) _
  · rw [hw19]; exact hsb18.other (by rw [add_block]; exact hsb18.apart hH hT') _

end Go.Proofs
