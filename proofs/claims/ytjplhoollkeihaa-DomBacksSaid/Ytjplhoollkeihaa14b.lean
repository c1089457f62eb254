/-
  The set of bits that the program keeps (graph.bits): has, add.
-/
import Derived.Test.Ytjplhoollkeihaa14a
namespace Go.Proofs
open Go.Gk Go.RowKit

/-- 64 words at a hold the set S of numbers below 4096. -/
def Bits (w : World) (a : Addr) (S : Nat → Bool) : Prop :=
  a.spot = none ∧ ∀ j, j < 64 → ∃ x : Nat, x < 2 ^ 64 ∧ w.cell? (a.add j) = some (.int .u64 x) ∧ w.frozen? (a.add j) = false ∧ ∀ k, k < 64 → x.testBit k = S (64 * j + k)
theorem Bits.of_block {w w' : World} {a : Addr} {S : Nat → Bool} (h : Bits w a S) (hb : w'.heap[a.block]? = w.heap[a.block]?) : Bits w' a S := by
  refine ⟨h.1, fun j hj => ?_⟩
  obtain ⟨x, h1, h2, h3, h4⟩ := h.2 j hj
  refine ⟨x, h1, ?_, ?_, h4⟩
  · rw [World.cell?_of_block (w := w) (by rw [add_block]; exact hb)]; exact h2
  · rw [World.frozen?_of_block (w := w) (by rw [add_block]; exact hb)]; exact h3
theorem Bits.lt {w : World} {a : Addr} {S : Nat → Bool} (h : Bits w a S) : a.block < w.heap.size := by
  obtain ⟨x, _, h2, _⟩ := h.2 0 (by omega)
  have := World.block_lt_of_cell? w _ h2
  rwa [add_block] at this
theorem Bits.below {w w' : World} {a : Addr} {S : Nat → Bool} (h : Bits w a S) (hb : Below w.heap.size w w') : Bits w' a S := h.of_block (hb.block _ h.lt)
theorem Bits.new (w : World) (T : TypeId) : Bits (w.alloc (.cells (List.toArray (List.replicate 64 (.int .u64 (0 : Int)))) T)) (blk w.heap.size) fun _ => false := by
  have hB := Blk.new w T (List.toArray (List.replicate 64 (.int .u64 (0 : Int))))
  refine ⟨rfl, fun j hj => ⟨0, by decide, hB.cell ?_, hB.frozen j, fun k _ => by simp⟩⟩
  rw [List.getElem?_replicate, if_pos hj]
  rfl

theorem bit_has (x k : Nat) (hx : x < 2 ^ 64) (hk : k < 64) :
    ((IntKind.u64.wrap (BitVec.toNat (BitVec.ofInt (IntKind.bits .u64) (Int.fdiv (x : Int) (2 ^ (min k (IntKind.bits .u64)))) &&& BitVec.ofInt (IntKind.bits .u64) (1 : Int)) : Int)) == (1 : Int)) = x.testBit k := by
  have hb : IntKind.bits .u64 = 64 := rfl
  have hm : min k (IntKind.bits .u64) = k := by rw [hb]; omega
  rw [hm]
  have e1 : Int.fdiv (x : Int) (2 ^ k) = ((x / 2 ^ k : Nat) : Int) := by
    rw [show ((2 : Int) ^ k) = ((2 ^ k : Nat) : Int) by simp, Int.ofNat_fdiv]
  rw [e1]
  have e2 : (BitVec.ofInt (IntKind.bits .u64) ((x / 2 ^ k : Nat) : Int) &&& BitVec.ofInt (IntKind.bits .u64) (1 : Int)).toNat = x / 2 ^ k % 2 := by
    rw [BitVec.toNat_and, BitVec.ofInt_natCast, BitVec.toNat_ofNat, show (BitVec.ofInt (IntKind.bits .u64) (1 : Int)).toNat = 1 from rfl, Nat.and_one_is_mod, hb]
    have : x / 2 ^ k < 2 ^ 64 := Nat.lt_of_le_of_lt (Nat.div_le_self _ _) hx
    rw [Nat.mod_eq_of_lt this]
  rw [e2, IntKind.wrap_u64, Nat.testBit_eq_decide_div_mod_eq]
  rcases Nat.mod_two_eq_zero_or_one (x / 2 ^ k) with h | h <;> simp [h]
theorem bit_add (x k : Nat) (hx : x < 2 ^ 64) (hk : k < 64) :
    (IntKind.u64.wrap (BitVec.toNat (BitVec.ofInt (IntKind.bits .u64) (x : Int) ||| BitVec.ofInt (IntKind.bits .u64) (IntKind.u64.wrap ((1 : Int) * 2 ^ (min k (IntKind.bits .u64))))) : Int)) = ((x ||| 2 ^ k : Nat) : Int) ∧ x ||| 2 ^ k < 2 ^ 64 := by
  have hb : IntKind.bits .u64 = 64 := rfl
  have hm : min k (IntKind.bits .u64) = k := by rw [hb]; omega
  rw [hm]
  have hp : 2 ^ k < 2 ^ 64 := Nat.pow_lt_pow_right (by omega) hk
  have e1 : IntKind.u64.wrap ((1 : Int) * 2 ^ k) = ((2 ^ k : Nat) : Int) := by
    rw [show (1 : Int) * 2 ^ k = ((2 ^ k : Nat) : Int) by simp, IntKind.wrap_u64]
    generalize 2 ^ k = p at hp
    omega
  have hlt : x ||| 2 ^ k < 2 ^ 64 := Nat.or_lt_two_pow hx hp
  refine ⟨?_, hlt⟩
  rw [e1, BitVec.toNat_or, BitVec.ofInt_natCast, BitVec.ofInt_natCast, BitVec.toNat_ofNat, BitVec.toNat_ofNat, hb, Nat.mod_eq_of_lt hx, Nat.mod_eq_of_lt hp, IntKind.wrap_u64]
  omega
theorem wrap_div (i : Nat) (hi : i < 4096) : IntKind.i64.wrap (Int.tdiv (i : Int) (64 : Int)) = ((i / 64 : Nat) : Int) := by
  have : Int.tdiv (i : Int) 64 = ((i / 64 : Nat) : Int) := by rw [Int.tdiv_eq_ediv_of_nonneg (by omega)]; omega
  rw [this, wrap64_in (by omega) (by omega)]
theorem tmod_64 (i : Nat) : Int.tmod (i : Int) 64 = ((i % 64 : Nat) : Int) := by
  rw [Int.tmod_eq_emod_of_nonneg (by omega)]; omega

theorem has_spec {a : Addr} {S : Nat → Bool} {i : Nat} (hi : i < 4096) {w : World} {R : Value → World → Prop} (h : Bits w a S) (hR : R (.bool (S i)) w) :
    callR Try.prog 94 #[.pointer (some a), .int .i64 i] w R := by
  refine callR.of (graph_bits_has_calls _ _ R w ?_) fun _ _ h => h
  unfold L_graph_bits_has
  obtain ⟨x, h1, h2, _, h4⟩ := h.2 (i / 64) (by omega)
  rw [wrap_div i hi, tmod_64]
  refine ⟨⟨by omega, by omega⟩, x, h2, ifB_dec (fun hlt => by omega) (fun _ => ?_)⟩
  rw [Int.toNat_natCast, bit_has x (i % 64) h1 (by omega), h4 _ (by omega), Nat.div_add_mod]
  exact hR

theorem add_spec {a : Addr} {S : Nat → Bool} {i : Nat} (hi : i < 4096) {w : World} {R : Value → World → Prop} (h : Bits w a S)
    (hR : ∀ x : Nat, Bits (w.drew.setCell (a.add (i / 64)) (.int .u64 x)) a (fun j => S j || j == i) → R (.tuple #[]) (w.drew.setCell (a.add (i / 64)) (.int .u64 x))) :
    callR Try.prog 95 #[.pointer (some a), .int .i64 i] w R := by
  refine callR.of (graph_bits_add_calls _ _ R w ?_) fun _ _ h => h
  unfold L_graph_bits_add
  obtain ⟨x, h1, h2, h3, h4⟩ := h.2 (i / 64) (by omega)
  rw [wrap_div i hi, tmod_64]
  refine ⟨⟨by omega, by omega⟩, x, h2, ifB_dec (fun hlt => by omega) (fun _ => ?_)⟩
  refine ⟨⟨by omega, by omega⟩, ⟨⟨_, h2⟩, h3⟩, Nw.mk ?_⟩
  obtain ⟨e1, e2⟩ := bit_add x (i % 64) h1 (by omega)
  rw [Int.toNat_natCast, Int.toNat_natCast, e1]
  refine hR _ ⟨h.1, fun j hj => ?_⟩
  have hblk : (a.add j).block = (a.add (i / 64)).block := by rw [add_block, add_block]
  have hfz : ∀ v, (w.drew.setCell (a.add (i / 64)) v).frozen? (a.add j) = w.frozen? (a.add j) := fun v => by simp
  by_cases hj' : j = i / 64
  · subst hj'
    refine ⟨x ||| 2 ^ (i % 64), e2, ?_, by rw [hfz]; exact h3, fun k hk => ?_⟩
    · exact World.cell?_setCell_same _ _ _ (by exact h2)
    · rw [Nat.testBit_or, h4 k hk, Nat.testBit_two_pow]
      congr 1
      have := Nat.div_add_mod i 64
      by_cases hki : i % 64 = k
      · simp [hki]; omega
      · simp [hki]; omega
  · obtain ⟨y, g1, g2, g3, g4⟩ := h.2 j hj
    refine ⟨y, g1, ?_, by rw [hfz]; exact g3, fun k hk => ?_⟩
    · rw [World.cell?_setCell_other]
      · exact g2
      · have hs := h.1
        obtain ⟨ab, ao, asp⟩ := a
        simp only at hs
        subst hs
        unfold Addr.add
        split <;> split <;> simp <;> omega
    · rw [g4 k hk]
      have : (64 * j + k == i) = false := by simp; omega
      simp [this]

end Go.Proofs
