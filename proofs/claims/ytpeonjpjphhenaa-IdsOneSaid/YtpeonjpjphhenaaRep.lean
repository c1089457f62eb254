/-
  slices.Repeat of one number.
-/
import Derived.Test.YtpeonjpjphhenaaLrp
import Derived.Test.YtpeonjpjphhenaaGkN
import Derived.Laws.CopyRow
namespace Go.Proofs
open Go.Gk Go.RowKit

theorem u64_small {n : Nat} (hn : n ≤ 65536) : IntKind.u64.wrap (n : Int) = n := by rw [IntKind.wrap_u64]; omega
theorem mask_small {n : Nat} (hn : n ≤ 65536) : ((BitVec.toNat (BitVec.ofInt (IntKind.bits .u64) (n : Int) &&& BitVec.ofInt (IntKind.bits .u64) (4294967295 : Int)) : Nat) : Int) = n := by
  have h : (BitVec.ofInt 64 (n : Int) &&& BitVec.ofInt 64 (4294967295 : Int)).toNat = n := by
    rw [BitVec.toNat_and, BitVec.toNat_ofInt, BitVec.toNat_ofInt]
    have e1 : ((n : Int) % ((2 ^ 64 : Nat) : Int)).toNat = n := by omega
    have e2 : ((4294967295 : Int) % ((2 ^ 64 : Nat) : Int)).toNat = 2 ^ 32 - 1 := by decide
    rw [e1, e2, Nat.and_two_pow_sub_one_eq_mod]
    omega
  exact congrArg Int.ofNat h
theorem Mul64_one {n : Nat} (hn : n ≤ 65536) {w : World} {R : Value → World → Prop} (hR : R (.tuple #[.int .u64 0, .int .u64 (n : Int)]) w) : callR Try.prog 108 #[.int .u64 1, .int .u64 (n : Int)] w R := by
  refine callR.of (math_bits_Mul64_calls 1 n R w ?_) fun _ _ h => h
  unfold L_math_bits_Mul64
  have e0 : ((2 : Int) ^ (min 32 (IntKind.bits .u64))) = 4294967296 := by decide
  have e1 : Int.fdiv 1 4294967296 = 0 := by decide
  have e2 : Int.fdiv (n : Int) 4294967296 = 0 := by rw [Int.fdiv_eq_ediv_of_nonneg _ (by decide)]; omega
  have m1 : ((BitVec.toNat (BitVec.ofInt (IntKind.bits .u64) (1 : Int) &&& BitVec.ofInt (IntKind.bits .u64) (4294967295 : Int)) : Nat) : Int) = 1 := mask_small (n := 1) (by decide)
  have m0 : ((BitVec.toNat (BitVec.ofInt (IntKind.bits .u64) (0 : Int) &&& BitVec.ofInt (IntKind.bits .u64) (4294967295 : Int)) : Nat) : Int) = 0 := mask_small (n := 0) (by decide)
  have u0 : IntKind.u64.wrap (0 : Int) = 0 := by decide
  have u1 : IntKind.u64.wrap (1 : Int) = 1 := by decide
  have f0 : Int.fdiv 0 4294967296 = 0 := by decide
  simp only [e0, e1, e2, mask_small hn, m1, u64_small hn, u0, u1, Int.zero_mul, Int.one_mul, Int.mul_zero, Int.add_zero, f0, m0]
  exact hR

theorem below_setRow {B : Nat} {w w' : World} (h : Below B w w') {g : Nat} (hg : B ≤ g) (cs : Array Value) : Below B w (w'.setRow g cs) :=
  ⟨h.os, h.tape, h.output, by simpa [World.setRow] using h.size, fun k hk => (setRow_other w' g k cs (by omega)).trans (h.block k hk)⟩
/-- copy into a row of the code's own. -/
theorem copyS_row {w : World} {b o : Nat} {cs : List Value} (hD : Blk w b 3 cs) {a : Addr} {dl dc sl sc : Nat} {news : List Value} (hn : news.length = Nat.min sl dl) (hsrc : ∀ j v, news[j]? = some v → w.cell? (a.add j) = some v)
    (hfit : o + news.length ≤ cs.length) (h1 : ∀ v ∈ news, v.oneCell' = true) {k : Int → World → Prop}
    (hk : ∀ w', Blk w' b 3 (cs.take o ++ news ++ cs.drop (o + news.length)) → (∀ B w0, Below B w0 w → B ≤ b → Below B w0 w') → k (news.length : Int) w') :
    copyS Try.prog #[46, 46] (.slice (some ⟨b, o, none⟩) dl dc) (.slice (some a) sl sc) w k := by
  have hun : (Try.prog).underlying 46 = some (.slice 3) := by kernel_rfl
  have hsz : ((Try.prog).info? 3).map (·.size) = some 1 := by kernel_rfl
  have hc := run_copy_row (P := Try.prog) w 46 46 0 3 b o dl dc a sl sc cs.toArray 3 news hun hsz hD hn hsrc (by simpa using hfit) h1
  refine ⟨_, _, hc, hk _ ?_ fun B w0 hb hB => below_setRow hb hB _⟩
  exact setRow_heap w b _ _ _ _ hD

set_option maxHeartbeats 1000000 in
theorem Repeat_spec {n : Nat} (hn : n ≤ 65536) (hn1 : 1 ≤ n) {v : Int} {xb : Nat} {w : World} {R : Value → World → Prop} (hx : Blk w xb 3 [.int .i64 v])
    (hR : ∀ b w', Blk w' b 3 (List.replicate n (.int .i64 v)) → w.heap.size ≤ b → Below w.heap.size w w' → R (.slice (some (blk b)) n n) w') :
    callR Try.prog 53 #[.slice (some (blk xb)) 1 1, .int .i64 (n : Int)] w R := by
  refine callR.of (slices_Repeat_sint_int_calls ⟨some (blk xb), 1, 1⟩ n R w ?_) fun _ _ h => h
  refine JoinW.cut (fun _ w' => w' = w) (ifB_dec (fun h => by omega) fun _ => rfl) ?_
  rintro _ _ rfl
  rename_i w
  have e1 : IntKind.u64.wrap (((1 : Nat) : Nat) : Int) = 1 := by decide
  dsimp only
  rw [e1, u64_small hn]
  refine callR.of (math_bits_Mul_calls 1 n _ w ?_) fun _ _ h => h
  refine Mul64_one hn ⟨0, n, rfl, 0, n, rfl, ?_⟩
  refine JoinW.cut (fun _ w' => w' = w) (ifB_dec (fun h => absurd h (by decide)) fun _ => ifB_dec (fun h => absurd h (by omega)) fun _ => rfl) ?_
  rintro _ _ rfl
  rename_i w
  have e2 : IntKind.i64.wrap (n : Int) = n := wrap64_in (by omega) (by omega)
  rw [e2]
  refine ⟨⟨by omega, by omega, by omega, by omega⟩, Nw.gen fun w4 hw4 => ?_⟩
  obtain ⟨z, hz⟩ : ∃ z, z = Value.int .i64 0 := ⟨_, rfl⟩
  obtain ⟨u, hu⟩ : ∃ u, u = Value.int .i64 v := ⟨_, rfl⟩
  have hu1 : u.oneCell' = true := by rw [hu]; rfl
  rw [← hz] at hw4
  rw [← hu] at hx hR
  have hD4 : Blk w4 w.heap.size 3 (List.replicate n z) := by rw [hw4]; exact Blk.made w 3 z n
  have b4 : Below w.heap.size w w4 := by rw [hw4]; exact (Below.refl _ _).alloc (Nat.le_refl _) _
  have hx4 := hx.below b4
  have tn : Int.toNat ((n : Nat) : Int) = n := rfl
  rw [tn]
  refine copyS_row hD4 (o := 0) (news := [u]) (by simp [Nat.min_def]; omega) (fun j x hj => by
      cases j with
      | zero => simp at hj; subst hj; exact hx4.cell rfl
      | succ j => simp at hj) (by simp; omega) (by simpa using hu1) fun w5 hD5 hb5 => ?_
  have hb5 := hb5 _ _ b4 (Nat.le_refl _)
  have hD5' : Blk w5 w.heap.size 3 (List.replicate 1 u ++ List.replicate (n - 1) z) := by
    simpa using hD5
  clear hD5 hD4 hx4 hw4
  refine LoopW.ghost (fun j st w' => ∃ m : Nat, 1 ≤ m ∧ m ≤ n ∧ j = n - m ∧ st = ((m : Int), ()) ∧ Below w.heap.size w w' ∧ Blk w' w.heap.size 3 (List.replicate m u ++ List.replicate (n - m) z)) (n - 1)
    ⟨1, Nat.le_refl _, hn1, rfl, rfl, hb5, hD5'⟩ ?_
  rintro _ _ w6 ⟨m, hm1, hmn, rfl, rfl, hb, hD⟩ next hnext
  refine ifB_dec (fun hlt => ?_) (fun hge => ?_)
  · have hlt : m < n := by dsimp only at hlt; omega
    have tm : Int.toNat ((m : Nat) : Int) = m := rfl
    refine ⟨⟨by first | omega | (dsimp only; omega), by first | omega | (dsimp only; omega), by omega⟩, ⟨by omega, by first | omega | (dsimp only; omega), by first | omega | (dsimp only; omega)⟩, ?_⟩
    dsimp only
    rw [tm, if_neg (by omega : ¬ n = m), if_neg (by omega : ¬ n = 0)]
    simp only [Option.map_some, Nat.sub_zero]
    have ea : (blk w.heap.size).add m = ⟨w.heap.size, m, none⟩ := by rw [add_blk]
    have e0 : (blk w.heap.size).add 0 = blk w.heap.size := by rw [add_blk]
    rw [ea, e0]
    obtain ⟨q, hq⟩ : ∃ q, q = Nat.min m (n - m) := ⟨_, rfl⟩
    have hq1 : 1 ≤ q ∧ q ≤ n - m ∧ q ≤ m := by rw [hq]; simp only [Nat.min_def]; split <;> omega
    have hD' := hD.drew
    refine copyS_row hD' (o := m) (news := List.replicate q u) (by rw [List.length_replicate, hq]) (fun j x hj => by
        have hj' : j < q := by have := (List.getElem?_eq_some_iff.1 hj).1; simpa using this
        rw [List.getElem?_replicate, if_pos hj'] at hj
        cases hj
        refine hD'.cell ?_
        rw [List.getElem?_append_left (by simp; omega), List.getElem?_replicate, if_pos (by omega)]) (by simp; omega) (fun x hx => by
        rw [List.eq_of_mem_replicate hx]; exact hu1) fun w7 hD7 hb7 => ?_
    rw [List.length_replicate] at hD7 ⊢
    rw [show IntKind.i64.wrap ((m : Int) + (q : Int)) = ((m + q : Nat) : Int) by rw [wrap64_in (by omega) (by omega)]; omega]
    refine hnext (n - (m + q)) _ _ (by omega) ⟨m + q, by omega, by omega, rfl, rfl, hb7 _ _ hb.drew (Nat.le_refl _), ?_⟩
    have : (List.replicate m u ++ List.replicate (n - m) z).take m ++ List.replicate q u ++ (List.replicate m u ++ List.replicate (n - m) z).drop (m + q) = List.replicate (m + q) u ++ List.replicate (n - (m + q)) z := by
      rw [List.take_left' (by simp), List.drop_append, List.drop_replicate, List.drop_replicate, List.length_replicate, List.replicate_append_replicate]
      simp
      omega
    rw [← this]
    exact hD7
  · have : m = n := by dsimp only at hge; omega
    subst this
    refine hR w.heap.size w6 ?_ (Nat.le_refl _) hb
    simpa using hD

end Go.Proofs
