/-
  slices.stableCmpFunc, SortStableFunc.
-/
import Derived.Test.Ytjplhoollkeihaa17t
namespace Go.Proofs
open Go.Gk Go.RowKit Go.Gr Go.St

section
variable {r : Sl} {n : Nat} {w0 : World} {y : Value} {dp : Nat → Int}
/-- Blocks of B, each in order and of its own numbers. -/
def Blks (dp : Nat → Int) (d : Nat → Nat) (B n lo : Nat) : Prop := ∀ q, lo ≤ q → Bk dp d (min (q * B) n) (min ((q + 1) * B) n)
set_option maxHeartbeats 4000000 in
theorem stable_spec (hn : n ≤ 4096) (hc : CmpOk r n w0 y dp) {w : World} (hD : Ds r n w0 w id) {R : Value → World → Prop} (hR : ∀ w' d', Ds r n w0 w' d' → Bk dp d' 0 n → R (.tuple #[]) w') {xn : Int} (en : xn = (n : Int)) :
    callR Try.prog 152 #[.slice r.a r.l r.c, .int .i64 xn, y] w R := by
  subst en
  refine callR.of (slices_stableCmpFunc_int_calls r (n : Int) y R w ?_) fun _ _ h => h
  refine LoopW.ghost (fun g (st : Int × Int × Unit) w' => ∃ k : Nat, k * 20 ≤ n ∧ g = n - k * 20 ∧ st = (((k * 20 : Nat) : Int), (((k + 1) * 20 : Nat) : Int), ()) ∧ ∃ d, Ds r n w0 w' d ∧ (∀ q, q < k → Bk dp d (q * 20) ((q + 1) * 20)) ∧ ∀ x, k * 20 ≤ x → d x = x) n ⟨0, by omega, by omega, by simp, id, hD, fun q h => by omega, fun _ _ => rfl⟩ ?_
  rintro _ _ w1 ⟨k, hk, rfl, rfl, d, hD1, hB, hid⟩ next hnext
  dsimp only
  refine ifB_dec (fun hle => ?_) fun hgt => ?_
  · have hle : (k + 1) * 20 ≤ n := by omega
    refine insertion_spec (a := k * 20) (b := (k + 1) * 20) (by omega) hle hn hc hD1 (fun x h1 _ => hid x h1) (fun w2 d2 hD2 hB2 ho => ⟨rfl, hnext (n - (k + 1) * 20) _ _ (by omega) ⟨k + 1, hle, rfl, ?_, d2, hD2, fun q hq => ?_, fun x hx => ?_⟩⟩) rfl rfl
    · have e : IntKind.i64.wrap ((((k + 1) * 20 : Nat) : Int) + (20 : Int)) = (((k + 1 + 1) * 20 : Nat) : Int) := by rw [wrap64_in (by omega) (by omega)]; omega
      rw [e]
    · by_cases e : q = k
      · rw [e]; exact hB2
      · exact (hB q (by omega)).of_out fun x h1 h2 => ho x (.inl (by omega))
    · rw [ho x (.inr hx)]; exact hid x (by omega)
  · have hgt : n < (k + 1) * 20 := by omega
    refine insertion_spec (a := k * 20) (b := n) hk (Nat.le_refl _) hn hc hD1 (fun x h1 _ => hid x h1) (fun w3 d3 hD3 hB3 ho => ⟨rfl, ?_⟩) rfl rfl
    have hAll : Blks dp d3 20 n 0 := fun q _ => by
      by_cases e : q < k
      · rw [Nat.min_eq_left (by omega), Nat.min_eq_left (by omega)]
        exact (hB q e).of_out fun x h1 h2 => ho x (.inl (by omega))
      · by_cases e' : q = k
        · subst e'
          rw [Nat.min_eq_left hk, Nat.min_eq_right (by omega)]
          exact hB3
        · rw [Nat.min_eq_right (by omega), Nat.min_eq_right (by omega)]
          exact ⟨fun i j _ _ _ => by omega, fun x h1 h2 => by omega⟩
    clear hnext next hB hid hB3 ho hD1 d
    refine LoopW.ghost (fun g (st : Int × Unit) w' => ∃ B : Nat, 20 ≤ B ∧ B ≤ 8192 ∧ g = 8192 - B ∧ st = ((B : Int), ()) ∧ ∃ d, Ds r n w0 w' d ∧ Blks dp d B n 0) (8192 - 20) ⟨20, by omega, by omega, rfl, rfl, d3, hD3, hAll⟩ ?_
    clear hAll hD3 d3
    rintro _ _ w4 ⟨B, hB1, hB2, rfl, rfl, d, hD4, hBl⟩ next hnext
    dsimp only
    refine ifB_dec (fun hlt => ?_) fun hge => ?_
    · have hlt : B < n := by omega
      have e2B : IntKind.i64.wrap ((2 : Int) * (B : Int)) = ((2 * B : Nat) : Int) := by rw [wrap64_in (by omega) (by omega)]; omega
      rw [e2B]
      have mono : ∀ {p q : Nat}, p ≤ q → p * B ≤ q * B := fun h => Nat.mul_le_mul_right B h
      have e1 : ∀ t : Nat, (2 * t + 1) * B = t * (2 * B) + B := fun t => by rw [Nat.add_mul, Nat.one_mul, Nat.mul_comm 2 t, Nat.mul_assoc]
      have e0 : ∀ t : Nat, (2 * t) * B = t * (2 * B) := fun t => by rw [Nat.mul_comm 2 t, Nat.mul_assoc]
      have e3 : ∀ t : Nat, (t + 1) * (2 * B) = t * (2 * B) + 2 * B := fun t => by rw [Nat.add_mul, Nat.one_mul]
      refine LoopW.ghost (fun g (st : Int × Int × Unit) w' => ∃ t : Nat, t * (2 * B) ≤ n ∧ g = n - t * (2 * B) ∧ st = (((t * (2 * B) : Nat) : Int), (((t + 1) * (2 * B) : Nat) : Int), ()) ∧ ∃ d, Ds r n w0 w' d ∧ (∀ q, q < t → Bk dp d (q * (2 * B)) ((q + 1) * (2 * B))) ∧ Blks dp d B n (2 * t)) n ⟨0, by omega, by omega, by simp, d, hD4, fun q h => by omega, hBl⟩ ?_
      rintro _ _ w5 ⟨t, ht, rfl, rfl, d, hD5, hT, hBl⟩ next2 hnext2
      dsimp only
      have ht1 := e3 t
      have ea : IntKind.i64.wrap (((t * (2 * B) : Nat) : Int) + (B : Int)) = ((t * (2 * B) + B : Nat) : Int) := by rw [wrap64_in (by omega) (by omega)]; omega
      rw [ea]
      have b0 : Bk dp d (t * (2 * B)) (min (t * (2 * B) + B) n) := by
        have := hBl (2 * t) (Nat.le_refl _)
        rw [e0, e1, Nat.min_eq_left ht] at this
        exact this
      have b1 : Bk dp d (min (t * (2 * B) + B) n) (min ((t + 1) * (2 * B)) n) := by
        have := hBl (2 * t + 1) (by omega)
        rw [e1, show 2 * t + 1 + 1 = 2 * (t + 1) by omega, e0] at this
        exact this
      -- two blocks put in one
      have two : ∀ {b : Nat} {K : Prop}, t * (2 * B) + B < b → b ≤ n → b = min ((t + 1) * (2 * B)) n → ∀ {xb : Int}, xb = (b : Int) → ∀ {K : World → Prop}, (∀ w6 d6, Ds r n w0 w6 d6 → Bk dp d6 (t * (2 * B)) b → (∀ x, x < t * (2 * B) ∨ b ≤ x → d6 x = d x) → K w6) →
          callR Try.prog 182 #[.slice r.a r.l r.c, .int .i64 ((t * (2 * B) : Nat) : Int), .int .i64 ((t * (2 * B) + B : Nat) : Int), .int .i64 xb, y] w5 fun v w6 => v = .tuple #[] ∧ K w6 := fun {b} _ hb1 hb2 hbe {xb} exb {K} hK => by
        rw [Nat.min_eq_left (by omega)] at b0 b1
        rw [← hbe] at b1
        refine symMerge_spec hn hc (b - t * (2 * B)) (Nat.le_refl _) (by omega) hb1 hb2 hD5 (fun x hx => ?_) (fun i j h1 h2 h3 h4 => ?_) b0.so b1.so (fun w6 d6 hD6 so6 per6 => ⟨rfl, hK w6 d6 hD6 (b0.merge b1 (by omega) (by omega) per6 so6) fun x hx => per6.out x hx⟩) rfl rfl exb
        · -- all numbers are below n
          by_cases q : t * (2 * B) ≤ x
          · have hq := hBl (x / B) (by
              rw [Nat.le_div_iff_mul_le (by omega), e0]
              exact q)
            have h5 := Nat.div_mul_le_self x B
            have h6 : x < (x / B + 1) * B := by rw [Nat.add_mul, Nat.one_mul]; have := Nat.mod_lt x (show 0 < B by omega); have := Nat.div_add_mod x B; rw [Nat.mul_comm] at this; omega
            have := hq.own x (by rw [Nat.min_eq_left (by omega)]; exact h5) (by omega)
            omega
          · have hq := hT (x / (2 * B)) (by rw [Nat.div_lt_iff_lt_mul (by omega)]; omega)
            have h5 := Nat.div_mul_le_self x (2 * B)
            have h6 : x < (x / (2 * B) + 1) * (2 * B) := by rw [Nat.add_mul, Nat.one_mul]; have := Nat.mod_lt x (show 0 < 2 * B by omega); have := Nat.div_add_mod x (2 * B); rw [Nat.mul_comm] at this; omega
            have := hq.own x h5 h6
            have h8 : x / (2 * B) < t := by rw [Nat.div_lt_iff_lt_mul (by omega)]; omega
            have h7 : (x / (2 * B) + 1) * (2 * B) ≤ t * (2 * B) := Nat.mul_le_mul_right _ h8
            omega
        · have := b0.own i h1 h2
          have := b1.own j h3 h4
          omega
      refine ifB_dec (fun hle => ?_) fun hgt => ?_
      · have hle : (t + 1) * (2 * B) ≤ n := by omega
        refine two (K := True) (b := (t + 1) * (2 * B)) (by omega) hle (by rw [Nat.min_eq_left hle]) rfl fun w6 d6 hD6 hB6 ho => hnext2 (n - (t + 1) * (2 * B)) _ _ (by omega) ⟨t + 1, hle, rfl, ?_, d6, hD6, fun q hq => ?_, fun q hq => ?_⟩
        · have h9 := e3 (t + 1)
          have e : IntKind.i64.wrap ((((t + 1) * (2 * B) : Nat) : Int) + ((2 * B : Nat) : Int)) = (((t + 1 + 1) * (2 * B) : Nat) : Int) := by rw [wrap64_in (by omega) (by omega)]; omega
          rw [e]
        · by_cases e : q = t
          · rw [e]; exact hB6
          · have h7 : (q + 1) * (2 * B) ≤ t * (2 * B) := Nat.mul_le_mul_right _ (by omega)
            exact (hT q (by omega)).of_out fun x h1 h2 => ho x (.inl (by omega))
        · have h7 : (2 * (t + 1)) * B ≤ q * B := mono hq
          rw [e0] at h7
          exact (hBl q (by omega)).of_out fun x h1 h2 => ho x (.inr (by omega))
      · have hgt : n < (t + 1) * (2 * B) := by omega
        have fin : ∀ (w8 : World) (d8 : Nat → Nat), Ds r n w0 w8 d8 → Bk dp d8 (t * (2 * B)) n → (∀ x, x < t * (2 * B) → d8 x = d x) → next ((IntKind.i64.wrap ((B : Int) * (2 : Int))), ()) w8 := fun w8 d8 hD8 hB8 ho => by
          have eB2 : IntKind.i64.wrap ((B : Int) * (2 : Int)) = ((2 * B : Nat) : Int) := by rw [wrap64_in (by omega) (by omega)]; omega
          refine hnext (8192 - 2 * B) _ _ (by omega) ⟨2 * B, by omega, by omega, rfl, by rw [eB2], d8, hD8, fun q _ => ?_⟩
          by_cases e : q < t
          · have h7 : (q + 1) * (2 * B) ≤ t * (2 * B) := Nat.mul_le_mul_right _ (by omega)
            have h8 := e3 q
            rw [Nat.min_eq_left (by omega), Nat.min_eq_left (by omega)]
            exact (hT q e).of_out fun x h1 h2 => ho x (by omega)
          · by_cases e' : q = t
            · subst e'
              rw [Nat.min_eq_left ht, Nat.min_eq_right (by omega)]
              exact hB8
            · have h7 : (t + 1) * (2 * B) ≤ q * (2 * B) := Nat.mul_le_mul_right _ (by omega)
              have h8 := e3 q
              rw [Nat.min_eq_right (by omega), Nat.min_eq_right (by omega)]
              exact ⟨fun i j _ _ _ => by omega, fun x h1 h2 => by omega⟩
        refine JoinW.cut (fun _ w' => ∃ d8, Ds r n w0 w' d8 ∧ Bk dp d8 (t * (2 * B)) n ∧ ∀ x, x < t * (2 * B) → d8 x = d x) ?_ fun _ w8 ⟨d8, q1, q2, q3⟩ => fin w8 d8 q1 q2 q3
        refine ifB_dec (fun hlt2 => ?_) fun hge2 => ⟨d, hD5, ?_, fun _ _ => rfl⟩
        · refine two (K := True) (b := n) (by omega) (Nat.le_refl _) (by rw [Nat.min_eq_right (by omega)]) rfl fun w6 d6 hD6 hB6 ho => ⟨d6, hD6, hB6, fun x hx => ho x (.inl hx)⟩
        · rw [Nat.min_eq_right (by omega)] at b0
          exact b0
    · have hge : n ≤ B := by omega
      refine hR w4 d hD4 ?_
      have := hBl 0 (Nat.le_refl _)
      rw [Nat.zero_mul, Nat.zero_add, Nat.one_mul, Nat.min_eq_left (by omega), Nat.min_eq_right hge] at this
      exact this
theorem SortStable_spec (hn : n ≤ 4096) (hc : CmpOk r n w0 y dp) {w : World} (hD : Ds r n w0 w id) {R : Value → World → Prop} (hR : ∀ w' d', Ds r n w0 w' d' → Bk dp d' 0 n → R (.tuple #[]) w') :
    callR Try.prog 114 #[.slice r.a r.l r.c, y] w R := by
  refine callR.of (slices_SortStableFunc_sint_int_calls r y R w ?_) fun _ _ h => h
  exact stable_spec hn hc hD (fun w' d' h1 h2 => ⟨rfl, hR w' d' h1 h2⟩) (by rw [hD.len])
end

end Go.Proofs
