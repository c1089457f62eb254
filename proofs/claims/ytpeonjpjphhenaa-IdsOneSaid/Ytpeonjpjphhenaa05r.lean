/-
  layout, the document's: May and Check.
-/
import Derived.Test.Ytpeonjpjphhenaa05z
namespace Go.Proofs
open Go.Gk Go.RowKit Go.Gm

/-! ### Plain: a label ahead -/
theorem may_op {pl : List PI} {n : Nat} (h : mayP pl n = true) (h8 : partP (ix pl n) = 8) : opMay (ix pl n).1 (aheadP pl n) (firstP pl (n - 1)) = true := by
  unfold mayP at h
  by_cases e : overP pl n = true
  · rw [if_pos e] at h; cases h
  rw [if_neg e, if_neg (by omega)] at h
  by_cases e2 : 1 < partP (ix pl n) ∧ mdlP pl n = false
  · rw [if_pos e2] at h; cases h
  rw [if_neg e2, if_neg (by omega)] at h
  exact h
theorem has_label {pl : List PI} : ∀ {n : Nat}, GoodL pl n → ¬ (aheadP pl n = 0 ∨ aheadP pl n = 54 ∨ aheadP pl n = 55 ∨ aheadP pl n = 56 ∨ endsP (aheadP pl n) = true) → ∃ k, 1 ≤ k ∧ k < n ∧ (ix pl k).1 = 248
  | 0, _, h => absurd (.inl rfl) h
  | m + 1, hg, h => by
    have e0 : aheadP pl (m + 1) = if partP (ix pl m) = 8 then (ix pl m).1 else 0 := rfl
    by_cases h8 : partP (ix pl m) = 8
    · rw [if_pos h8] at e0
      rw [e0] at h
      have hm := may_op (hg m (Nat.lt_succ_self m)) h8
      by_cases e248 : (ix pl m).1 = 248
      · refine ⟨m, ?_, Nat.lt_succ_self m, e248⟩
        cases m with
        | zero =>
          exfalso
          rw [e248] at hm
          have h0 : opMay 248 (aheadP pl 0) (firstP pl (0 - 1)) = false := rfl
          rw [h0] at hm
          cases hm
        | succ m => omega
      · have hgm : GoodL pl m := fun k hk => hg k (by omega)
        have : ¬ (aheadP pl m = 0 ∨ aheadP pl m = 54 ∨ aheadP pl m = 55 ∨ aheadP pl m = 56 ∨ endsP (aheadP pl m) = true) := by
          intro hc
          unfold opMay at hm
          rw [if_neg (fun e => h (.inr (.inl e))), if_neg (fun e => h (.inr (.inr (.inl e)))), if_neg e248, if_neg (fun e => h (.inr (.inr (.inr (.inl e))))), if_pos hc] at hm
          cases hm
        obtain ⟨k, h1, h2, h3⟩ := has_label hgm this
        exact ⟨k, h1, by omega, h3⟩
    · rw [if_neg h8] at e0
      exact absurd (.inl e0) h

section
variable {pl : List PI} {w : World} {R : Value → World → Prop}
theorem rPart_spec {x : Ins} {al : List Ag} (hI : IsAg w x.2.2.2.1 al) (hR : ∀ w', Below w.heap.size w w' → R (.int .i64 (partP (piOf x al) : Int)) w') : callR Try.prog 69 #[inA x] w R := by
  refine callR.of (intaglioref05_Part_calls x R w ?_) fun _ _ h => h
  refine lay_of fun w1 hB b1 z1 => ?_
  have hB : Blk w1 w.heap.size 45 (inV x) := hB
  have hlen := hI.len
  refine JoinW.cut (fun _ w' => w' = w1 ∧ isVar (piOf x al) = false) ?_ ?_
  · refine hB.rI0 rfl (ifB_beq (fun e1 => ?_) (fun e1 => ⟨rfl, ?_⟩))
    · refine hB.rS (n := 3) rfl (ifB_dec (fun h => ?_) (fun h => ⟨rfl, ?_⟩))
      · have h0 : 0 < al.length := by omega
        refine hB.rS (n := 3) rfl (elemAn (hI.below b1) (k := 0) h0 (ifB_beq (fun e2 => ?_) (fun e2 => ⟨rfl, ?_⟩)))
        · have := hR w1 b1
          unfold partP at this
          rw [isVar_nth (p := piOf x al) (h := h0), beq_iff_eq.2 e1, beq_iff_eq.2 e2] at this
          exact this
        · rw [isVar_nth (p := piOf x al) (h := h0), beq_eq_false_iff_ne.2 e2, Bool.and_false]
      · have h0 : al = [] := List.length_eq_zero_iff.1 (by omega)
        subst h0
        unfold isVar
        rw [Bool.and_false]
    · unfold isVar
      rw [beq_eq_false_iff_ne.2 e1, Bool.false_and]
  · rintro _ w2 ⟨rfl, hv⟩
    refine hB.rI0 rfl (rOf_spec fun w3 b3 => ⟨fmO x.1 (frm x.1), (frm x.1).isSome, rfl, ?_⟩)
    refine box8 rfl fun w4 hF4 b4 z4 => ?_
    refine hF4.rI (n := 7) rfl ?_
    have := hR w4 ((b1.on b3).on b4)
    unfold partP at this
    rw [if_neg (by rw [hv]; decide)] at this
    rw [fmO_part, wrap64_in (by omega) (by have := partO_le x.1; omega)]
    exact this
theorem rEnds_spec {op : Int} (hR : R (.bool (endsP op)) w) : callR Try.prog 94 #[.int .u16 op] w R := by
  refine callR.of (intaglioref05_Ends_calls op R w ?_) fun _ _ h => h
  have yes : 249 ≤ op → op ≤ 255 → R (.bool true) w := fun h1 h2 => by rwa [ends_iff.2 ⟨h1, h2⟩] at hR
  refine ifB_beq (fun e => yes (by omega) (by omega)) (fun e1 => ?_)
  refine ifB_beq (fun e => yes (by omega) (by omega)) (fun e2 => ?_)
  refine ifB_beq (fun e => yes (by omega) (by omega)) (fun e3 => ?_)
  refine ifB_beq (fun e => yes (by omega) (by omega)) (fun e4 => ?_)
  refine ifB_beq (fun e => yes (by omega) (by omega)) (fun e5 => ?_)
  refine ifB_beq (fun e => yes (by omega) (by omega)) (fun e6 => ?_)
  have : endsP op = (op == 255) := by
    cases h : endsP op
    · have := ends_false.1 h
      exact (beq_eq_false_iff_ne.2 (by omega)).symm
    · have := ends_iff.1 h
      exact (beq_iff_eq.2 (by omega)).symm
  rwa [this] at hR
theorem rFirst_spec {s : Sl} {n : Nat} (hN : IsPl w s pl) (hmax : pl.length < 9223372036854775807) (hn : n < pl.length) (hl : ∃ k, 1 ≤ k ∧ k ≤ n ∧ (ix pl k).1 = 248) (hR : R (.bool (firstP pl n)) w) :
    callR Try.prog 95 #[.slice s.a s.l s.c, .int .i64 (n : Int)] w R := by
  refine callR.of (intaglioref05_first_calls s n R w ?_) fun _ _ h => h
  refine LoopW.ghost (fun j (st : Int × Unit) w' => w' = w ∧ st = ((j : Int), ()) ∧ j ≤ n ∧ firstP pl j = firstP pl n ∧ ∃ k, 1 ≤ k ∧ k ≤ j ∧ (ix pl k).1 = 248) n ⟨rfl, rfl, Nat.le_refl _, rfl, hl⟩ ?_
  rintro j _ w1 ⟨hw, rfl, hj, hf, k, hk1, hk2, hk3⟩ next hnext
  subst hw
  have hjl : j < pl.length := by omega
  obtain ⟨m, rfl⟩ : ∃ m, j = m + 1 := ⟨j - 1, by omega⟩
  have ew : IntKind.i64.wrap (((m + 1 : Nat) : Int) - 1) = (m : Int) := by rw [wrap64_in (by omega) (by omega)]; omega
  dsimp only
  rw [ew]
  refine elemPo hN hjl ?_
  rw [← ix_lt hjl]
  refine ifB_bne (fun e => ?_) (fun e => ?_)
  · have e' : firstP pl (m + 1) = firstP pl m := if_neg e
    refine hnext m _ _ (by omega) ⟨rfl, rfl, by omega, by rw [← e', hf], k, hk1, ?_, hk3⟩
    by_cases e2 : k = m + 1
    · subst e2; exact absurd hk3 e
    · omega
  · have e' : firstP pl (m + 1) = ((ix pl m).1 == 54 || (ix pl m).1 == 55) := if_pos e
    rw [← hf, e'] at hR
    have hml : m < pl.length := by omega
    refine elemPo hN hml (ifB_beq (fun e1 => ?_) (fun e1 => elemPo hN hml ?_))
    · rw [← ix_lt hml] at e1
      rw [beq_iff_eq.2 e1, Bool.true_or] at hR
      exact hR
    · rw [← ix_lt hml] at e1 ⊢
      rw [beq_eq_false_iff_ne.2 e1, Bool.false_or] at hR
      exact hR
theorem mdlP_succ (pl : List PI) (n : Nat) : mdlP pl (n + 1) = (mdlP pl n || partP (ix pl n) == 1) := by unfold mdlP; rw [List.range_succ, List.any_append]; simp
theorem rMay_spec {s : Sl} {n : Nat} (hN : IsPl w s pl) (hmax : pl.length < 9223372036854775807) (hn : n < pl.length) (hg : GoodL pl n) (hR : ∀ w', Below w.heap.size w w' → R (.bool (mayP pl n)) w') :
    callR Try.prog 68 #[.slice s.a s.l s.c, .int .i64 (n : Int)] w R := by
  refine callR.of (intaglioref05_May_calls s n R w ?_) fun _ _ h => h
  refine elemPI hN hn fun t ht => ?_
  have ep : ∀ {j : Nat} (hj : j < pl.length) (t : Sl), partP (piOf (mkIn pl[j] t) pl[j].2.2.2) = partP (ix pl j) := fun hj t => by rw [ix_lt hj]
  refine rPart_spec (x := mkIn pl[n] t) ht fun w1 b1 => ⟨_, rfl, ?_⟩
  rw [ep hn t]
  refine LoopW.ghost (fun j (st : Int × Int × Unit) w' => ∃ (k : Nat) (m : Int), j = n - k ∧ k ≤ n ∧ st = (m, (k : Int), ()) ∧ Below w.heap.size w w' ∧ 0 ≤ m ∧ m ≤ k ∧ (mdlP pl k = !(m == 0)) ∧ ∀ i, i < k → partP (ix pl i) ≤ partP (ix pl n)) n
    ⟨0, 0, rfl, Nat.zero_le _, rfl, b1, by omega, by omega, rfl, fun i hi => by omega⟩ ?_
  rintro _ _ w2 ⟨k, m, rfl, hk, rfl, hb, hm0, hmk, hmd, hlow⟩ next hnext
  have hN2 := hN.below hb
  refine ifB_dec (fun h => ?_) (fun h => ?_)
  · have hkn : k < n := by dsimp only at h; omega
    have hkl : k < pl.length := by omega
    refine JoinW.cut (fun (st : Int × Unit) w' => Below w.heap.size w w' ∧ partP (ix pl k) ≤ partP (ix pl n) ∧ 0 ≤ st.1 ∧ st.1 ≤ k + 1 ∧ mdlP pl (k + 1) = !(st.1 == 0)) ?_ ?_
    · refine elemPI hN2 hkl fun t ht => ?_
      refine rPart_spec (x := mkIn pl[k] t) ht fun w3 b3 => ⟨_, rfl, ?_⟩
      rw [ep hkl t]
      have hb3 := hb.on b3
      refine ifB_dec (fun hgt => ?_) (fun hgt => ?_)
      · have := hR w3 hb3
        rw [may_over hkn (by omega)] at this
        exact this
      · refine elemPI (hN.below hb3) hkl fun t ht => ?_
        refine rPart_spec (x := mkIn pl[k] t) ht fun w4 b4 => ⟨_, rfl, ?_⟩
        rw [ep hkl t]
        have hb4 := hb3.on b4
        refine ifB_beq (fun e1 => ?_) (fun e1 => ?_)
        · have e1 : ((partP (ix pl k) : Nat) : Int) = ((1 : Nat) : Int) := e1
          have e1 := Int.ofNat.inj e1
          dsimp only
          rw [wrap64_in (by omega) (by omega)]
          refine ⟨hb4, by omega, by omega, by omega, ?_⟩
          rw [mdlP_succ, beq_iff_eq.2 e1, Bool.or_true, beq_eq_false_iff_ne.2 (show m + 1 ≠ 0 by omega)]
          rfl
        · refine ⟨hb4, by omega, hm0, by dsimp only; omega, ?_⟩
          rw [mdlP_succ, hmd, beq_eq_false_iff_ne.2 (show partP (ix pl k) ≠ 1 from fun h => e1 (by rw [h]; rfl)), Bool.or_false]
    · rintro ⟨m', _⟩ w5 ⟨hb5, hp5, h05, h15, hmd5⟩
      dsimp only at h05 h15 hmd5 ⊢
      rw [wrap64_in (by omega) (by omega)]
      refine hnext (n - (k + 1)) _ _ (by omega) ⟨k + 1, m', rfl, by omega, rfl, hb5, h05, by omega, hmd5, fun i hi => ?_⟩
      by_cases e : i = k
      · subst e; exact hp5
      · exact hlow i (by omega)
  · have hkn : k = n := by dsimp only at h; omega
    subst hkn
    have no : ¬ overP pl k = true := not_over hlow
    dsimp only
    refine ifB_beq (fun e1 => ?_) (fun e1 => ?_)
    · have := hR w2 hb
      unfold mayP at this
      rw [if_neg no, if_pos (by omega), hmd, Bool.not_not] at this
      exact this
    have n1 : ¬ partP (ix pl k) = 1 := fun h => e1 (by rw [h]; rfl)
    refine JoinW.cut (fun _ w' => w' = w2 ∧ ¬ (1 < partP (ix pl k) ∧ mdlP pl k = false)) ?_ ?_
    · refine ifB_dec (fun h1 => ifB_beq (fun e0 => ?_) (fun e0 => ⟨rfl, fun ⟨_, g⟩ => ?_⟩)) (fun h1 => ⟨rfl, fun ⟨g, _⟩ => by omega⟩)
      · have := hR w2 hb
        rw [may_nomodel (by rw [hmd, e0]; rfl) (by omega)] at this
        exact this
      · rw [hmd, beq_eq_false_iff_ne.2 e0] at g
        cases g
    rintro _ w6 ⟨rfl, n2⟩
    refine ifB_dec (fun h8 => ?_) (fun h8 => ?_)
    · have := hR w6 hb
      unfold mayP at this
      rw [if_neg no, if_neg n1, if_neg n2, if_pos (by omega)] at this
      exact this
    have hR : ∀ w', Below w.heap.size w w' → R (.bool (opMay (ix pl k).1 (aheadP pl k) (firstP pl (k - 1)))) w' := fun w' hb' => by
      have := hR w' hb'
      unfold mayP at this
      rw [if_neg no, if_neg n1, if_neg n2, if_neg (by omega)] at this
      exact this
    have hlab := @has_label pl k hg
    refine elemPo hN2 hn ?_
    rw [← ix_lt hn]
    refine JoinW.cut (fun (st : Int × Unit) w' => Below w.heap.size w w' ∧ st.1 = aheadP pl k) ?_ ?_
    · refine ifB_dec (fun hp => ?_) (fun hp => ?_)
      · obtain ⟨m', rfl⟩ : ∃ m', k = m' + 1 := ⟨k - 1, by omega⟩
        have ew : IntKind.i64.wrap (((m' + 1 : Nat) : Int) - 1) = (m' : Int) := by rw [wrap64_in (by omega) (by omega)]; omega
        rw [ew]
        have hml : m' < pl.length := by omega
        refine elemPI hN2 hml fun t ht => ?_
        refine rPart_spec (x := mkIn pl[m'] t) ht fun w7 b7 => ⟨_, rfl, ?_⟩
        rw [ep hml t]
        have hb7 := hb.on b7
        refine ifB_beq (fun e8 => ?_) (fun e8 => ⟨hb7, ?_⟩)
        · refine elemPo (hN.below hb7) hml ⟨hb7, ?_⟩
          rw [← ix_lt hml]
          exact (if_pos (by omega)).symm
        · exact (if_neg (fun h => e8 (by rw [h]; rfl))).symm
      · have : k = 0 := by omega
        subst this
        exact ⟨hb, rfl⟩
    rintro ⟨ah, _⟩ w8 ⟨hb8, hah⟩
    dsimp only at hah ⊢
    rw [← hah] at hR hlab
    have hN8 := hN.below hb8
    have hR8 := hR w8 hb8
    generalize (ix pl k).1 = op at hR hR8
    have hfirst : ¬ (ah = 0 ∨ ah = 54 ∨ ah = 55 ∨ ah = 56 ∨ endsP ah = true) → ∀ {S : Value → World → Prop}, S (.bool (firstP pl (k - 1))) w8 → callR Try.prog 95 #[.slice s.a s.l s.c, .int .i64 (IntKind.i64.wrap ((k : Int) - 1))] w8 S := by
      intro hc S hS
      obtain ⟨j, j1, j2, j3⟩ := hlab hc
      obtain ⟨m', rfl⟩ : ∃ m', k = m' + 1 := ⟨k - 1, by omega⟩
      have ew : IntKind.i64.wrap (((m' + 1 : Nat) : Int) - 1) = (m' : Int) := by rw [wrap64_in (by omega) (by omega)]; omega
      rw [ew]
      exact rFirst_spec hN8 hmax (by omega) ⟨j, j1, by omega, j3⟩ hS
    unfold opMay at hR8
    have bt : ∀ {a b : Int} (c : Bool), a = b → R (.bool ((a == b) || c)) w8 → R (.bool true) w8 := fun c h g => by rwa [beq_iff_eq.2 h, Bool.true_or] at g
    have bf : ∀ {a b : Int} (c : Bool), a ≠ b → R (.bool ((a == b) || c)) w8 → R (.bool c) w8 := fun c h g => by rwa [beq_eq_false_iff_ne.2 h, Bool.false_or] at g
    refine ifB_beq (fun e => ?_) (fun e => ?_)
    · rw [if_pos e] at hR8
      exact ifB_beq (fun e2 => bt _ e2 hR8) (fun e2 => bf _ e2 hR8)
    rw [if_neg e] at hR8
    refine ifB_beq (fun e => ?_) (fun e => ?_)
    · rw [if_pos e] at hR8
      exact ifB_beq (fun e2 => bt _ e2 hR8) (fun e2 => bf _ e2 hR8)
    rw [if_neg e] at hR8
    refine ifB_beq (fun e => ?_) (fun e => ?_)
    · rw [if_pos e, Bool.or_assoc] at hR8
      exact ifB_beq (fun e2 => bt _ e2 hR8) (fun e2 => ifB_beq (fun e3 => bt _ e3 (bf _ e2 hR8)) (fun e3 => rEnds_spec ⟨_, rfl, bf _ e3 (bf _ e2 hR8)⟩))
    rw [if_neg e] at hR8
    refine ifB_beq (fun e => ?_) (fun e => ?_)
    · rw [if_pos e] at hR8
      exact rEnds_spec ⟨_, rfl, hR8⟩
    rw [if_neg e] at hR8
    refine JoinW.cut (fun _ w' => w' = w8 ∧ ¬ (ah = 0 ∨ ah = 54 ∨ ah = 55 ∨ ah = 56 ∨ endsP ah = true)) ?_ ?_
    · refine ifB_beq (fun e0 => by rwa [if_pos (.inl e0)] at hR8) (fun e0 => ?_)
      refine ifB_beq (fun e1 => by rwa [if_pos (.inr (.inl e1))] at hR8) (fun e1 => ?_)
      refine ifB_beq (fun e2 => by rwa [if_pos (.inr (.inr (.inl e2)))] at hR8) (fun e2 => ?_)
      refine ifB_beq (fun e3 => by rwa [if_pos (.inr (.inr (.inr (.inl e3))))] at hR8) (fun e3 => ?_)
      refine rEnds_spec ⟨_, rfl, ifB_bool (fun e4 => by rwa [if_pos (.inr (.inr (.inr (.inr e4))))] at hR8) (fun e4 => ⟨rfl, ?_⟩)⟩
      rintro (g | g | g | g | g)
      · exact e0 g
      · exact e1 g
      · exact e2 g
      · exact e3 g
      · rw [e4] at g; cases g
    rintro _ w9 ⟨rfl, hc⟩
    rw [if_neg hc] at hR8
    refine ifB_beq (fun e => ?_) (fun e => ?_)
    · rw [if_pos e] at hR8
      refine ifB_beq (fun e2 => ?_) (fun e2 => ifB_beq (fun e3 => ?_) (fun e3 => ?_))
      · rw [beq_iff_eq.2 e2, Bool.true_or, Bool.true_and] at hR8
        exact hfirst hc ⟨_, rfl, hR8⟩
      · rw [beq_iff_eq.2 e3, Bool.or_true, Bool.true_and] at hR8
        exact hfirst hc ⟨_, rfl, hR8⟩
      · rw [beq_eq_false_iff_ne.2 e2, beq_eq_false_iff_ne.2 e3, Bool.or_false, Bool.false_and] at hR8
        exact hR8
    rw [if_neg e] at hR8
    refine ifB_beq (fun e => ?_) (fun e => ?_)
    · rw [if_pos e] at hR8
      refine ifB_beq (fun e2 => ?_) (fun e2 => ifB_beq (fun e3 => ?_) (fun e3 => ?_))
      · rw [beq_iff_eq.2 e2, Bool.true_or, Bool.true_and] at hR8
        exact hfirst hc ⟨_, rfl, hR8⟩
      · rw [beq_iff_eq.2 e3, Bool.or_true, Bool.true_and] at hR8
        exact hfirst hc ⟨_, rfl, hR8⟩
      · rw [beq_eq_false_iff_ne.2 e2, beq_eq_false_iff_ne.2 e3, Bool.or_false, Bool.false_and] at hR8
        exact hR8
    rw [if_neg e] at hR8
    refine ifB_beq (fun e => ?_) (fun e => ?_)
    · rw [if_pos e] at hR8
      exact ifB_beq (fun e2 => bt _ e2 hR8) (fun e2 => bf _ e2 hR8)
    rw [if_neg e] at hR8
    refine ifB_beq (fun e => ?_) (fun e => ?_)
    · rw [if_pos e] at hR8
      exact ifB_beq (fun e2 => bt _ e2 hR8) (fun e2 => bf _ e2 hR8)
    · rw [if_neg e] at hR8
      exact hR8
theorem r5Check_spec {x : Mo} (hN : IsPl w x.2.2.1 pl) (hp : PlOk pl) (hR : ∀ w', Below w.heap.size w w' → R (.agg #[.int .i64 (layP x.2.1 pl).1, .int .i64 ((layP x.2.1 pl).2 : Int)]) w') :
    callR Try.prog 40 #[moA x] w R := by
  refine callR.of (intaglioref05_Check_calls x R w ?_) fun _ _ h => h
  refine lay_of fun w1 hB1 b1 z1 => ?_
  have hB1 : Blk w1 w.heap.size 25 (moV x) := hB1
  refine lay_of fun w2 hC2 b2 z2 => ?_
  have hC2 : Blk w2 w1.heap.size 29 [.int .i64 0, .int .i64 0] := hC2
  have hb2 := b1.on b2
  have s1 := b1.size
  have hlen := hN.len
  have h40 := hp.len
  refine Mo.load (hB1.below b2) ?_
  refine rShape_spec (x := x) (hN.below hb2) hp fun w3 b3 => ⟨((shapeP x.2.1 pl).1, ((shapeP x.2.1 pl).2 : Int), ()), rfl, ?_⟩
  refine box2 rfl fun w4 h4 b4 z4 => ?_
  have b24 := b3.on b4
  have hb4 := hb2.on b24
  have hB4 := (hB1.below b2).below b24
  have hC4 := hC2.below b24
  refine h4.rI0 rfl (ifB_bne (fun e => ?_) (fun e => ?_))
  · have e' : (shapeP x.2.1 pl).1 ≠ 0 := e
    have hl : layP x.2.1 pl = shapeP x.2.1 pl := if_pos e'
    rw [hl] at hR
    refine Sp.load h4 ?_
    refine st2 hC4 rfl fun w5 h5 c5 => Sp.load h5 ?_
    exact hR w5 (c5.below hb4 (by omega))
  · have e' : (shapeP x.2.1 pl).1 = 0 := e
    have hl : layP x.2.1 pl = chkP pl := if_neg (fun h => h e')
    rw [hl] at hR
    refine hB4.rS (n := 2) (x := x.2.2.1) rfl ?_
    have ep : ∀ {j : Nat} (hj : j < pl.length) (t : Sl), partP (piOf (mkIn pl[j] t) pl[j].2.2.2) = partP (ix pl j) := fun hj t => by rw [ix_lt hj]
    have out : ∀ {w' : World} {a b : Int} , Below w4.heap.size w4 w' → (chkP pl).1 = a → (((chkP pl).2 : Nat) : Int) = b → Wr w' (blk w1.heap.size) ∧ Nw (w'.setCell (blk w1.heap.size) (.int .i64 a)) fun w7 => Wr w7 ((blk w1.heap.size).add 1) ∧
        Nw (w7.setCell ((blk w1.heap.size).add 1) (.int .i64 b)) fun w8 => ldI w8 ((blk w1.heap.size).add 0) .i64 fun x9 => ldI w8 ((blk w1.heap.size).add 1) .i64 fun x10 => R (.agg #[(.int .i64 x9), (.int .i64 x10)]) w8 := by
      intro w' a b hb e1 e2
      subst e1 e2
      exact st2 (hC4.below hb) rfl fun w8 h8 c8 => Sp.load h8 (hR w8 (c8.below (hb4.on hb) (by omega)))
    refine LoopW.ghost (fun j (st : Int × Int × Unit) w' => ∃ (k : Nat) (m : Int), j = pl.length - k ∧ k ≤ pl.length ∧ st = (m, (k : Int), ()) ∧ Below w4.heap.size w4 w' ∧ 0 ≤ m ∧ m ≤ k ∧ (mdlP pl k = !(m == 0)) ∧ GoodL pl k) pl.length
      ⟨0, 0, rfl, Nat.zero_le _, rfl, Below.refl _ _, by omega, by omega, rfl, fun i hi => by omega⟩ ?_
    rintro _ _ w5 ⟨k, m, rfl, hk, rfl, hb, hm0, hmk, hmd, hg⟩ next hnext
    have hN5 := hN.below (hb4.on hb)
    refine ifB_dec (fun h => ?_) (fun h => ?_)
    · have hkl : k < pl.length := by dsimp only at h; omega
      refine JoinW.cut (fun (st : Int × Unit) w' => Below w4.heap.size w4 w' ∧ mayP pl k = true ∧ 0 ≤ st.1 ∧ st.1 ≤ k + 1 ∧ mdlP pl (k + 1) = !(st.1 == 0)) ?_ ?_
      · refine rMay_spec hN5 (by omega) hkl hg fun w6 b6 => ⟨_, rfl, ?_⟩
        have hb6 := hb.on b6
        refine ifB_not (ifB_bool (fun hm => ?_) (fun hm => ?_))
        · refine elemPI (hN.below (hb4.on hb6)) hkl fun t ht => ?_
          refine rPart_spec (x := mkIn pl[k] t) ht fun w7 b7 => ⟨_, rfl, ?_⟩
          rw [ep hkl t]
          have hb7 := hb6.on b7
          refine ifB_beq (fun e1 => ?_) (fun e1 => ?_)
          · have e1 : ((partP (ix pl k) : Nat) : Int) = ((1 : Nat) : Int) := e1
            have e1 := Int.ofNat.inj e1
            dsimp only
            rw [wrap64_in (by omega) (by omega)]
            refine ⟨hb7, hm, by omega, by omega, ?_⟩
            rw [mdlP_succ, beq_iff_eq.2 e1, Bool.or_true, beq_eq_false_iff_ne.2 (show m + 1 ≠ 0 by omega)]
            rfl
          · refine ⟨hb7, hm, hm0, by dsimp only; omega, ?_⟩
            rw [mdlP_succ, hmd, beq_eq_false_iff_ne.2 (show partP (ix pl k) ≠ 1 from fun h => e1 (by rw [h]; rfl)), Bool.or_false]
        · have hch := chk_bad hg hkl hm
          exact out hb6 (by rw [hch]) (by rw [hch])
      · rintro ⟨m', _⟩ w8 ⟨hb8, hm8, h08, h18, hmd8⟩
        dsimp only at h08 h18 hmd8 ⊢
        rw [wrap64_in (by omega) (by omega)]
        exact hnext (pl.length - (k + 1)) _ _ (by omega) ⟨k + 1, m', rfl, hkl, rfl, hb8, h08, by omega, hmd8, hg.step hm8⟩
    · have hkl : k = pl.length := by dsimp only at h; omega
      subst hkl
      have hch := chk_end hg
      dsimp only
      have opn : openP pl = true → ∀ {w' : World}, Below w4.heap.size w4 w' → _ := fun ho {w'} hb' => out (w' := w') (a := 51) (b := (pl.length : Int)) hb' (by rw [hch, if_pos ho]) (by rw [hch, if_pos ho])
      rw [hlen]
      refine JoinW.cut (fun _ w' => Below w4.heap.size w4 w' ∧ openP pl = false) ?_ ?_
      · refine ifB_beq (fun e0 => opn (open_nomodel (by rw [hmd, e0]; rfl)) hb) (fun e0 => ?_)
        have hmt : mdlP pl pl.length = true := by rw [hmd, beq_eq_false_iff_ne.2 e0]; rfl
        obtain ⟨j, hj, _⟩ := mdlP_iff.1 hmt
        obtain ⟨n, hn⟩ : ∃ n, pl.length = n + 1 := ⟨pl.length - 1, by omega⟩
        have hnl : n < pl.length := by omega
        have ew : IntKind.i64.wrap (((pl.length : Nat) : Int) - 1) = (n : Int) := by rw [wrap64_in (by omega) (by omega)]; omega
        have eo : openP pl = (partP (ix pl n) == 8 && (ix pl n).1 != 56) := by
          unfold openP
          rw [hmt, show pl.length - 1 = n by omega, decide_eq_true (show 0 < pl.length by omega)]
          simp
        rw [ew, ← hlen]
        refine elemPI hN5 hnl fun t ht => ?_
        refine rPart_spec (x := mkIn pl[n] t) ht fun w6 b6 => ⟨_, rfl, ?_⟩
        rw [ep hnl t]
        have hb6 := hb.on b6
        refine ifB_beq (fun e8 => ?_) (fun e8 => ⟨hb6, ?_⟩)
        · refine elemPo (hN.below (hb4.on hb6)) hnl ?_
          rw [← ix_lt hnl]
          refine ifB_bne (fun e56 => ?_) (fun e56 => ⟨hb6, ?_⟩)
          · rw [hlen]
            exact opn (by rw [eo, beq_iff_eq.2 (show partP (ix pl n) = 8 by omega), bne_iff_ne.2 e56]; rfl) hb6
          · rw [eo, e56]; simp
        · rw [eo, beq_eq_false_iff_ne.2 (fun h => e8 (by rw [h]; rfl)), Bool.false_and]
      · rintro _ w9 ⟨hb9, ho⟩
        exact out hb9 (by rw [hch, if_neg (by rw [ho]; decide)]) (by rw [hch, if_neg (by rw [ho]; decide)]; rfl)
end
end Go.Proofs
