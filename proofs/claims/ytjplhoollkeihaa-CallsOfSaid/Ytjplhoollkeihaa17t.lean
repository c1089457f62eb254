/-
  slices.symMergeCmpFunc, stableCmpFunc, SortStableFunc.
-/
import Derived.Test.Ytjplhoollkeihaa17s
namespace Go.Proofs
open Go.Gk Go.RowKit Go.Gr Go.St

section
variable {r : Sl} {n : Nat} {w0 : World} {y : Value} {dp : Nat → Int}
theorem lt_of_cmp {c : Int} {x z : Nat} (hxz : z < x) (h : c < 0 ↔ dp x < dp z) : (c < 0 → lt dp x z) ∧ (¬ c < 0 → lt dp z x) := by
  unfold lt
  constructor
  · intro h1; have := h.1 h1; omega
  · intro h1
    have : ¬ dp x < dp z := fun h2 => h1 (h.2 h2)
    omega
set_option maxRecDepth 20000 in
set_option maxHeartbeats 8000000 in
theorem symMerge_spec (hn : n ≤ 4096) (hc : CmpOk r n w0 y dp) : ∀ (g : Nat) {a m b : Nat} {w : World} {d : Nat → Nat} {R : Value → World → Prop}, b - a ≤ g → a < m → m < b → b ≤ n → Ds r n w0 w d → (∀ k, k < n → d k < n) →
    (∀ i j, a ≤ i → i < m → m ≤ j → j < b → d i < d j) → So dp d a m → So dp d m b → (∀ w' d', Ds r n w0 w' d' → So dp d' a b → Per d d' a b → R (.tuple #[]) w') →
    ∀ {xa xm xb : Int}, xa = (a : Int) → xm = (m : Int) → xb = (b : Int) → callR Try.prog 182 #[.slice r.a r.l r.c, .int .i64 xa, .int .i64 xm, .int .i64 xb, y] w R := by
  intro g
  induction g with
  | zero => intro a m b w d R h1 h2 h3; omega
  | succ g ih =>
  intro a m b w d R hg ham hmb hbn hD hdn hLR hL hRr hR xa xm xb ea em eb
  subst ea em eb
  refine callR.of (slices_symMergeCmpFunc_int_calls r (a : Int) (m : Int) (b : Int) y R w ?_) fun _ _ h => h
  unfold L_slices_symMergeCmpFunc_int
  rw [wrap64_in (x := (m : Int) - a) (by omega) (by omega), wrap64_in (x := (b : Int) - m) (by omega) (by omega), mid_eq (a := a) (b := b) (by omega)]
  refine ifB_beq (fun e1 => ?_) fun _ => ifB_beq (fun e2 => ?_) fun _ => ?_
  · -- one in the left run
    have hm : m = a + 1 := by omega
    subst hm
    refine LoopW.ghost (fun g (st : Int × Int × Unit) w' => ∃ i j : Nat, a + 1 ≤ i ∧ i ≤ j ∧ j ≤ b ∧ g = j - i ∧ st = ((i : Int), (j : Int), ()) ∧ Ds r n w0 w' d ∧ (∀ h, a + 1 ≤ h → h < i → lt dp (d h) (d a)) ∧ ∀ h, j ≤ h → h < b → lt dp (d a) (d h)) (b - (a + 1)) ⟨a + 1, b, by omega, by omega, by omega, rfl, by simp, hD, fun h h1 h2 => by omega, fun h h1 h2 => by omega⟩ ?_
    rintro _ _ w1 ⟨i, j, hi, hij, hj, rfl, rfl, hD1, hA, hB⟩ next hnext
    dsimp only
    rw [mid_eq (a := i) (b := j) (by omega)]
    obtain ⟨h, hh⟩ : ∃ h, h = (i + j) / 2 := ⟨_, rfl⟩
    rw [← hh]
    refine ifB_dec (fun hlt => ?_) fun hge => ?_
    · have hlt : i < j := by omega
      have hLRh := hLR a h (by omega) (by omega) (by omega) (by omega)
      refine hD1.drew.get (i := h) (by omega) rfl (hD1.drew.get (i := a) (by omega) rfl (hc _ hD1.drew.on (d h) (d a) (hdn h (by omega)) (hdn a (by omega)) _ fun c hcc => ⟨c, rfl, ?_⟩))
      have hl := lt_of_cmp hLRh hcc
      refine ifB_dec (fun h0 => hnext (j - (h + 1)) _ _ (by omega) ⟨h + 1, j, by omega, by omega, hj, rfl, by rw [wrap64_succ (by omega)], hD1.drew.drew, fun q h1 h2 => ?_, hB⟩) fun h0 => hnext (h - i) _ _ (by omega) ⟨i, h, hi, by omega, by omega, rfl, rfl, hD1.drew.drew, hA, fun q h1 h2 => ?_⟩
      · by_cases e : q = h
        · rw [e]; exact hl.1 h0
        · exact lt_trans dp (hRr q h h1 (by omega) (by omega)) (hl.1 h0)
      · by_cases e : q = h
        · rw [e]; exact hl.2 h0
        · exact lt_trans dp (hl.2 h0) (hRr h q (by omega) (by omega) h2)
    · have hij : i = j := by omega
      subst hij
      have ei : IntKind.i64.wrap ((i : Int) - (1 : Int)) = ((i - 1 : Nat) : Int) := by rw [wrap64_in (by omega) (by omega)]; omega
      rw [ei]
      refine LoopW.ghost (fun g (st : Int × Unit) w' => ∃ k : Nat, a ≤ k ∧ k ≤ i - 1 ∧ g = i - k ∧ st = ((k : Int), ()) ∧ Ds r n w0 w' (rot d a (a + 1) (k + 1))) (i - a) ⟨a, Nat.le_refl _, by omega, rfl, rfl, by rw [rot_id2 (by omega)]; exact hD1⟩ ?_
      rintro _ _ w3 ⟨k, hk1, hk2, rfl, rfl, hD3⟩ next2 hnext2
      dsimp only
      refine ifB_dec (fun hlt => ?_) fun hge => ?_
      · have hlt : k < i - 1 := by omega
        have ek : IntKind.i64.wrap ((k : Int) + (1 : Int)) = ((k + 1 : Nat) : Int) := by rw [wrap64_succ (by omega)]
        refine hD3.drew.get (i := k + 1) (by omega) ek (hD3.drew.get (i := k) (by omega) rfl (hD3.drew.put (i := k) (by omega) rfl rfl fun w4 hD4 => hD4.put (i := k + 1) (by omega) ek rfl fun w5 hD5 => hnext2 (i - (k + 1)) _ _ (by omega) ⟨k + 1, by omega, by omega, rfl, by rw [ek], hD5.cong fun q hq => ?_⟩))
        simp only [rot, St.upd]
        repeat' split
        all_goals first | omega | rfl | (congr 1; omega)
      · have hk : k + 1 = i := by omega
        rw [hk] at hD3
        refine hR w3 _ hD3 (rot_so (Nat.le_refl _) (by omega) hi hj hL hRr (fun p q h1 h2 h3 h4 => ?_) (fun p q _ _ _ _ => by omega) (fun p q _ _ _ _ => by omega) fun p q h1 h2 h3 h4 => ?_) (rot_per (Nat.le_refl _) (by omega) hi hj)
        · rw [show p = a by omega]; exact hA q h3 h4
        · rw [show p = a by omega]; exact hB q h3 h4
  · -- one in the right run
    have hb : b = m + 1 := by omega
    subst hb
    refine LoopW.ghost (fun g (st : Int × Int × Unit) w' => ∃ i j : Nat, a ≤ i ∧ i ≤ j ∧ j ≤ m ∧ g = j - i ∧ st = ((i : Int), (j : Int), ()) ∧ Ds r n w0 w' d ∧ (∀ h, a ≤ h → h < i → lt dp (d h) (d m)) ∧ ∀ h, j ≤ h → h < m → lt dp (d m) (d h)) (m - a) ⟨a, m, by omega, by omega, by omega, rfl, rfl, hD, fun h h1 h2 => by omega, fun h h1 h2 => by omega⟩ ?_
    rintro _ _ w1 ⟨i, j, hi, hij, hj, rfl, rfl, hD1, hA, hB⟩ next hnext
    dsimp only
    rw [mid_eq (a := i) (b := j) (by omega)]
    obtain ⟨h, hh⟩ : ∃ h, h = (i + j) / 2 := ⟨_, rfl⟩
    rw [← hh]
    refine ifB_dec (fun hlt => ?_) fun hge => ?_
    · have hlt : i < j := by omega
      have hLRh := hLR h m (by omega) (by omega) (by omega) (by omega)
      refine hD1.drew.get (i := m) (by omega) rfl (hD1.drew.get (i := h) (by omega) rfl (hc _ hD1.drew.on (d m) (d h) (hdn m (by omega)) (hdn h (by omega)) _ fun c hcc => ⟨c, rfl, ?_⟩))
      have hl := lt_of_cmp hLRh hcc
      refine ifB_not (ifB_dec (fun h0 => hnext (h - i) _ _ (by omega) ⟨i, h, hi, by omega, by omega, rfl, rfl, hD1.drew.drew, hA, fun q h1 h2 => ?_⟩) fun h0 => hnext (j - (h + 1)) _ _ (by omega) ⟨h + 1, j, by omega, by omega, hj, rfl, by rw [wrap64_succ (by omega)], hD1.drew.drew, fun q h1 h2 => ?_, hB⟩)
      · by_cases e : q = h
        · rw [e]; exact hl.1 h0
        · exact lt_trans dp (hl.1 h0) (hL h q (by omega) (by omega) h2)
      · by_cases e : q = h
        · rw [e]; exact hl.2 h0
        · exact lt_trans dp (hL q h h1 (by omega) (by omega)) (hl.2 h0)
    · have hij : i = j := by omega
      subst hij
      refine LoopW.ghost (fun g (st : Int × Unit) w' => ∃ k : Nat, i ≤ k ∧ k ≤ m ∧ g = k ∧ st = ((k : Int), ()) ∧ Ds r n w0 w' (rot d k m (m + 1))) m ⟨m, hj, Nat.le_refl _, rfl, rfl, by rw [rot_id1]; exact hD1⟩ ?_
      rintro g' _ w3 ⟨k, hk1, hk2, hg', rfl, hD3⟩ next2 hnext2
      dsimp only
      refine ifB_dec (fun hlt => ?_) fun hge => ?_
      · have hlt : i < k := by omega
        have ek : IntKind.i64.wrap ((k : Int) - (1 : Int)) = ((k - 1 : Nat) : Int) := by rw [wrap64_in (by omega) (by omega)]; omega
        refine hD3.drew.get (i := k - 1) (by omega) ek (hD3.drew.get (i := k) (by omega) rfl (hD3.drew.put (i := k) (by omega) rfl rfl fun w4 hD4 => hD4.put (i := k - 1) (by omega) ek rfl fun w5 hD5 => hnext2 (k - 1) _ _ (by omega) ⟨k - 1, by omega, by omega, rfl, by rw [ek], hD5.cong fun q hq => ?_⟩))
        simp only [rot, St.upd]
        repeat' split
        all_goals first | omega | rfl | (congr 1; omega)
      · have hk : k = i := by omega
        subst hk
        refine hR w3 _ hD3 (rot_so hi hj (by omega) (Nat.le_refl _) hL hRr (fun p q h1 h2 h3 h4 => ?_) (fun p q _ _ _ _ => by omega) (fun p q h1 h2 h3 h4 => ?_) fun p q _ _ _ _ => by omega) (rot_per hi hj (by omega) (Nat.le_refl _))
        · rw [show q = m by omega]; exact hB p h1 h2
        · rw [show q = m by omega]; exact hA p h1 h2
  · -- halves
    obtain ⟨mid, hmid⟩ : ∃ mid, mid = (a + b) / 2 := ⟨_, rfl⟩
    rw [← hmid]
    have eN : IntKind.i64.wrap ((mid : Int) + (m : Int)) = ((mid + m : Nat) : Int) := by rw [wrap64_in (by omega) (by omega)]; omega
    rw [eN]
    have eP : IntKind.i64.wrap (((mid + m : Nat) : Int) - (1 : Int)) = ((mid + m - 1 : Nat) : Int) := by rw [wrap64_in (by omega) (by omega)]; omega
    rw [eP]
    have am : a < mid := by omega
    have mb : mid < b := by omega
    refine JoinW.cut (fun (st : Int × Int × Unit) w' => w' = w ∧ ∃ s0 r0 : Nat, st = ((s0 : Int), (r0 : Int), ()) ∧ ((mid < m ∧ s0 + b = mid + m ∧ r0 = mid) ∨ (m ≤ mid ∧ s0 = a ∧ r0 = m))) ?_ ?_
    · refine ifB_dec (fun hgt => ⟨rfl, mid + m - b, mid, ?_, .inl ⟨by omega, by omega, rfl⟩⟩) fun hle => ⟨rfl, a, m, rfl, .inr ⟨by omega, rfl, rfl⟩⟩
      rw [wrap64_in (by omega) (by omega)]
      congr 1
      omega
    rintro _ w11 ⟨e11, s0, r0, rfl, hs0⟩
    have e11 := e11.symm
    subst e11
    refine LoopW.ghost (fun g (st : Int × Int × Unit) w' => ∃ i j : Nat, s0 ≤ i ∧ i ≤ j ∧ j ≤ r0 ∧ g = j - i ∧ st = ((i : Int), (j : Int), ()) ∧ Ds r n w0 w' d ∧ (∀ c, s0 ≤ c → c < i → lt dp (d c) (d (mid + m - 1 - c))) ∧ ∀ c, j ≤ c → c < r0 → lt dp (d (mid + m - 1 - c)) (d c)) (r0 - s0) ⟨s0, r0, by omega, by omega, by omega, rfl, rfl, hD, fun h h1 h2 => by omega, fun h h1 h2 => by omega⟩ ?_
    rintro _ _ w12 ⟨i, j, hi, hij, hj, rfl, rfl, hD1, hA, hB⟩ next hnext
    dsimp only
    rw [mid_eq (a := i) (b := j) (by omega)]
    obtain ⟨h, hh⟩ : ∃ h, h = (i + j) / 2 := ⟨_, rfl⟩
    rw [← hh]
    refine ifB_dec (fun hlt => ?_) fun hge => ?_
    · have hlt : i < j := by omega
      have eh : IntKind.i64.wrap (((mid + m - 1 : Nat) : Int) - (h : Int)) = ((mid + m - 1 - h : Nat) : Int) := by rw [wrap64_in (by omega) (by omega)]; omega
      have hLRh := hLR h (mid + m - 1 - h) (by omega) (by omega) (by omega) (by omega)
      refine hD1.drew.get (i := mid + m - 1 - h) (by omega) eh (hD1.drew.get (i := h) (by omega) rfl (hc _ hD1.drew.on (d (mid + m - 1 - h)) (d h) (hdn _ (by omega)) (hdn h (by omega)) _ fun c hcc => ⟨c, rfl, ?_⟩))
      have hl := lt_of_cmp hLRh hcc
      refine ifB_not (ifB_dec (fun h0 => hnext (h - i) _ _ (by omega) ⟨i, h, hi, by omega, by omega, rfl, rfl, hD1.drew.drew, hA, fun q h1 h2 => ?_⟩) fun h0 => hnext (j - (h + 1)) _ _ (by omega) ⟨h + 1, j, by omega, by omega, hj, rfl, by rw [wrap64_succ (by omega)], hD1.drew.drew, fun q h1 h2 => ?_, hB⟩)
      · by_cases e : q = h
        · rw [e]; exact hl.1 h0
        · exact lt_trans dp (lt_trans dp (hRr (mid + m - 1 - q) (mid + m - 1 - h) (by omega) (by omega) (by omega)) (hl.1 h0)) (hL h q (by omega) (by omega) (by omega))
      · by_cases e : q = h
        · rw [e]; exact hl.2 h0
        · exact lt_trans dp (lt_trans dp (hL q h (by omega) (by omega) (by omega)) (hl.2 h0)) (hRr (mid + m - 1 - h) (mid + m - 1 - q) (by omega) (by omega) (by omega))
    · have hij : i = j := by omega
      subst hij
      have eE : IntKind.i64.wrap (((mid + m : Nat) : Int) - (i : Int)) = ((mid + m - i : Nat) : Int) := by rw [wrap64_in (by omega) (by omega)]; omega
      rw [eE]
      obtain ⟨e, he⟩ : ∃ e, e = mid + m - i := ⟨_, rfl⟩
      rw [← he]
      have f1 : a ≤ i := by omega
      have f2 : i ≤ m := by omega
      have f3 : m ≤ e := by omega
      have f4 : e ≤ b := by omega
      have f5 : i + (e - m) = mid := by omega
      have fA : ∀ p q, i ≤ p → p < m → m ≤ q → q < e → lt dp (d q) (d p) := fun p q h1 h2 h3 h4 => by
        have hi0 : i < r0 := by omega
        have k1 := hB i (Nat.le_refl _) hi0
        have k2 : lt dp (d q) (d i) := by
          by_cases eq : q = mid + m - 1 - i
          · rw [eq]; exact k1
          · exact lt_trans dp (hRr q (mid + m - 1 - i) h3 (by omega) (by omega)) k1
        by_cases ep : p = i
        · rw [ep]; exact k2
        · exact lt_trans dp k2 (hL i p f1 (by omega) h2)
      have fB : ∀ p q, a ≤ p → p < i → e ≤ q → q < b → lt dp (d p) (d q) := fun p q h1 h2 h3 h4 => by
        have hs : s0 < i := by omega
        have k1 := hA (i - 1) (by omega) (by omega)
        have k2 : lt dp (d p) (d (mid + m - 1 - (i - 1))) := by
          by_cases ep : p = i - 1
          · rw [ep]; exact k1
          · exact lt_trans dp (hL p (i - 1) h1 (by omega) (by omega)) k1
        by_cases eq : q = mid + m - 1 - (i - 1)
        · rw [eq]; exact k2
        · exact lt_trans dp k2 (hRr (mid + m - 1 - (i - 1)) q (by omega) (by omega) h4)
      obtain ⟨g1, g2, g3, g4, g5⟩ := rot_four f1 f2 f3 f4 hL hRr fA fB
      rw [f5] at g2 g3 g5
      have hp1 : Per d (rot d i m e) a b := rot_per f1 f2 f3 f4
      refine JoinW.cut (fun _ w' => Ds r n w0 w' (rot d i m e)) ?_ ?_
      · refine ifB_dec (fun h1 => ifB_dec (fun h2 => ?_) fun h2 => ?_) fun h1 => ?_
        · exact rotate_spec (a := i) (m := m) (b := e) (by omega) (by omega) (by omega) hn hD1 (fun w14 hD14 => ⟨rfl, hD14⟩) rfl rfl rfl
        · rw [show e = m by omega, rot_id2 f2]; exact hD1
        · rw [show i = m by omega, rot_id1]; exact hD1
      intro _ w15 hD15
      obtain ⟨d1, hd1⟩ : ∃ d1, d1 = rot d i m e := ⟨_, rfl⟩
      have v1 : ∀ k, a ≤ k → k < i → d1 k = d k := fun k h1 h2 => by rw [hd1]; simp only [rot]; rw [if_neg (by omega), if_neg (by omega)]
      have v2 : ∀ k, i ≤ k → k < mid → d1 k = d (k + (m - i)) := fun k h1 h2 => by rw [hd1]; simp only [rot]; rw [if_pos (by omega)]
      have v3 : ∀ k, mid ≤ k → k < e → d1 k = d (k - (e - m)) := fun k h1 h2 => by rw [hd1]; simp only [rot]; rw [if_neg (by omega), if_pos (by omega)]
      have v4 : ∀ k, e ≤ k → k < b → d1 k = d k := fun k h1 h2 => by rw [hd1]; simp only [rot]; rw [if_neg (by omega), if_neg (by omega)]
      rw [← hd1] at g1 g2 g3 g4 g5 hp1 hD15
      have hdn1 : ∀ k, k < n → d1 k < n := fun k hk => by
        by_cases q : a ≤ k ∧ k < b
        · obtain ⟨x, x1, x2, ex⟩ := hp1.old k q.1 q.2
          rw [ex]; exact hdn x (by omega)
        · rw [hp1.out k (by omega)]; exact hdn k hk
      clear hnext next
      refine JoinW.cut (fun _ w' => ∃ d2, Ds r n w0 w' d2 ∧ So dp d2 a mid ∧ Per d1 d2 a mid) ?_ ?_
      · refine ifB_dec (fun h1 => ifB_dec (fun h2 => ?_) fun h2 => ⟨d1, hD15, ?_, Per.refl _ _ _⟩) fun h1 => ⟨d1, hD15, ?_, Per.refl _ _ _⟩
        · refine ih (a := a) (m := i) (b := mid) (by omega) (by omega) (by omega) (by omega) hD15 hdn1 (fun p q h3 h4 h5 h6 => ?_) g1 g2 (fun w16 d2 hD16 h3 h4 => ⟨rfl, d2, hD16, h3, h4⟩) rfl rfl rfl
          rw [v1 p h3 h4, v2 q h5 h6]
          exact hLR p (q + (m - i)) h3 (by omega) (by omega) (by omega)
        · rw [show mid = i by omega]; exact g1
        · have : i = a := by omega
          subst this
          exact g2
      rintro _ w17 ⟨d2, hD17, so2, per2⟩
      have o2 : ∀ k, mid ≤ k → d2 k = d1 k := fun k hk => per2.out k (.inr hk)
      have last : ∀ (w18 : World) (d3 : Nat → Nat), Ds r n w0 w18 d3 → So dp d3 mid b → Per d2 d3 mid b → R (.tuple #[]) w18 := fun w18 d3 hD18 so3 per3 => by
        have o3 : ∀ k, k < mid → d3 k = d2 k := fun k hk => per3.out k (.inl hk)
        refine hR w18 d3 hD18 ?_ ((hp1.trans (per2.wide (Nat.le_refl _) (by omega))).trans (per3.wide (by omega) (Nat.le_refl _)))
        refine so_join (d := d1) (m := mid) (fun k h1 h2 => ?_) (fun k h1 h2 => ?_) (fun p q h1 h2 h3 => ?_) so3 g5
        · obtain ⟨x, x1, x2, ex⟩ := per2.old k h1 h2
          exact ⟨x, x1, x2, by rw [o3 k h2, ex]⟩
        · obtain ⟨x, x1, x2, ex⟩ := per3.old k h1 h2
          exact ⟨x, x1, x2, by rw [ex, o2 x x1]⟩
        · rw [o3 p (by omega), o3 q h3]; exact so2 p q h1 h2 h3
      have s3 : So dp d2 mid e := fun p q h1 h2 h3 => by rw [o2 p h1, o2 q (by omega)]; exact g3 p q h1 h2 h3
      have s4 : So dp d2 e b := fun p q h1 h2 h3 => by rw [o2 p (by omega), o2 q (by omega)]; exact g4 p q h1 h2 h3
      refine ifB_dec (fun h1 => ifB_dec (fun h2 => ?_) fun h2 => last w17 d2 hD17 ?_ (Per.refl _ _ _)) fun h1 => last w17 d2 hD17 ?_ (Per.refl _ _ _)
      · refine ih (a := mid) (m := e) (b := b) (by omega) (by omega) (by omega) hbn hD17 (fun k hk => ?_) (fun p q h3 h4 h5 h6 => ?_) s3 s4 (fun w18 d3 hD18 h3 h4 => ⟨rfl, last w18 d3 hD18 h3 h4⟩) rfl rfl rfl
        · by_cases q : a ≤ k ∧ k < mid
          · obtain ⟨x, x1, x2, ex⟩ := per2.old k q.1 q.2
            rw [ex]; exact hdn1 x (by omega)
          · rw [per2.out k (by omega)]; exact hdn1 k hk
        · rw [o2 p h3, o2 q (by omega), v3 p h3 h4, v4 q h5 h6]
          exact hLR _ _ (by omega) (by omega) (by omega) h6
      · rw [show b = e by omega]; exact s3
      · have : mid = e := by omega
        rw [this]; exact s4

end

end Go.Proofs
