/-
  The document's shape of a module: the same plain answers; the ids that an instruction names.
-/
import Derived.Test.Ytpeonjpjphhenaa04d
namespace Go.Proofs
open Go.Gk Go.RowKit Go.Gm

section
variable {w : World} {R : Value → World → Prop}
theorem rNone_spec {n bd : Int} (hR : R (.bool (decide (n = 0 ∨ bd ≤ n))) w) : callR Try.prog 121 #[.int .u32 n, .int .u32 bd] w R := by
  refine callR.of (intaglioref04_None_calls n bd R w ?_) fun _ _ h => h
  refine ifB_beq (fun e => ?_) (fun e => ?_)
  · rwa [decide_eq_true (.inl e)] at hR
  · show R (.bool (decide (n ≥ bd))) w
    rwa [show decide (n = 0 ∨ bd ≤ n) = decide (n ≥ bd) by
      rw [Bool.eq_iff_iff, decide_eq_true_iff, decide_eq_true_iff]
      exact ⟨fun h => h.resolve_left e, .inr⟩] at hR
theorem rId_spec {must : Bool} {n bd e : Int} (hR : R (.int .i64 (idP must n bd e)) w) : callR Try.prog 96 #[.bool must, .int .u32 n, .int .u32 bd, .int .i64 e] w R := by
  refine callR.of (intaglioref04_Id_calls must n bd e R w ?_) fun _ _ h => h
  unfold idP at hR
  refine ifB_not (ifB_bool (fun hm => ?_) (fun hm => ?_))
  · rw [if_pos (eq_of_beq hm)] at hR
    refine ifB_bool (fun ht => ifB_dec (fun h => ?_) (fun h => ?_)) (fun hf => ?_)
    · rwa [if_pos ⟨ht, h⟩] at hR
    · rwa [if_neg (fun h' => h h'.2)] at hR
    · rwa [if_neg (fun h' => by rw [hf] at h'; cases h'.1)] at hR
  · rwa [if_neg (fun h => by rw [h] at hm; simp at hm)] at hR
theorem rRoom_spec {s : ByteArray} (hs : s.size ≤ 9223372036854775807) (hR : R (.int .i64 ((s.size / 4 + 1 : Nat) : Int)) w) : callR Try.prog 101 #[.string s] w R := by
  refine callR.of (intaglioref01_Room_calls s R w ?_) fun _ _ h => h
  show R (.int .i64 _) w
  rw [Room_val hs]
  exact hR
theorem nul_iff {s : ByteArray} : nul s = true ↔ ∃ k, k < s.size ∧ byteI s (k : Int) = 0 := by
  constructor
  · intro h
    have hm := List.contains_iff_mem.1 h
    obtain ⟨k, hk, e⟩ := List.mem_iff_getElem.1 hm
    refine ⟨k, by simpa using hk, ?_⟩
    have hk' : k < s.data.size := by simpa using hk
    unfold byteI
    rw [Int.toNat_natCast, Array.getD_eq_getD_getElem?, Array.getElem?_eq_getElem hk']
    rw [Array.getElem_toList] at e
    rw [Option.getD_some, e]
    rfl
  · rintro ⟨k, hk, e⟩
    cases h : nul s with
    | true => rfl
    | false => exact absurd e (byteI_ne h hk)
theorem rWrong_spec {c : Nat} {a : Ag} {bd : Int} (hs : a.2.2.size ≤ 9223372036854775807) (hR : ∀ w', Below w.heap.size w w' → R (.int .i64 (wrongP (c : Int) a bd)) w') :
    callR Try.prog 97 #[.int .u8 (c : Int), .agg #[.int .u8 a.1, .int .u32 a.2.1, .string a.2.2], .int .u32 bd] w R := by
  refine callR.of (intaglioref04_Wrong_calls c (a.1, a.2.1, a.2.2, ()) bd R w ?_) fun _ _ h => h
  refine lay_of fun w1 hA1 b1 z1 => ?_
  have hA1 : Blk w1 w.heap.size 87 [.int .u8 a.1, .int .u32 a.2.1, .string a.2.2] := hA1
  have key : wrongP (c : Int) a bd = if (c : Int) = 0 ∨ a.1 ≠ kindP c then 42 else if (a.1 = 3 ∧ a.2.1 ≠ 0) ∨ (a.1 ≠ 3 ∧ a.2.2.size ≠ 0) then 42
      else if a.1 = 1 ∧ (a.2.1 = 0 ∨ bd ≤ a.2.1) then 43 else if a.1 = 4 ∧ enumP c a.2.1 = false then 31 else if nul a.2.2 = true then 13 else 0 := rfl
  refine JoinW.cut (fun _ w' => Below w1.heap.size w1 w' ∧ ¬ ((c : Int) = 0 ∨ a.1 ≠ kindP c)) ?_ ?_
  · refine ifB_beq (fun e => ?_) (fun e => ?_)
    · have := hR w1.drew b1.drew
      rwa [key, if_pos (.inl e)] at this
    · refine hA1.drew.rI0 rfl ?_
      refine rKind_spec fun w2 b2 => ⟨_, rfl, (hA1.drew.below b2).cell0 rfl, ?_⟩
      refine ifB_bne (fun e2 => ?_) (fun e2 => ⟨(Below.refl _ _).drew.on b2, fun h => h.elim e (fun h => h e2)⟩)
      have := hR w2 (b1.drew.on b2)
      rwa [key, if_pos (.inr e2)] at this
  · rintro _ w2 ⟨b2, hno⟩
    rw [if_neg hno] at key
    have hA2 := hA1.below b2
    have hb2 := b1.on b2
    refine JoinW.cut (fun _ w' => w' = w2 ∧ ¬ ((a.1 = 3 ∧ a.2.1 ≠ 0) ∨ (a.1 ≠ 3 ∧ a.2.2.size ≠ 0))) ?_ ?_
    · have no : ((a.1 = 3 ∧ a.2.1 ≠ 0) ∨ (a.1 ≠ 3 ∧ a.2.2.size ≠ 0)) → R (.int .i64 42) w2 := fun h => by
        have := hR w2 hb2
        rwa [key, if_pos h] at this
      refine hA2.rI0 rfl (ifB_beq (fun e3 => ?_) (fun e3 => ?_))
      · refine hA2.rI (n := 1) rfl (ifB_bne (fun e4 => no (.inl ⟨e3, e4⟩)) (fun e4 => ?_))
        exact hA2.rI0 rfl (ifB_bne (fun h => absurd e3 h) (fun _ => ⟨rfl, fun h => h.elim (fun h => h.2 e4) (fun h => h.1 e3)⟩))
      · refine hA2.rI0 rfl (ifB_bne (fun _ => ?_) (fun h => absurd h e3))
        refine hA2.rT (n := 2) rfl ?_
        rw [bytes_empty]
        exact ifB_not (ifB_dec (fun e5 => ⟨rfl, fun h => h.elim (fun h => e3 h.1) (fun h => h.2 e5)⟩) (fun e5 => no (.inr ⟨e3, e5⟩)))
    · rintro _ w3 ⟨hw, hno2⟩
      subst hw
      rw [if_neg hno2] at key
      refine JoinW.cut (fun _ w' => w' = w3 ∧ ¬ (a.1 = 1 ∧ (a.2.1 = 0 ∨ bd ≤ a.2.1))) ?_ ?_
      · refine hA2.rI0 rfl (ifB_beq (fun e1 => ?_) (fun e1 => ⟨rfl, fun h => e1 h.1⟩))
        refine hA2.rI (n := 1) rfl (rNone_spec ⟨_, rfl, ifB_dec (fun h => ?_) (fun h => ⟨rfl, fun h' => h h'.2⟩)⟩)
        have := hR w3 hb2
        rwa [key, if_pos ⟨e1, h⟩] at this
      · rintro _ w4 ⟨hw, hno3⟩
        subst hw
        rw [if_neg hno3] at key
        refine hA2.rI (n := 1) rfl ?_
        refine rEnum_spec fun s w5 b5 => ⟨s, _, rfl, ?_⟩
        have hA5 := hA2.below b5
        have hb5 := hb2.on b5
        refine JoinW.cut (fun _ w' => w' = w5 ∧ ¬ (a.1 = 4 ∧ enumP c a.2.1 = false)) ?_ ?_
        · refine hA5.rI0 rfl (ifB_beq (fun e4 => ?_) (fun e4 => ⟨rfl, fun h => e4 h.1⟩))
          refine ifB_not (ifB_bool (fun h => ⟨rfl, fun h' => ?_⟩) (fun h => ?_))
          · have h2 : enumP c a.2.1 = true := h
            rw [h'.2] at h2
            cases h2
          · have := hR w5 hb5
            rwa [key, if_pos ⟨e4, h⟩] at this
        · rintro _ w6 ⟨hw, hno4⟩
          subst hw
          rw [if_neg hno4] at key
          refine LoopW.count a.2.2.size hs (fun k w' => w' = w6 ∧ ∀ j, j < k → byteI a.2.2 (j : Int) ≠ 0) ⟨rfl, fun j hj => by omega⟩ ?_
          rintro k w7 hk ⟨hw, hj⟩ next hnext
          subst hw
          refine hA5.rT (n := 2) rfl (ifB_dec (fun h => ?_) (fun h => ?_))
          · have hlt : k < a.2.2.size := by dsimp only at h; omega
            refine hA5.rT (n := 2) rfl ⟨⟨by omega, by omega⟩, ifB_beq (fun e => ?_) (fun e => hnext _ hlt ⟨rfl, fun j hj' => ?_⟩)⟩
            · have := hR _ hb5
              rwa [key, if_pos (nul_iff.2 ⟨k, hlt, e⟩)] at this
            · by_cases e' : j = k
              · subst e'; exact e
              · exact hj j (by omega)
          · have hk' : k = a.2.2.size := by dsimp only at h; omega
            have := hR _ hb5
            rwa [key, if_neg (fun h => by
              obtain ⟨j, hj1, hj2⟩ := nul_iff.1 h
              exact hj j (by omega) hj2)] at this
theorem rWhole_spec {f : Fm} {g : Fl} (hf : FmIs f g) (hg : LOk g) {n : Nat} (hn : n ≤ 9223372036854775807) (hR : ∀ w', Below w.heap.size w w' → R (.bool (wholeP g n)) w') : callR Try.prog 99 #[fmA f, .int .i64 (n : Int)] w R := by
  refine callR.of (intaglioref04_Whole_calls f n R w ?_) fun _ _ h => h
  refine lay_of fun w1 hB b1 z1 => ?_
  have hB : Blk w1 w.heap.size 133 (fmV f) := hB
  have hR' := hR w1 b1
  have h1 := hg.fl
  unfold wholeP at hR'
  refine hB.rT (n := 4) rfl ?_
  rw [hf.fixed, bs_size]
  refine ifB_dec (fun h => ?_) (fun h => ?_)
  · rwa [if_pos (by omega)] at hR'
  · rw [if_neg (by omega)] at hR'
    refine hB.rT (n := 5) rfl ?_
    rw [hf.rest, bs_size]
    refine ifB_beq (fun e => ?_) (fun e => ?_)
    · refine hB.rT (n := 4) rfl ?_
      rw [hf.fixed, bs_size]
      rw [if_pos (by omega)] at hR'
      rwa [show ((n : Int) == (g.fixed.length : Int)) = (n == g.fixed.length) by
        rw [Bool.eq_iff_iff, beq_iff_eq, beq_iff_eq]; omega]
    · refine hB.rT (n := 4) rfl (hB.rT (n := 5) rfl ?_)
      rw [hf.fixed, hf.rest, bs_size, bs_size]
      refine ifB_dec (fun h => absurd h (by omega)) (fun _ => ?_)
      rw [if_neg (by omega)] at hR'
      rw [wrap64_in (by omega) (by omega), show (n : Int) - (g.fixed.length : Int) = ((n - g.fixed.length : Nat) : Int) by omega,
        show Int.tmod ((n - g.fixed.length : Nat) : Int) (g.rest.length : Int) = (((n - g.fixed.length) % g.rest.length : Nat) : Int) from (Int.ofNat_tmod _ _).symm]
      rwa [show (((((n - g.fixed.length) % g.rest.length : Nat) : Int)) == (0 : Int)) = ((n - g.fixed.length) % g.rest.length == 0) by
        rw [Bool.eq_iff_iff, beq_iff_eq, beq_iff_eq]; omega]
theorem rRoomI_spec {x : Ins} {al : List Ag} {f : Fm} {g : Fl} (hty : f.2.2.1 = g.ty) (hre : f.2.2.2.1 = g.re) (hI : IsAg w x.2.2.2.1 al) (h24 : 24 * al.length ≤ 140737488351232) (hs : ∀ y ∈ al, y.2.2.size ≤ 9223372036854775807) (htx : ∀ k, k ≤ al.length → tx al k ≤ 1)
    (hR : ∀ w', Below w.heap.size w w' → R (.int .i64 (roomP g al : Int)) w') : callR Try.prog 76 #[inA x, fmA f] w R := by
  refine callR.of (intaglioref04_Room_calls x f R w ?_) fun _ _ h => h
  refine lay_of fun w1 hB1 b1 z1 => ?_
  have hB1 : Blk w1 w.heap.size 45 (inV x) := hB1
  refine lay_of fun w2 hF2 b2 z2 => ?_
  have hF2 : Blk w2 w1.heap.size 133 (fmV f) := hF2
  have hB2 := hB1.below b2
  have hb2 := b1.on b2
  have hlen := hI.len
  refine JoinW.cut (fun st w' => w' = w2 ∧ st.1 = ((1 + g.ty.toNat : Nat) : Int)) ?_ ?_
  · refine hF2.rB (n := 2) rfl ?_
    rw [hty]
    refine ifB_bool (fun h => ⟨rfl, ?_⟩) (fun h => ⟨rfl, ?_⟩)
    · rw [h]; decide +kernel
    · rw [h]; rfl
  · rintro ⟨n1, _⟩ w3 ⟨hw, hn1⟩
    subst hw
    dsimp only at hn1
    subst hn1
    refine JoinW.cut (fun st w' => w' = w3 ∧ st.1 = ((1 + g.ty.toNat + g.re.toNat : Nat) : Int)) ?_ ?_
    · refine hF2.rB (n := 3) rfl ?_
      rw [hre]
      have : g.ty.toNat ≤ 1 := by cases g.ty <;> decide
      refine ifB_bool (fun h => ⟨rfl, ?_⟩) (fun h => ⟨rfl, ?_⟩)
      · dsimp only
        rw [h, wrap64_in (by omega) (by omega)]
        rfl
      · rw [h]; rfl
    · rintro ⟨n2, _⟩ w4 ⟨hw, hn2⟩
      subst hw
      dsimp only at hn2
      subst hn2
      have htn : g.ty.toNat + g.re.toNat ≤ 2 := by cases g.ty <;> cases g.re <;> decide
      refine LoopW.ghost (fun j st w' => ∃ k, k ≤ al.length ∧ j = al.length - k ∧ st = (((1 + g.ty.toNat + g.re.toNat + costN al k : Nat) : Int), (k : Int), ()) ∧ w' = w4) al.length ⟨0, Nat.zero_le _, rfl, rfl, rfl⟩ ?_
      rintro _ _ w5 ⟨k, hk, rfl, rfl, hw⟩ next hnext
      subst hw
      have hI5 := hI.below hb2
      refine hB2.rS (n := 3) rfl (ifB_dec (fun h => ?_) (fun h => ?_))
      · have hlt : k < al.length := by dsimp only at h; omega
        have hcn := costN_le hs (k := k) (by omega)
        have htk := htx k (by omega)
        have hsz := hs _ (List.getElem_mem hlt)
        refine JoinW.cut (fun st w' => w' = w5 ∧ st.1 = ((1 + g.ty.toNat + g.re.toNat + costN al (k + 1) : Nat) : Int)) ?_ ?_
        · refine hB2.rS (n := 3) rfl (elemAk hI5 hlt (ifB_beq (fun e => ?_) (fun e => ?_)))
          · refine hB2.rS (n := 3) rfl (elemAs hI5 hlt ?_)
            refine rRoom_spec hsz ⟨_, rfl, rfl, ?_⟩
            have hc : cost al[k] = al[k].2.2.size / 4 + 1 := by unfold cost; rw [if_pos e]
            dsimp only
            have hq : al[k].2.2.size / 4 ≤ 2305843009213693951 := by omega
            rw [costN_succ hlt, hc]
            generalize al[k].2.2.size / 4 = q at hq
            rw [wrap64_in (by omega) (by omega)]
            omega
          · refine ⟨rfl, ?_⟩
            have hc : cost al[k] = 1 := by unfold cost; rw [if_neg e]
            dsimp only
            rw [costN_succ hlt, hc, wrap64_in (by omega) (by omega)]
            omega
        · rintro ⟨n3, _⟩ w6 ⟨hw, hn3⟩
          dsimp only at hn3
          subst hn3
          dsimp only
          rw [wrap64_succ (by omega)]
          exact hnext (al.length - (k + 1)) _ _ (by omega) ⟨k + 1, hlt, rfl, rfl, hw⟩
      · have hk' : k = al.length := by dsimp only at h; omega
        subst hk'
        have := hR _ hb2
        rwa [show roomP g al = 1 + g.ty.toNat + g.re.toNat + costN al al.length by unfold roomP; omega] at this
theorem rFault_spec {x : Ins} {al : List Ag} {bd : Int} (hI : IsAg w x.2.2.2.1 al) (h24 : 24 * al.length ≤ 140737488351232) (hs : ∀ y ∈ al, y.2.2.size ≤ 9223372036854775807)
    (hR : ∀ w', Below w.heap.size w w' → R (.int .i64 (faultP x.1 x.2.1 x.2.2.1 al bd)) w') : callR Try.prog 74 #[inA x, .int .u32 bd] w R := by
  refine callR.of (intaglioref04_Fault_calls x bd R w ?_) fun _ _ h => h
  refine lay_of fun w1 hB1 b1 z1 => ?_
  have hB1 : Blk w1 w.heap.size 45 (inV x) := hB1
  have hlen := hI.len
  refine hB1.rI0 rfl ?_
  refine rOf_spec fun w2 b2 => ⟨fmO x.1 (frm x.1), (frm x.1).isSome, rfl, ?_⟩
  refine box8 rfl fun w3 hF3 b3 z3 => ?_
  have hF3 : Blk w3 w2.heap.size 133 (fmV (fmO x.1 (frm x.1))) := hF3
  have hB3 := (hB1.below b2).below b3
  have hb3 := (b1.on b2).on b3
  refine ifB_bool (fun hn => ?_) (fun hn => ?_)
  · have hfr : frm x.1 = none := by
      cases h : frm x.1 with
      | none => rfl
      | some g => rw [h] at hn; cases hn
    have := hR w3 hb3
    rwa [faultP_none hfr] at this
  · obtain ⟨g, hfr⟩ : ∃ g, frm x.1 = some g := by
      cases h : frm x.1 with
      | none => rw [h] at hn; cases hn
      | some g => exact ⟨g, rfl⟩
    have efl : flOf x.1 = g := by unfold flOf; rw [hfr]; rfl
    have hg := lOk (flOf_ok x.1)
    have hfm := fmIs x.1
    rw [efl] at hg hfm
    rw [hfr] at hF3 hfm
    rw [faultP_some hfr] at hR
    have hty : (fmO x.1 (some g)).2.2.1 = g.ty := rfl
    have hre : (fmO x.1 (some g)).2.2.2.1 = g.re := rfl
    generalize fmO x.1 (some g) = fm at hF3 hfm hty hre
    have e0 : ∀ k, k ≤ al.length → errK g x.2.1 x.2.2.1 al bd k ≠ 0 → faultF g x.2.1 x.2.2.1 al bd = errK g x.2.1 x.2.2.1 al bd k := by
      intro k hk h
      have := errK_next hk h
      unfold faultF
      rw [this, if_pos h]
    refine hF3.rB (n := 2) rfl (hB3.rI (n := 1) rfl (rId_spec ⟨_, rfl, ?_⟩))
    rw [hty]
    refine ifB_bne (fun e => ?_) (fun e => ?_)
    · have he : errK g x.2.1 x.2.2.1 al bd 0 = idP g.ty x.2.1 bd 40 := by unfold errK; rw [if_pos e]
      have := hR w3 hb3
      rwa [e0 0 (Nat.zero_le _) (by rw [he]; exact e), he] at this
    · refine hF3.rB (n := 3) rfl (hB3.rI (n := 2) rfl (rId_spec ⟨_, rfl, ?_⟩))
      rw [hre]
      refine ifB_bne (fun e2 => ?_) (fun e2 => ?_)
      · have he : errK g x.2.1 x.2.2.1 al bd 0 = idP g.re x.2.2.1 bd 41 := by unfold errK; rw [if_neg (fun h => h e), if_pos e2]
        have := hR w3 hb3
        rwa [e0 0 (Nat.zero_le _) (by rw [he]; exact e2), he] at this
      · have he0 : errK g x.2.1 x.2.2.1 al bd 0 = 0 := by unfold errK; rw [if_neg (fun h => h e), if_neg (fun h => h e2)]; rfl
        refine LoopW.count al.length hI.bound (fun k w' => Below w3.heap.size w3 w' ∧ errK g x.2.1 x.2.2.1 al bd k = 0) ⟨Below.refl _ _, he0⟩ ?_
        rintro k w4 hk ⟨hb, hek⟩ next hnext
        have hB4 := hB3.below hb
        have hF4 := hF3.below hb
        have hb4 := hb3.on hb
        have hI4 := hI.below hb4
        refine hB4.rS (n := 3) rfl (ifB_dec (fun h => ?_) (fun h => ?_))
        · have hlt : k < al.length := by dsimp only at h; omega
          obtain ⟨a, ha⟩ := hI4.drew.base hlt
          have hc := fun j hj => hI4.drew.cell a ha k hlt j hj
          refine hB4.drew.rI0 rfl (hB4.drew.rS (n := 3) rfl ⟨⟨by omega, by omega⟩, derefP_some ha ⟨al[k].1, ?_, al[k].2.1, ?_, al[k].2.2, ?_, ?_⟩⟩)
          · rw [add_add']; exact hc 0 (by omega)
          · rw [add_add']; exact hc 1 (by omega)
          · rw [add_add']; exact hc 2 (by omega)
          refine rLetter_spec (by omega) fun w5 b5 => ⟨_, rfl, ?_⟩
          have hb5 := hb4.drew.on b5
          have hc5 := fun j hj => (hI.below hb5).cell a ha k hlt j hj
          refine ⟨?_, ?_, ?_, (hB4.drew.below b5).cell (n := 3) rfl, ?_⟩
          · rw [add_add']; exact hc5 0 (by omega)
          · rw [add_add']; exact hc5 1 (by omega)
          · rw [add_add']; exact hc5 2 (by omega)
          rw [efl]
          refine rWrong_spec (a := al[k]) (hs _ (List.getElem_mem hlt)) fun w6 b6 => ⟨_, rfl, ?_⟩
          have hw : wrongP (letP g k : Int) al[k] bd = werr g al bd k := by unfold werr; rw [getD_lt hlt]
          rw [hw]
          have hes := errK_succ g x.2.1 x.2.2.1 al bd k
          rw [if_pos hek] at hes
          refine ifB_bne (fun e3 => ?_) (fun e3 => hnext w6 hlt ⟨((hb.drew.on b5).on b6), hes.trans e3⟩)
          have := hR w6 (hb5.on b6)
          rwa [e0 (k + 1) hlt (by rw [hes]; exact e3), hes] at this
        · have hk' : k = al.length := by dsimp only at h; omega
          subst hk'
          have hff := faultF_eq g x.2.1 x.2.2.1 al bd
          dsimp only at hff
          rw [hek, if_pos rfl] at hff
          obtain ⟨_, _, ha⟩ := errK_all hek
          have hwe := argK_all ha
          refine Fm.load hF4 (hB4.rS (n := 3) rfl ?_)
          rw [hlen]
          refine rWhole_spec hfm hg (by omega) fun w5 b5 => ⟨_, rfl, ?_⟩
          have hb5 := hb4.on b5
          refine ifB_not (ifB_bool (fun hwt => ?_) (fun hwf => ?_))
          · rw [hwt, if_pos rfl, if_pos rfl] at hff
            refine Ins.load (hB4.below b5) (Fm.load (hF4.below b5) ?_)
            refine rRoomI_spec (x := x) hty hre (hI.below hb5) h24 hs (fun k hk => tx_one hfr hk (fun j hj => hwe j (by omega))) fun w6 b6 => ⟨_, rfl, ?_⟩
            have := hR w6 (hb5.on b6)
            refine ifB_dec (fun hgt => ?_) (fun hle => ?_)
            · rwa [hff, if_pos (by omega)] at this
            · rwa [hff, if_neg (by omega)] at this
          · rw [hwf, if_neg (by simp), if_neg (by decide)] at hff
            have := hR w5 hb5
            rwa [hff] at this
end

theorem rShape_spec {x : Mo} {pl : List PI} {w : World} {R : Value → World → Prop} (hN : IsPl w x.2.2.1 pl) (hp : PlOk pl) (hR : ∀ w', Below w.heap.size w w' → R (.agg #[.int .i64 (shapeP x.2.1 pl).1, .int .i64 ((shapeP x.2.1 pl).2 : Int)]) w') :
    callR Try.prog 46 #[moA x] w R := by
  refine callR.of (intaglioref04_Shape_calls x R w ?_) fun _ _ h => h
  refine lay_of fun w1 hB1 b1 z1 => ?_
  have hB1 : Blk w1 w.heap.size 25 (moV x) := hB1
  refine lay_of fun w2 hC2 b2 z2 => ?_
  have hC2 : Blk w2 w1.heap.size 29 [.int .i64 0, .int .i64 0] := hC2
  have hB2 := hB1.below b2
  have hb2 := b1.on b2
  have s1 := b1.size
  have s2 := b2.size
  have hlen := hN.len
  have h40 := hp.len
  have spot : ∀ {w' cs}, Blk w' w1.heap.size 29 cs → cs.length = 2 → Below w.heap.size w w' → ∀ (e a : Int), (e, a) = ((shapeP x.2.1 pl).1, ((shapeP x.2.1 pl).2 : Int)) →
      Wr w' (blk w1.heap.size) ∧ Nw (w'.setCell (blk w1.heap.size) (.int .i64 e)) fun w3 => Wr w3 ((blk w1.heap.size).add 1) ∧ Nw (w3.setCell ((blk w1.heap.size).add 1) (.int .i64 a)) fun w4 =>
        ldI w4 ((blk w1.heap.size).add 0) .i64 fun x4 => ldI w4 ((blk w1.heap.size).add 1) .i64 fun x5 => R (.agg #[.int .i64 x4, .int .i64 x5]) w4 := by
    intro w' cs hC hl hb e a hea
    refine st2 hC hl fun w3 h3 c3 => Sp.load h3 ?_
    rw [Prod.mk.injEq] at hea
    rw [hea.1, hea.2]
    exact hR w3 (c3.below hb (by omega))
  refine JoinW.cut (fun _ w' => w' = w2 ∧ ¬ (x.2.1 = 0 ∨ 65536 < x.2.1)) ?_ ?_
  · refine hB2.rI (n := 1) rfl (ifB_beq (fun e => ?_) (fun e => ?_))
    · exact spot hC2 rfl hb2 24 0 (by rw [shape_bound (.inl e)]; rfl)
    · refine hB2.rI (n := 1) rfl (ifB_dec (fun h => ?_) (fun h => ⟨rfl, fun h' => h'.elim e h⟩))
      exact spot hC2 rfl hb2 24 0 (by rw [shape_bound (.inr h)]; rfl)
  · rintro _ w' ⟨hw, hbd⟩
    subst hw
    refine LoopW.ghost (fun j st w4 => ∃ (k : Nat), k ≤ pl.length ∧ j = pl.length - k ∧ st = ((totP pl k : Int), (k : Int), ()) ∧ totP pl k ≤ 1048576 ∧ (∀ i, i < k → badI pl x.2.1 i = false) ∧ Below w'.heap.size w' w4) pl.length
      ⟨0, Nat.zero_le _, rfl, rfl, (by simp [totP]), fun i hi => by omega, Below.refl _ _⟩ ?_
    rintro _ _ w4 ⟨k, hk, rfl, rfl, htot, hj, hb4⟩ next hnext
    have hbw4 := hb2.on hb4
    have hB4 := hB2.below hb4
    have hC4 := hC2.below hb4
    refine hB4.rS (n := 2) rfl (ifB_dec (fun h => ?_) (fun h => ?_))
    · have hlt : k < pl.length := by dsimp only at h; omega
      have hmem := List.getElem_mem hlt
      refine hB4.drew.rS (n := 2) rfl ?_
      refine elemPI (hN.below hbw4.drew) hlt fun t ht => ?_
      refine hB4.drew.rI (n := 1) rfl ?_
      refine rFault_spec (x := mkIn pl[k] t) ht (hp.args _ hmem) (hp.text _ hmem) fun w6 b6 => ⟨_, rfl, ?_⟩
      have hb6 := hb4.drew.on b6
      have hbw6 := hb2.on hb6
      have hB6 := hB4.drew.below b6
      have hC6 := hC4.drew.below b6
      show ifB (faultI pl[k] x.2.1 != 0) _ _
      refine ifB_bne (fun e => ?_) (fun e => ?_)
      · exact spot hC6 rfl hbw6 _ _ (by rw [shape_fault hbd hlt hj e]; rfl)
      · refine hB6.rS (n := 2) rfl (elemPo (hN.below hbw6) hlt ?_)
        refine rOf_spec fun w7 b7 => ⟨fmO pl[k].1 (frm pl[k].1), (frm pl[k].1).isSome, rfl, ?_⟩
        refine box8 rfl fun w8 hF8 b8 z8 => ?_
        have hF8 : Blk w8 w7.heap.size 133 (fmV (fmO pl[k].1 (frm pl[k].1))) := hF8
        have b68 := b7.on b8
        have hb8 := hb6.on b68
        have hbw8 := hb2.on hb8
        have hB8 := hB6.below b68
        have hC8 := hC6.below b68
        obtain ⟨g, hfr⟩ : ∃ g, frm pl[k].1 = some g := by
          cases h : frm pl[k].1 with
          | none =>
            have : faultI pl[k] x.2.1 = 30 := by unfold faultI; rw [faultP_none h]
            rw [e] at this
            cases this
          | some g => exact ⟨g, rfl⟩
        have hff : faultF g pl[k].2.1 pl[k].2.2.1 pl[k].2.2.2 x.2.1 = 0 := by
          have : faultI pl[k] x.2.1 = faultF g pl[k].2.1 pl[k].2.2.1 pl[k].2.2.2 x.2.1 := by unfold faultI; rw [faultP_some hfr]
          rw [← this]; exact e
        have hek : errK g pl[k].2.1 pl[k].2.2.1 pl[k].2.2.2 x.2.1 pl[k].2.2.2.length = 0 := by
          refine Classical.byContradiction fun hne => ?_
          unfold faultF at hff
          rw [if_pos hne] at hff
          exact hne hff
        obtain ⟨_, _, hak⟩ := errK_all hek
        have hwe := argK_all hak
        have hroom : roomP g pl[k].2.2.2 ≤ 65535 := by
          unfold faultF at hff
          rw [if_neg (fun h => h hek)] at hff
          split at hff
          · cases hff
          · split at hff
            · cases hff
            · rename_i h; omega
        have hri : roomI pl[k] = roomP g pl[k].2.2.2 := by unfold roomI; rw [hfr]
        rw [hfr] at hF8
        have hty : (fmO pl[k].1 (some g)).2.2.1 = g.ty := rfl
        have hre : (fmO pl[k].1 (some g)).2.2.2.1 = g.re := rfl
        generalize fmO pl[k].1 (some g) = fm at hF8 hty hre
        refine hB8.drew.rS (n := 2) rfl ?_
        refine elemPI (hN.below hbw8.drew) hlt fun t' ht' => ?_
        refine Fm.load hF8.drew ?_
        refine rRoomI_spec (x := mkIn pl[k] t') hty hre ht' (hp.args _ hmem) (hp.text _ hmem) (fun i hi => tx_one hfr hi (fun j hj => hwe j (by omega))) fun w9 b9 => ⟨_, rfl, ?_⟩
        have hb9 := hb8.drew.on b9
        have hbw9 := hb2.on hb9
        have ht1 := totP_succ hlt
        have hsum : IntKind.i64.wrap ((totP pl k : Int) + (roomP g pl[k].2.2.2 : Int)) = (totP pl (k + 1) : Int) := by
          rw [wrap64_in (by omega) (by omega)]
          omega
        dsimp only
        rw [hsum]
        refine ifB_dec (fun hgt => ?_) (fun hle => ?_)
        · exact spot (hC8.drew.below b9) rfl hbw9 _ _ (by rw [shape_large hbd hlt hj e (by omega)])
        · have hbk := badI_false hlt e (show ¬ 1048576 < totP pl (k + 1) by omega)
          rw [wrap64_succ (by omega)]
          refine hnext (pl.length - (k + 1)) _ _ (by omega) ⟨k + 1, hlt, rfl, rfl, by omega, fun i hi => ?_, hb9⟩
          by_cases e' : i = k
          · subst e'; exact hbk
          · exact hj i (by omega)
    · have hk' : k = pl.length := by dsimp only at h; omega
      subst hk'
      exact spot hC4 rfl hbw4 0 0 (by rw [shape_good hbd hj]; rfl)

/-! ### The ids that an instruction names -/
def idsN (ty : Int) (al : List Ag) (k : Nat) : List Int := (if ty = 0 then [] else [ty]) ++ ((al.take k).filter fun a => a.1 == 1).map (·.2.1)
def idsP (ty : Int) (al : List Ag) : List Int := idsN ty al al.length
theorem idsN_succ {ty : Int} {al : List Ag} {k : Nat} (hk : k < al.length) : idsN ty al (k + 1) = idsN ty al k ++ (if al[k].1 = 1 then [al[k].2.1] else []) := by
  unfold idsN
  rw [List.take_succ_eq_append_getElem hk, List.filter_append, List.map_append, ← List.append_assoc]
  congr 1
  by_cases e : al[k].1 = 1
  · rw [if_pos e]
    have : (al[k].1 == 1) = true := beq_iff_eq.2 e
    simp [this]
  · rw [if_neg e]
    have : (al[k].1 == 1) = false := beq_eq_false_iff_ne.2 e
    simp [this]
theorem idsN_len (ty : Int) (al : List Ag) (k : Nat) : (idsN ty al k).length ≤ k + 1 := by
  unfold idsN
  rw [List.length_append, List.length_map]
  have h1 := List.length_filter_le (fun a : Ag => a.1 == 1) (al.take k)
  rw [List.length_take] at h1
  have h2 : (if ty = 0 then ([] : List Int) else [ty]).length ≤ 1 := by split <;> simp
  omega
section
variable {x : Ins} {al : List Ag} {w : World} {R : Value → World → Prop}
theorem Ids_spec (hI : IsAg w x.2.2.2.1 al) (h24 : 24 * al.length ≤ 140737488351232)
    (hR : ∀ r w', Own w' 22 1 r ((idsP x.2.1 al).map (Value.int .u32)) → Fresh w.heap.size r → Below w.heap.size w w' → R (.slice r.a r.l r.c) w') : callR Try.prog 39 #[inA x] w R := by
  refine callR.of (code_Ids_calls x R w ?_) fun _ _ h => h
  refine lay_of fun w1 hB b1 z1 => ?_
  have hB : Blk w1 w.heap.size 45 (inV x) := hB
  have hlen := hI.len
  refine JoinW.cut (fun st w' => Own w' 22 1 st.1 ((idsN x.2.1 al 0).map (Value.int .u32)) ∧ Fresh w1.heap.size st.1 ∧ Below w1.heap.size w1 w') ?_ ?_
  · refine hB.rI (n := 1) rfl (ifB_bne (fun e => ?_) (fun e => ?_))
    · refine hB.rI (n := 1) rfl ?_
      refine lay_of fun w2 h2 b2 z2 => ?_
      refine push_fresh eU32 (Own.nil _ _ _) b2 (fun a ha => by cases ha) (v := .int .u32 x.2.1) rfl h2 (by decide) (by decide) fun r w3 h3 b3 F3 => ⟨?_, F3, b3⟩
      unfold idsN
      rw [if_neg e]
      simpa using h3
    · refine ⟨?_, fun a ha => by (cases ha), Below.refl _ _⟩
      unfold idsN
      rw [if_pos e]
      simpa using Own.nil w1 22 1
  · rintro ⟨r0, _⟩ w2 ⟨hO2, hF2, hb2⟩
    dsimp only at hO2 hF2 ⊢
    refine (hB.below hb2).rS (n := 3) rfl ?_
    refine LoopW.countSl al.length hI.bound (fun k r w' => Own w' 22 1 r ((idsN x.2.1 al k).map (Value.int .u32)) ∧ Fresh w1.heap.size r ∧ Below w1.heap.size w1 w') ⟨hO2, hF2, hb2⟩ ?_
    rintro k r w3 hk ⟨hO, hF, hb⟩ next hnext
    have hb0 := b1.on hb
    have hI3 := hI.below hb0
    refine ifB_dec (fun h => ?_) (fun h => ?_)
    · have hlt : k < al.length := by dsimp only at h; omega
      refine JoinW.cut (fun st w' => Own w' 22 1 st.1 ((idsN x.2.1 al (k + 1)).map (Value.int .u32)) ∧ Fresh w1.heap.size st.1 ∧ Below w1.heap.size w1 w') ?_ ?_
      · refine elemA3 hI3 hlt ?_
        refine box3 rfl fun w4 h4 b4 z4 => ?_
        have hrl : r.l ≤ k + 1 := by have := hO.1; have h2 := idsN_len x.2.1 al k; rw [List.length_map] at this; omega
        refine h4.rI0 rfl (ifB_beq (fun e => ?_) (fun e => ?_))
        · refine h4.rI (n := 1) rfl ?_
          refine lay_of fun w5 h5 b5 z5 => ?_
          refine push_fresh eU32 ((hO.below b4).below b5) ((hb.on b4).on b5) hF (v := .int .u32 al[k].2.1) rfl h5 (by omega) (by omega) fun r' w6 h6 b6 F6 => ⟨?_, F6, b6⟩
          rw [idsN_succ hlt, if_pos e, List.map_append]
          exact h6
        · refine ⟨?_, hF, hb.on b4⟩
          rw [idsN_succ hlt, if_neg e, List.append_nil]
          exact hO.below b4
      · rintro ⟨r', _⟩ w' ⟨h1, h2, h3⟩
        exact hnext r' w' hlt ⟨h1, h2, h3⟩
    · have hk : k = al.length := by dsimp only at h; omega
      subst hk
      exact hR r w3 hO (fun a ha => by have := hF a ha; have := b1.size; omega) hb0
theorem rIds_spec (hI : IsAg w x.2.2.2.1 al) (h24 : 24 * al.length ≤ 140737488351232)
    (hR : ∀ r w', Own w' 22 1 r ((idsP x.2.1 al).map (Value.int .u32)) → Fresh w.heap.size r → Below w.heap.size w w' → R (.slice r.a r.l r.c) w') : callR Try.prog 71 #[inA x] w R := by
  refine callR.of (intaglioref04_Ids_calls x R w ?_) fun _ _ h => h
  refine lay_of fun w1 hB b1 z1 => ?_
  have hB : Blk w1 w.heap.size 45 (inV x) := hB
  have hlen := hI.len
  refine JoinW.cut (fun st w' => Own w' 22 1 st.1 ((idsN x.2.1 al 0).map (Value.int .u32)) ∧ Fresh w1.heap.size st.1 ∧ Below w1.heap.size w1 w') ?_ ?_
  · refine hB.rI (n := 1) rfl (ifB_bne (fun e => ?_) (fun e => ?_))
    · refine hB.rI (n := 1) rfl ?_
      refine lay_of fun w2 h2 b2 z2 => ?_
      refine push_fresh eU32 (Own.nil _ _ _) b2 (fun a ha => by cases ha) (v := .int .u32 x.2.1) rfl h2 (by decide) (by decide) fun r w3 h3 b3 F3 => ⟨?_, F3, b3⟩
      unfold idsN
      rw [if_neg e]
      simpa using h3
    · refine ⟨?_, fun a ha => by (cases ha), Below.refl _ _⟩
      unfold idsN
      rw [if_pos e]
      simpa using Own.nil w1 22 1
  · rintro ⟨r0, _⟩ w2 ⟨hO2, hF2, hb2⟩
    dsimp only at hO2 hF2 ⊢
    refine LoopW.countSl al.length hI.bound (fun k r w' => Own w' 22 1 r ((idsN x.2.1 al k).map (Value.int .u32)) ∧ Fresh w1.heap.size r ∧ Below w1.heap.size w1 w') ⟨hO2, hF2, hb2⟩ ?_
    rintro k r w3 hk ⟨hO, hF, hb⟩ next hnext
    have hb0 := b1.on hb
    have hI3 := hI.below hb0
    have hB3 := hB.below hb
    refine hB3.rS (n := 3) rfl (ifB_dec (fun h => ?_) (fun h => ?_))
    · have hlt : k < al.length := by dsimp only at h; omega
      refine JoinW.cut (fun st w' => Own w' 22 1 st.1 ((idsN x.2.1 al (k + 1)).map (Value.int .u32)) ∧ Fresh w1.heap.size st.1 ∧ Below w1.heap.size w1 w') ?_ ?_
      · have hrl : r.l ≤ k + 1 := by have := hO.1; have h2 := idsN_len x.2.1 al k; rw [List.length_map] at this; omega
        refine hB3.rS (n := 3) rfl (elemAk hI3 hlt (ifB_beq (fun e => ?_) (fun e => ?_)))
        · refine hB3.rS (n := 3) rfl (elemAn hI3 hlt ?_)
          refine lay_of fun w5 h5 b5 z5 => ?_
          refine push_fresh eU32 (hO.below b5) (hb.on b5) hF (v := .int .u32 al[k].2.1) rfl h5 (by omega) (by omega) fun r' w6 h6 b6 F6 => ⟨?_, F6, b6⟩
          rw [idsN_succ hlt, if_pos e, List.map_append]
          exact h6
        · refine ⟨?_, hF, hb⟩
          rw [idsN_succ hlt, if_neg e, List.append_nil]
          exact hO
      · rintro ⟨r', _⟩ w' ⟨h1, h2, h3⟩
        exact hnext r' w' hlt ⟨h1, h2, h3⟩
    · have hk : k = al.length := by dsimp only at h; omega
      subst hk
      exact hR r w3 hO (fun a ha => by have := hF a ha; have := b1.size; omega) hb0
end

end Go.Proofs
