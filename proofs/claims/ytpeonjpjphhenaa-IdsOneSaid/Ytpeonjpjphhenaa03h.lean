/-
  The program's grammar: letters, kinds, what fits.
-/
import Derived.Test.Ytpeonjpjphhenaa03g
namespace Go.Proofs
open Go.Gk Go.RowKit Go.Gm

def fl0 : Fl := ([], false, false, [], [], 0, 0)
def flOf (op : Int) : Fl := (frm op).getD fl0
theorem flOf_ok (op : Int) : lettersOk (flOf op) = true := by
  unfold flOf
  cases h : frm op with
  | none => decide +kernel
  | some f => exact frm_letters h
/-- The box f says the letters of g. -/
structure FmIs (f : Fm) (g : Fl) : Prop where
  fixed : f.2.2.2.2.1 = bs g.fixed
  rest : f.2.2.2.2.2.1 = bs g.rest
  most : f.2.2.2.2.2.2.1 = (g.most : Int)
theorem fmIs (op : Int) : FmIs (fmO op (frm op)) (flOf op) := by
  unfold flOf
  cases h : frm op with
  | none => exact ⟨rfl, rfl, rfl⟩
  | some f => exact ⟨rfl, rfl, rfl⟩
structure LOk (g : Fl) : Prop where
  fixed : ∀ c ∈ g.fixed, c ≠ 0
  rest : ∀ c ∈ g.rest, c ≠ 0
  fl : g.fixed.length ≤ 100
  rl : g.rest.length ≤ 100
  ml : g.most ≤ 100
theorem lOk {g : Fl} (h : lettersOk g = true) : LOk g := by
  unfold lettersOk at h
  simp only [Bool.and_eq_true, List.all_eq_true, bne_iff_ne, decide_eq_true_eq] at h
  obtain ⟨⟨⟨⟨h1, h2⟩, h3⟩, h4⟩, h5⟩ := h
  exact ⟨h1, h2, h3, h4, h5⟩
def fixP (g : Fl) (k : Nat) : Nat := if k < g.fixed.length then (g.fixed.getD k 0).toNat else 0
def restP (g : Fl) (k : Nat) : Nat :=
  if k < g.fixed.length then 0 else if g.rest.length = 0 then 0 else if 0 < g.most ∧ g.most * g.rest.length ≤ k - g.fixed.length then 0
  else (g.rest.getD ((k - g.fixed.length) % g.rest.length) 0).toNat
theorem letP_fix {g : Fl} {k : Nat} (h : fixP g k ≠ 0) : letP g k = fixP g k := by
  unfold fixP at h ⊢
  unfold letP
  split
  · rfl
  · rename_i h1; rw [if_neg h1] at h; exact absurd rfl h
theorem letP_rest {g : Fl} (hg : LOk g) {k : Nat} (h : fixP g k = 0) : letP g k = restP g k := by
  unfold fixP at h
  unfold restP letP
  split at h
  · rename_i h1
    rw [getD_lt h1] at h
    exact absurd (UInt8.toNat.inj (b := 0) h) (hg.fixed _ (List.getElem_mem h1))
  · rename_i h1
    rw [if_neg h1, if_neg h1]

section
variable {f : Fm} {g : Fl} {w : World} {R : Value → World → Prop}
theorem fixed_spec (hf : FmIs f g) {i : Nat} (hR : ∀ w', Below w.heap.size w w' → R (.int .u8 (fixP g i : Int)) w') :
    callR Try.prog 118 #[fmA f, .int .i64 (i : Int)] w R := by
  refine callR.of (grammar_form_fixed_calls f i R w ?_) fun _ _ h => h
  refine lay_of fun w1 hB b1 z1 => ?_
  have hB : Blk w1 w.heap.size 149 (fmV f) := hB
  have hf4 := hf.fixed
  refine JoinW.cut (fun _ w' => w' = w1 ∧ i < g.fixed.length) ?_ ?_
  · refine ifB_dec (fun h => absurd h (by omega)) (fun _ => ?_)
    refine hB.rT (n := 4) rfl ?_
    rw [hf4, bs_size]
    refine ifB_dec (fun h => ?_) (fun h => ⟨rfl, by omega⟩)
    have := hR w1 b1
    rwa [fixP, if_neg (by omega)] at this
  · rintro _ w' ⟨rfl, hlt⟩
    refine hB.rT (n := 4) rfl ?_
    rw [hf4, bs_size, bs_byte]
    refine ⟨⟨by omega, by omega⟩, ?_⟩
    have := hR w' b1
    rwa [fixP, if_pos hlt] at this
theorem rest_spec (hf : FmIs f g) (hg : LOk g) {i : Nat} (hi : i ≤ 9223372036854775807) (hR : ∀ w', Below w.heap.size w w' → R (.int .u8 (restP g i : Int)) w') :
    callR Try.prog 119 #[fmA f, .int .i64 (i : Int)] w R := by
  refine callR.of (grammar_form_rest_calls f i R w ?_) fun _ _ h => h
  refine lay_of fun w1 hB b1 z1 => ?_
  have hB : Blk w1 w.heap.size 149 (fmV f) := hB
  have h1 := hg.fl
  have h2 := hg.rl
  have h3 := hg.ml
  refine hB.rT (n := 4) rfl ?_
  have hf4 := hf.fixed
  have hf5 := hf.rest
  have hf6 := hf.most
  rw [hf4, bs_size, wrap64_in (by omega) (by omega)]
  have hmul : g.most * g.rest.length ≤ 10000 := Nat.le_trans (Nat.mul_le_mul h3 h2) (by omega)
  refine JoinW.cut (fun _ w' => w' = w1 ∧ g.fixed.length ≤ i ∧ g.rest.length ≠ 0 ∧ ¬ (0 < g.most ∧ g.most * g.rest.length ≤ i - g.fixed.length)) ?_ ?_
  · refine ifB_dec (fun h => ?_) (fun h => ?_)
    · have := hR w1 b1
      rwa [restP, if_pos (by omega)] at this
    · have hge : ¬ i < g.fixed.length := by omega
      refine hB.rT (n := 5) rfl ?_
      rw [hf5, toList_nil]
      refine ifB_bool (fun e => ?_) (fun e => ?_)
      · have := hR w1 b1
        rwa [restP, if_neg hge, if_pos (by rw [List.isEmpty_iff] at e; rw [e]; rfl)] at this
      · have hne : g.rest.length ≠ 0 := by
          intro h
          rw [List.eq_nil_of_length_eq_zero h] at e
          cases e
        refine hB.rI (n := 6) rfl ?_
        rw [hf6]
        refine ifB_dec (fun hm => ?_) (fun hm => ⟨rfl, by omega, hne, by omega⟩)
        refine hB.rI (n := 6) rfl (hB.rT (n := 5) rfl ?_)
        rw [hf6, hf5, bs_size, ← Int.natCast_mul, wrap64_in (by omega) (by omega)]
        refine ifB_dec (fun hc => ?_) (fun hc => ⟨rfl, by omega, hne, by omega⟩)
        have := hR w1 b1
        rwa [restP, if_neg hge, if_neg hne, if_pos ⟨by omega, by omega⟩] at this
  · rintro _ w' ⟨rfl, hge, hne, hno⟩
    refine hB.drew.rT (n := 5) rfl (hB.drew.rT (n := 5) rfl ?_)
    rw [hf5, bs_size]
    refine ifB_dec (fun h => absurd h (by omega)) (fun _ => ?_)
    have e : Int.tmod ((i : Int) - (g.fixed.length : Int)) (g.rest.length : Int) = (((i - g.fixed.length) % g.rest.length : Nat) : Int) := by
      rw [show (i : Int) - (g.fixed.length : Int) = ((i - g.fixed.length : Nat) : Int) by omega]
      exact Int.ofNat_tmod _ _ |>.symm
    have hlt : (i - g.fixed.length) % g.rest.length < g.rest.length := Nat.mod_lt _ (by omega)
    rw [e, bs_byte]
    refine ⟨⟨by omega, by omega⟩, ?_⟩
    have := hR w'.drew b1.drew
    rwa [restP, if_neg (by omega), if_neg hne, if_neg hno] at this
theorem letter_spec (hf : FmIs f g) (hg : LOk g) {i : Nat} (hi : i ≤ 9223372036854775807) (hR : ∀ w', Below w.heap.size w w' → R (.int .u8 (letP g i : Int)) w') :
    callR Try.prog 92 #[fmA f, .int .i64 (i : Int)] w R := by
  refine callR.of (grammar_form_letter_calls f i R w ?_) fun _ _ h => h
  refine lay_of fun w1 hB b1 z1 => ?_
  have hB : Blk w1 w.heap.size 149 (fmV f) := hB
  refine ifB_dec (fun h => absurd h (by omega)) (fun _ => ?_)
  refine Fm.load hB (Fm.load hB ?_)
  refine lay_of fun w2 hF b2 z2 => ?_
  have b2' := b1.on b2
  refine LoopW.count 2 (by omega) (fun k w' => Below w.heap.size w w' ∧ Below w2.heap.size w2 w' ∧ (0 < k → fixP g i = 0) ∧ (1 < k → restP g i = 0)) ⟨b2', Below.refl _ _, fun h => by omega, fun h => by omega⟩ ?_
  rintro k w3 hk ⟨hb, hb2, hk1, hk2⟩ next hnext
  have hF3 := hF.below hb2
  have z3 := hb.size
  refine ifB_dec (fun h => ?_) (fun h => ?_)
  · refine ⟨⟨by omega, by omega⟩, ?_⟩
    match k, h, hk1, hk2, hnext with
    | 0, _, _, _, hnext =>
      refine ⟨_, hF3.cell (n := 0) rfl, ?_⟩
      show callR Try.prog 118 #[fmA f, .int .i64 (i : Int)] w3 _
      refine fixed_spec hf fun w4 b4 => ⟨_, rfl, ?_⟩
      refine ifB_bne (fun e => ?_) (fun e => ?_)
      · have := hR w4 (hb.on b4)
        rwa [letP_fix (by omega)] at this
      · exact hnext w4 (by omega) ⟨hb.on b4, hb2.on b4, fun _ => by omega, fun h => by omega⟩
    | 1, _, hk1, _, hnext =>
      refine ⟨_, hF3.cell (n := 1) rfl, ?_⟩
      show callR Try.prog 119 #[fmA f, .int .i64 (i : Int)] w3 _
      refine rest_spec hf hg hi fun w4 b4 => ⟨_, rfl, ?_⟩
      have hf0 := hk1 (by omega)
      refine ifB_bne (fun e => ?_) (fun e => ?_)
      · have := hR w4 (hb.on b4)
        rwa [letP_rest hg hf0] at this
      · exact hnext w4 (by omega) ⟨hb.on b4, hb2.on b4, fun _ => hf0, fun _ => by omega⟩
    | k + 2, h, _, _, _ => dsimp only at h; omega
  · have hk : 1 < k := by dsimp only at h; omega
    have := hR w3 hb
    rwa [letP_rest hg (hk1 (by omega)), hk2 hk] at this
end

theorem names_E (c : Int) (R : Value → World → Prop) (w : World) : L_grammar_names c R w = chain tabN c (fun s => R (.string (bs s)) w) (R (.string (bs [])) w) := by kernel_rfl
theorem Kind_spec {c : Int} {w : World} {R : Value → World → Prop} (hR : R (.int .u8 (kindP c)) w) : callR Try.prog 91 #[.int .u8 c] w R := by
  refine callR.of (grammar_Kind_calls c R w ?_) fun _ _ h => h
  unfold kindP at hR
  refine ifB_beq (fun e => by rwa [if_pos e] at hR) (fun e => ?_)
  rw [if_neg e] at hR
  refine ifB_beq (fun e => by rwa [if_pos e] at hR) (fun e => ?_)
  rw [if_neg e] at hR
  refine ifB_beq (fun e => by rwa [if_pos e] at hR) (fun e => ?_)
  rw [if_neg e] at hR
  refine callR.of (grammar_names_calls c _ w ?_) fun _ _ h => h
  rw [names_E]
  refine chain_of (fun s hs => ⟨_, rfl, ?_⟩) (fun hs => ⟨_, rfl, ?_⟩)
  · rw [toList_nil]
    have := List.all_eq_true.1 names_ne _ (look_mem hs)
    rw [hs] at hR
    exact ifB_true this hR
  · rw [toList_nil]
    rw [hs] at hR
    exact ifB_false rfl hR

theorem Fits_spec {op : Int} {s : Sl} {ks : List Int} {w : World} {R : Value → World → Prop} (hs : IsS (Value.int .u8) w s ks)
    (hR : ∀ w', Below w.heap.size w w' → R (.tuple #[.int .i64 ((fitP op ks).1 : Int), .bool (fitP op ks).2]) w') :
    callR Try.prog 63 #[.int .u16 op, .slice s.a s.l s.c] w R := by
  refine callR.of (grammar_Fits_calls op s R w ?_) fun _ _ h => h
  have hg := lOk (flOf_ok op)
  have hlen := hs.len
  have hmax := hs.bound
  refine gOf_spec fun w1 b1 => ⟨fmO op (frm op), (frm op).isSome, rfl, ?_⟩
  refine box_of (T := 133) (vs := fmV (fmO op (frm op))) rfl fun w2 hB b2 z2 => ?_
  refine ifB_bool (fun hn => ?_) (fun hn => ?_)
  · have hfr : frm op = none := by
      cases h : frm op with
      | none => rfl
      | some g => rw [h] at hn; cases hn
    rw [fitP_none hfr] at hR
    exact hR w2 (b1.on b2)
  · obtain ⟨g, hfr⟩ : ∃ g, frm op = some g := by
      cases h : frm op with
      | none => rw [h] at hn; cases hn
      | some g => exact ⟨g, rfl⟩
    rw [fitP_some hfr] at hR
    have efl : flOf op = g := by unfold flOf; rw [hfr]; rfl
    have hfm := fmIs op
    rw [efl] at hfm hg
    generalize fmO op (frm op) = fm at hB hfm
    refine Fm.load hB ?_
    refine box8 rfl fun w3 hC b3 z3 => ?_
    have hC : Blk w3 w2.heap.size 149 (fmV fm) := hC
    have b3' := (b1.on b2).on b3
    refine LoopW.count s.l (by omega) (fun k w' => Below w.heap.size w w' ∧ Below w3.heap.size w3 w' ∧ ∀ j, j < k → bad g ks j = false) ⟨b3', Below.refl _ _, fun j hj => by omega⟩ ?_
    rintro k w4 hk ⟨hb, hb3, hj⟩ next hnext
    have hC4 := hC.below hb3
    have hs4 := hs.below hb
    refine ifB_dec (fun h => ?_) (fun h => ?_)
    · have hlt : k < ks.length := by dsimp only at h; omega
      have hbadE : bad g ks k = (ks[k] == 0 || kindP (letP g k) != ks[k]) := by unfold bad; rw [getD_lt hlt]
      refine JoinW.cut (fun _ w' => Below w4.heap.size w4 w' ∧ bad g ks k = false) ?_ ?_
      · refine hs4.addr hlt fun a _ hc => ⟨_, hc, ?_⟩
        refine ifB_beq (fun e => ?_) (fun e => ?_)
        · have := hR w4 hb
          rwa [fit_bad hlt (by rw [hbadE, e]; rfl) hj] at this
        · refine Fm.load hC4 ?_
          refine letter_spec hfm hg (by omega) fun w5 b5 => ⟨_, rfl, ?_⟩
          refine Kind_spec ⟨_, rfl, ?_⟩
          refine ifB_bne (fun e2 => ?_) (fun e2 => ?_)
          · have := hR w5 (hb.on b5)
            rwa [fit_bad hlt (by rw [hbadE, bne_iff_ne.2 e2, Bool.or_true]) hj] at this
          · refine ⟨b5, ?_⟩
            rw [hbadE, e2]
            simpa using e
      · rintro _ w5 ⟨b5, hbk⟩
        refine hnext w5 (by omega) ⟨hb.on b5, hb3.on b5, fun j hj' => ?_⟩
        by_cases e : j = k
        · subst e; exact hbk
        · exact hj j (by omega)
    · have hk : k = ks.length := by dsimp only at h; omega
      subst hk
      have hfit := fit_good hj
      have hR' := hR w4 hb
      rw [show fitF g ks = _ from hfit] at hR'
      have h1 := hg.fl
      refine hC4.rT (n := 4) rfl ?_
      rw [hfm.fixed, bs_size, wrap64_in (by omega) (by omega), hlen]
      refine ifB_dec (fun hn => ?_) (fun hn => ?_)
      · rwa [if_pos (by unfold wrongLen; rw [decide_eq_true (by omega), Bool.true_or])] at hR'
      · have hge : ¬ ks.length < g.fixed.length := by omega
        refine hC4.rT (n := 5) rfl ?_
        rw [hfm.rest, toList_nil]
        refine ifB_bool (fun e => ?_) (fun e => ?_)
        · have hne : g.rest.length ≠ 0 := by
            intro h
            rw [List.eq_nil_of_length_eq_zero h] at e
            cases e
          refine hC4.rT (n := 5) rfl ?_
          rw [hfm.rest, bs_size]
          refine ifB_dec (fun h => absurd h (by omega)) (fun _ => ?_)
          have e3 : Int.tmod ((ks.length : Int) - (g.fixed.length : Int)) (g.rest.length : Int) = (((ks.length - g.fixed.length) % g.rest.length : Nat) : Int) := by
            rw [show (ks.length : Int) - (g.fixed.length : Int) = ((ks.length - g.fixed.length : Nat) : Int) by omega]
            exact Int.ofNat_tmod _ _ |>.symm
          rw [e3]
          refine ifB_bne (fun e4 => ?_) (fun e4 => ?_)
          · rwa [if_pos (by unfold wrongLen; rw [decide_eq_false hge, decide_eq_true hne, decide_eq_true (by omega)]; rfl)] at hR'
          · rwa [if_neg (by unfold wrongLen; rw [decide_eq_false hge, decide_eq_true hne, decide_eq_false (by omega)]; decide)] at hR'
        · have hz : g.rest.length = 0 := by
            have : g.rest.isEmpty = true := by simpa using e
            rw [List.isEmpty_iff] at this
            rw [this]
            rfl
          rwa [if_neg (by unfold wrongLen; rw [decide_eq_false hge, decide_eq_false (show ¬ g.rest.length ≠ 0 by omega), Bool.false_and]; decide)] at hR'

end Go.Proofs
