/-
  layout: an instruction's part and kind; the cutter in memory; next, row.
-/
import Derived.Test.YtpeonjpjphhenaaL05
import Derived.Test.Ytpeonjpjphhenaa05q
import Derived.Test.Ytpeonjpjphhenaa04r
namespace Go.Proofs
open Go.Gk Go.RowKit Go.Gm

theorem Fr.low {B : Nat} {X : Nat → Prop} {w0 w w' : World} (h : Fr w.heap.size X w w') (hb : Below B w0 w) (hX : ∀ k, X k → B ≤ k) (hB : B ≤ w.heap.size) : Below B w0 w' :=
  hb.trans ⟨h.os, h.tape, h.output, h.size, fun k hk => h.block k (by omega) (fun x => by have := hX k x; omega)⟩
theorem Fr.on {X : Nat → Prop} {w w1 w2 : World} (h : Fr w.heap.size X w w1) (k : Fr w1.heap.size X w1 w2) : Fr w.heap.size X w w2 := h.trans (k.mono h.size fun _ _ x => x)
theorem Chg.fr {b : Nat} {w w' : World} (h : Chg b w w') {B : Nat} : Fr B (fun k => k = b) w w' := ⟨h.os, h.tape, h.output, Nat.le_of_eq h.size.symm, fun k _ hk => h.block k hk⟩
theorem Fr.wide {B : Nat} {X X' : Nat → Prop} {w w' : World} (h : Fr B X w w') (hX : ∀ k, X k → X' k) : Fr B X' w w' := h.mono (Nat.le_refl _) fun k _ x => hX k x
theorem Fr.own {X : Nat → Prop} {w w' : World} (h : Fr w.heap.size X w w') {T : TypeId} {sz : Nat} {s : Sl} {xs : List Value} (hO : Own w T sz s xs) (hX : ∀ b, s.a = some (blk b) → ¬ X b) : Own w' T sz s xs :=
  hO.of_block fun a ha => by
    obtain ⟨e, hlt⟩ := hO.lt ha
    exact h.block _ hlt (hX _ (by rw [← e]; exact ha))
theorem Fr.blk {X : Nat → Prop} {w w' : World} (h : Fr w.heap.size X w w') {T : TypeId} {b : Nat} {xs : List Value} (hO : Blk w b T xs) (hX : ¬ X b) : Blk w' b T xs := hO.of_block (h.block _ hO.lt hX)
/-- append of one element to a list of the code's own, wherever it lies. -/
theorem push_fr {P : Program} {t e : TypeId} {sz bytes : Nat} (he : ElemT P t e sz bytes) {w : World} {s : Sl} {xs vs : List Value} (h : Own w e sz s xs) (hl : vs.length = sz) (hv : ∀ u ∈ vs, u.oneCell' = true) {b c : Nat} {T : TypeId}
    (hB : Blk w b T vs) (h63 : s.l + 1 ≤ 9223372036854775807) (hbytes : (s.l + 1) * bytes ≤ 140737488355328) {k : Sl → World → Prop}
    (hk : ∀ r w' b', Own w' e sz r (xs ++ vs) → r.l = s.l + 1 → r.a = some (blk b') → (s.a = some (blk b') ∨ b' = w.heap.size) → Fr w.heap.size (fun k => s.a = some (blk k)) w w' → k r w') :
    appendS P t (.slice s.a s.l s.c) (.slice (some (blk b)) 1 c) w k := by
  refine append_own he h (news := vs) (by omega) (fun j u hj => hB.cell hj) hv h63 hbytes fun r w' h1 hl' hg => ?_
  rcases hg with ⟨_, _, h3⟩ | ⟨b', h3, h4, h5⟩
  · rw [h3] at hl'; omega
  · refine hk r w' b' h1 hl' h3 h4 ⟨h5.os, h5.tape, h5.output, h5.size, fun k hk hx => h5.block k hk fun e => ?_⟩
    cases e
    rcases h4 with h4 | h4
    · exact hx h4
    · omega

section
variable {x : Ins} {al : List Ag} {w : World} {R : Value → World → Prop}
abbrev piOf (x : Ins) (al : List Ag) : PI := (x.1, x.2.1, x.2.2.1, al)
theorem isVar_nth {p : PI} {h : 0 < p.2.2.2.length} : isVar p = (p.1 == 59 && p.2.2.2[0].2.1 == 7) := by
  obtain ⟨o, t, r, l⟩ := p
  cases l with
  | nil => exact absurd h (Nat.lt_irrefl _)
  | cons a r => rfl
theorem variable_spec (hI : IsAg w x.2.2.2.1 al) (hR : ∀ w', Below w.heap.size w w' → R (.bool (isVar (piOf x al))) w') : callR Try.prog 156 #[inA x] w R := by
  refine callR.of (layout_variable_calls x R w ?_) fun _ _ h => h
  refine lay_of fun w1 hB b1 z1 => ?_
  have hB : Blk w1 w.heap.size 45 (inV x) := hB
  have hlen := hI.len
  refine hB.rI0 rfl (ifB_beq (fun e1 => ?_) (fun e1 => ?_))
  · refine hB.rS (n := 3) rfl (ifB_dec (fun h => ?_) (fun h => ?_))
    · have h0 : 0 < al.length := by omega
      refine hB.rS (n := 3) rfl (elemAn (hI.below b1) (k := 0) h0 ?_)
      have := hR w1 b1
      rw [isVar_nth (p := piOf x al) (h := h0), beq_iff_eq.2 e1, Bool.true_and] at this
      exact this
    · have h0 : al = [] := List.length_eq_zero_iff.1 (by omega)
      have := hR w1 b1
      subst h0
      unfold isVar at this
      rw [Bool.and_false] at this
      exact this
  · have := hR w1 b1
    unfold isVar at this
    rw [beq_eq_false_iff_ne.2 e1, Bool.false_and] at this
    exact this
theorem fmO_part (op : Int) : (fmO op (frm op)).2.2.2.2.2.2.2.1 = ((partO op : Nat) : Int) := by
  unfold partO
  cases frm op <;> rfl
theorem part_spec (hI : IsAg w x.2.2.2.1 al) (hR : ∀ w', Below w.heap.size w w' → R (.int .u8 (partP (piOf x al) : Int)) w') : callR Try.prog 138 #[inA x] w R := by
  refine callR.of (layout_part_calls x R w ?_) fun _ _ h => h
  refine lay_of fun w1 hB b1 z1 => ?_
  have hB : Blk w1 w.heap.size 45 (inV x) := hB
  refine Ins.load hB ?_
  refine variable_spec (x := x) (hI.below b1) fun w2 b2 => ⟨_, rfl, ?_⟩
  have hb2 := b1.on b2
  refine ifB_bool (fun hv => ?_) (fun hv => ?_)
  · have := hR w2 hb2
    unfold partP at this
    rw [if_pos hv] at this
    exact this
  · refine (hB.below b2).rI0 rfl (gOf_spec fun w3 b3 => ⟨fmO x.1 (frm x.1), (frm x.1).isSome, rfl, ?_⟩)
    refine box8 rfl fun w4 hF4 b4 z4 => ?_
    refine hF4.rI (n := 7) rfl ?_
    have := hR w4 ((hb2.on b3).on b4)
    unfold partP at this
    rw [if_neg (by rw [hv]; decide)] at this
    rw [fmO_part]
    exact this
theorem Ends_spec {op : Int} (hR : R (.bool (endsP op)) w) : callR Try.prog 157 #[.int .u16 op] w R := by
  refine callR.of (layout_Ends_calls op R w ?_) fun _ _ h => h
  refine ifB_dec (fun h => ?_) (fun h => ?_)
  · have : endsP op = decide (op ≤ 255) := by
      unfold endsP
      exact decide_eq_decide.2 ⟨fun g => g.2, fun g => ⟨h, g⟩⟩
    rwa [this] at hR
  · have : endsP op = false := ends_false.2 (by omega)
    rwa [this] at hR
theorem may_spec {mg en : Int} (hR : R (.bool (mayI mg en)) w) : callR Try.prog 140 #[.int .u16 mg, .int .u16 en] w R := by
  refine callR.of (layout_may_calls mg en R w ?_) fun _ _ h => h
  unfold mayI at hR
  refine ifB_beq (fun e => ?_) (fun e => ?_)
  · rwa [if_pos e] at hR
  rw [if_neg e] at hR
  refine ifB_beq (fun e => ?_) (fun e => ?_)
  · rwa [if_pos e] at hR
  rw [if_neg e] at hR
  refine ifB_beq (fun e => ?_) (fun e => ?_)
  · rwa [if_pos e] at hR
  · rwa [if_neg e] at hR
theorem kind_spec (hI : IsAg w x.2.2.2.1 al) (hR : ∀ w', Below w.heap.size w w' → R (.int .i64 (kdP (piOf x al))) w') : callR Try.prog 139 #[inA x] w R := by
  refine callR.of (layout_kind_calls x R w ?_) fun _ _ h => h
  refine lay_of fun w1 hB b1 z1 => ?_
  have hB : Blk w1 w.heap.size 45 (inV x) := hB
  refine Ins.load hB ?_
  refine part_spec (x := x) (hI.below b1) fun w2 b2 => ⟨_, rfl, ?_⟩
  have hb2 := b1.on b2
  have hB2 := hB.below b2
  have hR := hR w2 hb2
  unfold kdP at hR
  refine ifB_bne (fun e => ?_) (fun e => ?_)
  · rwa [if_pos (fun h => e (by rw [h]; rfl))] at hR
  rw [if_neg (fun h => h (by omega))] at hR
  refine hB2.rI0 rfl ?_
  refine ifB_beq (fun e => ?_) (fun e => ?_)
  · rwa [if_pos e] at hR
  rw [if_neg e] at hR
  refine ifB_beq (fun e => ?_) (fun e => ?_)
  · rwa [if_pos e] at hR
  rw [if_neg e] at hR
  refine ifB_beq (fun e => ?_) (fun e => ?_)
  · rwa [if_pos e] at hR
  rw [if_neg e] at hR
  refine ifB_beq (fun e => ?_) (fun e => ?_)
  · rwa [if_pos e] at hR
  rw [if_neg e] at hR
  refine ifB_beq (fun e => ?_) (fun e => ?_)
  · rwa [if_pos e] at hR
  rw [if_neg e] at hR
  refine ifB_beq (fun e => ?_) (fun e => ?_)
  · rwa [if_pos e] at hR
  rw [if_neg e] at hR
  refine ifB_beq (fun e => ?_) (fun e => ?_)
  · rwa [if_pos e] at hR
  rw [if_neg e] at hR
  refine ifB_beq (fun e => ?_) (fun e => ?_)
  · rwa [if_pos e] at hR
  rw [if_neg e] at hR
  refine hB2.rI0 rfl (Ends_spec ⟨_, rfl, ifB_bool (fun h => ?_) (fun h => ?_)⟩)
  · rwa [if_pos h] at hR
  · rwa [if_neg (by rw [h]; decide)] at hR
end

/-! ### The cutter -/
abbrev ctV (s : Sl) (n : Int) (ps : List Int) (f : Sl) : List Value := .slice s.a s.l s.c :: .int .i64 n :: (ps.map (Value.int .i64) ++ [.slice f.a f.l f.c])
structure Ct (w0 w : World) (bc : Nat) (s : Sl) (n : Nat) (ps : List Int) (f : Sl) : Prop where
  hi : w0.heap.size ≤ bc
  b0 : Below w0.heap.size w0 w
  blk : Blk w bc 100 (ctV s n ps f)
  len : ps.length = 20
section
variable {w0 w : World} {bc n : Nat} {s f : Sl} {ps : List Int} {pl : List PI} {R : Value → World → Prop}
theorem Ct.below {w' : World} (h : Ct w0 w bc s n ps f) (hb : Below w.heap.size w w') : Ct w0 w' bc s n ps f := ⟨h.hi, h.b0.on hb, h.blk.below hb, h.len⟩
theorem Ct.fr {w' : World} {X : Nat → Prop} (h : Ct w0 w bc s n ps f) (hf : Fr w.heap.size X w w') (hX : ∀ k, X k → w0.heap.size ≤ k) (hne : ¬ X bc) : Ct w0 w' bc s n ps f :=
  ⟨h.hi, hf.low h.b0 hX h.b0.size, hf.blk h.blk hne, h.len⟩
theorem Ct.mem (h : Ct w0 w bc s n ps f) (hN : IsPl w0 s pl) : IsPl w s pl := hN.below h.b0
theorem Ct.at_ (h : Ct w0 w bc s n ps f) {φ : Int → Prop} (hφ : φ n) : derefP (some (Gk.blk bc)) fun a => ldI w (a.add 1) .i64 φ := derefP_some rfl (h.blk.rI (n := 1) rfl hφ)
theorem Ct.sl (h : Ct w0 w bc s n ps f) {φ : Sl → Prop} (hφ : φ s) : derefP (some (Gk.blk bc)) fun a => ldS w a φ := derefP_some rfl ⟨s, h.blk.cell0 rfl, hφ⟩
theorem Ct.drew (h : Ct w0 w bc s n ps f) : Ct w0 w.drew bc s n ps f := ⟨h.hi, h.b0.drew, h.blk.drew, h.len⟩
/-- c.at++ -/
theorem Ct.inc (h : Ct w0 w bc s n ps f) (hn : n < 9223372036854775807) {K : World → Prop} (hK : ∀ w', Ct w0 w' bc s (n + 1) ps f → Chg bc w w' → K w') :
    derefP (some (Gk.blk bc)) fun a1 => ldI w (a1.add 1) .i64 fun x => derefP (some (Gk.blk bc)) fun a2 => Wr w (a2.add 1) ∧ Nw (w.setCell (a2.add 1) (.int .i64 (IntKind.i64.wrap (x + (1 : Int))))) K := by
  refine h.at_ (derefP_some rfl ⟨h.blk.wr (by simp), Nw.gen fun w' e => ?_⟩)
  rw [wrap64_succ hn] at e
  have c : Chg bc w w' := by rw [e]; exact Chg.set _ _ _ _
  refine hK w' ⟨h.hi, c.below h.b0 h.hi, ?_, h.len⟩ c
  rw [e]
  exact h.blk.set 1 _
def kn (pl : List PI) (n : Nat) : Int := if n < pl.length then kdP (ix pl n) else -1
theorem kn_lt {k : Int} (h : kn pl n = k) (hk : k ≠ -1) : n < pl.length ∧ kdP (ix pl n) = k := by
  unfold kn at h
  split at h
  · exact ⟨by assumption, h⟩
  · exact absurd h.symm hk
theorem kn_ne {k : Int} (h : kn pl n ≠ k) : n < pl.length → kdP (ix pl n) ≠ k := by
  intro hn e
  unfold kn at h
  rw [if_pos hn] at h
  exact h e
theorem ix_lt {k : Nat} (h : k < pl.length) : ix pl k = pl[k] := getD_lt h
theorem next_spec (h : Ct w0 w bc s n ps f) (hN : IsPl w0 s pl) (hn : n ≤ pl.length) (hR : ∀ w', Below w.heap.size w w' → R (.int .i64 (kn pl n)) w') :
    callR Try.prog 110 #[.pointer (some (blk bc))] w R := by
  refine callR.of (layout_cutter_next_calls _ R w ?_) fun _ _ h => h
  have hlen := hN.len
  have bd : Below w.heap.size w w.drew := (Below.refl _ _).drew
  refine h.drew.at_ (h.drew.sl ?_)
  unfold kn at hR
  refine ifB_beq (fun e => ?_) (fun e => ?_)
  · rw [if_neg (by omega)] at hR
    exact hR _ bd
  · have hlt : n < pl.length := by omega
    rw [if_pos hlt, ix_lt hlt] at hR
    refine h.drew.drew.sl (h.drew.drew.at_ ?_)
    refine elemPI (h.drew.drew.mem hN) hlt fun t ht => ?_
    refine kind_spec (x := mkIn pl[n] t) ht fun w1 b1 => ⟨_, rfl, hR w1 (bd.drew.on b1)⟩
/-- The places from a to b. -/
def places (a b : Nat) : List Int := (List.range (b - a)).map fun i => ((a + i : Nat) : Int)
theorem places_nil (a : Nat) : places a a = [] := by unfold places; simp
theorem places_len (a b : Nat) : (places a b).length = b - a := by unfold places; simp
theorem places_snoc {a b : Nat} (h : a ≤ b) : places a (b + 1) = places a b ++ [(b : Int)] := by
  unfold places
  rw [show b + 1 - a = (b - a) + 1 by omega, List.range_succ, List.map_append]
  simp
  omega
theorem rowc_spec {k : Int} (h : Ct w0 w bc s n ps f) (hN : IsPl w0 s pl) (hn : n ≤ pl.length) (h40 : 40 * pl.length ≤ 140737488351232) (hk : k ≠ -1)
    (hR : ∀ (r : Sl) n' w', n ≤ n' → n' ≤ pl.length → (∀ j, n ≤ j → j < n' → kdP (ix pl j) = k) → (n' < pl.length → kdP (ix pl n') ≠ k) → Ct w0 w' bc s n' ps f → Fr w.heap.size (fun k => k = bc) w w' →
      Own w' 3 1 r ((places n n').map (Value.int .i64)) → Fresh w.heap.size r → R (.slice r.a r.l r.c) w') :
    callR Try.prog 111 #[.pointer (some (blk bc)), .int .i64 k] w R := by
  refine callR.of (layout_cutter_row_calls _ k R w ?_) fun _ _ h => h
  refine LoopW.ghost (fun j (st : Sl × Unit) w' => ∃ n', j = pl.length - n' ∧ n ≤ n' ∧ n' ≤ pl.length ∧ (∀ j, n ≤ j → j < n' → kdP (ix pl j) = k) ∧ Ct w0 w' bc s n' ps f ∧ Fr w.heap.size (fun k => k = bc) w w' ∧
      Own w' 3 1 st.1 ((places n n').map (Value.int .i64)) ∧ Fresh w.heap.size st.1) (pl.length - n)
    ⟨n, rfl, Nat.le_refl _, hn, fun j h1 h2 => by omega, h, Fr.refl _ _ _, by rw [places_nil]; exact Own.nil _ _ _, fun a ha => by cases ha⟩ ?_
  rintro _ ⟨r, _⟩ w1 ⟨n', rfl, h1, h2, h3, h4, h5, h6, h7⟩ next hnext
  dsimp only at h6 h7
  refine next_spec h4 hN h2 fun w2 b2 => ⟨_, rfl, ?_⟩
  have h42 := h4.below b2
  have h52 := h5.on (Fr.of_below b2)
  have h62 := h6.below b2
  refine ifB_beq (fun e => ?_) (fun e => ?_)
  · obtain ⟨hlt, hkd⟩ := kn_lt e hk
    refine h42.at_ (lay_of fun w3 hB3 b3 z3 => ?_)
    have hB3 : Blk w3 w2.heap.size 3 [.int .i64 (n' : Int)] := hB3
    have hlr : r.l = n' - n := by have := h6.1; rw [List.length_map, places_len] at this; omega
    have hbd : bc < w.heap.size := h.blk.lt
    refine push_fr eInt (h62.below b3) rfl (by simp [Value.oneCell']) hB3 (by omega) (by omega) fun r' w4 b' hO4 hl4 ha4 hw4 f4 => ?_
    have s2 := b2.size
    have s5 := h5.size
    have hne : ¬ (r.a = some (blk bc)) := fun e => by have := h7 _ e; exact absurd this (Nat.not_le.2 hbd)
    have hfr : ∀ k, r.a = some (blk k) → w.heap.size ≤ k := fun k e => h7 _ e
    have h44 : Ct w0 w4 bc s n' ps f := (h42.below b3).fr f4 (fun k e => Nat.le_trans h.b0.size (hfr k e)) hne
    have h54 : Fr w.heap.size (fun k => k = bc) w w4 := (h52.on (Fr.of_below b3)).trans ⟨f4.os, f4.tape, f4.output, f4.size, fun k hk hx => f4.block k (by have := b3.size; omega) fun e => by have := hfr k e; omega⟩
    refine h44.inc (by omega) fun w5 h55 c5 => ?_
    refine hnext (pl.length - (n' + 1)) _ _ (by omega) ⟨n' + 1, rfl, by omega, hlt, fun j g1 g2 => ?_, h55, h54.trans c5.fr, ?_, ?_⟩
    · by_cases ej : j = n'
      · subst ej; exact hkd
      · exact h3 j g1 (by omega)
    · rw [places_snoc h1, List.map_append]
      refine hO4.of_block fun a ha => c5.block _ fun e => ?_
      rw [ha4] at ha
      cases ha
      have e : b' = bc := e
      subst e
      rcases hw4 with g | g
      · exact hne g
      · have := b3.size; omega
    · intro a ha
      rw [ha4] at ha
      cases ha
      show w.heap.size ≤ b'
      rcases hw4 with g | g
      · exact hfr _ g
      · have := b3.size; omega
  · exact hR r n' w2 h1 h2 h3 (kn_ne e) h42 h52 h62 h7
end
end Go.Proofs
