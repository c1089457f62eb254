/-
  layout: an instruction's part and kind; the cutter in memory; next, row; layout: the parts ahead of the functions; a block; the whole; layout: a block of a function; layout: the whole is cut.
-/
import Derived.Test.YtpeonjpjphhenaaL05
import Derived.Test.Ytpeonjpjphhenaa05q
import Derived.Test.Ytpeonjpjphhenaa04r
/-!
  layout: an instruction's part and kind; the cutter in memory; next, row.
-/
namespace Go.Proofs
open Go.Gk Go.RowKit Go.Gm

theorem Fr.low {B : Nat} {X : Nat → Prop} {w0 w w' : World} (h : Fr w.heap.size X w w') (hb : Below B w0 w) (hX : ∀ k, X k → B ≤ k) (hB : B ≤ w.heap.size) : Below B w0 w' :=
  hb.trans ⟨h.os, h.tape, h.output, h.size, fun k hk => h.block k (by omega) (fun x => by have := hX k x; omega)⟩
theorem Fr.on {X : Nat → Prop} {w w1 w2 : World} (h : Fr w.heap.size X w w1) (k : Fr w1.heap.size X w1 w2) : Fr w.heap.size X w w2 := h.trans (k.mono h.size fun _ _ x => x)
theorem Chg.fr {b : Nat} {w w' : World} (h : Chg b w w') {B : Nat} : Fr B (fun k => k = b) w w' := ⟨h.os, h.tape, h.output, Nat.le_of_eq h.size.symm, fun k _ hk => h.block k hk⟩
theorem Fr.wide {B : Nat} {X X' : Nat → Prop} {w w' : World} (h : Fr B X w w') (hX : ∀ k, X k → X' k) : Fr B X' w w' := h.mono (Nat.le_refl _) fun k _ x => hX k x
theorem Fr.own {X : Nat → Prop} {w w' : World} (h : Fr w.heap.size X w w') {T : TypeId} {sz : Nat} {s : Sl} {xs : List Value} (hO : Own w T sz s xs) (hX : ∀ b, s.a = some (blk b) → ¬ X b) : Own w' T sz s xs :=
  hO.of_block fun a ha => by
    obtain ⟨e, hlt⟩ := hO.lt ha
    exact h.block _ hlt (hX _ (by rw [← e]; exact ha))
theorem Fr.blk {X : Nat → Prop} {w w' : World} (h : Fr w.heap.size X w w') {T : TypeId} {b : Nat} {xs : List Value} (hO : Blk w b T xs) (hX : ¬ X b) : Blk w' b T xs := hO.of_block (h.block _ hO.lt hX)
/-- append of one element to a list of the code's own, wherever it lies. -/
theorem push_fr {P : Program} {t e : TypeId} {sz bytes : Nat} (he : ElemT P t e sz bytes) {w : World} {s : Sl} {xs vs : List Value} (h : Own w e sz s xs) (hl : vs.length = sz) (hv : ∀ u ∈ vs, u.oneCell' = true) {b c : Nat} {T : TypeId}
    (hB : Blk w b T vs) (h63 : s.l + 1 ≤ 9223372036854775807) (hbytes : (s.l + 1) * bytes ≤ 140737488355328) {k : Sl → World → Prop}
    (hk : ∀ r w' b', Own w' e sz r (xs ++ vs) → r.l = s.l + 1 → r.a = some (blk b') → (s.a = some (blk b') ∨ b' = w.heap.size) → Fr w.heap.size (fun k => s.a = some (blk k)) w w' → k r w') :
    appendS P t (.slice s.a s.l s.c) (.slice (some (blk b)) 1 c) w k := by
  refine append_own he h (news := vs) (by omega) (fun j u hj => hB.cell hj) hv h63 hbytes fun r w' h1 hl' hg => ?_
  rcases hg with ⟨_, _, h3⟩ | ⟨b', h3, h4, h5⟩
  · rw [h3] at hl'; omega
  · refine hk r w' b' h1 hl' h3 h4 ⟨h5.os, h5.tape, h5.output, h5.size, fun k hk hx => h5.block k hk fun e => ?_⟩
    cases e
    rcases h4 with h4 | h4
    · exact hx h4
    · omega

section
variable {x : Ins} {al : List Ag} {w : World} {R : Value → World → Prop}
abbrev piOf (x : Ins) (al : List Ag) : PI := (x.1, x.2.1, x.2.2.1, al)
theorem isVar_nth {p : PI} {h : 0 < p.2.2.2.length} : isVar p = (p.1 == 59 && p.2.2.2[0].2.1 == 7) := by
  obtain ⟨o, t, r, l⟩ := p
  cases l with
  | nil => exact absurd h (Nat.lt_irrefl _)
  | cons a r => rfl
theorem variable_spec (hI : IsAg w x.2.2.2.1 al) (hR : ∀ w', Below w.heap.size w w' → R (.bool (isVar (piOf x al))) w') : callR Try.prog 156 #[inA x] w R := by
  refine callR.of (layout_variable_calls x R w ?_) fun _ _ h => h
  refine lay_of fun w1 hB b1 z1 => ?_
  have hB : Blk w1 w.heap.size 45 (inV x) := hB
  have hlen := hI.len
  refine hB.rI0 rfl (ifB_beq (fun e1 => ?_) (fun e1 => ?_))
  · refine hB.rS (n := 3) rfl (ifB_dec (fun h => ?_) (fun h => ?_))
    · have h0 : 0 < al.length := by omega
      refine hB.rS (n := 3) rfl (elemAn (hI.below b1) (k := 0) h0 ?_)
      have := hR w1 b1
      rw [isVar_nth (p := piOf x al) (h := h0), beq_iff_eq.2 e1, Bool.true_and] at this
      exact this
    · have h0 : al = [] := List.length_eq_zero_iff.1 (by omega)
      have := hR w1 b1
      subst h0
      unfold isVar at this
      rw [Bool.and_false] at this
      exact this
  · have := hR w1 b1
    unfold isVar at this
    rw [beq_eq_false_iff_ne.2 e1, Bool.false_and] at this
    exact this
theorem fmO_part (op : Int) : (fmO op (frm op)).2.2.2.2.2.2.2.1 = ((partO op : Nat) : Int) := by
  unfold partO
  cases frm op <;> rfl
theorem part_spec (hI : IsAg w x.2.2.2.1 al) (hR : ∀ w', Below w.heap.size w w' → R (.int .u8 (partP (piOf x al) : Int)) w') : callR Try.prog 138 #[inA x] w R := by
  refine callR.of (layout_part_calls x R w ?_) fun _ _ h => h
  refine lay_of fun w1 hB b1 z1 => ?_
  have hB : Blk w1 w.heap.size 45 (inV x) := hB
  refine Ins.load hB ?_
  refine variable_spec (x := x) (hI.below b1) fun w2 b2 => ⟨_, rfl, ?_⟩
  have hb2 := b1.on b2
  refine ifB_bool (fun hv => ?_) (fun hv => ?_)
  · have := hR w2 hb2
    unfold partP at this
    rw [if_pos hv] at this
    exact this
  · refine (hB.below b2).rI0 rfl (gOf_spec fun w3 b3 => ⟨fmO x.1 (frm x.1), (frm x.1).isSome, rfl, ?_⟩)
    refine box8 rfl fun w4 hF4 b4 z4 => ?_
    refine hF4.rI (n := 7) rfl ?_
    have := hR w4 ((hb2.on b3).on b4)
    unfold partP at this
    rw [if_neg (by rw [hv]; decide)] at this
    rw [fmO_part]
    exact this
theorem Ends_spec {op : Int} (hR : R (.bool (endsP op)) w) : callR Try.prog 157 #[.int .u16 op] w R := by
  refine callR.of (layout_Ends_calls op R w ?_) fun _ _ h => h
  refine ifB_dec (fun h => ?_) (fun h => ?_)
  · have : endsP op = decide (op ≤ 255) := by
      unfold endsP
      exact decide_eq_decide.2 ⟨fun g => g.2, fun g => ⟨h, g⟩⟩
    rwa [this] at hR
  · have : endsP op = false := ends_false.2 (by omega)
    rwa [this] at hR
theorem may_spec {mg en : Int} (hR : R (.bool (mayI mg en)) w) : callR Try.prog 140 #[.int .u16 mg, .int .u16 en] w R := by
  refine callR.of (layout_may_calls mg en R w ?_) fun _ _ h => h
  unfold mayI at hR
  refine ifB_beq (fun e => ?_) (fun e => ?_)
  · rwa [if_pos e] at hR
  rw [if_neg e] at hR
  refine ifB_beq (fun e => ?_) (fun e => ?_)
  · rwa [if_pos e] at hR
  rw [if_neg e] at hR
  refine ifB_beq (fun e => ?_) (fun e => ?_)
  · rwa [if_pos e] at hR
  · rwa [if_neg e] at hR
theorem kind_spec (hI : IsAg w x.2.2.2.1 al) (hR : ∀ w', Below w.heap.size w w' → R (.int .i64 (kdP (piOf x al))) w') : callR Try.prog 139 #[inA x] w R := by
  refine callR.of (layout_kind_calls x R w ?_) fun _ _ h => h
  refine lay_of fun w1 hB b1 z1 => ?_
  have hB : Blk w1 w.heap.size 45 (inV x) := hB
  refine Ins.load hB ?_
  refine part_spec (x := x) (hI.below b1) fun w2 b2 => ⟨_, rfl, ?_⟩
  have hb2 := b1.on b2
  have hB2 := hB.below b2
  have hR := hR w2 hb2
  unfold kdP at hR
  refine ifB_bne (fun e => ?_) (fun e => ?_)
  · rwa [if_pos (fun h => e (by rw [h]; rfl))] at hR
  rw [if_neg (fun h => h (by omega))] at hR
  refine hB2.rI0 rfl ?_
  refine ifB_beq (fun e => ?_) (fun e => ?_)
  · rwa [if_pos e] at hR
  rw [if_neg e] at hR
  refine ifB_beq (fun e => ?_) (fun e => ?_)
  · rwa [if_pos e] at hR
  rw [if_neg e] at hR
  refine ifB_beq (fun e => ?_) (fun e => ?_)
  · rwa [if_pos e] at hR
  rw [if_neg e] at hR
  refine ifB_beq (fun e => ?_) (fun e => ?_)
  · rwa [if_pos e] at hR
  rw [if_neg e] at hR
  refine ifB_beq (fun e => ?_) (fun e => ?_)
  · rwa [if_pos e] at hR
  rw [if_neg e] at hR
  refine ifB_beq (fun e => ?_) (fun e => ?_)
  · rwa [if_pos e] at hR
  rw [if_neg e] at hR
  refine ifB_beq (fun e => ?_) (fun e => ?_)
  · rwa [if_pos e] at hR
  rw [if_neg e] at hR
  refine ifB_beq (fun e => ?_) (fun e => ?_)
  · rwa [if_pos e] at hR
  rw [if_neg e] at hR
  refine hB2.rI0 rfl (Ends_spec ⟨_, rfl, ifB_bool (fun h => ?_) (fun h => ?_)⟩)
  · rwa [if_pos h] at hR
  · rwa [if_neg (by rw [h]; decide)] at hR
end

/-! ### The cutter -/
abbrev ctV (s : Sl) (n : Int) (ps : List Int) (f : Sl) : List Value := .slice s.a s.l s.c :: .int .i64 n :: (ps.map (Value.int .i64) ++ [.slice f.a f.l f.c])
structure Ct (w0 w : World) (bc : Nat) (s : Sl) (n : Nat) (ps : List Int) (f : Sl) : Prop where
  hi : w0.heap.size ≤ bc
  b0 : Below w0.heap.size w0 w
  blk : Blk w bc 100 (ctV s n ps f)
  len : ps.length = 20
section
variable {w0 w : World} {bc n : Nat} {s f : Sl} {ps : List Int} {pl : List PI} {R : Value → World → Prop}
theorem Ct.below {w' : World} (h : Ct w0 w bc s n ps f) (hb : Below w.heap.size w w') : Ct w0 w' bc s n ps f := ⟨h.hi, h.b0.on hb, h.blk.below hb, h.len⟩
theorem Ct.fr {w' : World} {X : Nat → Prop} (h : Ct w0 w bc s n ps f) (hf : Fr w.heap.size X w w') (hX : ∀ k, X k → w0.heap.size ≤ k) (hne : ¬ X bc) : Ct w0 w' bc s n ps f :=
  ⟨h.hi, hf.low h.b0 hX h.b0.size, hf.blk h.blk hne, h.len⟩
theorem Ct.mem (h : Ct w0 w bc s n ps f) (hN : IsPl w0 s pl) : IsPl w s pl := hN.below h.b0
theorem Ct.at_ (h : Ct w0 w bc s n ps f) {φ : Int → Prop} (hφ : φ n) : derefP (some (Gk.blk bc)) fun a => ldI w (a.add 1) .i64 φ := derefP_some rfl (h.blk.rI (n := 1) rfl hφ)
theorem Ct.sl (h : Ct w0 w bc s n ps f) {φ : Sl → Prop} (hφ : φ s) : derefP (some (Gk.blk bc)) fun a => ldS w a φ := derefP_some rfl ⟨s, h.blk.cell0 rfl, hφ⟩
theorem Ct.drew (h : Ct w0 w bc s n ps f) : Ct w0 w.drew bc s n ps f := ⟨h.hi, h.b0.drew, h.blk.drew, h.len⟩
/-- c.at++ -/
theorem Ct.inc (h : Ct w0 w bc s n ps f) (hn : n < 9223372036854775807) {K : World → Prop} (hK : ∀ w', Ct w0 w' bc s (n + 1) ps f → Chg bc w w' → K w') :
    derefP (some (Gk.blk bc)) fun a1 => ldI w (a1.add 1) .i64 fun x => derefP (some (Gk.blk bc)) fun a2 => Wr w (a2.add 1) ∧ Nw (w.setCell (a2.add 1) (.int .i64 (IntKind.i64.wrap (x + (1 : Int))))) K := by
  refine h.at_ (derefP_some rfl ⟨h.blk.wr (by simp), Nw.gen fun w' e => ?_⟩)
  rw [wrap64_succ hn] at e
  have c : Chg bc w w' := by rw [e]; exact Chg.set _ _ _ _
  refine hK w' ⟨h.hi, c.below h.b0 h.hi, ?_, h.len⟩ c
  rw [e]
  exact h.blk.set 1 _
def kn (pl : List PI) (n : Nat) : Int := if n < pl.length then kdP (ix pl n) else -1
theorem kn_lt {k : Int} (h : kn pl n = k) (hk : k ≠ -1) : n < pl.length ∧ kdP (ix pl n) = k := by
  unfold kn at h
  split at h
  · exact ⟨by assumption, h⟩
  · exact absurd h.symm hk
theorem kn_ne {k : Int} (h : kn pl n ≠ k) : n < pl.length → kdP (ix pl n) ≠ k := by
  intro hn e
  unfold kn at h
  rw [if_pos hn] at h
  exact h e
theorem ix_lt {k : Nat} (h : k < pl.length) : ix pl k = pl[k] := getD_lt h
theorem next_spec (h : Ct w0 w bc s n ps f) (hN : IsPl w0 s pl) (hn : n ≤ pl.length) (hR : ∀ w', Below w.heap.size w w' → R (.int .i64 (kn pl n)) w') :
    callR Try.prog 110 #[.pointer (some (blk bc))] w R := by
  refine callR.of (layout_cutter_next_calls _ R w ?_) fun _ _ h => h
  have hlen := hN.len
  have bd : Below w.heap.size w w.drew := (Below.refl _ _).drew
  refine h.drew.at_ (h.drew.sl ?_)
  unfold kn at hR
  refine ifB_beq (fun e => ?_) (fun e => ?_)
  · rw [if_neg (by omega)] at hR
    exact hR _ bd
  · have hlt : n < pl.length := by omega
    rw [if_pos hlt, ix_lt hlt] at hR
    refine h.drew.drew.sl (h.drew.drew.at_ ?_)
    refine elemPI (h.drew.drew.mem hN) hlt fun t ht => ?_
    refine kind_spec (x := mkIn pl[n] t) ht fun w1 b1 => ⟨_, rfl, hR w1 (bd.drew.on b1)⟩
/-- The places from a to b. -/
def places (a b : Nat) : List Int := (List.range (b - a)).map fun i => ((a + i : Nat) : Int)
theorem places_nil (a : Nat) : places a a = [] := by unfold places; simp
theorem places_len (a b : Nat) : (places a b).length = b - a := by unfold places; simp
theorem places_snoc {a b : Nat} (h : a ≤ b) : places a (b + 1) = places a b ++ [(b : Int)] := by
  unfold places
  rw [show b + 1 - a = (b - a) + 1 by omega, List.range_succ, List.map_append]
  simp
  omega
theorem rowc_spec {k : Int} (h : Ct w0 w bc s n ps f) (hN : IsPl w0 s pl) (hn : n ≤ pl.length) (h40 : 40 * pl.length ≤ 140737488351232) (hk : k ≠ -1)
    (hR : ∀ (r : Sl) n' w', n ≤ n' → n' ≤ pl.length → (∀ j, n ≤ j → j < n' → kdP (ix pl j) = k) → (n' < pl.length → kdP (ix pl n') ≠ k) → Ct w0 w' bc s n' ps f → Fr w.heap.size (fun k => k = bc) w w' →
      Own w' 3 1 r ((places n n').map (Value.int .i64)) → Fresh w.heap.size r → R (.slice r.a r.l r.c) w') :
    callR Try.prog 111 #[.pointer (some (blk bc)), .int .i64 k] w R := by
  refine callR.of (layout_cutter_row_calls _ k R w ?_) fun _ _ h => h
  refine LoopW.ghost (fun j (st : Sl × Unit) w' => ∃ n', j = pl.length - n' ∧ n ≤ n' ∧ n' ≤ pl.length ∧ (∀ j, n ≤ j → j < n' → kdP (ix pl j) = k) ∧ Ct w0 w' bc s n' ps f ∧ Fr w.heap.size (fun k => k = bc) w w' ∧
      Own w' 3 1 st.1 ((places n n').map (Value.int .i64)) ∧ Fresh w.heap.size st.1) (pl.length - n)
    ⟨n, rfl, Nat.le_refl _, hn, fun j h1 h2 => by omega, h, Fr.refl _ _ _, by rw [places_nil]; exact Own.nil _ _ _, fun a ha => by cases ha⟩ ?_
  rintro _ ⟨r, _⟩ w1 ⟨n', rfl, h1, h2, h3, h4, h5, h6, h7⟩ next hnext
  dsimp only at h6 h7
  refine next_spec h4 hN h2 fun w2 b2 => ⟨_, rfl, ?_⟩
  have h42 := h4.below b2
  have h52 := h5.on (Fr.of_below b2)
  have h62 := h6.below b2
  refine ifB_beq (fun e => ?_) (fun e => ?_)
  · obtain ⟨hlt, hkd⟩ := kn_lt e hk
    refine h42.at_ (lay_of fun w3 hB3 b3 z3 => ?_)
    have hB3 : Blk w3 w2.heap.size 3 [.int .i64 (n' : Int)] := hB3
    have hlr : r.l = n' - n := by have := h6.1; rw [List.length_map, places_len] at this; omega
    have hbd : bc < w.heap.size := h.blk.lt
    refine push_fr eInt (h62.below b3) rfl (by simp [Value.oneCell']) hB3 (by omega) (by omega) fun r' w4 b' hO4 hl4 ha4 hw4 f4 => ?_
    have s2 := b2.size
    have s5 := h5.size
    have hne : ¬ (r.a = some (blk bc)) := fun e => by have := h7 _ e; exact absurd this (Nat.not_le.2 hbd)
    have hfr : ∀ k, r.a = some (blk k) → w.heap.size ≤ k := fun k e => h7 _ e
    have h44 : Ct w0 w4 bc s n' ps f := (h42.below b3).fr f4 (fun k e => Nat.le_trans h.b0.size (hfr k e)) hne
    have h54 : Fr w.heap.size (fun k => k = bc) w w4 := (h52.on (Fr.of_below b3)).trans ⟨f4.os, f4.tape, f4.output, f4.size, fun k hk hx => f4.block k (by have := b3.size; omega) fun e => by have := hfr k e; omega⟩
    refine h44.inc (by omega) fun w5 h55 c5 => ?_
    refine hnext (pl.length - (n' + 1)) _ _ (by omega) ⟨n' + 1, rfl, by omega, hlt, fun j g1 g2 => ?_, h55, h54.trans c5.fr, ?_, ?_⟩
    · by_cases ej : j = n'
      · subst ej; exact hkd
      · exact h3 j g1 (by omega)
    · rw [places_snoc h1, List.map_append]
      refine hO4.of_block fun a ha => c5.block _ fun e => ?_
      rw [ha4] at ha
      cases ha
      have e : b' = bc := e
      subst e
      rcases hw4 with g | g
      · exact hne g
      · have := b3.size; omega
    · intro a ha
      rw [ha4] at ha
      cases ha
      show w.heap.size ≤ b'
      rcases hw4 with g | g
      · exact hfr _ g
      · have := b3.size; omega
  · exact hR r n' w2 h1 h2 h3 (kn_ne e) h42 h52 h62 h7
end
end Go.Proofs

/-!
  layout: the parts ahead of the functions; a block; the whole.
-/
namespace Go.Proofs
open Go.Gk Go.RowKit Go.Gm

theorem cell_keep {w w' : World} (hb : Below w.heap.size w w') {a : Addr} {v : Value} (h : w.cell? a = some v) : w'.cell? a = some v := by
  rw [World.cell?_of_block (w := w) (hb.block _ (World.block_lt_of_cell? w _ h))]
  exact h
theorem elemPrC {w : World} {s : Sl} {pl : List PI} (h : IsPl w s pl) {k : Nat} (hk : k < pl.length) {φ : Addr → Int → Prop} (hφ : ∀ a, w.cell? ((a.add (Int.toNat (k : Int) * 4)).add 2) = some (.int .u32 pl[k].2.2.1) → φ a pl[k].2.2.1) :
    (0 ≤ (k : Int) ∧ (k : Int) < (s.l : Int)) ∧ derefP s.a fun a => ldI w ((a.add (Int.toNat (k : Int) * 4)).add 2) .u32 fun x => φ a x := by
  obtain ⟨a, ha⟩ := h.base hk
  obtain ⟨t, h1, h2⟩ := h.elem a ha k hk
  have hc : w.cell? ((a.add (Int.toNat (k : Int) * 4)).add 2) = some (.int .u32 pl[k].2.2.1) := by rw [add_add']; exact h1 2 (by omega)
  exact ⟨⟨by omega, by have := h.len; omega⟩, derefP_some ha ⟨_, hc, hφ a hc⟩⟩
abbrev fnV (f : FnL) (tp tb : Sl) : List Value := [.int .u32 f.id, .int .i64 f.at_, .slice tp.a tp.l tp.c, .slice tb.a tb.l tb.c, .int .i64 f.en]
abbrev blV (b : Int × Int × Int) : List Value := [.int .u32 b.1, .int .i64 b.2.1, .int .i64 b.2.2]
theorem eBlk : ElemT Try.prog 52 63 3 24 := ⟨by kernel_rfl, Try.t63, .agg #[.int .u32 0, .int .i64 0, .int .i64 0], by kernel_rfl, rfl, rfl, rfl, rfl⟩
theorem eFun : ElemT Try.prog 49 54 5 72 := ⟨by kernel_rfl, Try.t54, .agg #[.int .u32 0, .int .i64 0, .slice none 0 0, .slice none 0 0, .int .i64 0], by kernel_rfl, rfl, rfl, rfl, rfl⟩
theorem own_apart {w : World} {T T' : TypeId} {sz b : Nat} {s : Sl} {xs cs : List Value} (h : Own w T sz s xs) (hB : Blk w b T' cs) (hT : T ≠ T') : s.a ≠ some (Gk.blk b) := fun e => by
  obtain ⟨cs', h'⟩ := h.type e
  exact Blk.apart h' hB hT rfl
theorem own_apart2 {w : World} {T T' : TypeId} {sz sz' : Nat} {s t : Sl} {xs ys : List Value} (h : Own w T sz s xs) (k : Own w T' sz' t ys) (hT : T ≠ T') {b : Nat} (e : s.a = some (Gk.blk b)) : t.a ≠ some (Gk.blk b) := fun e' => by
  obtain ⟨cs', h'⟩ := h.type e
  exact own_apart k h' (fun g => hT g.symm) e'

section
variable {w0 w : World} {bc n : Nat} {s f : Sl} {ps : List Int} {pl : List PI} {R : Value → World → Prop}
theorem ctV_set {i : Nat} {v : Int} (hi : i < ps.length) : (ctV s n ps f).set (2 + i) (.int .i64 v) = ctV s n (ps.set i v) f := by
  have e : 2 + i = i + 1 + 1 := by omega
  show (Value.slice s.a s.l s.c :: Value.int .i64 n :: (ps.map (Value.int .i64) ++ [.slice f.a f.l f.c])).set (2 + i) _ = _
  rw [e, List.set_cons_succ, List.set_cons_succ, List.set_append_left _ _ (by simpa using hi), ← List.map_set]
theorem ctV_f (hps : ps.length = 20) : (ctV s n ps f)[22]? = some (.slice f.a f.l f.c) := by
  show (Value.slice s.a s.l s.c :: Value.int .i64 n :: (ps.map (Value.int .i64) ++ [.slice f.a f.l f.c]))[22]? = _
  rw [List.getElem?_cons_succ, List.getElem?_cons_succ, List.getElem?_append_right (by simp [hps])]
  simp [hps]
theorem ctV_setf {g : Sl} (hps : ps.length = 20) : (ctV s n ps f).set 22 (.slice g.a g.l g.c) = ctV s n ps g := by
  show (Value.slice s.a s.l s.c :: Value.int .i64 n :: (ps.map (Value.int .i64) ++ [.slice f.a f.l f.c])).set 22 _ = _
  rw [List.set_cons_succ, List.set_cons_succ, List.set_append_right _ _ (by simp [hps])]
  simp [hps]
theorem ctV_len (hps : ps.length = 20) : (ctV s n ps f).length = 23 := by simp [hps]
/-- c.parts[p] = {x, y} -/
theorem Ct.part (h : Ct w0 w bc s n ps f) {p : Nat} (hp : p < 10) {x y : Int} {K : World → Prop} (hK : ∀ w', Ct w0 w' bc s n ((ps.set (2 * p) x).set (2 * p + 1) y) f → Chg bc w w' → K w') :
    derefP (some (Gk.blk bc)) fun a => (0 ≤ (p : Int) ∧ (p : Int) < (10 : Int)) ∧ Wr w ((a.add 2).add (Int.toNat (p : Int) * 2)) ∧ Nw (w.setCell ((a.add 2).add (Int.toNat (p : Int) * 2)) (.int .i64 x)) fun w8 =>
      Wr w8 (((a.add 2).add (Int.toNat (p : Int) * 2)).add 1) ∧ Nw (w8.setCell (((a.add 2).add (Int.toNat (p : Int) * 2)).add 1) (.int .i64 y)) K := by
  have hps := h.len
  have e1 : ((Gk.blk bc).add 2).add (Int.toNat (p : Int) * 2) = (Gk.blk bc).add (2 + 2 * p) := by rw [add_add', Int.toNat_natCast, Nat.mul_comm]
  have e2 : (((Gk.blk bc).add 2).add (Int.toNat (p : Int) * 2)).add 1 = (Gk.blk bc).add (2 + (2 * p + 1)) := by rw [e1, add_add']; rfl
  have hl := ctV_len (s := s) (n := n) (f := f) hps
  refine derefP_some rfl ⟨⟨by omega, by omega⟩, ?_⟩
  rw [e1]
  refine ⟨h.blk.wr (by omega), Nw.gen fun w8 e => ?_⟩
  rw [← e1, e2]
  have c8 : Chg bc w w8 := by rw [e]; exact Chg.set _ _ _ _
  have hB8 : Blk w8 bc 100 (ctV s n (ps.set (2 * p) x) f) := by rw [e, ← ctV_set (by omega)]; exact h.blk.set _ _
  clear e
  have hl8 := ctV_len (s := s) (n := n) (f := f) (ps := ps.set (2 * p) x) (by simpa using hps)
  refine ⟨hB8.wr (by omega), Nw.gen fun w9 e => ?_⟩
  have c9 : Chg bc w8 w9 := by rw [e]; exact Chg.set _ _ _ _
  refine hK w9 ⟨h.hi, (c8.trans c9).below h.b0 h.hi, ?_, by simpa using hps⟩ (c8.trans c9)
  rw [e, ← ctV_set (by simp; omega)]
  exact hB8.set _ _
theorem top_spec (h : Ct w0 w bc s 0 ps f) (hN : IsPl w0 s pl) (hmax : pl.length < 9223372036854775807)
    (hok : ∀ n ps' w', Ct w0 w' bc s n ps' f → Fr w.heap.size (fun k => k = bc) w w' → InvT pl 8 n → PartsTo pl 8 n ps' → R (.bool true) w')
    (hbad : ∀ n ps' w', Ct w0 w' bc s n ps' f → Fr w.heap.size (fun k => k = bc) w w' → StopL pl n → R (.bool false) w') :
    callR Try.prog 109 #[.pointer (some (blk bc))] w R := by
  refine callR.of (layout_cutter_top_calls _ R w ?_) fun _ _ h => h
  have hlen := hN.len
  refine LoopW.ghost (fun j (st : Int × Unit) w' => ∃ (p n : Nat) (ps' : List Int), j = 8 - p ∧ p ≤ 8 ∧ st = ((p : Int), ()) ∧ Ct w0 w' bc s n ps' f ∧ Fr w.heap.size (fun k => k = bc) w w' ∧ InvT pl p n ∧ PartsTo pl p n ps') 8
    ⟨0, 0, ps, rfl, by omega, rfl, h, Fr.refl _ _ _, InvT.zero pl, fun q hq => by omega⟩ ?_
  rintro _ _ w1 ⟨p, n, ps', rfl, hp8, rfl, hC, hF, hT, hP⟩ next hnext
  refine ifB_dec (fun hp => ?_) (fun hp => ?_)
  · have hp : p < 8 := by dsimp only at hp; omega
    refine JoinW.cut (fun _ w' => ∃ (n' : Nat) (ps2 : List Int), Ct w0 w' bc s n' ps2 f ∧ Fr w.heap.size (fun k => k = bc) w w' ∧ InvT pl (p + 1) n' ∧ PartsTo pl (p + 1) n' ps2) ?_ ?_
    · refine hC.at_ ?_
      refine JoinW.cut (fun _ w' => ∃ n', Ct w0 w' bc s n' ps' f ∧ Fr w.heap.size (fun k => k = bc) w w' ∧ OutP pl p n n') ?_ ?_
      · refine LoopW.ghost (fun j _ w' => ∃ n', j = pl.length - n' ∧ Ct w0 w' bc s n' ps' f ∧ Fr w.heap.size (fun k => k = bc) w w' ∧ InvP pl p n n') (pl.length - n) ⟨n, rfl, hC, hF, hT.into⟩ ?_
        rintro _ _ w2 ⟨n', rfl, hC2, hF2, hI⟩ next2 hnext2
        have hle := hI.le
        have outNo : (n' < pl.length → partP (ix pl n') ≠ p) → OutP pl p n n' := fun hno =>
          ⟨hI.lo, hI.le, hI.own, fun h1 => hI.out hT h1 hno, fun h1 => .inl ⟨hI.one h1, by have := hI.one h1; subst this; rw [h1] at hno; exact hno⟩⟩
        refine JoinW.cut (fun _ w' => Ct w0 w' bc s n' ps' f ∧ Fr w.heap.size (fun k => k = bc) w w' ∧ n' < pl.length ∧ partP (ix pl n') = p) ?_ ?_
        · have bd : Below w2.heap.size w2 w2.drew := (Below.refl _ _).drew
          refine next_spec (hC2.below bd) hN hI.le fun w3 b3 => ⟨_, rfl, ?_⟩
          have hC3 := hC2.below (bd.on b3)
          have hF3 := hF2.trans ((Fr.of_below (bd.on b3)).mono hF2.size fun _ _ x => x)
          refine ifB_beq (fun e => ?_) (fun e => ?_)
          · obtain ⟨hlt, hk⟩ := kn_lt e (by decide)
            refine hC3.sl (hC3.at_ ?_)
            refine elemPI (hC3.mem hN) hlt fun t ht => ?_
            refine part_spec (x := mkIn pl[n'] t) ht fun w4 b4 => ⟨_, rfl, ?_⟩
            have hC4 := hC3.below b4
            have hF4 := hF3.trans ((Fr.of_below b4).mono hF3.size fun _ _ x => x)
            have hpart : partP (piOf (mkIn pl[n'] t) pl[n'].2.2.2) = partP (ix pl n') := by rw [ix_lt hlt]
            rw [hpart]
            refine ifB_beq (fun e2 => ?_) (fun e2 => ?_)
            · exact ⟨hC4, hF4, hlt, by have e2 : ((partP (ix pl n') : Nat) : Int) = (p : Int) := e2; omega⟩
            · exact ⟨n', hC4, hF4, outNo fun _ h => e2 (by rw [h])⟩
          · refine ⟨n', hC3, hF3, outNo fun hlt h => kn_ne e hlt ?_⟩
            unfold kdP
            rw [if_pos (by omega)]
        · rintro _ w5 ⟨hC5, hF5, hlt, hpart⟩
          refine hC5.inc (by omega) fun w6 hC6 c6 => ?_
          have hF6 := hF5.trans (c6.fr)
          refine ifB_beq (fun e => ?_) (fun e => ?_)
          · have hp1 : p = 1 := by dsimp only at e; omega
            have hnn := hI.one hp1
            subst hnn
            exact ⟨n' + 1, hC6, hF6, by omega, by omega, fun k k1 k2 => by have : k = n' := by omega
                                                                           subst this; exact hpart, fun h1 => absurd hp1 h1, fun _ => .inr rfl⟩
          · have hp1 : p ≠ 1 := by dsimp only at e; omega
            exact hnext2 (pl.length - (n' + 1)) _ _ (by omega) ⟨n' + 1, rfl, hC6, hF6, hI.step hT hp hlt hpart hp1⟩
      · rintro _ w7 ⟨n', hC7, hF7, hO⟩
        have bd : Below w7.heap.size w7 w7.drew := (Below.refl _ _).drew
        have hC7 := hC7.drew
        have hF7 := hF7.drew
        refine hC7.at_ (hC7.part (by omega) fun w9 hC9 c9 => ?_)
        have hF9 := hF7.trans c9.fr
        have fin : (p = 1 → n' ≠ n) → ∃ (n'' : Nat) (ps2 : List Int), Ct w0 w9 bc s n'' ps2 f ∧ Fr w.heap.size (fun k => k = bc) w w9 ∧ InvT pl (p + 1) n'' ∧ PartsTo pl (p + 1) n'' ps2 := fun hne =>
          ⟨n', _, hC9, hF9, hO.go hT hne, hP.step hC.len (by omega) hO.lo hT.low hO.own⟩
        refine ifB_beq (fun e => ?_) (fun e => ?_)
        · have hp1 : p = 1 := by dsimp only at e; omega
          refine hC9.at_ (ifB_beq (fun e2 => ?_) (fun e2 => fin fun _ => by omega))
          subst hp1
          exact hbad n' _ w9 hC9 hF9 (hO.stop hT (by omega))
        · exact fin fun h1 => absurd (by rw [h1]; rfl) e
    · rintro _ w10 ⟨n', ps2, hC', hF', hT', hP'⟩
      have e : IntKind.u8.wrap ((p : Int) + 1) = ((p + 1 : Nat) : Int) := by rw [IntKind.wrap_u8]; omega
      dsimp only
      rw [e]
      exact hnext (8 - (p + 1)) _ _ (by omega) ⟨p + 1, n', ps2, rfl, by omega, rfl, hC', hF', hT', hP'⟩
  · have hp : p = 8 := by dsimp only at hp; omega
    subst hp
    exact hok n ps' w1 hC hF hT hP
end
end Go.Proofs

/-!
  layout: a block of a function.
-/
namespace Go.Proofs
open Go.Gk Go.RowKit Go.Gm

theorem Chg.frB {b B : Nat} {X : Nat → Prop} {w w' : World} (h : Chg b w w') (hB : B ≤ b) : Fr B X w w' := Fr.of_below (h.below (Below.refl _ _) hB)
theorem blV_len (b : Int × Int × Int) : (blV b).length = 3 := rfl
theorem flat_snoc {α : Type} (g : α → List Value) (l : List α) (x : α) : flat g (l ++ [x]) = flat g l ++ g x := by simp [flat]
section
variable {w0 w : World} {bc n : Nat} {s f : Sl} {ps : List Int} {pl : List PI} {R : Value → World → Prop}
theorem Ct.chg {b : Nat} {w' : World} (h : Ct w0 w bc s n ps f) (c : Chg b w w') (hb : w0.heap.size ≤ b) (hne : b ≠ bc) : Ct w0 w' bc s n ps f :=
  ⟨h.hi, c.below h.b0 hb, c.blk h.blk (fun e => hne e.symm), h.len⟩
theorem block_spec {fn : FnL} {tp tb : Sl} {bf : Nat} {ah : Int} {done : List FnL} (h : Ct w0 w bc s n ps f) (hN : IsPl w0 s pl) (h40 : 40 * pl.length ≤ 140737488351232) (hn : n < pl.length) (hkd : kdP (ix pl n) = 3)
    (hI : InvF pl n ah) (ha : ((ah = 54 ∨ ah = 55) ∧ fn.bk = []) ∨ ((249 ≤ ah ∧ ah ≤ 255) ∧ fn.bk ≠ [])) (hbf : Blk w bf 54 (fnV fn tp tb)) (h0f : w0.heap.size ≤ bf)
    (hO : Own w 63 3 tb (flat blV fn.bk)) (hF0 : Fresh w0.heap.size tb) (hbk : fn.bk.length ≤ n) (hcut : cutF pl n = done ++ [fn])
    (hok : ∀ n' ah' tb' w', n < n' → Ct w0 w' bc s n' ps f → Fr w.heap.size (fun k => k = bc ∨ k = bf ∨ tb.a = some (Gk.blk k)) w w' → InvF pl n' ah' → (249 ≤ ah' ∧ ah' ≤ 255) → Blk w' bf 54 (fnV fn tp tb') →
      Own w' 63 3 tb' (flat blV (fn.bk ++ [((ix pl n).2.2.1, (n : Int), (n' : Int))])) → (∃ b', tb'.a = some (Gk.blk b') ∧ (tb.a = some (Gk.blk b') ∨ w.heap.size ≤ b')) →
      cutF pl n' = done ++ [{ fn with bk := fn.bk ++ [((ix pl n).2.2.1, (n : Int), (n' : Int))] }] → R (.bool true) w')
    (hbad : ∀ n' w', Ct w0 w' bc s n' ps f → Fr w.heap.size (fun k => k = bc ∨ k = bf ∨ tb.a = some (Gk.blk k)) w w' → StopL pl n' → R (.bool false) w') :
    callR Try.prog 112 #[.pointer (some (blk bc)), .pointer (some (blk bf))] w R := by
  refine callR.of (layout_cutter_block_calls _ _ R w ?_) fun _ _ h => h
  have hlen := hN.len
  have hbl : fn.bk.length = tb.l := by have := hO.1; rw [flat_length blV_len] at this; omega
  have hbcf : bc ≠ bf := Blk.apart h.blk hbf (by decide)
  have hbcl : bc < w.heap.size := h.blk.lt
  have hbfl : bf < w.heap.size := hbf.lt
  have h0w := h.b0.size
  generalize hX : (fun k => k = bc ∨ k = bf ∨ tb.a = some (Gk.blk k)) = X at hok hbad
  have hXc : X bc := by rw [← hX]; exact .inl rfl
  have bd : Below w.heap.size w w.drew := (Below.refl _ _).drew
  have hD := h.drew
  refine hD.sl (hD.at_ (elemPrC (hD.mem hN) hn fun a hc => hD.at_ ?_))
  refine lay_of fun w1 hB1 b1 z1 => ⟨cell_keep b1 (hD.blk.cell rfl), cell_keep b1 hc, cell_keep b1 (hD.blk.cell rfl), cell_keep b1 (hD.blk.cell0 rfl), ?_⟩
  have hB1 : Blk w1 w.drew.heap.size 63 [.int .u32 0, .int .i64 0, .int .i64 0] := hB1
  have hbb : w.drew.heap.size = w.heap.size := rfl
  generalize w.drew.heap.size = bb at hB1 hbb z1
  subst hbb
  have b01 : Below w.heap.size w w1 := bd.on b1
  have hC1 := h.below b01
  have hbf1 := hbf.below b01
  have hO1 := hO.below b01
  refine st3 hB1 rfl fun w4 hB4 c4 => ?_
  have hC4 := hC1.chg c4 h0w (by omega)
  have hbf4 := c4.blk hbf1 (by omega)
  have hO4 : Own w4 63 3 tb (flat blV fn.bk) := hO1.of_block fun a ha => c4.block _ (by have := (hO.lt ha).2; omega)
  have f4 : Fr w.heap.size X w w4 := (Fr.of_below b01).trans (c4.frB (Nat.le_refl _))
  have z4 : w4.heap.size = w.heap.size + 1 := by rw [c4.size, z1]
  refine hC4.inc (by omega) fun w5 hC5 c5 => ?_
  obtain ⟨F, hL, hFb⟩ : ∃ F, InvB pl (n + 1) F 248 ∧ (F = true ↔ fn.bk = []) := by
    rcases ha with ⟨g1, g2⟩ | ⟨g1, g2⟩
    · exact ⟨_, hI.label (.inl g1) hn hkd, ⟨fun _ => g2, fun _ => by rcases g1 with e | e <;> rw [e] <;> rfl⟩⟩
    · refine ⟨_, hI.label (.inr g1) hn hkd, ⟨fun e => ?_, fun e => absurd e g2⟩⟩
      rw [beq_eq_false_iff_ne.2 (show ah ≠ 54 by omega), beq_eq_false_iff_ne.2 (show ah ≠ 55 by omega)] at e
      cases e
  have hbf5 := c5.blk hbf4 (fun e => hbcf e.symm)
  have hcut1 := cutF_label hcut hkd
  have g5 : Fr w4.heap.size (fun k => k = bc) w4 w5 := c5.fr
  refine JoinW.cut (fun _ w8 => ∃ n1 ah1, n + 1 ≤ n1 ∧ InvB pl n1 F ah1 ∧ (n1 < pl.length → F = true → kdP (ix pl n1) ≠ 5) ∧ (n1 < pl.length → F = false → kdP (ix pl n1) ≠ 4) ∧ cutF pl n1 = cutF pl (n + 1) ∧
      Ct w0 w8 bc s n1 ps f ∧ Fr w4.heap.size (fun k => k = bc) w4 w8) ?_ ?_
  · refine derefP_some rfl (hbf5.rS (n := 3) rfl (ifB_beq (fun e => ?_) (fun e => ?_)))
    · have hF : F = true := hFb.2 (List.length_eq_zero_iff.1 (by omega))
      subst hF
      refine rowc_spec hC5 hN (by omega) h40 (by decide) fun r n1 w6 h1 h2 h3 h4' hC6 f6 _ _ => ⟨r, rfl, ?_⟩
      obtain ⟨ah1, hL1, _⟩ := hL.locals (.inl rfl) h1 h2 h3
      exact ⟨n1, ah1, h1, hL1, fun hl _ => h4' hl, fun _ h => (by cases h), cutF_idle h1 fun j j1 j2 => .inr (.inr (.inr (.inl (h3 j j1 j2)))), hC6, g5.on f6⟩
    · have hF : F = false := by
        cases F
        · rfl
        · have := hFb.1 rfl
          rw [this] at hbl
          exact absurd (by rw [← hbl]; rfl) e
      subst hF
      refine rowc_spec hC5 hN (by omega) h40 (by decide) fun r n1 w6 h1 h2 h3 h4' hC6 f6 _ _ => ⟨r, rfl, ?_⟩
      obtain ⟨ah1, hL1, _⟩ := hL.phis (.inl rfl) h1 h2 h3
      exact ⟨n1, ah1, h1, hL1, fun _ h => (by cases h), fun hl _ => h4' hl, cutF_idle h1 fun j j1 j2 => .inr (.inr (.inl (h3 j j1 j2))), hC6, g5.on f6⟩
  · rintro _ w8 ⟨n1, ah1, hn1, hL1, hk5, hk4, hcut2, hC8, g8⟩
    have hn1l := hL1.f.le
    refine rowc_spec hC8 hN hn1l h40 (by decide) fun r n2 w9 h1 h2 h3 h4' hC9 f9 _ _ => ⟨r, rfl, ?_⟩
    obtain ⟨ah2, hL2, hor⟩ := hL1.plains h1 h2 h3
    have hcut3 : cutF pl n2 = cutF pl (n + 1) := (cutF_idle h1 fun j j1 j2 => .inr (.inl (h3 j j1 j2))).trans hcut2
    have g9 := g8.on f9
    refine next_spec hC9 hN h2 fun w10 b10 => ⟨_, rfl, ?_⟩
    have hC10 := hC9.below b10
    have g10 := g9.on (Fr.of_below b10)
    have toX : ∀ {w' : World}, Fr w4.heap.size (fun k => k = bc) w4 w' → Fr w.heap.size X w w' := fun g => f4.trans ((g.wide fun k e => by rw [e]; exact hXc).mono (by omega) fun _ _ x => x)
    refine JoinW.cut (fun _ w14 => ∃ n3, n + 1 ≤ n3 ∧ n3 < pl.length ∧ kdP (ix pl n3) = 7 ∧ InvF pl (n3 + 1) (ix pl n3).1 ∧ (249 ≤ (ix pl n3).1 ∧ (ix pl n3).1 ≤ 255) ∧ cutF pl n3 = cutF pl (n + 1) ∧
        Ct w0 w14 bc s n3 ps f ∧ Fr w4.heap.size (fun k => k = bc) w4 w14) ?_ ?_
    · refine ifB_beq (fun e => ?_) (fun e => ?_)
      · obtain ⟨hlt2, hk6⟩ := kn_lt e (by decide)
        obtain ⟨hM, hop⟩ := hL2.merge hlt2 hk6
        refine hC10.inc (by omega) fun w11 hC11 c11 => ?_
        have g11 := g10.on c11.fr
        have bd11 : Below w11.heap.size w11 w11.drew := (Below.refl _ _).drew
        refine next_spec hC11.drew hN (by omega) fun w12 b12 => ⟨_, rfl, ?_⟩
        have hC12 := hC11.drew.below b12
        have g12 := g11.on (Fr.of_below (bd11.on b12))
        refine ifB_bne (fun e2 => ?_) (fun e2 => ?_)
        · exact hbad (n2 + 1) w12 hC12 (toX g12) (hM.mbad hop fun hl hk => absurd hk (kn_ne e2 hl))
        · obtain ⟨hlt3, hk7⟩ := kn_lt e2 (by decide)
          refine hC12.sl (hC12.at_ ?_)
          have ew : IntKind.i64.wrap (((n2 + 1 : Nat) : Int) - 1) = (n2 : Int) := by rw [wrap64_in (by omega) (by omega)]; omega
          rw [ew]
          refine elemPo (hC12.mem hN) hlt2 (hC12.sl (hC12.at_ (elemPo (hC12.mem hN) hlt3 ?_)))
          rw [← ix_lt hlt2, ← ix_lt hlt3]
          refine may_spec ⟨_, rfl, ifB_not (ifB_bool (fun hm => ?_) (fun hm => ?_))⟩
          · obtain ⟨q1, q2⟩ := hM.mender hop hlt3 hk7 hm
            refine ⟨n2 + 1, by omega, hlt3, hk7, q1, q2, ?_, hC12, g12⟩
            rw [← hcut3]
            exact cutF_idle (Nat.le_succ n2) fun j j1 j2 => by
              have : j = n2 := by omega
              subst this
              exact .inr (.inr (.inr (.inr hk6)))
          · exact hbad (n2 + 1) w12 hC12 (toX g12) (hM.mbad hop fun _ _ => hm)
      · refine ifB_beq (fun e2 => ?_) (fun e2 => ?_)
        · obtain ⟨hlt2, hk7⟩ := kn_lt e2 (by decide)
          obtain ⟨q1, q2⟩ := hL2.ender hlt2 hk7
          exact ⟨n2, by omega, hlt2, hk7, q1, q2, hcut3, hC10, g10⟩
        · refine hbad n2 w10 hC10 (toX g10) (hL2.bad (fun hl => ⟨h4' hl, kn_ne e hl, kn_ne e2 hl⟩) (fun hl h4 hF => ?_) (fun hl h5 hF => ?_))
          · rcases hor with e3 | e3
            · subst e3; exact absurd h4 (hk4 hl hF)
            · exact ⟨e3.1, e3.2.1⟩
          · rcases hor with e3 | e3
            · subst e3; exact absurd h5 (hk5 hl hF)
            · exact ⟨e3.1, e3.2.2⟩
    · rintro _ w14 ⟨n3, hn3, hlt3, hk7, hI3, hop3, hcut4, hC14, g14⟩
      refine hC14.inc (by omega) fun w15 hC15 c15 => ?_
      have g15 := g14.on c15.fr
      have hB15 : Blk w15 w.heap.size 63 [.int .u32 pl[n].2.2.1, .int .i64 (n : Int), .int .i64 0] := g15.blk hB4 (by omega)
      refine hC15.at_ ⟨hB15.wr (by simp), Nw.gen fun w16 e16 => ?_⟩
      have c16 : Chg w.heap.size w15 w16 := by rw [e16]; exact Chg.set _ _ _ _
      have hB16 : Blk w16 w.heap.size 63 [.int .u32 pl[n].2.2.1, .int .i64 (n : Int), .int .i64 ((n3 + 1 : Nat) : Int)] := by rw [e16]; exact hB15.set 2 _
      clear e16
      have hC16 := hC15.chg c16 h0w (by omega)
      have hbf16 := c16.blk (g15.blk hbf4 (fun e => hbcf e.symm)) (by omega)
      have hO15 := g15.own hO4 fun b e e2 => by subst e2; exact own_apart hO hD.blk (by decide) e
      have hO16 : Own w16 63 3 tb (flat blV fn.bk) := hO15.of_block fun a ha => c16.block _ (by have := (hO.lt ha).2; omega)
      have f16 : Fr w.heap.size X w w16 := (toX g15).trans (c16.frB (Nat.le_refl _))
      have bd16 : Below w16.heap.size w16 w16.drew := (Below.refl _ _).drew
      refine derefP_some rfl (hbf16.drew.rS (n := 3) (x := tb) rfl (hB16.drew.rI (n := 0) rfl (hB16.drew.rI (n := 1) rfl (hB16.drew.rI (n := 2) rfl ?_))))
      refine lay_of fun w17 hB17 b17 z17 => ⟨cell_keep b17 (hbf16.drew.cell rfl), ?_⟩
      have hB17 : Blk w17 w16.drew.heap.size 63 (blV (pl[n].2.2.1, (n : Int), ((n3 + 1 : Nat) : Int))) := hB17
      have b167 := bd16.on b17
      have hC17 := hC16.below b167
      have hbf17 := hbf16.below b167
      have hO17 := hO16.below b167
      have f17 : Fr w.heap.size X w w17 := f16.trans ((Fr.of_below b167).mono f16.size fun _ _ x => x)
      refine push_fr eBlk hO17 rfl (by simp [Value.oneCell']) hB17 (by omega) (by omega) fun r w18 b' hO18 hl18 ha18 hw18 f18 => ?_
      have hXb : ∀ k, tb.a = some (Gk.blk k) → X k := fun k e => by rw [← hX]; exact .inr (.inr e)
      have f18' : Fr w.heap.size X w w18 := f17.trans ((f18.wide hXb).mono f17.size fun _ _ x => x)
      have hC18 := hC17.fr f18 (fun k e => hF0 _ e) (own_apart hO hD.blk (by decide))
      have hbf18 := f18.blk hbf17 (own_apart hO17 hbf17 (by decide))
      refine derefP_some rfl ⟨hbf18.wr (by simp), Nw.gen fun w19 e19 => ?_⟩
      have c19 : Chg bf w18 w19 := by rw [e19]; exact Chg.set _ _ _ _
      have hbf19 : Blk w19 bf 54 (fnV fn tp r) := by rw [e19]; exact hbf18.set 3 _
      clear e19
      have f19 : Fr w.heap.size X w w19 := f18'.trans (c19.fr.wide fun k e => by rw [e, ← hX]; exact .inr (.inl rfl))
      have hsz17 := f17.size
      refine hok (n3 + 1) _ r w19 (by omega) (hC18.chg c19 h0f (fun e => hbcf e.symm)) f19 hI3 hop3 hbf19 ?_ ⟨b', ha18, ?_⟩ ?_
      · rw [flat_snoc, ix_lt hn]
        refine hO18.of_block fun a ha => c19.block _ fun e => ?_
        rw [ha18] at ha
        cases ha
        have e : b' = bf := e
        subst e
        exact own_apart hO18 hbf18 (by decide) ha18
      · rcases hw18 with g | g
        · exact .inl g
        · exact .inr (by omega)
      · have := cutF_ender (n := n3) (by rw [hcut4]; exact hcut1) hk7
        rw [this]
        rfl
end
end Go.Proofs

/-!
  layout: the whole is cut.
-/
namespace Go.Proofs
open Go.Gk Go.RowKit Go.Gm

theorem st5 {b : Nat} {T : TypeId} {cs : List Value} {v0 v1 v2 v3 v4 : Value} {K : World → Prop} {w : World} (hB : Blk w b T cs) (hl : cs.length = 5) (hK : ∀ w', Blk w' b T [v0, v1, v2, v3, v4] → Chg b w w' → K w') :
    Wr w (blk b) ∧ Nw (w.setCell (blk b) v0) fun w1 => Wr w1 ((blk b).add 1) ∧ Nw (w1.setCell ((blk b).add 1) v1) fun w2 => Wr w2 ((blk b).add 2) ∧ Nw (w2.setCell ((blk b).add 2) v2) fun w3 => Wr w3 ((blk b).add 3) ∧ Nw (w3.setCell ((blk b).add 3) v3) fun w4 =>
      Wr w4 ((blk b).add 4) ∧ Nw (w4.setCell ((blk b).add 4) v4) fun w5 => K w5 :=
  stC_all (vs := [v0, v1, v2, v3, v4]) hB hl hK
abbrev Fe := FnL × Sl × Sl
abbrev feV (x : Fe) : List Value := fnV x.1 x.2.1 x.2.2
theorem feV_len (x : Fe) : (feV x).length = 5 := rfl
/-- The functions in memory. -/
structure Fns (w : World) (fs : Sl) (L : List Fe) : Prop where
  own : Own w 54 5 fs (flat feV L)
  row : ∀ x ∈ L, Own w 3 1 x.2.1 (x.1.ps.map (Value.int .i64)) ∧ Own w 63 3 x.2.2 (flat blV x.1.bk)
theorem Fns.nil (w : World) : Fns w ⟨none, 0, 0⟩ [] := ⟨Own.nil _ _ _, fun x hx => by cases hx⟩
theorem Fns.len {w : World} {fs : Sl} {L : List Fe} (h : Fns w fs L) : L.length = fs.l := by have := h.own.1; rw [flat_length feV_len] at this; omega
theorem Fns.below {w w' : World} {fs : Sl} {L : List Fe} (h : Fns w fs L) (hb : Below w.heap.size w w') : Fns w' fs L :=
  ⟨h.own.below hb, fun x hx => ⟨(h.row x hx).1.below hb, (h.row x hx).2.below hb⟩⟩
theorem Fns.fr {w w' : World} {fs : Sl} {L : List Fe} {bc : Nat} {cs : List Value} (h : Fns w fs L) (hf : Fr w.heap.size (fun k => k = bc) w w') (hc : Blk w bc 100 cs) : Fns w' fs L :=
  ⟨hf.own h.own fun b e e2 => by subst e2; exact own_apart h.own hc (by decide) e, fun x hx =>
    ⟨hf.own (h.row x hx).1 fun b e e2 => by subst e2; exact own_apart (h.row x hx).1 hc (by decide) e, hf.own (h.row x hx).2 fun b e e2 => by subst e2; exact own_apart (h.row x hx).2 hc (by decide) e⟩⟩
theorem kdP_nonneg (p : PI) : 0 ≤ kdP p := by
  unfold kdP
  repeat' split
  all_goals omega

section
variable {w0 w : World} {bc n : Nat} {s f : Sl} {ps : List Int} {pl : List PI} {R : Value → World → Prop}
theorem cut_spec (h : Ct w0 w bc s 0 ps ⟨none, 0, 0⟩) (hN : IsPl w0 s pl) (h40 : 40 * pl.length ≤ 140737488351232)
    (hok : ∀ ps' fs L w', Ct w0 w' bc s pl.length ps' fs → Fr w.heap.size (fun k => k = bc) w w' → GoodL pl pl.length → openP pl = false → PartsTo pl 10 pl.length ps' → Fns w' fs L → Fresh w.heap.size fs → cutF pl pl.length = L.map (·.1) → R (.bool true) w')
    (hbad : ∀ n ps' fs w', Ct w0 w' bc s n ps' fs → Fr w.heap.size (fun k => k = bc) w w' → StopL pl n → R (.bool false) w') :
    callR Try.prog 83 #[.pointer (some (blk bc))] w R := by
  refine callR.of (layout_cutter_cut_calls _ R w ?_) fun _ _ h => h
  have hlen := hN.len
  have hbcl : bc < w.heap.size := h.blk.lt
  have h0w := h.b0.size
  refine top_spec h hN (by omega) (fun n0 ps1 w1 hC1 f1 hT hP => ⟨_, rfl, ifB_false rfl ?_⟩) (fun n1 ps1 w1 hC1 f1 hS => ⟨_, rfl, ifB_true rfl (hbad n1 ps1 _ w1 hC1 f1 hS)⟩)
  have hC1 := hC1.drew
  have f1 := f1.drew
  refine hC1.at_ (hC1.sl (hC1.part (p := 8) (by omega) fun w3 hC3 c3 => ?_))
  have f3 := (f1.trans (c3.fr)).drew
  have hC3 := hC3.drew
  refine hC3.sl (hC3.sl (hC3.part (p := 9) (by omega) fun w5 hC5 c5 => ?_))
  have f5 := f3.trans (c5.fr)
  rw [hlen] at hC5
  generalize hps5 : ((((ps1.set (2 * 8) (n0 : Int)).set (2 * 8 + 1) (pl.length : Int)).set (2 * 9) (pl.length : Int)).set (2 * 9 + 1) (pl.length : Int)) = ps5 at hC5
  refine LoopW.ghost (fun j _ w' => ∃ n fs L, j = pl.length - n ∧ Ct w0 w' bc s n ps5 fs ∧ Fr w.heap.size (fun k => k = bc) w w' ∧ Fresh w.heap.size fs ∧ InvO pl n ∧ Fns w' fs L ∧ cutF pl n = L.map (·.1) ∧ (n0 < n → partP (ix pl n0) = 8) ∧ n0 ≤ n ∧ 2 * L.length ≤ n)
    (pl.length - n0) ⟨n0, ⟨none, 0, 0⟩, [], rfl, hC5, f5, fun a ha => (by cases ha), hT.fun, Fns.nil _, ?_, fun h => by omega, Nat.le_refl _, Nat.zero_le _⟩ ?_
  · exact (cutF_idle (n := 0) (Nat.zero_le _) fun j _ j2 => .inl (by have := hT.low j j2; omega))
  rintro _ _ w6 ⟨n, fs, L, rfl, hC6, f6, hF6, hO6, hL6, hcut6, h86, hn06, hLn⟩ next hnext
  have hn := hO6.le
  refine next_spec hC6 hN hn fun w7 b7 => ⟨_, rfl, ?_⟩
  have hC7 := hC6.below b7
  have f7 := f6.trans ((Fr.of_below b7).mono f6.size fun _ _ x => x)
  have hL7 := hL6.below b7
  refine ifB_dec (fun hlt => ?_) (fun hge => ?_)
  · have e : n = pl.length := by
      unfold kn at hlt
      split at hlt
      · have := kdP_nonneg (ix pl n); omega
      · omega
    subst e
    refine hok ps5 fs L w7 hC7 f7 hO6.good (hO6.shut rfl) ?_ hL7 hF6 hcut6
    rw [← hps5]
    have hl1 := hC1.len
    exact hP.all hl1 hT.le hT.low hO6.good h86
  · have hltn : n < pl.length := by
      unfold kn at hge
      split at hge
      · assumption
      · omega
    refine next_spec hC7 hN hn fun w8 b8 => ⟨_, rfl, ?_⟩
    have hC8 := hC7.below b8
    have f8 := f7.trans ((Fr.of_below b8).mono f7.size fun _ _ x => x)
    have hL8 := hL7.below b8
    refine ifB_bne (fun e => hbad n ps5 fs w8 hC8 f8 (hO6.bad hltn (kn_ne e hltn))) (fun e => ?_)
    obtain ⟨_, hk1⟩ := kn_lt e (by decide)
    have hp8 := kd_part (p := ix pl n) (by omega)
    have hop1 := (kd_ops hp8).1.1 hk1
    have bd8 : Below w8.heap.size w8 w8.drew := (Below.refl _ _).drew
    have hD := hC8.drew
    have s08 := hC8.b0.size
    have sw8 := f8.size
    refine hD.sl (hD.at_ (elemPrC (hD.mem hN) hltn fun a hc => hD.at_ ?_))
    refine lay_of fun w9 hB9 b9 z9 => ⟨cell_keep b9 (hD.blk.cell rfl), cell_keep b9 hc, cell_keep b9 (hD.blk.cell rfl), cell_keep b9 (hD.blk.cell0 rfl), ?_⟩
    have hB9 : Blk w9 w8.drew.heap.size 54 [.int .u32 0, .int .i64 0, .slice none 0 0, .slice none 0 0, .int .i64 0] := hB9
    have hbb : w8.drew.heap.size = w8.heap.size := rfl
    generalize hbf : w8.drew.heap.size = bf at hB9 hbb z9
    subst hbb
    have b89 := bd8.on b9
    refine st5 hB9 rfl fun w14 hB14 c14 => ?_
    have hB14 : Blk w14 w8.heap.size 54 (fnV ⟨(ix pl n).2.2.1, n, 0, [], []⟩ ⟨none, 0, 0⟩ ⟨none, 0, 0⟩) := by rw [ix_lt hltn]; exact hB14
    have hbcf : w8.heap.size ≠ bc := by omega
    have hC14 := (hC8.below b89).chg c14 s08 hbcf
    have g14 : Fr w8.heap.size (fun k => k = bc) w8 w14 := (Fr.of_below b89).trans (c14.frB (Nat.le_refl _))
    have z14 : w14.heap.size = w8.heap.size + 1 := by rw [c14.size, z9]
    refine hC14.inc (by omega) fun w15 hC15 c15 => ?_
    have hI15 := hO6.begin hltn hp8 hop1
    have hcut15 := cutF_fun hcut6 hk1
    have g15 := g14.trans c15.fr
    have hB15 := c15.blk hB14 hbcf
    refine rowc_spec hC15 hN (by omega) h40 (by decide) fun tp n2 w16 h1 h2 h3 h4 hC16 f16 hOp hFp => ⟨tp, rfl, ?_⟩
    obtain ⟨ah2, hI2, ha2⟩ := hI15.params (.inl rfl) h1 h2 h3
    have hcut16 := cutF_params hcut15 h1 h3
    have g16 : Fr w8.heap.size (fun k => k = bc) w8 w16 := g15.trans (f16.mono (by rw [c15.size]; omega) fun _ _ x => x)
    have hB16 := f16.blk hB15 hbcf
    have s15 := c15.size
    have s16 := f16.size
    refine ⟨hB16.wr (by simp), Nw.gen fun w17 e17 => ?_⟩
    have c17 : Chg w8.heap.size w16 w17 := by rw [e17]; exact Chg.set _ _ _ _
    have hB17 : Blk w17 w8.heap.size 54 (fnV ⟨(ix pl n).2.2.1, n, 0, [], []⟩ tp ⟨none, 0, 0⟩) := by rw [e17]; exact hB16.set 2 _
    clear e17
    have hC17 := hC16.chg c17 s08 hbcf
    have g17 : Fr w8.heap.size (fun k => k = bc) w8 w17 := g16.trans (c17.frB (Nat.le_refl _))
    have hOp17 : Own w17 3 1 tp ((places (n + 1) n2).map (Value.int .i64)) := hOp.of_block fun a ha => c17.block _ (by have := hFp a ha; omega)
    generalize hpar : places (n + 1) n2 = par at hOp17
    have hcut17 : cutF pl n2 = L.map (·.1) ++ [⟨(ix pl n).2.2.1, n, 0, par, []⟩] := by rw [hcut16, ← hpar]; rfl
    refine LoopW.ghost (fun j _ w' => ∃ n3 ah bk tb, j = pl.length - n3 ∧ n2 ≤ n3 ∧ Ct w0 w' bc s n3 ps5 fs ∧ Fr w8.heap.size (fun k => k = bc) w8 w' ∧ Blk w' w8.heap.size 54 (fnV ⟨(ix pl n).2.2.1, n, 0, par, bk⟩ tp tb) ∧
        Own w' 3 1 tp (par.map (Value.int .i64)) ∧ Own w' 63 3 tb (flat blV bk) ∧ Fresh w8.heap.size tb ∧ InvF pl n3 ah ∧ (((ah = 54 ∨ ah = 55) ∧ bk = []) ∨ ((249 ≤ ah ∧ ah ≤ 255) ∧ bk ≠ [])) ∧
        cutF pl n3 = L.map (·.1) ++ [⟨(ix pl n).2.2.1, n, 0, par, bk⟩] ∧ bk.length ≤ n3 ∧ (bk = [] → n3 < pl.length → kdP (ix pl n3) ≠ 2)) (pl.length - n2)
      ⟨n2, ah2, [], ⟨none, 0, 0⟩, rfl, Nat.le_refl _, hC17, g17, hB17, hOp17, Own.nil _ _ _, fun a ha => (by cases ha), hI2, .inl ⟨ha2, rfl⟩, hcut17, Nat.zero_le _, fun _ hl => h4 hl⟩ ?_
    rintro _ _ w18 ⟨n3, ah, bk, tb, rfl, hn23, hC18, g18, hB18, hOp18, hOb18, hFb18, hI18, ha18, hcut18, hbk18, hk2⟩ next2 hnext2
    have hn3 := hI18.le
    refine next_spec hC18 hN hn3 fun w19 b19 => ⟨_, rfl, ?_⟩
    have hC19 := hC18.below b19
    have g19 := g18.trans ((Fr.of_below b19).mono g18.size fun _ _ x => x)
    have hB19 := hB18.below b19
    have hOp19 := hOp18.below b19
    have hOb19 := hOb18.below b19
    have toW : ∀ {w' : World}, Fr w8.heap.size (fun k => k = bc) w8 w' → Fr w.heap.size (fun k => k = bc) w w' := fun g => f8.trans (g.mono f8.size fun _ _ x => x)
    have hblen : bk.length = tb.l := by have := hOb19.1; rw [flat_length blV_len] at this; omega
    refine ifB_beq (fun e3 => ?_) (fun e3 => ?_)
    · obtain ⟨hlt3, hk3⟩ := kn_lt e3 (by decide)
      have back : ∀ {w' : World}, Fr w19.heap.size (fun k => k = bc ∨ k = w8.heap.size ∨ tb.a = some (Gk.blk k)) w19 w' → Fr w8.heap.size (fun k => k = bc) w8 w' := fun g =>
        g19.trans (g.mono g19.size fun k hk x => by
          rcases x with x | x | x
          · exact x
          · omega
          · have := hFb18 _ x
            exact absurd this (Nat.not_le.2 hk))
      refine block_spec (fn := ⟨(ix pl n).2.2.1, n, 0, par, bk⟩) (tp := tp) (tb := tb) hC19 hN h40 hlt3 hk3 hI18 ha18 hB19 s08 hOb19 (fun a ha => Nat.le_trans s08 (hFb18 a ha)) hbk18 hcut18
        (fun n4 ah4 tb4 w20 hn4 hC20 f20 hI4 ha4 hB20 hO20 hb20 hcut20 => ⟨_, rfl, ifB_false rfl ?_⟩)
        (fun n4 w20 hC20 f20 hS => ⟨_, rfl, ifB_true rfl (hbad n4 ps5 fs w20 hC20 (toW (back f20)) hS)⟩)
      refine hnext2 (pl.length - n4) _ _ (by have := hI4.le; omega) ⟨n4, ah4, bk ++ [((ix pl n3).2.2.1, (n3 : Int), (n4 : Int))], tb4, rfl, by omega, hC20, back f20, hB20, ?_, hO20, ?_, hI4, .inr ⟨ha4, by simp⟩, hcut20, by simp; omega, fun h => by simp at h⟩
      · refine f20.own hOp19 fun b e x => ?_
        rcases x with x | x | x
        · subst x; exact own_apart hOp19 hC19.blk (by decide) e
        · subst x; exact own_apart hOp19 hB19 (by decide) e
        · exact own_apart2 hOp19 hOb19 (by decide) e x
      · intro a ha
        obtain ⟨b', q1, q2⟩ := hb20
        rw [q1] at ha
        cases ha
        show w8.heap.size ≤ b'
        rcases q2 with q2 | q2
        · exact hFb18 _ q2
        · have := g19.size; omega
    · refine JoinW.cut (fun _ w21 => Ct w0 w21 bc s n3 ps5 fs ∧ Fr w8.heap.size (fun k => k = bc) w8 w21 ∧ Blk w21 w8.heap.size 54 (fnV ⟨(ix pl n).2.2.1, n, 0, par, bk⟩ tp tb) ∧
        Own w21 3 1 tp (par.map (Value.int .i64)) ∧ Own w21 63 3 tb (flat blV bk) ∧ n3 < pl.length ∧ kdP (ix pl n3) = 8 ∧ (249 ≤ ah ∧ ah ≤ 255)) ?_ ?_
      · refine hB19.rS (n := 3) (x := tb) rfl (ifB_beq (fun e0 => ?_) (fun e0 => ?_))
        · have hbk0 : bk = [] := List.length_eq_zero_iff.1 (by omega)
          have ha' : ah = 54 ∨ ah = 55 := by
            rcases ha18 with ⟨g, _⟩ | ⟨_, g⟩
            · exact g
            · exact absurd hbk0 g
          exact hbad n3 ps5 fs w19 hC19 (toW g19) (hI18.noblock ha' (hk2 hbk0) (kn_ne e3))
        · have ha' : 249 ≤ ah ∧ ah ≤ 255 := by
            rcases ha18 with ⟨_, g⟩ | ⟨g, _⟩
            · rw [g] at hblen; exact absurd (by rw [← hblen]; rfl) e0
            · exact g
          refine next_spec hC19 hN hn3 fun w21 b21 => ⟨_, rfl, ?_⟩
          refine ifB_bne (fun e8 => ?_) (fun e8 => ?_)
          · exact hbad n3 ps5 fs w21 (hC19.below b21) (toW (g19.trans ((Fr.of_below b21).mono g19.size fun _ _ x => x))) (hI18.noend ha' (kn_ne e3) (kn_ne e8))
          · obtain ⟨q1, q2⟩ := kn_lt e8 (by decide)
            exact ⟨hC19.below b21, g19.trans ((Fr.of_below b21).mono g19.size fun _ _ x => x), hB19.below b21, hOp19.below b21, hOb19.below b21, q1, q2, ha'⟩
      · rintro _ w22 ⟨hC22, g22, hB22, hOp22, hOb22, hlt3, hk8, ha'⟩
        have hI23 := hI18.shut ha' hlt3 hk8
        have hcut23 := cutF_end hcut18 hk8
        refine hC22.at_ ⟨hB22.wr (by simp), Nw.gen fun w23 e23 => ?_⟩
        have c23 : Chg w8.heap.size w22 w23 := by rw [e23]; exact Chg.set _ _ _ _
        have hB23 : Blk w23 w8.heap.size 54 (fnV ⟨(ix pl n).2.2.1, n, n3, par, bk⟩ tp tb) := by rw [e23]; exact hB22.set 4 _
        clear e23
        have hC23 := hC22.chg c23 s08 hbcf
        have g23 : Fr w8.heap.size (fun k => k = bc) w8 w23 := g22.trans (c23.frB (Nat.le_refl _))
        have hOp23 : Own w23 3 1 tp (par.map (Value.int .i64)) := hOp22.of_block fun a ha => c23.block _ fun e => own_apart hOp22 hB22 (by decide) (by rw [ha, (hOp22.lt ha).1, e])
        have hOb23 : Own w23 63 3 tb (flat blV bk) := hOb22.of_block fun a ha => c23.block _ fun e => own_apart hOb22 hB22 (by decide) (by rw [ha, (hOb22.lt ha).1, e])
        refine hC23.inc (by omega) fun w24 hC24 c24 => ?_
        have g24 := g23.trans c24.fr
        have hB24 := (c24.blk hB23 hbcf).drew
        have hOp24 := (c24.fr.own hOp23 fun b e x => by subst x; exact own_apart hOp23 hC23.blk (by decide) e).drew
        have hOb24 := (c24.fr.own hOb23 fun b e x => by subst x; exact own_apart hOb23 hC23.blk (by decide) e).drew
        have hC24 := hC24.drew
        have g24 := g24.drew
        have hL24 := hL8.fr g24 hC8.blk
        refine derefP_some rfl (hC24.blk.rS (n := 22) (x := fs) (ctV_f hC24.len) ?_)
        refine hB24.rI (n := 0) rfl (hB24.rI (n := 1) rfl (hB24.rS (n := 2) (x := tp) rfl (hB24.rS (n := 3) (x := tb) rfl (hB24.rI (n := 4) rfl ?_))))
        refine lay_of fun w25 hB25 b25 z25 => ⟨cell_keep b25 (hC24.blk.cell (ctV_f hC24.len)), ?_⟩
        have hB25 : Blk w25 w24.drew.heap.size 54 (fnV ⟨(ix pl n).2.2.1, n, n3, par, bk⟩ tp tb) := hB25
        have hL25 := hL24.below b25
        have hC25 := hC24.below b25
        have hll := hL25.len
        refine push_fr eFun hL25.own rfl (by simp [Value.oneCell']) hB25 (by omega) (by omega) fun r w26 b' hO26 hl26 ha26 hw26 f26 => ?_
        have hlow : ∀ k, fs.a = some (Gk.blk k) → w.heap.size ≤ k := fun k e => hF6 _ e
        have hC26 := hC25.fr f26 (fun k e => Nat.le_trans h0w (hlow k e)) (own_apart hL25.own hC25.blk (by decide))
        have t25 := toW (g24.trans ((Fr.of_below b25).mono g24.size fun _ _ x => x))
        have t26 : Fr w.heap.size (fun k => k = bc) w w26 := t25.trans (f26.mono t25.size fun k hk x => absurd (hlow k x) (Nat.not_le.2 hk))
        have rows26 : ∀ x ∈ L ++ [((⟨(ix pl n).2.2.1, n, n3, par, bk⟩ : FnL), tp, tb)], Own w26 3 1 x.2.1 (x.1.ps.map (Value.int .i64)) ∧ Own w26 63 3 x.2.2 (flat blV x.1.bk) := by
          intro x hx
          have both : Own w25 3 1 x.2.1 (x.1.ps.map (Value.int .i64)) ∧ Own w25 63 3 x.2.2 (flat blV x.1.bk) := by
            rcases List.mem_append.1 hx with hx | hx
            · exact hL25.row x hx
            · rw [List.mem_singleton] at hx
              subst hx
              exact ⟨hOp24.below b25, hOb24.below b25⟩
          exact ⟨f26.own both.1 fun b e x => own_apart2 both.1 hL25.own (by decide) e x, f26.own both.2 fun b e x => own_apart2 both.2 hL25.own (by decide) e x⟩
        have hl23 := ctV_len (s := s) (n := n3 + 1) (f := fs) hC26.len
        refine derefP_some rfl ⟨hC26.blk.wr (by omega), Nw.gen fun w27 e27 => ?_⟩
        have c27 : Chg bc w26 w27 := by rw [e27]; exact Chg.set _ _ _ _
        have hB27 : Blk w27 bc 100 (ctV s (n3 + 1 : Nat) ps5 r) := by rw [e27, ← ctV_setf hC26.len]; exact hC26.blk.set 22 _
        clear e27
        refine hnext (pl.length - (n3 + 1)) _ _ (by omega) ⟨n3 + 1, r, L ++ [(⟨(ix pl n).2.2.1, n, n3, par, bk⟩, tp, tb)], rfl, ⟨hC26.hi, c27.below hC26.b0 hC26.hi, hB27, hC26.len⟩, t26.trans c27.fr, ?_, hI23.end, ⟨?_, ?_⟩, ?_, fun _ => ?_, by omega, by simp; omega⟩
        · intro a ha
          rw [ha26] at ha
          cases ha
          show w.heap.size ≤ b'
          rcases hw26 with g | g
          · exact hlow _ g
          · have := t25.size; omega
        · rw [flat_snoc]
          refine hO26.of_block fun a ha => c27.block _ fun e => own_apart hO26 hC26.blk (by decide) (by rw [ha, (hO26.lt ha).1, e])
        · intro x hx
          obtain ⟨q1, q2⟩ := rows26 x hx
          exact ⟨c27.fr.own q1 fun b e x => by subst x; exact own_apart q1 hC26.blk (by decide) e, c27.fr.own q2 fun b e x => by subst x; exact own_apart q2 hC26.blk (by decide) e⟩
        · rw [hcut23, List.map_append]
          rfl
        · by_cases en : n0 = n
          · subst en; exact hp8
          · exact h86 (by omega)
end
end Go.Proofs
