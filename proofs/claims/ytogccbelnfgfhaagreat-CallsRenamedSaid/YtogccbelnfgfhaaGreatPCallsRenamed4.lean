/-
  Part 4 of what CallsRenamed is proved by: functions walked, and what they come to.
-/
import Derived.Test.YtogccbelnfgfhaaGreatProg
import Derived.Laws.CopyRow
import Derived.Maps.RangeRun
import Derived.Test.YtogccbelnfgfhaaGreatPCallsRenamed3
namespace Go.Proofs
open Go.Gk Go.RowKit Go.Gm

theorem Fr.low {B : Nat} {X : Nat → Prop} {w0 w w' : World} (h : Fr w.heap.size X w w') (hb : Below B w0 w) (hX : ∀ k, X k → B ≤ k) (hB : B ≤ w.heap.size) : Below B w0 w' :=
  hb.trans ⟨h.os, h.tape, h.output, h.size, fun k hk => h.block k (by omega) (fun x => by have := hX k x; omega)⟩
theorem Fr.on {X : Nat → Prop} {w w1 w2 : World} (h : Fr w.heap.size X w w1) (k : Fr w1.heap.size X w1 w2) : Fr w.heap.size X w w2 := h.trans (k.mono h.size fun _ _ x => x)
theorem Chg.fr {b : Nat} {w w' : World} (h : Chg b w w') {B : Nat} : Fr B (fun k => k = b) w w' := ⟨h.os, h.tape, h.output, Nat.le_of_eq h.size.symm, fun k _ hk => h.block k hk⟩
theorem Fr.wide {B : Nat} {X X' : Nat → Prop} {w w' : World} (h : Fr B X w w') (hX : ∀ k, X k → X' k) : Fr B X' w w' := h.mono (Nat.le_refl _) fun k _ x => hX k x
theorem Fr.own {X : Nat → Prop} {w w' : World} (h : Fr w.heap.size X w w') {T : TypeId} {sz : Nat} {s : Sl} {xs : List Value} (hO : Own w T sz s xs) (hX : ∀ b, s.a = some (blk b) → ¬ X b) : Own w' T sz s xs :=
  hO.of_block fun a ha => by
    obtain ⟨e, hlt⟩ := hO.lt ha
    exact h.block _ hlt (hX _ (by rw [← e]; exact ha))
theorem Fr.blk {X : Nat → Prop} {w w' : World} (h : Fr w.heap.size X w w') {T : TypeId} {b : Nat} {xs : List Value} (hO : Blk w b T xs) (hX : ¬ X b) : Blk w' b T xs := hO.of_block (h.block _ hO.lt hX)
/-- append of one element to a list of the code's own, wherever it lies. -/
theorem push_fr {P : Program} {t e : TypeId} {sz bytes : Nat} (he : ElemT P t e sz bytes) {w : World} {s : Sl} {xs vs : List Value} (h : Own w e sz s xs) (hl : vs.length = sz) (hv : ∀ u ∈ vs, u.oneCell' = true) {b c : Nat} {T : TypeId}
    (hB : Blk w b T vs) (h63 : s.l + 1 ≤ 9223372036854775807) (hbytes : (s.l + 1) * bytes ≤ 140737488355328) {k : Sl → World → Prop}
    (hk : ∀ r w' b', Own w' e sz r (xs ++ vs) → r.l = s.l + 1 → r.a = some (blk b') → (s.a = some (blk b') ∨ b' = w.heap.size) → Fr w.heap.size (fun k => s.a = some (blk k)) w w' → k r w') :
    appendS P t (.slice s.a s.l s.c) (.slice (some (blk b)) 1 c) w k := by
  refine append_own he h (news := vs) (by omega) (fun j u hj => hB.cell hj) hv h63 hbytes fun r w' h1 hl' hg => ?_
  rcases hg with ⟨_, _, h3⟩ | ⟨b', h3, h4, h5⟩
  · rw [h3] at hl'; omega
  · refine hk r w' b' h1 hl' h3 h4 ⟨h5.os, h5.tape, h5.output, h5.size, fun k hk hx => h5.block k hk fun e => ?_⟩
    cases e
    rcases h4 with h4 | h4
    · exact hx h4
    · omega

section
variable {x : Ins} {al : List Ag} {w : World} {R : Value → World → Prop}
abbrev piOf (x : Ins) (al : List Ag) : PI := (x.1, x.2.1, x.2.2.1, al)
theorem isVar_nth {p : PI} {h : 0 < p.2.2.2.length} : isVar p = (p.1 == 59 && p.2.2.2[0].2.1 == 7) := by
  obtain ⟨o, t, r, l⟩ := p
  cases l with
  | nil => exact absurd h (Nat.lt_irrefl _)
  | cons a r => rfl
theorem variable_spec (hI : IsAg w x.2.2.2.1 al) (hR : ∀ w', Below w.heap.size w w' → R (.bool (isVar (piOf x al))) w') : callR Tryz.prog 257 #[inA x] w R := by
  refine callR.of (layout_variable_calls x R w ?_) fun _ _ h => h
  refine lay_of fun w1 hB b1 z1 => ?_
  have hB : Blk w1 w.heap.size 41 (inV x) := hB
  have hlen := hI.len
  refine hB.rI0 rfl (ifB_beq (fun e1 => ?_) (fun e1 => ?_))
  · refine hB.rS (n := 3) rfl (ifB_dec (fun h => ?_) (fun h => ?_))
    · have h0 : 0 < al.length := by omega
      refine hB.rS (n := 3) rfl (elemAn (hI.below b1) (k := 0) h0 ?_)
      have := hR w1 b1
      rw [isVar_nth (p := piOf x al) (h := h0), beq_iff_eq.2 e1, Bool.true_and] at this
      exact this
    · have h0 : al = [] := List.length_eq_zero_iff.1 (by omega)
      have := hR w1 b1
      subst h0
      unfold isVar at this
      rw [Bool.and_false] at this
      exact this
  · have := hR w1 b1
    unfold isVar at this
    rw [beq_eq_false_iff_ne.2 e1, Bool.false_and] at this
    exact this
theorem fmO_part (op : Int) : (fmO op (frm op)).2.2.2.2.2.2.2.1 = ((partO op : Nat) : Int) := by
  unfold partO
  cases frm op <;> rfl
theorem part_spec (hI : IsAg w x.2.2.2.1 al) (hR : ∀ w', Below w.heap.size w w' → R (.int .u8 (partP (piOf x al) : Int)) w') : callR Tryz.prog 226 #[inA x] w R := by
  refine callR.of (layout_part_calls x R w ?_) fun _ _ h => h
  refine lay_of fun w1 hB b1 z1 => ?_
  have hB : Blk w1 w.heap.size 41 (inV x) := hB
  refine Ins.load hB ?_
  refine variable_spec (x := x) (hI.below b1) fun w2 b2 => ⟨_, rfl, ?_⟩
  have hb2 := b1.on b2
  refine ifB_bool (fun hv => ?_) (fun hv => ?_)
  · have := hR w2 hb2
    unfold partP at this
    rw [if_pos hv] at this
    exact this
  · refine (hB.below b2).rI0 rfl (gOf_spec fun w3 b3 => ⟨fmO x.1 (frm x.1), (frm x.1).isSome, rfl, ?_⟩)
    refine box8 rfl fun w4 hF4 b4 z4 => ?_
    refine hF4.rI (n := 7) rfl ?_
    have := hR w4 ((hb2.on b3).on b4)
    unfold partP at this
    rw [if_neg (by rw [hv]; decide)] at this
    rw [fmO_part]
    exact this
theorem Ends_spec {op : Int} (hR : R (.bool (endsP op)) w) : callR Tryz.prog 258 #[.int .u16 op] w R := by
  refine callR.of (layout_Ends_calls op R w ?_) fun _ _ h => h
  refine ifB_dec (fun h => ?_) (fun h => ?_)
  · have : endsP op = decide (op ≤ 255) := by
      unfold endsP
      exact decide_eq_decide.2 ⟨fun g => g.2, fun g => ⟨h, g⟩⟩
    rwa [this] at hR
  · have : endsP op = false := ends_false.2 (by omega)
    rwa [this] at hR
theorem may_spec {mg en : Int} (hR : R (.bool (mayI mg en)) w) : callR Tryz.prog 228 #[.int .u16 mg, .int .u16 en] w R := by
  refine callR.of (layout_may_calls mg en R w ?_) fun _ _ h => h
  unfold mayI at hR
  refine ifB_beq (fun e => ?_) (fun e => ?_)
  · rwa [if_pos e] at hR
  rw [if_neg e] at hR
  refine ifB_beq (fun e => ?_) (fun e => ?_)
  · rwa [if_pos e] at hR
  rw [if_neg e] at hR
  refine ifB_beq (fun e => ?_) (fun e => ?_)
  · rwa [if_pos e] at hR
  · rwa [if_neg e] at hR
theorem kind_spec (hI : IsAg w x.2.2.2.1 al) (hR : ∀ w', Below w.heap.size w w' → R (.int .i64 (kdP (piOf x al))) w') : callR Tryz.prog 227 #[inA x] w R := by
  refine callR.of (layout_kind_calls x R w ?_) fun _ _ h => h
  refine lay_of fun w1 hB b1 z1 => ?_
  have hB : Blk w1 w.heap.size 41 (inV x) := hB
  refine Ins.load hB ?_
  refine part_spec (x := x) (hI.below b1) fun w2 b2 => ⟨_, rfl, ?_⟩
  have hb2 := b1.on b2
  have hB2 := hB.below b2
  have hR := hR w2 hb2
  unfold kdP at hR
  refine ifB_bne (fun e => ?_) (fun e => ?_)
  · rwa [if_pos (fun h => e (by rw [h]; rfl))] at hR
  rw [if_neg (fun h => h (by omega))] at hR
  refine hB2.rI0 rfl ?_
  refine ifB_beq (fun e => ?_) (fun e => ?_)
  · rwa [if_pos e] at hR
  rw [if_neg e] at hR
  refine ifB_beq (fun e => ?_) (fun e => ?_)
  · rwa [if_pos e] at hR
  rw [if_neg e] at hR
  refine ifB_beq (fun e => ?_) (fun e => ?_)
  · rwa [if_pos e] at hR
  rw [if_neg e] at hR
  refine ifB_beq (fun e => ?_) (fun e => ?_)
  · rwa [if_pos e] at hR
  rw [if_neg e] at hR
  refine ifB_beq (fun e => ?_) (fun e => ?_)
  · rwa [if_pos e] at hR
  rw [if_neg e] at hR
  refine ifB_beq (fun e => ?_) (fun e => ?_)
  · rwa [if_pos e] at hR
  rw [if_neg e] at hR
  refine ifB_beq (fun e => ?_) (fun e => ?_)
  · rwa [if_pos e] at hR
  rw [if_neg e] at hR
  refine ifB_beq (fun e => ?_) (fun e => ?_)
  · rwa [if_pos e] at hR
  rw [if_neg e] at hR
  refine hB2.rI0 rfl (Ends_spec ⟨_, rfl, ifB_bool (fun h => ?_) (fun h => ?_)⟩)
  · rwa [if_pos h] at hR
  · rwa [if_neg (by rw [h]; decide)] at hR
end

abbrev ctV (s : Sl) (n : Int) (ps : List Int) (f : Sl) : List Value := .slice s.a s.l s.c :: .int .i64 n :: (ps.map (Value.int .i64) ++ [.slice f.a f.l f.c])
structure Ct (w0 w : World) (bc : Nat) (s : Sl) (n : Nat) (ps : List Int) (f : Sl) : Prop where
  hi : w0.heap.size ≤ bc
  b0 : Below w0.heap.size w0 w
  blk : Blk w bc 151 (ctV s n ps f)
  len : ps.length = 20
section
variable {w0 w : World} {bc n : Nat} {s f : Sl} {ps : List Int} {pl : List PI} {R : Value → World → Prop}
theorem Ct.below {w' : World} (h : Ct w0 w bc s n ps f) (hb : Below w.heap.size w w') : Ct w0 w' bc s n ps f := ⟨h.hi, h.b0.on hb, h.blk.below hb, h.len⟩
theorem Ct.fr {w' : World} {X : Nat → Prop} (h : Ct w0 w bc s n ps f) (hf : Fr w.heap.size X w w') (hX : ∀ k, X k → w0.heap.size ≤ k) (hne : ¬ X bc) : Ct w0 w' bc s n ps f :=
  ⟨h.hi, hf.low h.b0 hX h.b0.size, hf.blk h.blk hne, h.len⟩
theorem Ct.mem (h : Ct w0 w bc s n ps f) (hN : IsPl w0 s pl) : IsPl w s pl := hN.below h.b0
theorem Ct.at_ (h : Ct w0 w bc s n ps f) {φ : Int → Prop} (hφ : φ n) : derefP (some (Gk.blk bc)) fun a => ldI w (a.add 1) .i64 φ := derefP_some rfl (h.blk.rI (n := 1) rfl hφ)
theorem Ct.sl (h : Ct w0 w bc s n ps f) {φ : Sl → Prop} (hφ : φ s) : derefP (some (Gk.blk bc)) fun a => ldS w a φ := derefP_some rfl ⟨s, h.blk.cell0 rfl, hφ⟩
theorem Ct.drew (h : Ct w0 w bc s n ps f) : Ct w0 w.drew bc s n ps f := ⟨h.hi, h.b0.drew, h.blk.drew, h.len⟩
/-- c.at++ -/
theorem Ct.inc (h : Ct w0 w bc s n ps f) (hn : n < 9223372036854775807) {K : World → Prop} (hK : ∀ w', Ct w0 w' bc s (n + 1) ps f → Chg bc w w' → K w') :
    derefP (some (Gk.blk bc)) fun a1 => ldI w (a1.add 1) .i64 fun x => derefP (some (Gk.blk bc)) fun a2 => Wr w (a2.add 1) ∧ Nw (w.setCell (a2.add 1) (.int .i64 (IntKind.i64.wrap (x + (1 : Int))))) K := by
  refine h.at_ (derefP_some rfl ⟨h.blk.wr (by simp), Nw.gen fun w' e => ?_⟩)
  rw [wrap64_succ hn] at e
  have c : Chg bc w w' := by rw [e]; exact Chg.set _ _ _ _
  refine hK w' ⟨h.hi, c.below h.b0 h.hi, ?_, h.len⟩ c
  rw [e]
  exact h.blk.set 1 _
def kn (pl : List PI) (n : Nat) : Int := if n < pl.length then kdP (ix pl n) else -1
theorem kn_lt {k : Int} (h : kn pl n = k) (hk : k ≠ -1) : n < pl.length ∧ kdP (ix pl n) = k := by
  unfold kn at h
  split at h
  · exact ⟨by assumption, h⟩
  · exact absurd h.symm hk
theorem kn_ne {k : Int} (h : kn pl n ≠ k) : n < pl.length → kdP (ix pl n) ≠ k := by
  intro hn e
  unfold kn at h
  rw [if_pos hn] at h
  exact h e
theorem ix_lt {k : Nat} (h : k < pl.length) : ix pl k = pl[k] := getD_lt h
theorem next_spec (h : Ct w0 w bc s n ps f) (hN : IsPl w0 s pl) (hn : n ≤ pl.length) (hR : ∀ w', Below w.heap.size w w' → R (.int .i64 (kn pl n)) w') :
    callR Tryz.prog 173 #[.pointer (some (blk bc))] w R := by
  refine callR.of (layout_cutter_next_calls _ R w ?_) fun _ _ h => h
  have hlen := hN.len
  have bd : Below w.heap.size w w.drew := (Below.refl _ _).drew
  refine h.drew.at_ (h.drew.sl ?_)
  unfold kn at hR
  refine ifB_beq (fun e => ?_) (fun e => ?_)
  · rw [if_neg (by omega)] at hR
    exact hR _ bd
  · have hlt : n < pl.length := by omega
    rw [if_pos hlt, ix_lt hlt] at hR
    refine h.drew.drew.sl (h.drew.drew.at_ ?_)
    refine elemPI (h.drew.drew.mem hN) hlt fun t ht => ?_
    refine kind_spec (x := mkIn pl[n] t) ht fun w1 b1 => ⟨_, rfl, hR w1 (bd.drew.on b1)⟩
/-- The places from a to b. -/
def places (a b : Nat) : List Int := (List.range (b - a)).map fun i => ((a + i : Nat) : Int)
theorem places_nil (a : Nat) : places a a = [] := by unfold places; simp
theorem places_len (a b : Nat) : (places a b).length = b - a := by unfold places; simp
theorem places_snoc {a b : Nat} (h : a ≤ b) : places a (b + 1) = places a b ++ [(b : Int)] := by
  unfold places
  rw [show b + 1 - a = (b - a) + 1 by omega, List.range_succ, List.map_append]
  simp
  omega
theorem rowc_spec {k : Int} (h : Ct w0 w bc s n ps f) (hN : IsPl w0 s pl) (hn : n ≤ pl.length) (h40 : 40 * pl.length ≤ 140737488351232) (hk : k ≠ -1)
    (hR : ∀ (r : Sl) n' w', n ≤ n' → n' ≤ pl.length → (∀ j, n ≤ j → j < n' → kdP (ix pl j) = k) → (n' < pl.length → kdP (ix pl n') ≠ k) → Ct w0 w' bc s n' ps f → Fr w.heap.size (fun k => k = bc) w w' →
      Own w' 3 1 r ((places n n').map (Value.int .i64)) → Fresh w.heap.size r → R (.slice r.a r.l r.c) w') :
    callR Tryz.prog 174 #[.pointer (some (blk bc)), .int .i64 k] w R := by
  refine callR.of (layout_cutter_row_calls _ k R w ?_) fun _ _ h => h
  refine LoopW.ghost (fun j (st : Sl × Unit) w' => ∃ n', j = pl.length - n' ∧ n ≤ n' ∧ n' ≤ pl.length ∧ (∀ j, n ≤ j → j < n' → kdP (ix pl j) = k) ∧ Ct w0 w' bc s n' ps f ∧ Fr w.heap.size (fun k => k = bc) w w' ∧
      Own w' 3 1 st.1 ((places n n').map (Value.int .i64)) ∧ Fresh w.heap.size st.1) (pl.length - n)
    ⟨n, rfl, Nat.le_refl _, hn, fun j h1 h2 => by omega, h, Fr.refl _ _ _, by rw [places_nil]; exact Own.nil _ _ _, fun a ha => by cases ha⟩ ?_
  rintro _ ⟨r, _⟩ w1 ⟨n', rfl, h1, h2, h3, h4, h5, h6, h7⟩ next hnext
  dsimp only at h6 h7
  refine next_spec h4 hN h2 fun w2 b2 => ⟨_, rfl, ?_⟩
  have h42 := h4.below b2
  have h52 := h5.on (Fr.of_below b2)
  have h62 := h6.below b2
  refine ifB_beq (fun e => ?_) (fun e => ?_)
  · obtain ⟨hlt, hkd⟩ := kn_lt e hk
    refine h42.at_ (lay_of fun w3 hB3 b3 z3 => ?_)
    have hB3 : Blk w3 w2.heap.size 3 [.int .i64 (n' : Int)] := hB3
    have hlr : r.l = n' - n := by have := h6.1; rw [List.length_map, places_len] at this; omega
    have hbd : bc < w.heap.size := h.blk.lt
    refine push_fr eInt (h62.below b3) rfl (by simp [Value.oneCell']) hB3 (by omega) (by omega) fun r' w4 b' hO4 hl4 ha4 hw4 f4 => ?_
    have s2 := b2.size
    have s5 := h5.size
    have hne : ¬ (r.a = some (blk bc)) := fun e => by have := h7 _ e; exact absurd this (Nat.not_le.2 hbd)
    have hfr : ∀ k, r.a = some (blk k) → w.heap.size ≤ k := fun k e => h7 _ e
    have h44 : Ct w0 w4 bc s n' ps f := (h42.below b3).fr f4 (fun k e => Nat.le_trans h.b0.size (hfr k e)) hne
    have h54 : Fr w.heap.size (fun k => k = bc) w w4 := (h52.on (Fr.of_below b3)).trans ⟨f4.os, f4.tape, f4.output, f4.size, fun k hk hx => f4.block k (by have := b3.size; omega) fun e => by have := hfr k e; omega⟩
    refine h44.inc (by omega) fun w5 h55 c5 => ?_
    refine hnext (pl.length - (n' + 1)) _ _ (by omega) ⟨n' + 1, rfl, by omega, hlt, fun j g1 g2 => ?_, h55, h54.trans c5.fr, ?_, ?_⟩
    · by_cases ej : j = n'
      · subst ej; exact hkd
      · exact h3 j g1 (by omega)
    · rw [places_snoc h1, List.map_append]
      refine hO4.of_block fun a ha => c5.block _ fun e => ?_
      rw [ha4] at ha
      cases ha
      have e : b' = bc := e
      subst e
      rcases hw4 with g | g
      · exact hne g
      · have := b3.size; omega
    · intro a ha
      rw [ha4] at ha
      cases ha
      show w.heap.size ≤ b'
      rcases hw4 with g | g
      · exact hfr _ g
      · have := b3.size; omega
  · exact hR r n' w2 h1 h2 h3 (kn_ne e) h42 h52 h62 h7
end
end Go.Proofs

namespace Go.Proofs
open Go.Gk Go.RowKit Go.Gm

theorem cell_keep {w w' : World} (hb : Below w.heap.size w w') {a : Addr} {v : Value} (h : w.cell? a = some v) : w'.cell? a = some v := by
  rw [World.cell?_of_block (w := w) (hb.block _ (World.block_lt_of_cell? w _ h))]
  exact h
theorem elemPrC {w : World} {s : Sl} {pl : List PI} (h : IsPl w s pl) {k : Nat} (hk : k < pl.length) {φ : Addr → Int → Prop} (hφ : ∀ a, w.cell? ((a.add (Int.toNat (k : Int) * 4)).add 2) = some (.int .u32 pl[k].2.2.1) → φ a pl[k].2.2.1) :
    (0 ≤ (k : Int) ∧ (k : Int) < (s.l : Int)) ∧ derefP s.a fun a => ldI w ((a.add (Int.toNat (k : Int) * 4)).add 2) .u32 fun x => φ a x := by
  obtain ⟨a, ha⟩ := h.base hk
  obtain ⟨t, h1, h2⟩ := h.elem a ha k hk
  have hc : w.cell? ((a.add (Int.toNat (k : Int) * 4)).add 2) = some (.int .u32 pl[k].2.2.1) := by rw [add_add']; exact h1 2 (by omega)
  exact ⟨⟨by omega, by have := h.len; omega⟩, derefP_some ha ⟨_, hc, hφ a hc⟩⟩
abbrev fnV (f : FnL) (tp tb : Sl) : List Value := [.int .u32 f.id, .int .i64 f.at_, .slice tp.a tp.l tp.c, .slice tb.a tb.l tb.c, .int .i64 f.en]
abbrev blV (b : Int × Int × Int) : List Value := [.int .u32 b.1, .int .i64 b.2.1, .int .i64 b.2.2]
theorem eBlk : ElemT Tryz.prog 27 69 3 24 := ⟨by kernel_rfl, Tryz.t69, .agg #[.int .u32 0, .int .i64 0, .int .i64 0], by kernel_rfl, rfl, rfl, rfl, rfl⟩
theorem eFun : ElemT Tryz.prog 30 29 5 72 := ⟨by kernel_rfl, Tryz.t29, .agg #[.int .u32 0, .int .i64 0, .slice none 0 0, .slice none 0 0, .int .i64 0], by kernel_rfl, rfl, rfl, rfl, rfl⟩
theorem own_apart {w : World} {T T' : TypeId} {sz b : Nat} {s : Sl} {xs cs : List Value} (h : Own w T sz s xs) (hB : Blk w b T' cs) (hT : T ≠ T') : s.a ≠ some (Gk.blk b) := fun e => by
  obtain ⟨cs', h'⟩ := h.type e
  exact Blk.apart h' hB hT rfl
theorem own_apart2 {w : World} {T T' : TypeId} {sz sz' : Nat} {s t : Sl} {xs ys : List Value} (h : Own w T sz s xs) (k : Own w T' sz' t ys) (hT : T ≠ T') {b : Nat} (e : s.a = some (Gk.blk b)) : t.a ≠ some (Gk.blk b) := fun e' => by
  obtain ⟨cs', h'⟩ := h.type e
  exact own_apart k h' (fun g => hT g.symm) e'

section
variable {w0 w : World} {bc n : Nat} {s f : Sl} {ps : List Int} {pl : List PI} {R : Value → World → Prop}
theorem ctV_set {i : Nat} {v : Int} (hi : i < ps.length) : (ctV s n ps f).set (2 + i) (.int .i64 v) = ctV s n (ps.set i v) f := by
  have e : 2 + i = i + 1 + 1 := by omega
  show (Value.slice s.a s.l s.c :: Value.int .i64 n :: (ps.map (Value.int .i64) ++ [.slice f.a f.l f.c])).set (2 + i) _ = _
  rw [e, List.set_cons_succ, List.set_cons_succ, List.set_append_left _ _ (by simpa using hi), ← List.map_set]
theorem ctV_f (hps : ps.length = 20) : (ctV s n ps f)[22]? = some (.slice f.a f.l f.c) := by
  show (Value.slice s.a s.l s.c :: Value.int .i64 n :: (ps.map (Value.int .i64) ++ [.slice f.a f.l f.c]))[22]? = _
  rw [List.getElem?_cons_succ, List.getElem?_cons_succ, List.getElem?_append_right (by simp [hps])]
  simp [hps]
theorem ctV_setf {g : Sl} (hps : ps.length = 20) : (ctV s n ps f).set 22 (.slice g.a g.l g.c) = ctV s n ps g := by
  show (Value.slice s.a s.l s.c :: Value.int .i64 n :: (ps.map (Value.int .i64) ++ [.slice f.a f.l f.c])).set 22 _ = _
  rw [List.set_cons_succ, List.set_cons_succ, List.set_append_right _ _ (by simp [hps])]
  simp [hps]
theorem ctV_len (hps : ps.length = 20) : (ctV s n ps f).length = 23 := by simp [hps]
/-- c.parts[p] = {x, y} -/
theorem Ct.part (h : Ct w0 w bc s n ps f) {p : Nat} (hp : p < 10) {x y : Int} {K : World → Prop} (hK : ∀ w', Ct w0 w' bc s n ((ps.set (2 * p) x).set (2 * p + 1) y) f → Chg bc w w' → K w') :
    derefP (some (Gk.blk bc)) fun a => (0 ≤ (p : Int) ∧ (p : Int) < (10 : Int)) ∧ Wr w ((a.add 2).add (Int.toNat (p : Int) * 2)) ∧ Nw (w.setCell ((a.add 2).add (Int.toNat (p : Int) * 2)) (.int .i64 x)) fun w8 =>
      Wr w8 (((a.add 2).add (Int.toNat (p : Int) * 2)).add 1) ∧ Nw (w8.setCell (((a.add 2).add (Int.toNat (p : Int) * 2)).add 1) (.int .i64 y)) K := by
  have hps := h.len
  have e1 : ((Gk.blk bc).add 2).add (Int.toNat (p : Int) * 2) = (Gk.blk bc).add (2 + 2 * p) := by rw [add_add', Int.toNat_natCast, Nat.mul_comm]
  have e2 : (((Gk.blk bc).add 2).add (Int.toNat (p : Int) * 2)).add 1 = (Gk.blk bc).add (2 + (2 * p + 1)) := by rw [e1, add_add']; rfl
  have hl := ctV_len (s := s) (n := n) (f := f) hps
  refine derefP_some rfl ⟨⟨by omega, by omega⟩, ?_⟩
  rw [e1]
  refine ⟨h.blk.wr (by omega), Nw.gen fun w8 e => ?_⟩
  rw [← e1, e2]
  have c8 : Chg bc w w8 := by rw [e]; exact Chg.set _ _ _ _
  have hB8 : Blk w8 bc 151 (ctV s n (ps.set (2 * p) x) f) := by rw [e, ← ctV_set (by omega)]; exact h.blk.set _ _
  clear e
  have hl8 := ctV_len (s := s) (n := n) (f := f) (ps := ps.set (2 * p) x) (by simpa using hps)
  refine ⟨hB8.wr (by omega), Nw.gen fun w9 e => ?_⟩
  have c9 : Chg bc w8 w9 := by rw [e]; exact Chg.set _ _ _ _
  refine hK w9 ⟨h.hi, (c8.trans c9).below h.b0 h.hi, ?_, by simpa using hps⟩ (c8.trans c9)
  rw [e, ← ctV_set (by simp; omega)]
  exact hB8.set _ _
theorem top_spec (h : Ct w0 w bc s 0 ps f) (hN : IsPl w0 s pl) (hmax : pl.length < 9223372036854775807)
    (hok : ∀ n ps' w', Ct w0 w' bc s n ps' f → Fr w.heap.size (fun k => k = bc) w w' → InvT pl 8 n → PartsTo pl 8 n ps' → R (.bool true) w')
    (hbad : ∀ n ps' w', Ct w0 w' bc s n ps' f → Fr w.heap.size (fun k => k = bc) w w' → StopL pl n → R (.bool false) w') :
    callR Tryz.prog 172 #[.pointer (some (blk bc))] w R := by
  refine callR.of (layout_cutter_top_calls _ R w ?_) fun _ _ h => h
  have hlen := hN.len
  refine LoopW.ghost (fun j (st : Int × Unit) w' => ∃ (p n : Nat) (ps' : List Int), j = 8 - p ∧ p ≤ 8 ∧ st = ((p : Int), ()) ∧ Ct w0 w' bc s n ps' f ∧ Fr w.heap.size (fun k => k = bc) w w' ∧ InvT pl p n ∧ PartsTo pl p n ps') 8
    ⟨0, 0, ps, rfl, by omega, rfl, h, Fr.refl _ _ _, InvT.zero pl, fun q hq => by omega⟩ ?_
  rintro _ _ w1 ⟨p, n, ps', rfl, hp8, rfl, hC, hF, hT, hP⟩ next hnext
  refine ifB_dec (fun hp => ?_) (fun hp => ?_)
  · have hp : p < 8 := by dsimp only at hp; omega
    refine JoinW.cut (fun _ w' => ∃ (n' : Nat) (ps2 : List Int), Ct w0 w' bc s n' ps2 f ∧ Fr w.heap.size (fun k => k = bc) w w' ∧ InvT pl (p + 1) n' ∧ PartsTo pl (p + 1) n' ps2) ?_ ?_
    · refine hC.at_ ?_
      refine JoinW.cut (fun _ w' => ∃ n', Ct w0 w' bc s n' ps' f ∧ Fr w.heap.size (fun k => k = bc) w w' ∧ OutP pl p n n') ?_ ?_
      · refine LoopW.ghost (fun j _ w' => ∃ n', j = pl.length - n' ∧ Ct w0 w' bc s n' ps' f ∧ Fr w.heap.size (fun k => k = bc) w w' ∧ InvP pl p n n') (pl.length - n) ⟨n, rfl, hC, hF, hT.into⟩ ?_
        rintro _ _ w2 ⟨n', rfl, hC2, hF2, hI⟩ next2 hnext2
        have hle := hI.le
        have outNo : (n' < pl.length → partP (ix pl n') ≠ p) → OutP pl p n n' := fun hno =>
          ⟨hI.lo, hI.le, hI.own, fun h1 => hI.out hT h1 hno, fun h1 => .inl ⟨hI.one h1, by have := hI.one h1; subst this; rw [h1] at hno; exact hno⟩⟩
        refine JoinW.cut (fun _ w' => Ct w0 w' bc s n' ps' f ∧ Fr w.heap.size (fun k => k = bc) w w' ∧ n' < pl.length ∧ partP (ix pl n') = p) ?_ ?_
        · have bd : Below w2.heap.size w2 w2.drew := (Below.refl _ _).drew
          refine next_spec (hC2.below bd) hN hI.le fun w3 b3 => ⟨_, rfl, ?_⟩
          have hC3 := hC2.below (bd.on b3)
          have hF3 := hF2.trans ((Fr.of_below (bd.on b3)).mono hF2.size fun _ _ x => x)
          refine ifB_beq (fun e => ?_) (fun e => ?_)
          · obtain ⟨hlt, hk⟩ := kn_lt e (by decide)
            refine hC3.sl (hC3.at_ ?_)
            refine elemPI (hC3.mem hN) hlt fun t ht => ?_
            refine part_spec (x := mkIn pl[n'] t) ht fun w4 b4 => ⟨_, rfl, ?_⟩
            have hC4 := hC3.below b4
            have hF4 := hF3.trans ((Fr.of_below b4).mono hF3.size fun _ _ x => x)
            have hpart : partP (piOf (mkIn pl[n'] t) pl[n'].2.2.2) = partP (ix pl n') := by rw [ix_lt hlt]
            rw [hpart]
            refine ifB_beq (fun e2 => ?_) (fun e2 => ?_)
            · exact ⟨hC4, hF4, hlt, by have e2 : ((partP (ix pl n') : Nat) : Int) = (p : Int) := e2; omega⟩
            · exact ⟨n', hC4, hF4, outNo fun _ h => e2 (by rw [h])⟩
          · refine ⟨n', hC3, hF3, outNo fun hlt h => kn_ne e hlt ?_⟩
            unfold kdP
            rw [if_pos (by omega)]
        · rintro _ w5 ⟨hC5, hF5, hlt, hpart⟩
          refine hC5.inc (by omega) fun w6 hC6 c6 => ?_
          have hF6 := hF5.trans (c6.fr)
          refine ifB_beq (fun e => ?_) (fun e => ?_)
          · have hp1 : p = 1 := by dsimp only at e; omega
            have hnn := hI.one hp1
            subst hnn
            exact ⟨n' + 1, hC6, hF6, by omega, by omega, fun k k1 k2 => by have : k = n' := by omega
                                                                           subst this; exact hpart, fun h1 => absurd hp1 h1, fun _ => .inr rfl⟩
          · have hp1 : p ≠ 1 := by dsimp only at e; omega
            exact hnext2 (pl.length - (n' + 1)) _ _ (by omega) ⟨n' + 1, rfl, hC6, hF6, hI.step hT hp hlt hpart hp1⟩
      · rintro _ w7 ⟨n', hC7, hF7, hO⟩
        have bd : Below w7.heap.size w7 w7.drew := (Below.refl _ _).drew
        have hC7 := hC7.drew
        have hF7 := hF7.drew
        refine hC7.at_ (hC7.part (by omega) fun w9 hC9 c9 => ?_)
        have hF9 := hF7.trans c9.fr
        have fin : (p = 1 → n' ≠ n) → ∃ (n'' : Nat) (ps2 : List Int), Ct w0 w9 bc s n'' ps2 f ∧ Fr w.heap.size (fun k => k = bc) w w9 ∧ InvT pl (p + 1) n'' ∧ PartsTo pl (p + 1) n'' ps2 := fun hne =>
          ⟨n', _, hC9, hF9, hO.go hT hne, hP.step hC.len (by omega) hO.lo hT.low hO.own⟩
        refine ifB_beq (fun e => ?_) (fun e => ?_)
        · have hp1 : p = 1 := by dsimp only at e; omega
          refine hC9.at_ (ifB_beq (fun e2 => ?_) (fun e2 => fin fun _ => by omega))
          subst hp1
          exact hbad n' _ w9 hC9 hF9 (hO.stop hT (by omega))
        · exact fin fun h1 => absurd (by rw [h1]; rfl) e
    · rintro _ w10 ⟨n', ps2, hC', hF', hT', hP'⟩
      have e : IntKind.u8.wrap ((p : Int) + 1) = ((p + 1 : Nat) : Int) := by rw [IntKind.wrap_u8]; omega
      dsimp only
      rw [e]
      exact hnext (8 - (p + 1)) _ _ (by omega) ⟨p + 1, n', ps2, rfl, by omega, rfl, hC', hF', hT', hP'⟩
  · have hp : p = 8 := by dsimp only at hp; omega
    subst hp
    exact hok n ps' w1 hC hF hT hP
end
end Go.Proofs

namespace Go.Proofs
open Go.Gk Go.RowKit Go.Gm

theorem Chg.frB {b B : Nat} {X : Nat → Prop} {w w' : World} (h : Chg b w w') (hB : B ≤ b) : Fr B X w w' := Fr.of_below (h.below (Below.refl _ _) hB)
theorem blV_len (b : Int × Int × Int) : (blV b).length = 3 := rfl
theorem flat_snoc {α : Type} (g : α → List Value) (l : List α) (x : α) : flat g (l ++ [x]) = flat g l ++ g x := by simp [flat]
section
variable {w0 w : World} {bc n : Nat} {s f : Sl} {ps : List Int} {pl : List PI} {R : Value → World → Prop}
theorem Ct.chg {b : Nat} {w' : World} (h : Ct w0 w bc s n ps f) (c : Chg b w w') (hb : w0.heap.size ≤ b) (hne : b ≠ bc) : Ct w0 w' bc s n ps f :=
  ⟨h.hi, c.below h.b0 hb, c.blk h.blk (fun e => hne e.symm), h.len⟩
theorem block_spec {fn : FnL} {tp tb : Sl} {bf : Nat} {ah : Int} {done : List FnL} (h : Ct w0 w bc s n ps f) (hN : IsPl w0 s pl) (h40 : 40 * pl.length ≤ 140737488351232) (hn : n < pl.length) (hkd : kdP (ix pl n) = 3)
    (hI : InvF pl n ah) (ha : ((ah = 54 ∨ ah = 55) ∧ fn.bk = []) ∨ ((249 ≤ ah ∧ ah ≤ 255) ∧ fn.bk ≠ [])) (hbf : Blk w bf 29 (fnV fn tp tb)) (h0f : w0.heap.size ≤ bf)
    (hO : Own w 69 3 tb (flat blV fn.bk)) (hF0 : Fresh w0.heap.size tb) (hbk : fn.bk.length ≤ n) (hcut : cutF pl n = done ++ [fn])
    (hok : ∀ n' ah' tb' w', n < n' → Ct w0 w' bc s n' ps f → Fr w.heap.size (fun k => k = bc ∨ k = bf ∨ tb.a = some (Gk.blk k)) w w' → InvF pl n' ah' → (249 ≤ ah' ∧ ah' ≤ 255) → Blk w' bf 29 (fnV fn tp tb') →
      Own w' 69 3 tb' (flat blV (fn.bk ++ [((ix pl n).2.2.1, (n : Int), (n' : Int))])) → (∃ b', tb'.a = some (Gk.blk b') ∧ (tb.a = some (Gk.blk b') ∨ w.heap.size ≤ b')) →
      cutF pl n' = done ++ [{ fn with bk := fn.bk ++ [((ix pl n).2.2.1, (n : Int), (n' : Int))] }] → R (.bool true) w')
    (hbad : ∀ n' w', Ct w0 w' bc s n' ps f → Fr w.heap.size (fun k => k = bc ∨ k = bf ∨ tb.a = some (Gk.blk k)) w w' → StopL pl n' → R (.bool false) w') :
    callR Tryz.prog 175 #[.pointer (some (blk bc)), .pointer (some (blk bf))] w R := by
  refine callR.of (layout_cutter_block_calls _ _ R w ?_) fun _ _ h => h
  have hlen := hN.len
  have hbl : fn.bk.length = tb.l := by have := hO.1; rw [flat_length blV_len] at this; omega
  have hbcf : bc ≠ bf := Blk.apart h.blk hbf (by decide)
  have hbcl : bc < w.heap.size := h.blk.lt
  have hbfl : bf < w.heap.size := hbf.lt
  have h0w := h.b0.size
  generalize hX : (fun k => k = bc ∨ k = bf ∨ tb.a = some (Gk.blk k)) = X at hok hbad
  have hXc : X bc := by rw [← hX]; exact .inl rfl
  have bd : Below w.heap.size w w.drew := (Below.refl _ _).drew
  have hD := h.drew
  refine hD.sl (hD.at_ (elemPrC (hD.mem hN) hn fun a hc => hD.at_ ?_))
  refine lay_of fun w1 hB1 b1 z1 => ⟨cell_keep b1 (hD.blk.cell rfl), cell_keep b1 hc, cell_keep b1 (hD.blk.cell rfl), cell_keep b1 (hD.blk.cell0 rfl), ?_⟩
  have hB1 : Blk w1 w.drew.heap.size 69 [.int .u32 0, .int .i64 0, .int .i64 0] := hB1
  have hbb : w.drew.heap.size = w.heap.size := rfl
  generalize w.drew.heap.size = bb at hB1 hbb z1
  subst hbb
  have b01 : Below w.heap.size w w1 := bd.on b1
  have hC1 := h.below b01
  have hbf1 := hbf.below b01
  have hO1 := hO.below b01
  refine st3 hB1 rfl fun w4 hB4 c4 => ?_
  have hC4 := hC1.chg c4 h0w (by omega)
  have hbf4 := c4.blk hbf1 (by omega)
  have hO4 : Own w4 69 3 tb (flat blV fn.bk) := hO1.of_block fun a ha => c4.block _ (by have := (hO.lt ha).2; omega)
  have f4 : Fr w.heap.size X w w4 := (Fr.of_below b01).trans (c4.frB (Nat.le_refl _))
  have z4 : w4.heap.size = w.heap.size + 1 := by rw [c4.size, z1]
  refine hC4.inc (by omega) fun w5 hC5 c5 => ?_
  obtain ⟨F, hL, hFb⟩ : ∃ F, InvB pl (n + 1) F 248 ∧ (F = true ↔ fn.bk = []) := by
    rcases ha with ⟨g1, g2⟩ | ⟨g1, g2⟩
    · exact ⟨_, hI.label (.inl g1) hn hkd, ⟨fun _ => g2, fun _ => by rcases g1 with e | e <;> rw [e] <;> rfl⟩⟩
    · refine ⟨_, hI.label (.inr g1) hn hkd, ⟨fun e => ?_, fun e => absurd e g2⟩⟩
      rw [beq_eq_false_iff_ne.2 (show ah ≠ 54 by omega), beq_eq_false_iff_ne.2 (show ah ≠ 55 by omega)] at e
      cases e
  have hbf5 := c5.blk hbf4 (fun e => hbcf e.symm)
  have hcut1 := cutF_label hcut hkd
  have g5 : Fr w4.heap.size (fun k => k = bc) w4 w5 := c5.fr
  refine JoinW.cut (fun _ w8 => ∃ n1 ah1, n + 1 ≤ n1 ∧ InvB pl n1 F ah1 ∧ (n1 < pl.length → F = true → kdP (ix pl n1) ≠ 5) ∧ (n1 < pl.length → F = false → kdP (ix pl n1) ≠ 4) ∧ cutF pl n1 = cutF pl (n + 1) ∧
      Ct w0 w8 bc s n1 ps f ∧ Fr w4.heap.size (fun k => k = bc) w4 w8) ?_ ?_
  · refine derefP_some rfl (hbf5.rS (n := 3) rfl (ifB_beq (fun e => ?_) (fun e => ?_)))
    · have hF : F = true := hFb.2 (List.length_eq_zero_iff.1 (by omega))
      subst hF
      refine rowc_spec hC5 hN (by omega) h40 (by decide) fun r n1 w6 h1 h2 h3 h4' hC6 f6 _ _ => ⟨r, rfl, ?_⟩
      obtain ⟨ah1, hL1, _⟩ := hL.locals (.inl rfl) h1 h2 h3
      exact ⟨n1, ah1, h1, hL1, fun hl _ => h4' hl, fun _ h => (by cases h), cutF_idle h1 fun j j1 j2 => .inr (.inr (.inr (.inl (h3 j j1 j2)))), hC6, g5.on f6⟩
    · have hF : F = false := by
        cases F
        · rfl
        · have := hFb.1 rfl
          rw [this] at hbl
          exact absurd (by rw [← hbl]; rfl) e
      subst hF
      refine rowc_spec hC5 hN (by omega) h40 (by decide) fun r n1 w6 h1 h2 h3 h4' hC6 f6 _ _ => ⟨r, rfl, ?_⟩
      obtain ⟨ah1, hL1, _⟩ := hL.phis (.inl rfl) h1 h2 h3
      exact ⟨n1, ah1, h1, hL1, fun _ h => (by cases h), fun hl _ => h4' hl, cutF_idle h1 fun j j1 j2 => .inr (.inr (.inl (h3 j j1 j2))), hC6, g5.on f6⟩
  · rintro _ w8 ⟨n1, ah1, hn1, hL1, hk5, hk4, hcut2, hC8, g8⟩
    have hn1l := hL1.f.le
    refine rowc_spec hC8 hN hn1l h40 (by decide) fun r n2 w9 h1 h2 h3 h4' hC9 f9 _ _ => ⟨r, rfl, ?_⟩
    obtain ⟨ah2, hL2, hor⟩ := hL1.plains h1 h2 h3
    have hcut3 : cutF pl n2 = cutF pl (n + 1) := (cutF_idle h1 fun j j1 j2 => .inr (.inl (h3 j j1 j2))).trans hcut2
    have g9 := g8.on f9
    refine next_spec hC9 hN h2 fun w10 b10 => ⟨_, rfl, ?_⟩
    have hC10 := hC9.below b10
    have g10 := g9.on (Fr.of_below b10)
    have toX : ∀ {w' : World}, Fr w4.heap.size (fun k => k = bc) w4 w' → Fr w.heap.size X w w' := fun g => f4.trans ((g.wide fun k e => by rw [e]; exact hXc).mono (by omega) fun _ _ x => x)
    refine JoinW.cut (fun _ w14 => ∃ n3, n + 1 ≤ n3 ∧ n3 < pl.length ∧ kdP (ix pl n3) = 7 ∧ InvF pl (n3 + 1) (ix pl n3).1 ∧ (249 ≤ (ix pl n3).1 ∧ (ix pl n3).1 ≤ 255) ∧ cutF pl n3 = cutF pl (n + 1) ∧
        Ct w0 w14 bc s n3 ps f ∧ Fr w4.heap.size (fun k => k = bc) w4 w14) ?_ ?_
    · refine ifB_beq (fun e => ?_) (fun e => ?_)
      · obtain ⟨hlt2, hk6⟩ := kn_lt e (by decide)
        obtain ⟨hM, hop⟩ := hL2.merge hlt2 hk6
        refine hC10.inc (by omega) fun w11 hC11 c11 => ?_
        have g11 := g10.on c11.fr
        have bd11 : Below w11.heap.size w11 w11.drew := (Below.refl _ _).drew
        refine next_spec hC11.drew hN (by omega) fun w12 b12 => ⟨_, rfl, ?_⟩
        have hC12 := hC11.drew.below b12
        have g12 := g11.on (Fr.of_below (bd11.on b12))
        refine ifB_bne (fun e2 => ?_) (fun e2 => ?_)
        · exact hbad (n2 + 1) w12 hC12 (toX g12) (hM.mbad hop fun hl hk => absurd hk (kn_ne e2 hl))
        · obtain ⟨hlt3, hk7⟩ := kn_lt e2 (by decide)
          refine hC12.sl (hC12.at_ ?_)
          have ew : IntKind.i64.wrap (((n2 + 1 : Nat) : Int) - 1) = (n2 : Int) := by rw [wrap64_in (by omega) (by omega)]; omega
          rw [ew]
          refine elemPo (hC12.mem hN) hlt2 (hC12.sl (hC12.at_ (elemPo (hC12.mem hN) hlt3 ?_)))
          rw [← ix_lt hlt2, ← ix_lt hlt3]
          refine may_spec ⟨_, rfl, ifB_not (ifB_bool (fun hm => ?_) (fun hm => ?_))⟩
          · obtain ⟨q1, q2⟩ := hM.mender hop hlt3 hk7 hm
            refine ⟨n2 + 1, by omega, hlt3, hk7, q1, q2, ?_, hC12, g12⟩
            rw [← hcut3]
            exact cutF_idle (Nat.le_succ n2) fun j j1 j2 => by
              have : j = n2 := by omega
              subst this
              exact .inr (.inr (.inr (.inr hk6)))
          · exact hbad (n2 + 1) w12 hC12 (toX g12) (hM.mbad hop fun _ _ => hm)
      · refine ifB_beq (fun e2 => ?_) (fun e2 => ?_)
        · obtain ⟨hlt2, hk7⟩ := kn_lt e2 (by decide)
          obtain ⟨q1, q2⟩ := hL2.ender hlt2 hk7
          exact ⟨n2, by omega, hlt2, hk7, q1, q2, hcut3, hC10, g10⟩
        · refine hbad n2 w10 hC10 (toX g10) (hL2.bad (fun hl => ⟨h4' hl, kn_ne e hl, kn_ne e2 hl⟩) (fun hl h4 hF => ?_) (fun hl h5 hF => ?_))
          · rcases hor with e3 | e3
            · subst e3; exact absurd h4 (hk4 hl hF)
            · exact ⟨e3.1, e3.2.1⟩
          · rcases hor with e3 | e3
            · subst e3; exact absurd h5 (hk5 hl hF)
            · exact ⟨e3.1, e3.2.2⟩
    · rintro _ w14 ⟨n3, hn3, hlt3, hk7, hI3, hop3, hcut4, hC14, g14⟩
      refine hC14.inc (by omega) fun w15 hC15 c15 => ?_
      have g15 := g14.on c15.fr
      have hB15 : Blk w15 w.heap.size 69 [.int .u32 pl[n].2.2.1, .int .i64 (n : Int), .int .i64 0] := g15.blk hB4 (by omega)
      refine hC15.at_ ⟨hB15.wr (by simp), Nw.gen fun w16 e16 => ?_⟩
      have c16 : Chg w.heap.size w15 w16 := by rw [e16]; exact Chg.set _ _ _ _
      have hB16 : Blk w16 w.heap.size 69 [.int .u32 pl[n].2.2.1, .int .i64 (n : Int), .int .i64 ((n3 + 1 : Nat) : Int)] := by rw [e16]; exact hB15.set 2 _
      clear e16
      have hC16 := hC15.chg c16 h0w (by omega)
      have hbf16 := c16.blk (g15.blk hbf4 (fun e => hbcf e.symm)) (by omega)
      have hO15 := g15.own hO4 fun b e e2 => by subst e2; exact own_apart hO hD.blk (by decide) e
      have hO16 : Own w16 69 3 tb (flat blV fn.bk) := hO15.of_block fun a ha => c16.block _ (by have := (hO.lt ha).2; omega)
      have f16 : Fr w.heap.size X w w16 := (toX g15).trans (c16.frB (Nat.le_refl _))
      have bd16 : Below w16.heap.size w16 w16.drew := (Below.refl _ _).drew
      refine derefP_some rfl (hbf16.drew.rS (n := 3) (x := tb) rfl (hB16.drew.rI (n := 0) rfl (hB16.drew.rI (n := 1) rfl (hB16.drew.rI (n := 2) rfl ?_))))
      refine lay_of fun w17 hB17 b17 z17 => ⟨cell_keep b17 (hbf16.drew.cell rfl), ?_⟩
      have hB17 : Blk w17 w16.drew.heap.size 69 (blV (pl[n].2.2.1, (n : Int), ((n3 + 1 : Nat) : Int))) := hB17
      have b167 := bd16.on b17
      have hC17 := hC16.below b167
      have hbf17 := hbf16.below b167
      have hO17 := hO16.below b167
      have f17 : Fr w.heap.size X w w17 := f16.trans ((Fr.of_below b167).mono f16.size fun _ _ x => x)
      refine push_fr eBlk hO17 rfl (by simp [Value.oneCell']) hB17 (by omega) (by omega) fun r w18 b' hO18 hl18 ha18 hw18 f18 => ?_
      have hXb : ∀ k, tb.a = some (Gk.blk k) → X k := fun k e => by rw [← hX]; exact .inr (.inr e)
      have f18' : Fr w.heap.size X w w18 := f17.trans ((f18.wide hXb).mono f17.size fun _ _ x => x)
      have hC18 := hC17.fr f18 (fun k e => hF0 _ e) (own_apart hO hD.blk (by decide))
      have hbf18 := f18.blk hbf17 (own_apart hO17 hbf17 (by decide))
      refine derefP_some rfl ⟨hbf18.wr (by simp), Nw.gen fun w19 e19 => ?_⟩
      have c19 : Chg bf w18 w19 := by rw [e19]; exact Chg.set _ _ _ _
      have hbf19 : Blk w19 bf 29 (fnV fn tp r) := by rw [e19]; exact hbf18.set 3 _
      clear e19
      have f19 : Fr w.heap.size X w w19 := f18'.trans (c19.fr.wide fun k e => by rw [e, ← hX]; exact .inr (.inl rfl))
      have hsz17 := f17.size
      refine hok (n3 + 1) _ r w19 (by omega) (hC18.chg c19 h0f (fun e => hbcf e.symm)) f19 hI3 hop3 hbf19 ?_ ⟨b', ha18, ?_⟩ ?_
      · rw [flat_snoc, ix_lt hn]
        refine hO18.of_block fun a ha => c19.block _ fun e => ?_
        rw [ha18] at ha
        cases ha
        have e : b' = bf := e
        subst e
        exact own_apart hO18 hbf18 (by decide) ha18
      · rcases hw18 with g | g
        · exact .inl g
        · exact .inr (by omega)
      · have := cutF_ender (n := n3) (by rw [hcut4]; exact hcut1) hk7
        rw [this]
        rfl
end
end Go.Proofs

namespace Go.Proofs
open Go.Gk Go.RowKit Go.Gm

theorem st5 {b : Nat} {T : TypeId} {cs : List Value} {v0 v1 v2 v3 v4 : Value} {K : World → Prop} {w : World} (hB : Blk w b T cs) (hl : cs.length = 5) (hK : ∀ w', Blk w' b T [v0, v1, v2, v3, v4] → Chg b w w' → K w') :
    Wr w (blk b) ∧ Nw (w.setCell (blk b) v0) fun w1 => Wr w1 ((blk b).add 1) ∧ Nw (w1.setCell ((blk b).add 1) v1) fun w2 => Wr w2 ((blk b).add 2) ∧ Nw (w2.setCell ((blk b).add 2) v2) fun w3 => Wr w3 ((blk b).add 3) ∧ Nw (w3.setCell ((blk b).add 3) v3) fun w4 =>
      Wr w4 ((blk b).add 4) ∧ Nw (w4.setCell ((blk b).add 4) v4) fun w5 => K w5 :=
  stC_all (vs := [v0, v1, v2, v3, v4]) hB hl hK
abbrev Fe := FnL × Sl × Sl
abbrev feV (x : Fe) : List Value := fnV x.1 x.2.1 x.2.2
theorem feV_len (x : Fe) : (feV x).length = 5 := rfl
/-- The functions in memory. -/
structure Fns (w : World) (fs : Sl) (L : List Fe) : Prop where
  own : Own w 29 5 fs (flat feV L)
  row : ∀ x ∈ L, Own w 3 1 x.2.1 (x.1.ps.map (Value.int .i64)) ∧ Own w 69 3 x.2.2 (flat blV x.1.bk)
theorem Fns.nil (w : World) : Fns w ⟨none, 0, 0⟩ [] := ⟨Own.nil _ _ _, fun x hx => by cases hx⟩
theorem Fns.len {w : World} {fs : Sl} {L : List Fe} (h : Fns w fs L) : L.length = fs.l := by have := h.own.1; rw [flat_length feV_len] at this; omega
theorem Fns.below {w w' : World} {fs : Sl} {L : List Fe} (h : Fns w fs L) (hb : Below w.heap.size w w') : Fns w' fs L :=
  ⟨h.own.below hb, fun x hx => ⟨(h.row x hx).1.below hb, (h.row x hx).2.below hb⟩⟩
theorem Fns.fr {w w' : World} {fs : Sl} {L : List Fe} {bc : Nat} {cs : List Value} (h : Fns w fs L) (hf : Fr w.heap.size (fun k => k = bc) w w') (hc : Blk w bc 151 cs) : Fns w' fs L :=
  ⟨hf.own h.own fun b e e2 => by subst e2; exact own_apart h.own hc (by decide) e, fun x hx =>
    ⟨hf.own (h.row x hx).1 fun b e e2 => by subst e2; exact own_apart (h.row x hx).1 hc (by decide) e, hf.own (h.row x hx).2 fun b e e2 => by subst e2; exact own_apart (h.row x hx).2 hc (by decide) e⟩⟩
theorem kdP_nonneg (p : PI) : 0 ≤ kdP p := by
  unfold kdP
  repeat' split
  all_goals omega

section
variable {w0 w : World} {bc n : Nat} {s f : Sl} {ps : List Int} {pl : List PI} {R : Value → World → Prop}
theorem cut_spec (h : Ct w0 w bc s 0 ps ⟨none, 0, 0⟩) (hN : IsPl w0 s pl) (h40 : 40 * pl.length ≤ 140737488351232)
    (hok : ∀ ps' fs L w', Ct w0 w' bc s pl.length ps' fs → Fr w.heap.size (fun k => k = bc) w w' → GoodL pl pl.length → openP pl = false → PartsTo pl 10 pl.length ps' → Fns w' fs L → Fresh w.heap.size fs → cutF pl pl.length = L.map (·.1) → R (.bool true) w')
    (hbad : ∀ n ps' fs w', Ct w0 w' bc s n ps' fs → Fr w.heap.size (fun k => k = bc) w w' → StopL pl n → R (.bool false) w') :
    callR Tryz.prog 140 #[.pointer (some (blk bc))] w R := by
  refine callR.of (layout_cutter_cut_calls _ R w ?_) fun _ _ h => h
  have hlen := hN.len
  have hbcl : bc < w.heap.size := h.blk.lt
  have h0w := h.b0.size
  refine top_spec h hN (by omega) (fun n0 ps1 w1 hC1 f1 hT hP => ⟨_, rfl, ifB_false rfl ?_⟩) (fun n1 ps1 w1 hC1 f1 hS => ⟨_, rfl, ifB_true rfl (hbad n1 ps1 _ w1 hC1 f1 hS)⟩)
  have hC1 := hC1.drew
  have f1 := f1.drew
  refine hC1.at_ (hC1.sl (hC1.part (p := 8) (by omega) fun w3 hC3 c3 => ?_))
  have f3 := (f1.trans (c3.fr)).drew
  have hC3 := hC3.drew
  refine hC3.sl (hC3.sl (hC3.part (p := 9) (by omega) fun w5 hC5 c5 => ?_))
  have f5 := f3.trans (c5.fr)
  rw [hlen] at hC5
  generalize hps5 : ((((ps1.set (2 * 8) (n0 : Int)).set (2 * 8 + 1) (pl.length : Int)).set (2 * 9) (pl.length : Int)).set (2 * 9 + 1) (pl.length : Int)) = ps5 at hC5
  refine LoopW.ghost (fun j _ w' => ∃ n fs L, j = pl.length - n ∧ Ct w0 w' bc s n ps5 fs ∧ Fr w.heap.size (fun k => k = bc) w w' ∧ Fresh w.heap.size fs ∧ InvO pl n ∧ Fns w' fs L ∧ cutF pl n = L.map (·.1) ∧ (n0 < n → partP (ix pl n0) = 8) ∧ n0 ≤ n ∧ 2 * L.length ≤ n)
    (pl.length - n0) ⟨n0, ⟨none, 0, 0⟩, [], rfl, hC5, f5, fun a ha => (by cases ha), hT.fun, Fns.nil _, ?_, fun h => by omega, Nat.le_refl _, Nat.zero_le _⟩ ?_
  · exact (cutF_idle (n := 0) (Nat.zero_le _) fun j _ j2 => .inl (by have := hT.low j j2; omega))
  rintro _ _ w6 ⟨n, fs, L, rfl, hC6, f6, hF6, hO6, hL6, hcut6, h86, hn06, hLn⟩ next hnext
  have hn := hO6.le
  refine next_spec hC6 hN hn fun w7 b7 => ⟨_, rfl, ?_⟩
  have hC7 := hC6.below b7
  have f7 := f6.trans ((Fr.of_below b7).mono f6.size fun _ _ x => x)
  have hL7 := hL6.below b7
  refine ifB_dec (fun hlt => ?_) (fun hge => ?_)
  · have e : n = pl.length := by
      unfold kn at hlt
      split at hlt
      · have := kdP_nonneg (ix pl n); omega
      · omega
    subst e
    refine hok ps5 fs L w7 hC7 f7 hO6.good (hO6.shut rfl) ?_ hL7 hF6 hcut6
    rw [← hps5]
    have hl1 := hC1.len
    exact hP.all hl1 hT.le hT.low hO6.good h86
  · have hltn : n < pl.length := by
      unfold kn at hge
      split at hge
      · assumption
      · omega
    refine next_spec hC7 hN hn fun w8 b8 => ⟨_, rfl, ?_⟩
    have hC8 := hC7.below b8
    have f8 := f7.trans ((Fr.of_below b8).mono f7.size fun _ _ x => x)
    have hL8 := hL7.below b8
    refine ifB_bne (fun e => hbad n ps5 fs w8 hC8 f8 (hO6.bad hltn (kn_ne e hltn))) (fun e => ?_)
    obtain ⟨_, hk1⟩ := kn_lt e (by decide)
    have hp8 := kd_part (p := ix pl n) (by omega)
    have hop1 := (kd_ops hp8).1.1 hk1
    have bd8 : Below w8.heap.size w8 w8.drew := (Below.refl _ _).drew
    have hD := hC8.drew
    have s08 := hC8.b0.size
    have sw8 := f8.size
    refine hD.sl (hD.at_ (elemPrC (hD.mem hN) hltn fun a hc => hD.at_ ?_))
    refine lay_of fun w9 hB9 b9 z9 => ⟨cell_keep b9 (hD.blk.cell rfl), cell_keep b9 hc, cell_keep b9 (hD.blk.cell rfl), cell_keep b9 (hD.blk.cell0 rfl), ?_⟩
    have hB9 : Blk w9 w8.drew.heap.size 29 [.int .u32 0, .int .i64 0, .slice none 0 0, .slice none 0 0, .int .i64 0] := hB9
    have hbb : w8.drew.heap.size = w8.heap.size := rfl
    generalize hbf : w8.drew.heap.size = bf at hB9 hbb z9
    subst hbb
    have b89 := bd8.on b9
    refine st5 hB9 rfl fun w14 hB14 c14 => ?_
    have hB14 : Blk w14 w8.heap.size 29 (fnV ⟨(ix pl n).2.2.1, n, 0, [], []⟩ ⟨none, 0, 0⟩ ⟨none, 0, 0⟩) := by rw [ix_lt hltn]; exact hB14
    have hbcf : w8.heap.size ≠ bc := by omega
    have hC14 := (hC8.below b89).chg c14 s08 hbcf
    have g14 : Fr w8.heap.size (fun k => k = bc) w8 w14 := (Fr.of_below b89).trans (c14.frB (Nat.le_refl _))
    have z14 : w14.heap.size = w8.heap.size + 1 := by rw [c14.size, z9]
    refine hC14.inc (by omega) fun w15 hC15 c15 => ?_
    have hI15 := hO6.begin hltn hp8 hop1
    have hcut15 := cutF_fun hcut6 hk1
    have g15 := g14.trans c15.fr
    have hB15 := c15.blk hB14 hbcf
    refine rowc_spec hC15 hN (by omega) h40 (by decide) fun tp n2 w16 h1 h2 h3 h4 hC16 f16 hOp hFp => ⟨tp, rfl, ?_⟩
    obtain ⟨ah2, hI2, ha2⟩ := hI15.params (.inl rfl) h1 h2 h3
    have hcut16 := cutF_params hcut15 h1 h3
    have g16 : Fr w8.heap.size (fun k => k = bc) w8 w16 := g15.trans (f16.mono (by rw [c15.size]; omega) fun _ _ x => x)
    have hB16 := f16.blk hB15 hbcf
    have s15 := c15.size
    have s16 := f16.size
    refine ⟨hB16.wr (by simp), Nw.gen fun w17 e17 => ?_⟩
    have c17 : Chg w8.heap.size w16 w17 := by rw [e17]; exact Chg.set _ _ _ _
    have hB17 : Blk w17 w8.heap.size 29 (fnV ⟨(ix pl n).2.2.1, n, 0, [], []⟩ tp ⟨none, 0, 0⟩) := by rw [e17]; exact hB16.set 2 _
    clear e17
    have hC17 := hC16.chg c17 s08 hbcf
    have g17 : Fr w8.heap.size (fun k => k = bc) w8 w17 := g16.trans (c17.frB (Nat.le_refl _))
    have hOp17 : Own w17 3 1 tp ((places (n + 1) n2).map (Value.int .i64)) := hOp.of_block fun a ha => c17.block _ (by have := hFp a ha; omega)
    generalize hpar : places (n + 1) n2 = par at hOp17
    have hcut17 : cutF pl n2 = L.map (·.1) ++ [⟨(ix pl n).2.2.1, n, 0, par, []⟩] := by rw [hcut16, ← hpar]; rfl
    refine LoopW.ghost (fun j _ w' => ∃ n3 ah bk tb, j = pl.length - n3 ∧ n2 ≤ n3 ∧ Ct w0 w' bc s n3 ps5 fs ∧ Fr w8.heap.size (fun k => k = bc) w8 w' ∧ Blk w' w8.heap.size 29 (fnV ⟨(ix pl n).2.2.1, n, 0, par, bk⟩ tp tb) ∧
        Own w' 3 1 tp (par.map (Value.int .i64)) ∧ Own w' 69 3 tb (flat blV bk) ∧ Fresh w8.heap.size tb ∧ InvF pl n3 ah ∧ (((ah = 54 ∨ ah = 55) ∧ bk = []) ∨ ((249 ≤ ah ∧ ah ≤ 255) ∧ bk ≠ [])) ∧
        cutF pl n3 = L.map (·.1) ++ [⟨(ix pl n).2.2.1, n, 0, par, bk⟩] ∧ bk.length ≤ n3 ∧ (bk = [] → n3 < pl.length → kdP (ix pl n3) ≠ 2)) (pl.length - n2)
      ⟨n2, ah2, [], ⟨none, 0, 0⟩, rfl, Nat.le_refl _, hC17, g17, hB17, hOp17, Own.nil _ _ _, fun a ha => (by cases ha), hI2, .inl ⟨ha2, rfl⟩, hcut17, Nat.zero_le _, fun _ hl => h4 hl⟩ ?_
    rintro _ _ w18 ⟨n3, ah, bk, tb, rfl, hn23, hC18, g18, hB18, hOp18, hOb18, hFb18, hI18, ha18, hcut18, hbk18, hk2⟩ next2 hnext2
    have hn3 := hI18.le
    refine next_spec hC18 hN hn3 fun w19 b19 => ⟨_, rfl, ?_⟩
    have hC19 := hC18.below b19
    have g19 := g18.trans ((Fr.of_below b19).mono g18.size fun _ _ x => x)
    have hB19 := hB18.below b19
    have hOp19 := hOp18.below b19
    have hOb19 := hOb18.below b19
    have toW : ∀ {w' : World}, Fr w8.heap.size (fun k => k = bc) w8 w' → Fr w.heap.size (fun k => k = bc) w w' := fun g => f8.trans (g.mono f8.size fun _ _ x => x)
    have hblen : bk.length = tb.l := by have := hOb19.1; rw [flat_length blV_len] at this; omega
    refine ifB_beq (fun e3 => ?_) (fun e3 => ?_)
    · obtain ⟨hlt3, hk3⟩ := kn_lt e3 (by decide)
      have back : ∀ {w' : World}, Fr w19.heap.size (fun k => k = bc ∨ k = w8.heap.size ∨ tb.a = some (Gk.blk k)) w19 w' → Fr w8.heap.size (fun k => k = bc) w8 w' := fun g =>
        g19.trans (g.mono g19.size fun k hk x => by
          rcases x with x | x | x
          · exact x
          · omega
          · have := hFb18 _ x
            exact absurd this (Nat.not_le.2 hk))
      refine block_spec (fn := ⟨(ix pl n).2.2.1, n, 0, par, bk⟩) (tp := tp) (tb := tb) hC19 hN h40 hlt3 hk3 hI18 ha18 hB19 s08 hOb19 (fun a ha => Nat.le_trans s08 (hFb18 a ha)) hbk18 hcut18
        (fun n4 ah4 tb4 w20 hn4 hC20 f20 hI4 ha4 hB20 hO20 hb20 hcut20 => ⟨_, rfl, ifB_false rfl ?_⟩)
        (fun n4 w20 hC20 f20 hS => ⟨_, rfl, ifB_true rfl (hbad n4 ps5 fs w20 hC20 (toW (back f20)) hS)⟩)
      refine hnext2 (pl.length - n4) _ _ (by have := hI4.le; omega) ⟨n4, ah4, bk ++ [((ix pl n3).2.2.1, (n3 : Int), (n4 : Int))], tb4, rfl, by omega, hC20, back f20, hB20, ?_, hO20, ?_, hI4, .inr ⟨ha4, by simp⟩, hcut20, by simp; omega, fun h => by simp at h⟩
      · refine f20.own hOp19 fun b e x => ?_
        rcases x with x | x | x
        · subst x; exact own_apart hOp19 hC19.blk (by decide) e
        · subst x; exact own_apart hOp19 hB19 (by decide) e
        · exact own_apart2 hOp19 hOb19 (by decide) e x
      · intro a ha
        obtain ⟨b', q1, q2⟩ := hb20
        rw [q1] at ha
        cases ha
        show w8.heap.size ≤ b'
        rcases q2 with q2 | q2
        · exact hFb18 _ q2
        · have := g19.size; omega
    · refine JoinW.cut (fun _ w21 => Ct w0 w21 bc s n3 ps5 fs ∧ Fr w8.heap.size (fun k => k = bc) w8 w21 ∧ Blk w21 w8.heap.size 29 (fnV ⟨(ix pl n).2.2.1, n, 0, par, bk⟩ tp tb) ∧
        Own w21 3 1 tp (par.map (Value.int .i64)) ∧ Own w21 69 3 tb (flat blV bk) ∧ n3 < pl.length ∧ kdP (ix pl n3) = 8 ∧ (249 ≤ ah ∧ ah ≤ 255)) ?_ ?_
      · refine hB19.rS (n := 3) (x := tb) rfl (ifB_beq (fun e0 => ?_) (fun e0 => ?_))
        · have hbk0 : bk = [] := List.length_eq_zero_iff.1 (by omega)
          have ha' : ah = 54 ∨ ah = 55 := by
            rcases ha18 with ⟨g, _⟩ | ⟨_, g⟩
            · exact g
            · exact absurd hbk0 g
          exact hbad n3 ps5 fs w19 hC19 (toW g19) (hI18.noblock ha' (hk2 hbk0) (kn_ne e3))
        · have ha' : 249 ≤ ah ∧ ah ≤ 255 := by
            rcases ha18 with ⟨_, g⟩ | ⟨g, _⟩
            · rw [g] at hblen; exact absurd (by rw [← hblen]; rfl) e0
            · exact g
          refine next_spec hC19 hN hn3 fun w21 b21 => ⟨_, rfl, ?_⟩
          refine ifB_bne (fun e8 => ?_) (fun e8 => ?_)
          · exact hbad n3 ps5 fs w21 (hC19.below b21) (toW (g19.trans ((Fr.of_below b21).mono g19.size fun _ _ x => x))) (hI18.noend ha' (kn_ne e3) (kn_ne e8))
          · obtain ⟨q1, q2⟩ := kn_lt e8 (by decide)
            exact ⟨hC19.below b21, g19.trans ((Fr.of_below b21).mono g19.size fun _ _ x => x), hB19.below b21, hOp19.below b21, hOb19.below b21, q1, q2, ha'⟩
      · rintro _ w22 ⟨hC22, g22, hB22, hOp22, hOb22, hlt3, hk8, ha'⟩
        have hI23 := hI18.shut ha' hlt3 hk8
        have hcut23 := cutF_end hcut18 hk8
        refine hC22.at_ ⟨hB22.wr (by simp), Nw.gen fun w23 e23 => ?_⟩
        have c23 : Chg w8.heap.size w22 w23 := by rw [e23]; exact Chg.set _ _ _ _
        have hB23 : Blk w23 w8.heap.size 29 (fnV ⟨(ix pl n).2.2.1, n, n3, par, bk⟩ tp tb) := by rw [e23]; exact hB22.set 4 _
        clear e23
        have hC23 := hC22.chg c23 s08 hbcf
        have g23 : Fr w8.heap.size (fun k => k = bc) w8 w23 := g22.trans (c23.frB (Nat.le_refl _))
        have hOp23 : Own w23 3 1 tp (par.map (Value.int .i64)) := hOp22.of_block fun a ha => c23.block _ fun e => own_apart hOp22 hB22 (by decide) (by rw [ha, (hOp22.lt ha).1, e])
        have hOb23 : Own w23 69 3 tb (flat blV bk) := hOb22.of_block fun a ha => c23.block _ fun e => own_apart hOb22 hB22 (by decide) (by rw [ha, (hOb22.lt ha).1, e])
        refine hC23.inc (by omega) fun w24 hC24 c24 => ?_
        have g24 := g23.trans c24.fr
        have hB24 := (c24.blk hB23 hbcf).drew
        have hOp24 := (c24.fr.own hOp23 fun b e x => by subst x; exact own_apart hOp23 hC23.blk (by decide) e).drew
        have hOb24 := (c24.fr.own hOb23 fun b e x => by subst x; exact own_apart hOb23 hC23.blk (by decide) e).drew
        have hC24 := hC24.drew
        have g24 := g24.drew
        have hL24 := hL8.fr g24 hC8.blk
        refine derefP_some rfl (hC24.blk.rS (n := 22) (x := fs) (ctV_f hC24.len) ?_)
        refine hB24.rI (n := 0) rfl (hB24.rI (n := 1) rfl (hB24.rS (n := 2) (x := tp) rfl (hB24.rS (n := 3) (x := tb) rfl (hB24.rI (n := 4) rfl ?_))))
        refine lay_of fun w25 hB25 b25 z25 => ⟨cell_keep b25 (hC24.blk.cell (ctV_f hC24.len)), ?_⟩
        have hB25 : Blk w25 w24.drew.heap.size 29 (fnV ⟨(ix pl n).2.2.1, n, n3, par, bk⟩ tp tb) := hB25
        have hL25 := hL24.below b25
        have hC25 := hC24.below b25
        have hll := hL25.len
        refine push_fr eFun hL25.own rfl (by simp [Value.oneCell']) hB25 (by omega) (by omega) fun r w26 b' hO26 hl26 ha26 hw26 f26 => ?_
        have hlow : ∀ k, fs.a = some (Gk.blk k) → w.heap.size ≤ k := fun k e => hF6 _ e
        have hC26 := hC25.fr f26 (fun k e => Nat.le_trans h0w (hlow k e)) (own_apart hL25.own hC25.blk (by decide))
        have t25 := toW (g24.trans ((Fr.of_below b25).mono g24.size fun _ _ x => x))
        have t26 : Fr w.heap.size (fun k => k = bc) w w26 := t25.trans (f26.mono t25.size fun k hk x => absurd (hlow k x) (Nat.not_le.2 hk))
        have rows26 : ∀ x ∈ L ++ [((⟨(ix pl n).2.2.1, n, n3, par, bk⟩ : FnL), tp, tb)], Own w26 3 1 x.2.1 (x.1.ps.map (Value.int .i64)) ∧ Own w26 69 3 x.2.2 (flat blV x.1.bk) := by
          intro x hx
          have both : Own w25 3 1 x.2.1 (x.1.ps.map (Value.int .i64)) ∧ Own w25 69 3 x.2.2 (flat blV x.1.bk) := by
            rcases List.mem_append.1 hx with hx | hx
            · exact hL25.row x hx
            · rw [List.mem_singleton] at hx
              subst hx
              exact ⟨hOp24.below b25, hOb24.below b25⟩
          exact ⟨f26.own both.1 fun b e x => own_apart2 both.1 hL25.own (by decide) e x, f26.own both.2 fun b e x => own_apart2 both.2 hL25.own (by decide) e x⟩
        have hl23 := ctV_len (s := s) (n := n3 + 1) (f := fs) hC26.len
        refine derefP_some rfl ⟨hC26.blk.wr (by omega), Nw.gen fun w27 e27 => ?_⟩
        have c27 : Chg bc w26 w27 := by rw [e27]; exact Chg.set _ _ _ _
        have hB27 : Blk w27 bc 151 (ctV s (n3 + 1 : Nat) ps5 r) := by rw [e27, ← ctV_setf hC26.len]; exact hC26.blk.set 22 _
        clear e27
        refine hnext (pl.length - (n3 + 1)) _ _ (by omega) ⟨n3 + 1, r, L ++ [(⟨(ix pl n).2.2.1, n, n3, par, bk⟩, tp, tb)], rfl, ⟨hC26.hi, c27.below hC26.b0 hC26.hi, hB27, hC26.len⟩, t26.trans c27.fr, ?_, hI23.end, ⟨?_, ?_⟩, ?_, fun _ => ?_, by omega, by simp; omega⟩
        · intro a ha
          rw [ha26] at ha
          cases ha
          show w.heap.size ≤ b'
          rcases hw26 with g | g
          · exact hlow _ g
          · have := t25.size; omega
        · rw [flat_snoc]
          refine hO26.of_block fun a ha => c27.block _ fun e => own_apart hO26 hC26.blk (by decide) (by rw [ha, (hO26.lt ha).1, e])
        · intro x hx
          obtain ⟨q1, q2⟩ := rows26 x hx
          exact ⟨c27.fr.own q1 fun b e x => by subst x; exact own_apart q1 hC26.blk (by decide) e, c27.fr.own q2 fun b e x => by subst x; exact own_apart q2 hC26.blk (by decide) e⟩
        · rw [hcut23, List.map_append]
          rfl
        · by_cases en : n0 = n
          · subst en; exact hp8
          · exact h86 (by omega)
end
end Go.Proofs
namespace Go.Proofs
open Go.Gk Go.RowKit Go.Gm

theorem may_op {pl : List PI} {n : Nat} (h : mayP pl n = true) (h8 : partP (ix pl n) = 8) : opMay (ix pl n).1 (aheadP pl n) (firstP pl (n - 1)) = true := by
  unfold mayP at h
  by_cases e : overP pl n = true
  · rw [if_pos e] at h; cases h
  rw [if_neg e, if_neg (by omega)] at h
  by_cases e2 : 1 < partP (ix pl n) ∧ mdlP pl n = false
  · rw [if_pos e2] at h; cases h
  rw [if_neg e2, if_neg (by omega)] at h
  exact h
end Go.Proofs
namespace Go.Proofs
open Go.Gk Go.RowKit Go.Gm

theorem lay_good {bd : Int} {pl : List PI} (h : (layP bd pl).1 = 0) : (shapeP bd pl).1 = 0 ∧ GoodL pl pl.length ∧ openP pl = false := by
  unfold layP at h
  by_cases h1 : (shapeP bd pl).1 ≠ 0
  · rw [if_pos h1] at h; exact absurd h h1
  rw [if_neg h1] at h
  refine ⟨Classical.not_not.1 h1, ?_⟩
  unfold chkP at h
  cases hf : (List.range pl.length).find? (fun k => !mayP pl k) with
  | some k => rw [hf] at h; cases h
  | none =>
    rw [hf] at h
    refine ⟨fun k hk => ?_, ?_⟩
    · have := List.find?_eq_none.1 hf k (List.mem_range.2 hk)
      simpa using this
    · cases ho : openP pl
      · rfl
      · rw [ho] at h; cases h
/-- A block that is whole: its label, its last instruction. -/
structure BkOk (pl : List PI) (n : Nat) (b : Int × Int × Int) : Prop where
  ex : ∃ f t : Nat, b = ((ix pl f).2.2.1, (f : Int), (t : Int)) ∧ f + 2 ≤ t ∧ t ≤ n ∧ (ix pl f).1 = 248 ∧ partP (ix pl f) = 8 ∧ endsP (ix pl (t - 1)).1 = true ∧ partP (ix pl (t - 1)) = 8
theorem BkOk.mono {pl : List PI} {n m : Nat} {b : Int × Int × Int} (h : BkOk pl n b) (hm : n ≤ m) : BkOk pl m b := by
  obtain ⟨f, t, h1, h2, h3, h4⟩ := h.ex
  exact ⟨f, t, h1, h2, by omega, h4⟩
structure FnOk (pl : List PI) (n : Nat) (f : FnL) : Prop where
  ne : f.bk ≠ []
  ok : ∀ b ∈ f.bk, BkOk pl n b
  lt : f.bk.Pairwise fun a b => a.2.1 < b.2.1
theorem FnOk.mono {pl : List PI} {n m : Nat} {f : FnL} (h : FnOk pl n f) (hm : n ≤ m) : FnOk pl m f := ⟨h.ne, fun b hb => (h.ok b hb).mono hm, h.lt⟩
theorem ends_cases {op : Int} (h : endsP op = true) : 249 ≤ op ∧ op ≤ 255 := by unfold endsP at h; exact of_decide_eq_true h
end Go.Proofs
namespace Go.Proofs
open Go.Gk
set_option linter.unusedVariables false
set_option maxRecDepth 100000

/-- intaglio.intagliokit.Ints -/
def a_intagliokit_Ints : Ann := (.seq none .nil (.seq none (.seq none .nil (.cond (.seq none .nil .nil) .nil)) (.seq none (.seq none .nil (.one (.loop ⟨[0, 1], [(5, (.b (.int .i64)))]⟩ (.seq none (.seq none .nil (.cond .nil .nil)) (.seq none (.one (.seq none .nil (.cond (.seq none .nil .nil) .nil))) .nil))))) (.seq none .nil .nil))))
def L_intagliokit_Ints (p0 : Sl) (p1 : Sl) (R : Value → World → Prop) (w : World) : Prop :=
 ifB ((p0.l : Int) != (p1.l : Int))
 (R (.bool false) w)
 (LoopW (S := Int × Unit) (fun s1 w1 n2 =>
 ifB (decide (s1.1 < (p0.l : Int)))
 ((0 ≤ s1.1 ∧ s1.1 < (p0.l : Int)) ∧
 derefP p0.a fun a3 =>
 ldI w1.drew (a3.add (Int.toNat s1.1)) .i64 fun x4 =>
 (0 ≤ s1.1 ∧ s1.1 < (p1.l : Int)) ∧
 derefP p1.a fun a5 =>
 ldI w1.drew (a5.add (Int.toNat s1.1)) .i64 fun x6 =>
 ifB (x4 != x6)
 (R (.bool false) w1.drew)
 (n2 ((IntKind.i64.wrap (s1.1 + (1 : Int))), ()) w1.drew))
 (R (.bool true) w1))
 ((0 : Int), ()) w)
theorem intagliokit_Ints_calls (p0 : Sl) (p1 : Sl) (R : Value → World → Prop) (w : World) (h : L_intagliokit_Ints p0 p1 R w) : Calls Tryz.prog 26 #[(.slice p0.a p0.l p0.c), (.slice p1.a p1.l p1.c)] w (Ret R) :=
 lw_calls (fs := Tryz.fs) (an := a_intagliokit_Ints) (args := [(.slice p0.a p0.l p0.c), (.slice p1.a p1.l p1.c)]) Tryz.fsOK Tryz.mixed Tryz.func26 (by kernel_rfl) (by kernel_rfl)
 (Eq.mpr (by kernel_rfl : lwFn Tryz.prog Tryz.fs Tryz.f26 a_intagliokit_Ints [(.slice p0.a p0.l p0.c), (.slice p1.a p1.l p1.c)] w R = L_intagliokit_Ints p0 p1 R w) h)

/-- slices.Clone[[]int,int] -/
def a_slices_Clone_sint_int : Ann := (.seq none .nil (.seq none (.seq none .nil (.cond (.seq none .nil .nil) .nil)) (.seq none .nil .nil)))
def L_slices_Clone_sint_int (p0 : Sl) (R : Value → World → Prop) (w : World) : Prop :=
 ifB (Option.isNone p0.a)
 (R (.slice none 0 0) w)
 (Nw (w.alloc (.cells #[] 3)) fun w1 =>
 appendS Tryz.prog 26 (.slice (some (blk w.heap.size)) 0 0) (.slice p0.a p0.l p0.c) w1 fun r1 w2 =>
 R (.slice r1.a r1.l r1.c) w2)
theorem slices_Clone_sint_int_calls (p0 : Sl) (R : Value → World → Prop) (w : World) (h : L_slices_Clone_sint_int p0 R w) : Calls Tryz.prog 73 #[(.slice p0.a p0.l p0.c)] w (Ret R) :=
 lw_calls (fs := Tryz.fs) (an := a_slices_Clone_sint_int) (args := [(.slice p0.a p0.l p0.c)]) Tryz.fsOK Tryz.mixed Tryz.func73 (by kernel_rfl) (by kernel_rfl)
 (Eq.mpr (by kernel_rfl : lwFn Tryz.prog Tryz.fs Tryz.f73 a_slices_Clone_sint_int [(.slice p0.a p0.l p0.c)] w R = L_slices_Clone_sint_int p0 R w) h)

end Go.Proofs
namespace Go.Gr

theorem nodup_le : ∀ {n : Nat} {l : List Nat}, l.Nodup → (∀ x ∈ l, x < n) → l.length ≤ n
  | 0, l, _, hl => by
    cases l with
    | nil => simp
    | cons x r => exact absurd (hl x (List.mem_cons_self ..)) (by omega)
  | n + 1, l, h, hl => by
    by_cases hn : n ∈ l
    · have h1 := nodup_le (n := n) (l := l.erase n) (h.erase n) (fun x hx => by
        have h2 := (h.mem_erase_iff).1 hx
        have := hl x h2.2
        omega)
      rw [List.length_erase_of_mem hn] at h1
      omega
    · have := nodup_le (n := n) (l := l) h (fun x hx => by
        have h1 := hl x hx
        have h2 : x ≠ n := fun e => hn (e ▸ hx)
        omega)
      omega
theorem nodup_lt {n i : Nat} {l : List Nat} (h : l.Nodup) (hl : ∀ x ∈ l, x < n) (hi : i < n) (hni : i ∉ l) : l.length < n := by
  have : (l ++ [i]).length ≤ n := nodup_le (by
    rw [List.nodup_append]
    exact ⟨h, by simp, fun x hx y hy => by simp at hy; subst hy; intro e; subst e; exact hni hx⟩) (fun x hx => by
    simp at hx
    rcases hx with hx | rfl
    · exact hl x hx
    · exact hi)
  simp at this
  omega
end Go.Gr
namespace Go.Proofs
open Go.Gk Go.RowKit


theorem Ints_spec {s t : Sl} {l m : List Int} {w : World} {R : Value → World → Prop} (hs : IsI w s l) (ht : IsI w t m) (hR : ∀ w', w'.heap = w.heap → Below w.heap.size w w' → R (.bool (decide (l = m))) w') :
    callR Tryz.prog 26 #[.slice s.a s.l s.c, .slice t.a t.l t.c] w R := by
  refine callR.of (intagliokit_Ints_calls s t R w ?_) fun _ _ h => h
  have e1 := hs.len
  have e2 := ht.len
  refine ifB_bne (fun hne => ?_) (fun he => ?_)
  · have : decide (l = m) = false := by
      rw [decide_eq_false_iff_not]; intro e; subst e; omega
    have := this ▸ hR w rfl (Below.refl _ _)
    exact this
  · have hlm : l.length = m.length := by omega
    refine LoopW.count l.length hs.bound (fun k w' => w'.heap = w.heap ∧ Below w.heap.size w w' ∧ l.take k = m.take k) ⟨rfl, Below.refl _ _, by simp⟩ ?_
    rintro k w' hk ⟨hh, hb, hI⟩ next hnext
    refine ifB_dec (fun hlt => ?_) (fun hge => ?_)
    · have hlt : k < l.length := by dsimp only at hlt; omega
      refine elemI (hs.heap (w' := w'.drew) hh) hlt (elemI (ht.heap (w' := w'.drew) hh) (by omega) (ifB_bne (fun hne => ?_) (fun he => ?_)))
      · have : decide (l = m) = false := by
          rw [decide_eq_false_iff_not]; intro e; subst e; exact hne rfl
        have := this ▸ hR w'.drew hh hb.drew
        exact this
      · exact hnext _ hlt ⟨hh, hb.drew, by rw [List.take_succ_eq_append_getElem hlt, List.take_succ_eq_append_getElem (by omega), hI, he]⟩
    · have : l = m := by
        have hk' : k = l.length := by dsimp only at hge; omega
        subst hk'
        rwa [List.take_length, hlm, List.take_length] at hI
      have := (decide_eq_true this) ▸ hR w' hh hb
      exact this

theorem Clone_spec {α : Type} {f : α → Value} {s : Sl} {l : List α} {w : World} {R : Value → World → Prop} (hf : ∀ x, (f x).oneCell' = true) (h : IsS f w s l) (hl : l.length * 8 ≤ 140737488355328)
    (hR : ∀ r w', Own w' 3 1 r (l.map f) → Fresh w.heap.size r → Below w.heap.size w w' → R (.slice r.a r.l r.c) w') :
    callR Tryz.prog 73 #[.slice s.a s.l s.c] w R := by
  refine callR.of (slices_Clone_sint_int_calls s R w ?_) fun _ _ h => h
  refine ifB_bool (fun hn => ?_) (fun hn => ?_)
  · have hn : s.a = none := by simpa using hn
    have hc := h.nil hn
    have : l = [] := List.eq_nil_of_length_eq_zero (by have := h.len; have := h.cap; omega)
    subst this
    exact hR ⟨none, 0, 0⟩ w (Own.nil _ _ _) (fun a ha => by cases ha) (Below.refl _ _)
  · obtain ⟨a, ha⟩ : ∃ a, s.a = some a := by
      cases hs : s.a with
      | none => rw [hs] at hn; cases hn
      | some a => exact ⟨a, rfl⟩
    refine Nw.gen fun w1 hw1 => ?_
    have hB : Blk w1 w.heap.size 3 [] := by rw [hw1]; exact Blk.new w 3 #[]
    have hb1 : Below w.heap.size w w1 := by rw [hw1]; exact (Below.refl _ _).alloc (Nat.le_refl _) _
    have hO : Own w1 3 1 ⟨some (blk w.heap.size), 0, 0⟩ [] := ⟨rfl, .inr ⟨_, [], rfl, hB, Nat.le_refl _, by simp, rfl, rfl⟩⟩
    have h' := h.below hb1
    rw [ha, h.len]
    refine append_own eInt hO (m := l.length) (news := l.map f) (by simp) (fun j u hj => ?_) (fun u hu => ?_) (by have := h.bound; simp; omega) (by simpa using hl) fun r w' h1 _ h3 => ?_
    · rw [List.getElem?_map] at hj
      obtain ⟨x, hx, rfl⟩ := Option.map_eq_some_iff.1 hj
      obtain ⟨hlt, rfl⟩ := List.getElem?_eq_some_iff.1 hx
      exact h'.cell a ha j hlt
    · obtain ⟨x, _, rfl⟩ := List.mem_map.1 hu
      exact hf x
    · rcases h3 with ⟨_, rfl, rfl⟩ | ⟨b, h4, h5, h6⟩
      · exact hR _ _ h1 (fun a ha => by cases ha; exact Nat.le_refl _) hb1
      · have hbb : w.heap.size ≤ b := by
          rcases h5 with h5 | h5
          · cases h5; exact Nat.le_refl _
          · have := hb1.size; omega
        refine hR _ _ h1 (fun a ha => by rw [h4] at ha; cases ha; exact hbb) (hb1.trans (below_grown h6 hbb hb1.size))

end Go.Proofs

namespace Go.Proofs
open Go.Gk Go.RowKit

end Go.Proofs

namespace Go.Proofs
open Go.Gk Go.RowKit Go.Gr

/-- The cell of a node's number. -/
abbrev iN (x : Nat) : Value := .int .i64 (x : Int)
end Go.Proofs

namespace Go.Proofs
open Go.Gk Go.RowKit Go.Gr

/-- Slices of slices whose elements are f's cells. -/
structure IsSS {α : Type} (f : α → Value) (w : World) (s : Sl) (hs : List Sl) (ll : List (List α)) : Prop where
  top : IsS Sl.val w s hs
  len : hs.length = ll.length
  row : ∀ (i : Nat) (h : i < hs.length) (h' : i < ll.length), IsS f w hs[i] ll[i]
abbrev IsNN (w : World) (s : Sl) (hs : List Sl) (ll : List (List Nat)) : Prop := IsSS iN w s hs ll
theorem IsSS.below {α : Type} {f : α → Value} {w w' : World} {s : Sl} {hs : List Sl} {ll : List (List α)} (h : IsSS f w s hs ll) (hb : Below w.heap.size w w') : IsSS f w' s hs ll :=
  ⟨h.top.below hb, h.len, fun i h1 h2 => (h.row i h1 h2).below hb⟩
/-- None of these blocks is b. -/
def Avoids (b : Nat) (s : Sl) (hs : List Sl) : Prop := (∀ a, s.a = some a → a.block ≠ b) ∧ ∀ (i : Nat) (h : i < hs.length) a, hs[i].a = some a → a.block ≠ b
theorem _root_.Go.Gk.IsS.fr {α : Type} {f : α → Value} {w w' : World} {s : Sl} {l : List α} (h : IsS f w s l) {B b : Nat} (hb : Fr B (· = b) w w') (hB : w.heap.size ≤ B) (hn : ∀ a, s.a = some a → a.block ≠ b) : IsS f w' s l :=
  h.of_block fun a ha hlt => hb.block _ (by omega) (hn a ha)
theorem IsSS.fr {α : Type} {f : α → Value} {w w' : World} {s : Sl} {hs : List Sl} {ll : List (List α)} (h : IsSS f w s hs ll) {B b : Nat} (hb : Fr B (· = b) w w') (hB : w.heap.size ≤ B) (hn : Avoids b s hs) : IsSS f w' s hs ll :=
  ⟨h.top.fr hb hB hn.1, h.len, fun i h1 h2 => (h.row i h1 h2).fr hb hB (hn.2 i h1)⟩

theorem own_len {w : World} {s : Sl} {l : List Nat} (h : Own w 3 1 s (l.map iN)) : s.l = l.length := by have := h.1; simp at this; omega
theorem own_ne {w : World} {s : Sl} {xs : List Value} (h : Own w 3 1 s xs) {b : Nat} {T : TypeId} {cs : List Value} (hB : Blk w b T cs) (hT : T ≠ 3) {a : Addr} (ha : s.a = some a) : a.block ≠ b := by
  intro e
  obtain ⟨cs', hB'⟩ := h.type ha
  rw [e] at hB'
  exact hT (hB.type hB')

end Go.Proofs

namespace Go.Proofs
open Go.Gk Go.RowKit Go.Gr

end Go.Proofs

namespace Go.Proofs
open Go.Gk Go.RowKit Go.Gr

def upd (ow : Nat → Nat) (b v : Nat) : Nat → Nat := fun k => if k = b then v else ow k

end Go.Proofs
namespace Go.Proofs
open Go.Gk Go.RowKit Go.Gr

/-- All edges lead to nodes. -/
def Good (ll : List (List Int)) : Prop := ∀ l ∈ ll, ∀ x ∈ l, 0 ≤ x ∧ x < (ll.length : Int)
end Go.Proofs

namespace Go.Proofs
open Go.Gk Go.RowKit Go.Gr

theorem _root_.Go.Gk.IsS.toI {w : World} {s : Sl} {l : List Nat} (h : IsS iN w s l) : IsI w s (l.map fun (x : Nat) => (x : Int)) :=
  ⟨by rw [List.length_map]; exact h.len, h.cap, h.max, h.nil, fun a ha i hi => by rw [List.getElem_map]; exact h.cell a ha i (by simpa using hi)⟩

end Go.Proofs

namespace Go.Proofs
open Go.Gk Go.RowKit Go.Gr

end Go.Proofs

namespace Go.Proofs
open Go.Gk Go.RowKit Go.Gr

end Go.Proofs

namespace Go.Proofs
open Go.Gk Go.RowKit Go.Gr

end Go.Proofs
namespace Go.Proofs
open Go.Gk
set_option linter.unusedVariables false
set_option maxRecDepth 100000

/-- intaglio.ids.Check -/
def a_ids_Check : Ann := (.seq none .nil (.one (.seq none .nil (.seq none (.seq none .nil (.cond (.seq none .nil .nil) .nil)) (.seq none .nil (.seq none .nil (.seq none .nil (.seq none (.seq none .nil (.one (.loop ⟨[2, 5, 6, 29, 30], [(31, (.b (.int .i64)))]⟩ (.seq none .nil (.seq none (.cond .nil .nil) (.seq (some ⟨[2, 5, 6, 29, 30, 31], []⟩) (.one (.seq none .nil (.seq (some ⟨[2, 5, 6, 7, 8, 29, 30, 31], []⟩) (.seq none .nil (.cond (.seq none .nil .nil) .nil)) (.seq none .nil (.seq none (.seq none .nil (.one (.loop ⟨[2, 5, 6, 7, 29, 30, 31, 50, 51], [(9, (.b .bool)), (52, (.b (.int .i64)))]⟩ (.seq none .nil (.seq none (.cond .nil .nil) (.seq (some ⟨[2, 5, 6, 7, 29, 30, 31, 50, 51, 52], [(9, (.b .bool))]⟩) (.one (.seq none .nil (.seq none .nil (.seq none (.seq none .nil (.cond (.seq none .nil .nil) .nil)) .nil)))) .nil)))))) (.seq (some ⟨[2, 7], []⟩) (.seq none .nil (.cond .nil .nil)) (.seq none .nil .nil))))))) .nil)))))) (.seq none .nil .nil)))))))))
def L_ids_Check (p0 : (Int × Int × Sl × Unit)) (R : Value → World → Prop) (w : World) : Prop :=
 Nw (w.alloc (.cells #[(.int .u32 p0.1), (.int .u32 p0.2.1), (.slice p0.2.2.1.a p0.2.2.1.l p0.2.2.1.c)] 25)) fun w1 =>
 Nw (w1.alloc (.cells #[(.int .i64 (0 : Int)), (.int .i64 (0 : Int))] 33)) fun w2 =>
 ldI w2 ((blk w.heap.size).add 0) .u32 fun x1 =>
 ldI w2 ((blk w.heap.size).add 1) .u32 fun x2 =>
 ldS w2 ((blk w.heap.size).add 2) fun x3 =>
 callR Tryz.prog 100 #[(.agg #[(.int .u32 x1), (.int .u32 x2), (.slice x3.a x3.l x3.c)])] w2 fun v4 w3 =>
 ∃ x5 : (Int × Int × Int × Int × Int × Int × Int × Int × Int × Int × Int × Int × Int × Int × Int × Int × Int × Int × Int × Int × Unit), ∃ x6 : (Int × Int × Unit), v4 = (.tuple #[(.agg #[(.int .i64 x5.1), (.int .i64 x5.2.1), (.int .i64 x5.2.2.1), (.int .i64 x5.2.2.2.1), (.int .i64 x5.2.2.2.2.1), (.int .i64 x5.2.2.2.2.2.1), (.int .i64 x5.2.2.2.2.2.2.1), (.int .i64 x5.2.2.2.2.2.2.2.1), (.int .i64 x5.2.2.2.2.2.2.2.2.1), (.int .i64 x5.2.2.2.2.2.2.2.2.2.1), (.int .i64 x5.2.2.2.2.2.2.2.2.2.2.1), (.int .i64 x5.2.2.2.2.2.2.2.2.2.2.2.1), (.int .i64 x5.2.2.2.2.2.2.2.2.2.2.2.2.1), (.int .i64 x5.2.2.2.2.2.2.2.2.2.2.2.2.2.1), (.int .i64 x5.2.2.2.2.2.2.2.2.2.2.2.2.2.2.1), (.int .i64 x5.2.2.2.2.2.2.2.2.2.2.2.2.2.2.2.1), (.int .i64 x5.2.2.2.2.2.2.2.2.2.2.2.2.2.2.2.2.1), (.int .i64 x5.2.2.2.2.2.2.2.2.2.2.2.2.2.2.2.2.2.1), (.int .i64 x5.2.2.2.2.2.2.2.2.2.2.2.2.2.2.2.2.2.2.1), (.int .i64 x5.2.2.2.2.2.2.2.2.2.2.2.2.2.2.2.2.2.2.2.1)]), (.agg #[(.int .i64 x6.1), (.int .i64 x6.2.1)])]) ∧
 Nw (w3.alloc (.cells (List.toArray (List.replicate 20 (.int .i64 (0 : Int)))) 143)) fun w4 =>
 Nw (w4.alloc (.cells #[(.int .i64 (0 : Int)), (.int .i64 (0 : Int))] 33)) fun w5 =>
 Wr w5 (blk w3.heap.size) ∧
 Nw (w5.setCell (blk w3.heap.size) (.int .i64 x5.1)) fun w6 =>
 Wr w6 ((blk w3.heap.size).add 1) ∧
 Nw (w6.setCell ((blk w3.heap.size).add 1) (.int .i64 x5.2.1)) fun w7 =>
 Wr w7 ((blk w3.heap.size).add 2) ∧
 Nw (w7.setCell ((blk w3.heap.size).add 2) (.int .i64 x5.2.2.1)) fun w8 =>
 Wr w8 ((blk w3.heap.size).add 3) ∧
 Nw (w8.setCell ((blk w3.heap.size).add 3) (.int .i64 x5.2.2.2.1)) fun w9 =>
 Wr w9 ((blk w3.heap.size).add 4) ∧
 Nw (w9.setCell ((blk w3.heap.size).add 4) (.int .i64 x5.2.2.2.2.1)) fun w10 =>
 Wr w10 ((blk w3.heap.size).add 5) ∧
 Nw (w10.setCell ((blk w3.heap.size).add 5) (.int .i64 x5.2.2.2.2.2.1)) fun w11 =>
 Wr w11 ((blk w3.heap.size).add 6) ∧
 Nw (w11.setCell ((blk w3.heap.size).add 6) (.int .i64 x5.2.2.2.2.2.2.1)) fun w12 =>
 Wr w12 ((blk w3.heap.size).add 7) ∧
 Nw (w12.setCell ((blk w3.heap.size).add 7) (.int .i64 x5.2.2.2.2.2.2.2.1)) fun w13 =>
 Wr w13 ((blk w3.heap.size).add 8) ∧
 Nw (w13.setCell ((blk w3.heap.size).add 8) (.int .i64 x5.2.2.2.2.2.2.2.2.1)) fun w14 =>
 Wr w14 ((blk w3.heap.size).add 9) ∧
 Nw (w14.setCell ((blk w3.heap.size).add 9) (.int .i64 x5.2.2.2.2.2.2.2.2.2.1)) fun w15 =>
 Wr w15 ((blk w3.heap.size).add 10) ∧
 Nw (w15.setCell ((blk w3.heap.size).add 10) (.int .i64 x5.2.2.2.2.2.2.2.2.2.2.1)) fun w16 =>
 Wr w16 ((blk w3.heap.size).add 11) ∧
 Nw (w16.setCell ((blk w3.heap.size).add 11) (.int .i64 x5.2.2.2.2.2.2.2.2.2.2.2.1)) fun w17 =>
 Wr w17 ((blk w3.heap.size).add 12) ∧
 Nw (w17.setCell ((blk w3.heap.size).add 12) (.int .i64 x5.2.2.2.2.2.2.2.2.2.2.2.2.1)) fun w18 =>
 Wr w18 ((blk w3.heap.size).add 13) ∧
 Nw (w18.setCell ((blk w3.heap.size).add 13) (.int .i64 x5.2.2.2.2.2.2.2.2.2.2.2.2.2.1)) fun w19 =>
 Wr w19 ((blk w3.heap.size).add 14) ∧
 Nw (w19.setCell ((blk w3.heap.size).add 14) (.int .i64 x5.2.2.2.2.2.2.2.2.2.2.2.2.2.2.1)) fun w20 =>
 Wr w20 ((blk w3.heap.size).add 15) ∧
 Nw (w20.setCell ((blk w3.heap.size).add 15) (.int .i64 x5.2.2.2.2.2.2.2.2.2.2.2.2.2.2.2.1)) fun w21 =>
 Wr w21 ((blk w3.heap.size).add 16) ∧
 Nw (w21.setCell ((blk w3.heap.size).add 16) (.int .i64 x5.2.2.2.2.2.2.2.2.2.2.2.2.2.2.2.2.1)) fun w22 =>
 Wr w22 ((blk w3.heap.size).add 17) ∧
 Nw (w22.setCell ((blk w3.heap.size).add 17) (.int .i64 x5.2.2.2.2.2.2.2.2.2.2.2.2.2.2.2.2.2.1)) fun w23 =>
 Wr w23 ((blk w3.heap.size).add 18) ∧
 Nw (w23.setCell ((blk w3.heap.size).add 18) (.int .i64 x5.2.2.2.2.2.2.2.2.2.2.2.2.2.2.2.2.2.2.1)) fun w24 =>
 Wr w24 ((blk w3.heap.size).add 19) ∧
 Nw (w24.setCell ((blk w3.heap.size).add 19) (.int .i64 x5.2.2.2.2.2.2.2.2.2.2.2.2.2.2.2.2.2.2.2.1)) fun w25 =>
 Wr w25 (blk w4.heap.size) ∧
 Nw (w25.setCell (blk w4.heap.size) (.int .i64 x6.1)) fun w26 =>
 Wr w26 ((blk w4.heap.size).add 1) ∧
 Nw (w26.setCell ((blk w4.heap.size).add 1) (.int .i64 x6.2.1)) fun w27 =>
 ldI w27 (blk w4.heap.size) .i64 fun x7 =>
 ifB (x7 != (0 : Int))
 (ldI w27 ((blk w4.heap.size).add 0) .i64 fun x8 =>
 ldI w27 ((blk w4.heap.size).add 1) .i64 fun x9 =>
 Wr w27 (blk w1.heap.size) ∧
 Nw (w27.setCell (blk w1.heap.size) (.int .i64 x8)) fun w28 =>
 Wr w28 ((blk w1.heap.size).add 1) ∧
 Nw (w28.setCell ((blk w1.heap.size).add 1) (.int .i64 x9)) fun w29 =>
 ldI w29 ((blk w1.heap.size).add 0) .i64 fun x10 =>
 ldI w29 ((blk w1.heap.size).add 1) .i64 fun x11 =>
 R (.agg #[(.int .i64 x10), (.int .i64 x11)]) w29)
 (ldS w27 ((blk w.heap.size).add 2) fun x12 =>
 callR Tryz.prog 101 #[(.slice x12.a x12.l x12.c)] w27 fun v13 w30 =>
 ∃ x14 : Option Nat, v13 = (.map x14) ∧
 (0 ≤ (7 : Int) ∧ (7 : Int) < (10 : Int)) ∧
 ldI w30 (((blk w3.heap.size).add (7 * 2)).add 0) .i64 fun x15 =>
 ldI w30 (((blk w3.heap.size).add (7 * 2)).add 1) .i64 fun x16 =>
 Nw (w30.alloc (.cells #[(.int .i64 (0 : Int)), (.int .i64 (0 : Int))] 142)) fun w31 =>
 Wr w31 (blk w30.heap.size) ∧
 Nw (w31.setCell (blk w30.heap.size) (.int .i64 x15)) fun w32 =>
 Wr w32 ((blk w30.heap.size).add 1) ∧
 Nw (w32.setCell ((blk w30.heap.size).add 1) (.int .i64 x16)) fun w33 =>
 ldS w33 ((blk w.heap.size).add 2) fun x17 =>
 LoopW (S := Int × Unit) (fun s18 w34 n19 =>
 ifB (decide (s18.1 < (x17.l : Int)))
 (JoinW (S := Unit) (fun m20 =>
 (0 ≤ s18.1 ∧ s18.1 < (x17.l : Int)) ∧
 derefP x17.a fun a22 =>
 ldI w34 ((a22.add ((Int.toNat s18.1) * 4)).add 0) .u16 fun x23 =>
 ldI w34 ((a22.add ((Int.toNat s18.1) * 4)).add 1) .u32 fun x24 =>
 ldI w34 ((a22.add ((Int.toNat s18.1) * 4)).add 2) .u32 fun x25 =>
 ldS w34 ((a22.add ((Int.toNat s18.1) * 4)).add 3) fun x26 =>
 Nw (w34.alloc (.cells #[(.int .u16 (0 : Int)), (.int .u32 (0 : Int)), (.int .u32 (0 : Int)), (.slice none 0 0)] 41)) fun w35 =>
 Wr w35 (blk w34.heap.size) ∧
 Nw (w35.setCell (blk w34.heap.size) (.int .u16 x23)) fun w36 =>
 Wr w36 ((blk w34.heap.size).add 1) ∧
 Nw (w36.setCell ((blk w34.heap.size).add 1) (.int .u32 x24)) fun w37 =>
 Wr w37 ((blk w34.heap.size).add 2) ∧
 Nw (w37.setCell ((blk w34.heap.size).add 2) (.int .u32 x25)) fun w38 =>
 Wr w38 ((blk w34.heap.size).add 3) ∧
 Nw (w38.setCell ((blk w34.heap.size).add 3) (.slice x26.a x26.l x26.c)) fun w39 =>
 JoinW (S := Unit) (fun m27 =>
 ldI w39 ((blk w34.heap.size).add 2) .u32 fun x29 =>
 ifB (x29 != (0 : Int))
 (ldI w39 ((blk w34.heap.size).add 2) .u32 fun x30 =>
 lookV Tryz.prog 99 (.map x14) (.int .u32 x30) (BK.int .i64) w39 fun (x31 : Int) =>
 ifB (decide (x31 < s18.1))
 (Wr w39 (blk w1.heap.size) ∧
 Nw (w39.setCell (blk w1.heap.size) (.int .i64 (90 : Int))) fun w40 =>
 Wr w40 ((blk w1.heap.size).add 1) ∧
 Nw (w40.setCell ((blk w1.heap.size).add 1) (.int .i64 s18.1)) fun w41 =>
 ldI w41 ((blk w1.heap.size).add 0) .i64 fun x32 =>
 ldI w41 ((blk w1.heap.size).add 1) .i64 fun x33 =>
 R (.agg #[(.int .i64 x32), (.int .i64 x33)]) w41)
 (m27 (()) w39))
 (m27 (()) w39))
 (fun s28 w42 =>
 ldI w42 ((blk w34.heap.size).add 0) .u16 fun x34 =>
 ldI w42 ((blk w34.heap.size).add 1) .u32 fun x35 =>
 ldI w42 ((blk w34.heap.size).add 2) .u32 fun x36 =>
 ldS w42 ((blk w34.heap.size).add 3) fun x37 =>
 callR Tryz.prog 102 #[(.agg #[(.int .u16 x34), (.int .u32 x35), (.int .u32 x36), (.slice x37.a x37.l x37.c)])] w42 fun v38 w43 =>
 ∃ x39 : Sl, v38 = (.slice x39.a x39.l x39.c) ∧
 LoopW (S := Bool × Int × Unit) (fun s40 w44 n41 =>
 ifB (decide (s40.2.1 < (x39.l : Int)))
 (JoinW (S := Bool × Unit) (fun m42 =>
 (0 ≤ s40.2.1 ∧ s40.2.1 < (x39.l : Int)) ∧
 derefP x39.a fun a44 =>
 ldI w44 (a44.add (Int.toNat s40.2.1)) .u32 fun x45 =>
 lookOk Tryz.prog 99 (.map x14) (.int .u32 x45) (BK.int .i64) w44 fun (x46 : Int) (b47 : Bool) =>
 ifB (!b47)
 (Wr w44 (blk w1.heap.size) ∧
 Nw (w44.setCell (blk w1.heap.size) (.int .i64 (91 : Int))) fun w45 =>
 Wr w45 ((blk w1.heap.size).add 1) ∧
 Nw (w45.setCell ((blk w1.heap.size).add 1) (.int .i64 s18.1)) fun w46 =>
 ldI w46 ((blk w1.heap.size).add 0) .i64 fun x48 =>
 ldI w46 ((blk w1.heap.size).add 1) .i64 fun x49 =>
 R (.agg #[(.int .i64 x48), (.int .i64 x49)]) w46)
 (ifB s40.1
 (m42 (true, ()) w44)
 (m42 ((decide (x46 ≥ s18.1)), ()) w44)))
 (fun s43 w47 =>
 n41 (s43.1, (IntKind.i64.wrap (s40.2.1 + (1 : Int))), ()) w47))
 (JoinW (S := Unit) (fun m50 =>
 ifB (!s40.1)
 (m20 (()) w44)
 (ldI w44 (blk w30.heap.size) .i64 fun x52 =>
 ifB (decide (s18.1 < x52))
 (m20 (()) w44)
 (ldI w44 ((blk w30.heap.size).add 1) .i64 fun x53 =>
 ifB (decide (s18.1 ≥ x53))
 (m20 (()) w44)
 (m50 (()) w44))))
 (fun s51 w48 =>
 Wr w48 (blk w1.heap.size) ∧
 Nw (w48.setCell (blk w1.heap.size) (.int .i64 (92 : Int))) fun w49 =>
 Wr w49 ((blk w1.heap.size).add 1) ∧
 Nw (w49.setCell ((blk w1.heap.size).add 1) (.int .i64 s18.1)) fun w50 =>
 ldI w50 ((blk w1.heap.size).add 0) .i64 fun x54 =>
 ldI w50 ((blk w1.heap.size).add 1) .i64 fun x55 =>
 R (.agg #[(.int .i64 x54), (.int .i64 x55)]) w50)))
 (false, (0 : Int), ()) w43))
 (fun s21 w51 =>
 n19 ((IntKind.i64.wrap (s18.1 + (1 : Int))), ()) w51))
 (Wr w34 (blk w1.heap.size) ∧
 Nw (w34.setCell (blk w1.heap.size) (.int .i64 (0 : Int))) fun w52 =>
 Wr w52 ((blk w1.heap.size).add 1) ∧
 Nw (w52.setCell ((blk w1.heap.size).add 1) (.int .i64 (0 : Int))) fun w53 =>
 ldI w53 ((blk w1.heap.size).add 0) .i64 fun x56 =>
 ldI w53 ((blk w1.heap.size).add 1) .i64 fun x57 =>
 R (.agg #[(.int .i64 x56), (.int .i64 x57)]) w53))
 ((0 : Int), ()) w33)
theorem ids_Check_calls (p0 : (Int × Int × Sl × Unit)) (R : Value → World → Prop) (w : World) (h : L_ids_Check p0 R w) : Calls Tryz.prog 44 #[(.agg #[(.int .u32 p0.1), (.int .u32 p0.2.1), (.slice p0.2.2.1.a p0.2.2.1.l p0.2.2.1.c)])] w (Ret R) :=
 lw_calls (fs := Tryz.fs) (an := a_ids_Check) (args := [(.agg #[(.int .u32 p0.1), (.int .u32 p0.2.1), (.slice p0.2.2.1.a p0.2.2.1.l p0.2.2.1.c)])]) Tryz.fsOK Tryz.mixed Tryz.func44 (by kernel_rfl) (by kernel_rfl)
 (Eq.mpr (by kernel_rfl : lwFn Tryz.prog Tryz.fs Tryz.f44 a_ids_Check [(.agg #[(.int .u32 p0.1), (.int .u32 p0.2.1), (.slice p0.2.2.1.a p0.2.2.1.l p0.2.2.1.c)])] w R = L_ids_Check p0 R w) h)

/-- intaglio.ids.turned -/
def a_ids_turned : Ann := (.seq none .nil (.seq none .nil (.seq none (.seq none .nil (.one (.loop ⟨[1, 2, 4, 15, 16], [(5, (.b .slice)), (17, (.b (.int .i64)))]⟩ (.seq none .nil (.seq none (.cond .nil .nil) (.seq none (.one (.seq none .nil (.seq none .nil (.seq none (.seq none .nil (.one (.loop ⟨[1, 2, 4, 5, 7, 15, 16, 17, 36, 37], [(38, (.b (.int .i64)))]⟩ (.seq none .nil (.seq none (.cond .nil .nil) (.seq (some ⟨[1, 2, 4, 5, 7, 15, 16, 17, 36, 37, 38], []⟩) (.one (.seq none .nil (.seq none .nil (.cond .nil .nil)))) .nil)))))) .nil)))) .nil)))))) (.seq none .nil (.seq none .nil .nil)))))
def L_ids_turned (p0 : (Int × Int × Sl × Unit)) (p1 : Value) (R : Value → World → Prop) (w : World) : Prop :=
 Nw (w.alloc (.cells #[(.int .u32 p0.1), (.int .u32 p0.2.1), (.slice p0.2.2.1.a p0.2.2.1.l p0.2.2.1.c)] 25)) fun w1 =>
 Nw (w1.alloc (.cells #[(.int .u32 (0 : Int)), (.int .u32 (0 : Int)), (.slice none 0 0)] 25)) fun w2 =>
 ldS w2 ((blk w.heap.size).add 2) fun x1 =>
 (0 ≤ (0 : Int) ∧ (0 : Int) ≤ (x1.l : Int) ∧ (40 : Int) * (x1.l : Int) ≤ 281474976710656 ∧ (x1.l : Int) ≤ 9223372036854775807) ∧
 Nw (w2.alloc (.cells (madeCells #[(.int .u16 (0 : Int)), (.int .u32 (0 : Int)), (.int .u32 (0 : Int)), (.slice none 0 0)] (x1.l * 4)) 41)) fun w3 =>
 ldS w3 ((blk w.heap.size).add 2) fun x2 =>
 LoopW (S := Sl × Int × Unit) (fun s3 w4 n4 =>
 ifB (decide (s3.2.1 < (x2.l : Int)))
 ((0 ≤ s3.2.1 ∧ s3.2.1 < (x2.l : Int)) ∧
 derefP x2.a fun a5 =>
 ldI w4 ((a5.add ((Int.toNat s3.2.1) * 4)).add 0) .u16 fun x6 =>
 ldI w4 ((a5.add ((Int.toNat s3.2.1) * 4)).add 1) .u32 fun x7 =>
 ldI w4 ((a5.add ((Int.toNat s3.2.1) * 4)).add 2) .u32 fun x8 =>
 ldS w4 ((a5.add ((Int.toNat s3.2.1) * 4)).add 3) fun x9 =>
 Nw (w4.alloc (.cells #[(.int .u16 (0 : Int)), (.int .u32 (0 : Int)), (.int .u32 (0 : Int)), (.slice none 0 0)] 41)) fun w5 =>
 Wr w5 (blk w4.heap.size) ∧
 Nw (w5.setCell (blk w4.heap.size) (.int .u16 x6)) fun w6 =>
 Wr w6 ((blk w4.heap.size).add 1) ∧
 Nw (w6.setCell ((blk w4.heap.size).add 1) (.int .u32 x7)) fun w7 =>
 Wr w7 ((blk w4.heap.size).add 2) ∧
 Nw (w7.setCell ((blk w4.heap.size).add 2) (.int .u32 x8)) fun w8 =>
 Wr w8 ((blk w4.heap.size).add 3) ∧
 Nw (w8.setCell ((blk w4.heap.size).add 3) (.slice x9.a x9.l x9.c)) fun w9 =>
 ldI w9.drew ((blk w4.heap.size).add 1) .u32 fun x10 =>
 ldI w9.drew ((blk w4.heap.size).add 2) .u32 fun x11 =>
 ldS w9.drew ((blk w4.heap.size).add 3) fun x12 =>
 callV Tryz.prog Tryz.fs p1 [(.int .u32 x10)] w9.drew fun v13 w10 =>
 ∃ x14 : Int, v13 = (.int .u32 x14) ∧
 w10.cell? ((blk w4.heap.size).add 3) = some (.slice x12.a x12.l x12.c) ∧
 w10.cell? ((blk w4.heap.size).add 2) = some (.int .u32 x11) ∧
 callV Tryz.prog Tryz.fs p1 [(.int .u32 x11)] w10 fun v15 w11 =>
 ∃ x16 : Int, v15 = (.int .u32 x16) ∧
 w11.cell? ((blk w4.heap.size).add 3) = some (.slice x12.a x12.l x12.c) ∧
 callR Tryz.prog 110 #[(.slice x12.a x12.l x12.c)] w11 fun v17 w12 =>
 ∃ x18 : Sl, v17 = (.slice x18.a x18.l x18.c) ∧
 Wr w12 ((blk w4.heap.size).add 1) ∧
 Nw (w12.setCell ((blk w4.heap.size).add 1) (.int .u32 x14)) fun w13 =>
 Wr w13 ((blk w4.heap.size).add 2) ∧
 Nw (w13.setCell ((blk w4.heap.size).add 2) (.int .u32 x16)) fun w14 =>
 Wr w14 ((blk w4.heap.size).add 3) ∧
 Nw (w14.setCell ((blk w4.heap.size).add 3) (.slice x18.a x18.l x18.c)) fun w15 =>
 ldS w15 ((blk w4.heap.size).add 3) fun x19 =>
 LoopW (S := Int × Unit) (fun s20 w16 n21 =>
 ifB (decide (s20.1 < (x19.l : Int)))
 (JoinW (S := Unit) (fun m22 =>
 (0 ≤ s20.1 ∧ s20.1 < (x19.l : Int)) ∧
 derefP x19.a fun a24 =>
 ldI w16 ((a24.add ((Int.toNat s20.1) * 3)).add 0) .u8 fun x25 =>
 ldI w16 ((a24.add ((Int.toNat s20.1) * 3)).add 1) .u32 fun x26 =>
 ldStr w16 ((a24.add ((Int.toNat s20.1) * 3)).add 2) fun x27 =>
 Nw (w16.alloc (.cells #[(.int .u8 (0 : Int)), (.int .u32 (0 : Int)), (.string (ByteArray.mk #[]))] 61)) fun w17 =>
 Wr w17 (blk w16.heap.size) ∧
 Nw (w17.setCell (blk w16.heap.size) (.int .u8 x25)) fun w18 =>
 Wr w18 ((blk w16.heap.size).add 1) ∧
 Nw (w18.setCell ((blk w16.heap.size).add 1) (.int .u32 x26)) fun w19 =>
 Wr w19 ((blk w16.heap.size).add 2) ∧
 Nw (w19.setCell ((blk w16.heap.size).add 2) (.string x27)) fun w20 =>
 ldI w20 (blk w16.heap.size) .u8 fun x28 =>
 ifB (x28 == (1 : Int))
 (ldS w20.drew ((blk w4.heap.size).add 3) fun x29 =>
 ldI w20.drew ((blk w16.heap.size).add 1) .u32 fun x30 =>
 callV Tryz.prog Tryz.fs p1 [(.int .u32 x30)] w20.drew fun v31 w21 =>
 ∃ x32 : Int, v31 = (.int .u32 x32) ∧
 w21.cell? ((blk w4.heap.size).add 3) = some (.slice x29.a x29.l x29.c) ∧
 (0 ≤ s20.1 ∧ s20.1 < (x29.l : Int)) ∧
 derefP x29.a fun a33 =>
 Wr w21 ((a33.add ((Int.toNat s20.1) * 3)).add 1) ∧
 Nw (w21.setCell ((a33.add ((Int.toNat s20.1) * 3)).add 1) (.int .u32 x32)) fun w22 =>
 m22 (()) w22)
 (m22 (()) w20))
 (fun s23 w23 =>
 n21 ((IntKind.i64.wrap (s20.1 + (1 : Int))), ()) w23))
 (ldI w16 ((blk w4.heap.size).add 0) .u16 fun x34 =>
 ldI w16 ((blk w4.heap.size).add 1) .u32 fun x35 =>
 ldI w16 ((blk w4.heap.size).add 2) .u32 fun x36 =>
 ldS w16 ((blk w4.heap.size).add 3) fun x37 =>
 Nw (w16.alloc (.cells #[(.int .u16 x34), (.int .u32 x35), (.int .u32 x36), (.slice x37.a x37.l x37.c)] 41)) fun w24 =>
 appendS Tryz.prog 23 (.slice s3.1.a s3.1.l s3.1.c) (.slice (some (blk w16.heap.size)) 1 1) w24 fun r38 w25 =>
 n4 (r38, (IntKind.i64.wrap (s3.2.1 + (1 : Int))), ()) w25))
 ((0 : Int), ()) w15)
 (Wr w4 ((blk w.heap.size).add 2) ∧
 Nw (w4.setCell ((blk w.heap.size).add 2) (.slice s3.1.a s3.1.l s3.1.c)) fun w26 =>
 ldI w26 ((blk w.heap.size).add 0) .u32 fun x39 =>
 ldI w26 ((blk w.heap.size).add 1) .u32 fun x40 =>
 ldS w26 ((blk w.heap.size).add 2) fun x41 =>
 Wr w26 (blk w1.heap.size) ∧
 Nw (w26.setCell (blk w1.heap.size) (.int .u32 x39)) fun w27 =>
 Wr w27 ((blk w1.heap.size).add 1) ∧
 Nw (w27.setCell ((blk w1.heap.size).add 1) (.int .u32 x40)) fun w28 =>
 Wr w28 ((blk w1.heap.size).add 2) ∧
 Nw (w28.setCell ((blk w1.heap.size).add 2) (.slice x41.a x41.l x41.c)) fun w29 =>
 ldI w29 ((blk w1.heap.size).add 0) .u32 fun x42 =>
 ldI w29 ((blk w1.heap.size).add 1) .u32 fun x43 =>
 ldS w29 ((blk w1.heap.size).add 2) fun x44 =>
 R (.agg #[(.int .u32 x42), (.int .u32 x43), (.slice x44.a x44.l x44.c)]) w29))
 ((Sl.mk (some (blk w2.heap.size)) 0 x1.l), (0 : Int), ()) w3
theorem ids_turned_calls (p0 : (Int × Int × Sl × Unit)) (p1 : Value) (R : Value → World → Prop) (w : World) (h : L_ids_turned p0 p1 R w) : Calls Tryz.prog 53 #[(.agg #[(.int .u32 p0.1), (.int .u32 p0.2.1), (.slice p0.2.2.1.a p0.2.2.1.l p0.2.2.1.c)]), p1] w (Ret R) :=
 lw_calls (fs := Tryz.fs) (an := a_ids_turned) (args := [(.agg #[(.int .u32 p0.1), (.int .u32 p0.2.1), (.slice p0.2.2.1.a p0.2.2.1.l p0.2.2.1.c)]), p1]) Tryz.fsOK Tryz.mixed Tryz.func53 (by kernel_rfl) (by kernel_rfl)
 (Eq.mpr (by kernel_rfl : lwFn Tryz.prog Tryz.fs Tryz.f53 a_ids_turned [(.agg #[(.int .u32 p0.1), (.int .u32 p0.2.1), (.slice p0.2.2.1.a p0.2.2.1.l p0.2.2.1.c)]), p1] w R = L_ids_turned p0 p1 R w) h)

/-- slices.Clone[[]intaglio.api.Arg,intaglio.api.Arg] -/
def a_slices_Clone_sapi_Arg_api_Arg : Ann := (.seq none .nil (.seq none (.seq none .nil (.cond (.seq none .nil .nil) .nil)) (.seq none .nil .nil)))
def L_slices_Clone_sapi_Arg_api_Arg (p0 : Sl) (R : Value → World → Prop) (w : World) : Prop :=
 ifB (Option.isNone p0.a)
 (R (.slice none 0 0) w)
 (Nw (w.alloc (.cells #[] 61)) fun w1 =>
 appendS Tryz.prog 39 (.slice (some (blk w.heap.size)) 0 0) (.slice p0.a p0.l p0.c) w1 fun r1 w2 =>
 R (.slice r1.a r1.l r1.c) w2)
theorem slices_Clone_sapi_Arg_api_Arg_calls (p0 : Sl) (R : Value → World → Prop) (w : World) (h : L_slices_Clone_sapi_Arg_api_Arg p0 R w) : Calls Tryz.prog 110 #[(.slice p0.a p0.l p0.c)] w (Ret R) :=
 lw_calls (fs := Tryz.fs) (an := a_slices_Clone_sapi_Arg_api_Arg) (args := [(.slice p0.a p0.l p0.c)]) Tryz.fsOK Tryz.mixed Tryz.func110 (by kernel_rfl) (by kernel_rfl)
 (Eq.mpr (by kernel_rfl : lwFn Tryz.prog Tryz.fs Tryz.f110 a_slices_Clone_sapi_Arg_api_Arg [(.slice p0.a p0.l p0.c)] w R = L_slices_Clone_sapi_Arg_api_Arg p0 R w) h)

end Go.Proofs
namespace Go.Proofs
open Go.Gk
set_option linter.unusedVariables false
set_option maxRecDepth 100000

/-- intaglio.ids.makers -/
def a_ids_makers : Ann := (.seq none .nil (.seq none .nil (.seq none (.seq none .nil (.one (.loop ⟨[], [(9, (.b (.int .i64))), (10, (.agg [(.int .u16), (.int .u32), (.int .u32), .slice]))]⟩ (.seq none (.seq none .nil .nil) (.one (.seq none .nil (.cond .nil .nil))))))) (.seq none .nil .nil))))
def L_ids_makers (p0 : Sl) (R : Value → World → Prop) (w : World) : Prop :=
 Nw (w.alloc (.map #[] 0)) fun w1 =>
 Nw (w1.alloc (.cells #[(.map none)] 99)) fun w2 =>
 Wr w2 (blk w1.heap.size) ∧
 Nw (w2.setCell (blk w1.heap.size) (.map (some w.heap.size))) fun w3 =>
 callR Tryz.prog 139 #[(.slice p0.a p0.l p0.c)] w3 fun v1 w4 =>
 ∃ x2 : Value, v1 = x2 ∧
 RangeW Tryz.prog Tryz.fs x2 w4 (T := Int × (Int × Int × Int × Sl × Unit) × Unit) (fun s3 => [(.int .i64 s3.1), (.agg #[(.int .u16 s3.2.1.1), (.int .u32 s3.2.1.2.1), (.int .u32 s3.2.1.2.2.1), (.slice s3.2.1.2.2.2.1.a s3.2.1.2.2.2.1.l s3.2.1.2.2.2.1.c)])])
 (fun mk4 l5 s3 w5 S6 =>
 Nw (w5.alloc (.cells #[(.int .u16 (0 : Int)), (.int .u32 (0 : Int)), (.int .u32 (0 : Int)), (.slice none 0 0)] 41)) fun w6 =>
 Wr w6 (blk w5.heap.size) ∧
 Nw (w6.setCell (blk w5.heap.size) (.int .u16 s3.2.1.1)) fun w7 =>
 Wr w7 ((blk w5.heap.size).add 1) ∧
 Nw (w7.setCell ((blk w5.heap.size).add 1) (.int .u32 s3.2.1.2.1)) fun w8 =>
 Wr w8 ((blk w5.heap.size).add 2) ∧
 Nw (w8.setCell ((blk w5.heap.size).add 2) (.int .u32 s3.2.1.2.2.1)) fun w9 =>
 Wr w9 ((blk w5.heap.size).add 3) ∧
 Nw (w9.setCell ((blk w5.heap.size).add 3) (.slice s3.2.1.2.2.2.1.a s3.2.1.2.2.2.1.l s3.2.1.2.2.2.1.c)) fun w10 =>
 w10.heap[l5]? = some (mk4 .ready none) ∧
 Nw (w10.putObj l5 (mk4 .busy none)) fun w11 =>
 ldI w11 ((blk w5.heap.size).add 2) .u32 fun x8 =>
 ifB (x8 != (0 : Int))
 (ldM w11 (blk w1.heap.size) fun x9 =>
 ldI w11 ((blk w5.heap.size).add 2) .u32 fun x10 =>
 updW Tryz.prog 99 (.map x9) (.int .u32 x10) (.int .i64 s3.1) w11 fun w12 =>
 w12.heap[l5]? = some (mk4 .busy none) ∧
 S6 (.bool true) (w12.putObj l5 (mk4 .ready none)))
 (w11.heap[l5]? = some (mk4 .busy none) ∧
 S6 (.bool true) (w11.putObj l5 (mk4 .ready none))))
 (fun mk4 l5 d7 w13 =>
 rangeOut mk4 l5 .ready none w13 fun w14 =>
 ldM w14 (blk w1.heap.size) fun x11 =>
 closeM (d7 :: []) w14 fun w15 =>
 R (.map x11) w15)
theorem ids_makers_calls (p0 : Sl) (R : Value → World → Prop) (w : World) (h : L_ids_makers p0 R w) : Calls Tryz.prog 101 #[(.slice p0.a p0.l p0.c)] w (Ret R) :=
 lwR_calls (fs := Tryz.fs) (an := a_ids_makers) (args := [(.slice p0.a p0.l p0.c)]) Tryz.fsOK Tryz.mixed Tryz.func101 (by kernel_rfl) (by kernel_rfl)
 (Eq.mpr (by kernel_rfl : lwRFn Tryz.prog Tryz.fs Tryz.f101 a_ids_makers [(.slice p0.a p0.l p0.c)] w R = L_ids_makers p0 R w) h)

/-- slices.Backward[[]intaglio.api.Inst,intaglio.api.Inst] -/
def a_slices_Backward_sapi_Inst_api_Inst : Ann := (.seq none .nil (.seq none .nil .nil))
def L_slices_Backward_sapi_Inst_api_Inst (p0 : Sl) (R : Value → World → Prop) (w : World) : Prop :=
 Nw (w.alloc (.cells #[(.slice p0.a p0.l p0.c)] 23)) fun w1 =>
 R (.func (.func 171) #[] #[(.pointer (some (blk w.heap.size)))]) w1
theorem slices_Backward_sapi_Inst_api_Inst_calls (p0 : Sl) (R : Value → World → Prop) (w : World) (h : L_slices_Backward_sapi_Inst_api_Inst p0 R w) : Calls Tryz.prog 139 #[(.slice p0.a p0.l p0.c)] w (Ret R) :=
 lw_calls (fs := Tryz.fs) (an := a_slices_Backward_sapi_Inst_api_Inst) (args := [(.slice p0.a p0.l p0.c)]) Tryz.fsOK Tryz.mixed Tryz.func139 (by kernel_rfl) (by kernel_rfl)
 (Eq.mpr (by kernel_rfl : lwFn Tryz.prog Tryz.fs Tryz.f139 a_slices_Backward_sapi_Inst_api_Inst [(.slice p0.a p0.l p0.c)] w R = L_slices_Backward_sapi_Inst_api_Inst p0 R w) h)

/-- slices.Backward[[]intaglio.api.Inst,intaglio.api.Inst] 1 -/
def a_slices_Backward_sapi_Inst_api_Inst__1 : Ann := (.seq none .nil (.one (.loop ⟨[0, 1], [(3, (.b (.int .i64)))]⟩ (.seq none (.seq none .nil (.cond .nil .nil)) (.seq none (.one (.seq none .nil (.cond .nil .nil))) .nil)))))
def L_slices_Backward_sapi_Inst_api_Inst__1 (p0 : Value) (c0 : Addr) (R : Value → World → Prop) (w : World) : Prop :=
 ldS w c0 fun x1 =>
 LoopW (S := Int × Unit) (fun s2 w1 n3 =>
 ifB (decide (s2.1 ≥ (0 : Int)))
 (ldS w1 c0 fun x4 =>
 (0 ≤ s2.1 ∧ s2.1 < (x4.l : Int)) ∧
 derefP x4.a fun a5 =>
 ldI w1 ((a5.add ((Int.toNat s2.1) * 4)).add 0) .u16 fun x6 =>
 ldI w1 ((a5.add ((Int.toNat s2.1) * 4)).add 1) .u32 fun x7 =>
 ldI w1 ((a5.add ((Int.toNat s2.1) * 4)).add 2) .u32 fun x8 =>
 ldS w1 ((a5.add ((Int.toNat s2.1) * 4)).add 3) fun x9 =>
 callV Tryz.prog Tryz.fs p0 [(.int .i64 s2.1), (.agg #[(.int .u16 x6), (.int .u32 x7), (.int .u32 x8), (.slice x9.a x9.l x9.c)])] w1 fun v10 w2 =>
 ∃ x11 : Bool, v10 = (.bool x11) ∧
 ifB (!x11)
 (R (.tuple #[]) w2)
 (n3 ((IntKind.i64.wrap (s2.1 - (1 : Int))), ()) w2))
 (R (.tuple #[]) w1))
 ((IntKind.i64.wrap ((x1.l : Int) - (1 : Int))), ()) w
theorem slices_Backward_sapi_Inst_api_Inst__1_calls (p0 : Value) (c0 : Addr) (R : Value → World → Prop) (w : World) (h : L_slices_Backward_sapi_Inst_api_Inst__1 p0 c0 R w) : Calls Tryz.prog 171 #[p0, (.pointer (some c0))] w (Ret R) :=
 lw_calls (fs := Tryz.fs) (an := a_slices_Backward_sapi_Inst_api_Inst__1) (args := [p0, (.pointer (some c0))]) Tryz.fsOK Tryz.mixed Tryz.func171 (by kernel_rfl) (by kernel_rfl)
 (Eq.mpr (by kernel_rfl : lwFn Tryz.prog Tryz.fs Tryz.f171 a_slices_Backward_sapi_Inst_api_Inst__1 [p0, (.pointer (some c0))] w R = L_slices_Backward_sapi_Inst_api_Inst__1 p0 c0 R w) h)

end Go.Proofs
namespace Go.Proofs
open Go.Gk
set_option linter.unusedVariables false
set_option maxRecDepth 100000

end Go.Proofs
namespace Go.Proofs
open Go.Gk
set_option linter.unusedVariables false
set_option maxRecDepth 100000

/-- intaglio.intagliokit.CopyModule -/
def a_intagliokit_CopyModule : Ann := (.seq none .nil (.seq none .nil (.seq none (.seq none .nil (.one (.loop ⟨[1, 2, 3], [(4, (.b (.int .i64)))]⟩ (.seq none (.seq none .nil (.cond .nil .nil)) (.seq none (.one .nil) .nil))))) (.seq none .nil (.seq none .nil .nil)))))
def L_intagliokit_CopyModule (p0 : (Int × Int × Sl × Unit)) (R : Value → World → Prop) (w : World) : Prop :=
 Nw (w.alloc (.cells #[(.int .u32 p0.1), (.int .u32 p0.2.1), (.slice p0.2.2.1.a p0.2.2.1.l p0.2.2.1.c)] 25)) fun w1 =>
 Nw (w1.alloc (.cells #[(.int .u32 (0 : Int)), (.int .u32 (0 : Int)), (.slice none 0 0)] 25)) fun w2 =>
 ldS w2 ((blk w.heap.size).add 2) fun x1 =>
 (0 ≤ (x1.l : Int) ∧ (x1.l : Int) ≤ (x1.l : Int) ∧ (40 : Int) * (x1.l : Int) ≤ 281474976710656 ∧ (x1.l : Int) ≤ 9223372036854775807) ∧
 Nw (w2.alloc (.cells (madeCells #[(.int .u16 (0 : Int)), (.int .u32 (0 : Int)), (.int .u32 (0 : Int)), (.slice none 0 0)] (x1.l * 4)) 41)) fun w3 =>
 LoopW (S := Int × Unit) (fun s2 w4 n3 =>
 ldS w4 ((blk w.heap.size).add 2) fun x4 =>
 ifB (decide (s2.1 < (x4.l : Int)))
 (ldS w4 ((blk w.heap.size).add 2) fun x5 =>
 (0 ≤ s2.1 ∧ s2.1 < (x5.l : Int)) ∧
 derefP x5.a fun a6 =>
 ldI w4 ((a6.add ((Int.toNat s2.1) * 4)).add 0) .u16 fun x7 =>
 ldI w4 ((a6.add ((Int.toNat s2.1) * 4)).add 1) .u32 fun x8 =>
 ldI w4 ((a6.add ((Int.toNat s2.1) * 4)).add 2) .u32 fun x9 =>
 ldS w4 ((a6.add ((Int.toNat s2.1) * 4)).add 3) fun x10 =>
 callR Tryz.prog 43 #[(.agg #[(.int .u16 x7), (.int .u32 x8), (.int .u32 x9), (.slice x10.a x10.l x10.c)])] w4 fun v11 w5 =>
 ∃ x12 : (Int × Int × Int × Sl × Unit), v11 = (.agg #[(.int .u16 x12.1), (.int .u32 x12.2.1), (.int .u32 x12.2.2.1), (.slice x12.2.2.2.1.a x12.2.2.2.1.l x12.2.2.2.1.c)]) ∧
 (0 ≤ s2.1 ∧ s2.1 < (x1.l : Int)) ∧
 Wr w5 ((blk w2.heap.size).add ((Int.toNat s2.1) * 4)) ∧
 Nw (w5.setCell ((blk w2.heap.size).add ((Int.toNat s2.1) * 4)) (.int .u16 x12.1)) fun w6 =>
 Wr w6 (((blk w2.heap.size).add ((Int.toNat s2.1) * 4)).add 1) ∧
 Nw (w6.setCell (((blk w2.heap.size).add ((Int.toNat s2.1) * 4)).add 1) (.int .u32 x12.2.1)) fun w7 =>
 Wr w7 (((blk w2.heap.size).add ((Int.toNat s2.1) * 4)).add 2) ∧
 Nw (w7.setCell (((blk w2.heap.size).add ((Int.toNat s2.1) * 4)).add 2) (.int .u32 x12.2.2.1)) fun w8 =>
 Wr w8 (((blk w2.heap.size).add ((Int.toNat s2.1) * 4)).add 3) ∧
 Nw (w8.setCell (((blk w2.heap.size).add ((Int.toNat s2.1) * 4)).add 3) (.slice x12.2.2.2.1.a x12.2.2.2.1.l x12.2.2.2.1.c)) fun w9 =>
 n3 ((IntKind.i64.wrap (s2.1 + (1 : Int))), ()) w9)
 (Wr w4 ((blk w.heap.size).add 2) ∧
 Nw (w4.setCell ((blk w.heap.size).add 2) (.slice (some (blk w2.heap.size)) x1.l x1.l)) fun w10 =>
 ldI w10 ((blk w.heap.size).add 0) .u32 fun x13 =>
 ldI w10 ((blk w.heap.size).add 1) .u32 fun x14 =>
 ldS w10 ((blk w.heap.size).add 2) fun x15 =>
 Wr w10 (blk w1.heap.size) ∧
 Nw (w10.setCell (blk w1.heap.size) (.int .u32 x13)) fun w11 =>
 Wr w11 ((blk w1.heap.size).add 1) ∧
 Nw (w11.setCell ((blk w1.heap.size).add 1) (.int .u32 x14)) fun w12 =>
 Wr w12 ((blk w1.heap.size).add 2) ∧
 Nw (w12.setCell ((blk w1.heap.size).add 2) (.slice x15.a x15.l x15.c)) fun w13 =>
 ldI w13 ((blk w1.heap.size).add 0) .u32 fun x16 =>
 ldI w13 ((blk w1.heap.size).add 1) .u32 fun x17 =>
 ldS w13 ((blk w1.heap.size).add 2) fun x18 =>
 R (.agg #[(.int .u32 x16), (.int .u32 x17), (.slice x18.a x18.l x18.c)]) w13))
 ((0 : Int), ()) w3
theorem intagliokit_CopyModule_calls (p0 : (Int × Int × Sl × Unit)) (R : Value → World → Prop) (w : World) (h : L_intagliokit_CopyModule p0 R w) : Calls Tryz.prog 11 #[(.agg #[(.int .u32 p0.1), (.int .u32 p0.2.1), (.slice p0.2.2.1.a p0.2.2.1.l p0.2.2.1.c)])] w (Ret R) :=
 lw_calls (fs := Tryz.fs) (an := a_intagliokit_CopyModule) (args := [(.agg #[(.int .u32 p0.1), (.int .u32 p0.2.1), (.slice p0.2.2.1.a p0.2.2.1.l p0.2.2.1.c)])]) Tryz.fsOK Tryz.mixed Tryz.func11 (by kernel_rfl) (by kernel_rfl)
 (Eq.mpr (by kernel_rfl : lwFn Tryz.prog Tryz.fs Tryz.f11 a_intagliokit_CopyModule [(.agg #[(.int .u32 p0.1), (.int .u32 p0.2.1), (.slice p0.2.2.1.a p0.2.2.1.l p0.2.2.1.c)])] w R = L_intagliokit_CopyModule p0 R w) h)

end Go.Proofs
namespace Go.Proofs
open Go.Gk Go.RowKit Go.Gm

/-- What CopyModule lays: the instructions at block b, each one's arguments in a block of its own behind. -/
def Cpy (w : World) (b : Nat) (pl : List PI) : Prop :=
  ∃ hs : List Ins, hs.length = pl.length ∧ Blk w b 41 (flat inV hs) ∧ ∀ (j : Nat) (h : j < hs.length) (h' : j < pl.length), ∃ c, b < c ∧ hs[j] = mkIn pl[j] ⟨some (blk c), pl[j].2.2.2.length, pl[j].2.2.2.length⟩ ∧ Blk w c 61 (flat agV pl[j].2.2.2)
theorem Cpy.below {w w' : World} {b : Nat} {pl : List PI} (h : Cpy w b pl) (hb : Below w.heap.size w w') : Cpy w' b pl := by
  obtain ⟨hs, h1, h2, h3⟩ := h
  refine ⟨hs, h1, h2.below hb, fun j hj hj' => ?_⟩
  obtain ⟨c, h4, h5, h6⟩ := h3 j hj hj'
  exact ⟨c, h4, h5, h6.below hb⟩
theorem Cpy.isPl {w : World} {b : Nat} {pl : List PI} (h : Cpy w b pl) (hm : pl.length ≤ 9223372036854775807) (hm' : ∀ p ∈ pl, p.2.2.2.length ≤ 9223372036854775807) : IsPl w ⟨some (blk b), pl.length, pl.length⟩ pl := by
  obtain ⟨hs, h1, h2, h3⟩ := h
  refine ⟨rfl, Nat.le_refl _, hm, (fun h => by cases h), fun a ha k hk => ?_⟩
  cases ha
  obtain ⟨c, h4, h5, h6⟩ := h3 k (by omega) hk
  refine ⟨⟨some (blk c), pl[k].2.2.2.length, pl[k].2.2.2.length⟩, fun j hj => ?_, Blk.isC agV_len (by omega) h6 (hm' _ (List.getElem_mem hk))⟩
  rw [← h5]
  have hg := flat_get inV_len hs k (by omega) j hj
  have hlt : j < (inV (hs[k]'(by omega))).length := hj
  rw [List.getElem?_eq_getElem hlt] at hg ⊢
  exact h2.cell hg
theorem CopyModule_spec {x : Mo} {pl : List PI} {w : World} {R : Value → World → Prop} (hN : IsPl w x.2.2.1 pl) (hp : PlOk pl)
    (hR : ∀ b w', w.heap.size ≤ b → Cpy w' b pl → IsPl w' ⟨some (blk b), pl.length, pl.length⟩ pl → Below w.heap.size w w' → R (moA (x.1, x.2.1, ⟨some (blk b), pl.length, pl.length⟩, ())) w') :
    callR Tryz.prog 11 #[moA x] w R := by
  refine callR.of (intagliokit_CopyModule_calls x R w ?_) fun _ _ h => h
  refine lay_of fun w1 hB1 b1 z1 => ?_
  have hB1 : Blk w1 w.heap.size 25 (moV x) := hB1
  refine lay_of fun w2 hC2 b2 z2 => ?_
  have hC2 : Blk w2 w1.heap.size 25 [.int .u32 0, .int .u32 0, .slice none 0 0] := hC2
  have hB2 := hB1.below b2
  have hl := hN.len
  have h40 := hp.len
  refine hB2.rS (n := 2) rfl ⟨⟨by omega, by omega, by omega, by omega⟩, ?_⟩
  refine lay_of fun w3 hD3 b3 z3 => ?_
  have hb3 := (b1.on b2).on b3
  have hB3 := hB2.below b3
  have hC3 := hC2.below b3
  have hargs : ∀ p ∈ pl, p.2.2.2.length ≤ 9223372036854775807 := fun p h => by have := hp.args p h; omega
  refine LoopW.count pl.length hN.bound (fun k w' => Below w.heap.size w w' ∧ w3.heap.size ≤ w'.heap.size ∧ Blk w' w.heap.size 25 (moV x) ∧ Blk w' w1.heap.size 25 [.int .u32 0, .int .u32 0, .slice none 0 0] ∧
      ∃ (hs : List Ins) (r : List Value), hs.length = k ∧ Blk w' w2.heap.size 41 (flat inV hs ++ r) ∧ r.length = (pl.length - k) * 4 ∧
        ∀ (j : Nat) (h : j < hs.length) (h' : j < pl.length), ∃ c, w2.heap.size < c ∧ hs[j] = mkIn pl[j] ⟨some (blk c), pl[j].2.2.2.length, pl[j].2.2.2.length⟩ ∧ Blk w' c 61 (flat agV pl[j].2.2.2))
    ⟨hb3, Nat.le_refl _, hB3, hC3, [], _, rfl, by simpa [flat] using hD3, by rw [Array.length_toList, size_madeCells, hl]; simp, fun j h _ => by cases h⟩ ?_
  rintro k w4 hk ⟨hb, hz, hB, hC, hs, r, hhl, hD, hr, hrow⟩ next hnext
  refine hB.rS (n := 2) rfl (ifB_dec (fun hlt => ?_) (fun hge => ?_))
  · have hlt : k < pl.length := by dsimp only at hlt; omega
    refine hB.rS (n := 2) rfl (elemPI (hN.below hb) hlt fun t ht => ?_)
    refine CopyInst_spec (x := mkIn pl[k] t) ht (hp.args _ (List.getElem_mem hlt)) fun c w5 hc hA5 hI5 b5 => ⟨mkIn pl[k] ⟨some (blk c), pl[k].2.2.2.length, pl[k].2.2.2.length⟩, rfl, ?_⟩
    have hb5 := hb.on b5
    have hD5 := hD.below b5
    have hB5 := hB.below b5
    have hC5 := hC.below b5
    have s5 := b5.size
    refine ⟨⟨by omega, by dsimp only; omega⟩, ?_⟩
    have hfl : (flat inV hs).length = k * 4 := by rw [flat_length inV_len, hhl]
    obtain ⟨r', hr', e⟩ := set4 (flat inV hs) (cs := r) (m := pl.length - (k + 1)) (by rw [hr]; congr 1; omega) (.int .u16 pl[k].1) (.int .u32 pl[k].2.1) (.int .u32 pl[k].2.2.1) (.slice (some (blk c)) pl[k].2.2.2.length pl[k].2.2.2.length)
    rw [hfl] at e
    have hcl : (flat inV hs ++ r).length = pl.length * 4 := by rw [List.length_append, hfl, hr, ← Nat.add_mul]; congr 1; omega
    dsimp only
    rw [show Int.toNat (k : Int) = k from rfl]
    simp only [add_add']
    have hD1 := hD5.set (k * 4) (.int .u16 pl[k].1)
    have hD2 := hD1.set (k * 4 + 1) (.int .u32 pl[k].2.1)
    have hD3 := hD2.set (k * 4 + 2) (.int .u32 pl[k].2.2.1)
    have hD4 := hD3.set (k * 4 + 3) (.slice (some (blk c)) pl[k].2.2.2.length pl[k].2.2.2.length)
    have c1 := (((Chg.set w2.heap.size (k * 4) w5 (.int .u16 pl[k].1)).trans (Chg.set w2.heap.size (k * 4 + 1) _ (.int .u32 pl[k].2.1))).trans (Chg.set w2.heap.size (k * 4 + 2) _ (.int .u32 pl[k].2.2.1))).trans
      (Chg.set w2.heap.size (k * 4 + 3) _ (.slice (some (blk c)) pl[k].2.2.2.length pl[k].2.2.2.length))
    refine ⟨hD5.wr (by omega), hD1.wr (by rw [List.length_set]; omega), hD2.wr (by rw [List.length_set, List.length_set]; omega), hD3.wr (by rw [List.length_set, List.length_set, List.length_set]; omega), ?_⟩
    refine hnext _ hlt ⟨c1.below hb5 (by omega), by rw [c1.size]; omega, c1.blk hB5 (by omega), c1.blk hC5 (by omega), hs ++ [mkIn pl[k] ⟨some (blk c), pl[k].2.2.2.length, pl[k].2.2.2.length⟩], r', by simp [hhl], ?_, hr', ?_⟩
    · rw [e] at hD4
      have e2 : flat inV (hs ++ [mkIn pl[k] ⟨some (blk c), pl[k].2.2.2.length, pl[k].2.2.2.length⟩]) = flat inV hs ++ inV (mkIn pl[k] ⟨some (blk c), pl[k].2.2.2.length, pl[k].2.2.2.length⟩) := by
        simp [flat]
      rw [e2]
      exact hD4
    · intro j h h'
      by_cases hj : j < hs.length
      · obtain ⟨c', g1, g2, g3⟩ := hrow j hj h'
        refine ⟨c', g1, ?_, c1.blk (g3.below b5) (by omega)⟩
        rw [List.getElem_append_left hj]
        exact g2
      · have hj' : j = k := by simp at h; omega
        subst hj'
        refine ⟨c, by omega, ?_, c1.blk hA5 (by omega)⟩
        rw [List.getElem_append_right (by omega)]
        simp [hhl]
  · have hk' : k = pl.length := by dsimp only at hge; omega
    subst hk'
    simp only [Nat.sub_self, Nat.zero_mul] at hr
    have : r = [] := List.eq_nil_of_length_eq_zero hr
    subst this
    rw [List.append_nil] at hD
    refine ⟨hB.wr (n := 2) (by simp), ?_⟩
    rw [hl]
    have c1 := Chg.set w.heap.size 2 w4 (.slice (some (blk w2.heap.size)) pl.length pl.length)
    have hB5 : Blk _ w.heap.size 25 (moV (x.1, x.2.1, ⟨some (blk w2.heap.size), pl.length, pl.length⟩, ())) := hB.set 2 (.slice (some (blk w2.heap.size)) pl.length pl.length)
    have hb5 := c1.below hb (Nat.le_refl _)
    have hC5 := c1.blk hC (by omega)
    have hD5 := c1.blk hD (by omega)
    refine Nw.mk (Mo.load hB5 ?_)
    refine st3 hC5 rfl fun w6 hC6 c6 => ?_
    have hC6 : Blk w6 w1.heap.size 25 (moV (x.1, x.2.1, ⟨some (blk w2.heap.size), pl.length, pl.length⟩, ())) := hC6
    have hcp : Cpy w6 w2.heap.size pl := ⟨hs, hhl, c6.blk hD5 (by omega), fun j h h' => by
      obtain ⟨c', g1, g2, g3⟩ := hrow j h h'
      exact ⟨c', g1, g2, c6.blk (c1.blk g3 (by omega)) (by omega)⟩⟩
    refine Mo.load hC6 ?_
    exact hR w2.heap.size w6 (by omega) hcp (hcp.isPl hN.bound hargs) (c6.below hb5 (by omega))


end Go.Proofs
namespace Go.Proofs
open Go.Gk Go.RowKit Go.Gm

abbrev Prs := List (Int × Int)
def swp (S : Prs) : Prs := S.map fun x => (x.2, x.1)
abbrev idsA (l : List Ag) : List Int := (l.filter fun a => a.1 == 1).map (·.2.1)
def allI (p : PI) : List Int := p.2.1 :: p.2.2.1 :: idsA p.2.2.2
def allP (pl : List PI) : List Int := pl.flatMap allI
open Classical in
/-- Of an instruction without fault: its ids lie below the bound, what is an id bears no text. -/
theorem fault_ids {p : PI} {bd : Int} (h : faultI p bd = 0) (hb : 0 < bd) (h0 : 0 ≤ p.2.1 ∧ 0 ≤ p.2.2.1 ∧ ∀ x ∈ p.2.2.2, 0 ≤ x.2.1) :
    (∀ n ∈ allI p, 0 ≤ n ∧ n < bd) ∧ ∀ x ∈ p.2.2.2, x.1 = 1 → x.2.2.size = 0 := by
  unfold faultI at h
  cases hfr : frm p.1 with
  | none => rw [faultP_none hfr] at h; cases h
  | some g =>
    rw [faultP_some hfr] at h
    have hek : errK g p.2.1 p.2.2.1 p.2.2.2 bd p.2.2.2.length = 0 := by
      refine Classical.byContradiction fun hne => ?_
      unfold faultF at h
      rw [if_pos hne] at h
      exact hne h
    obtain ⟨e1, e2, e3⟩ := errK_all hek
    have hw := argK_all e3
    have idlt : ∀ {must : Bool} {n e : Int}, idP must n bd e = 0 → e ≠ 0 → n < bd := by
      intro must n e hi he
      unfold idP at hi
      split at hi
      · rename_i hm
        split at hi
        · cases hi
        · rename_i hno
          cases must with
          | true => exact Int.not_le.1 fun hle => hno ⟨rfl, hle⟩
          | false =>
            have : n = 0 := by
              refine Classical.byContradiction fun hn => ?_
              rw [bne_iff_ne.2 hn] at hm
              cases hm
            omega
      · exact absurd hi he
    have hx : ∀ x ∈ p.2.2.2, x.1 = 1 → (x.2.1 < bd) ∧ x.2.2.size = 0 := by
      intro x hx h1
      obtain ⟨j, hj, rfl⟩ := List.mem_iff_getElem.1 hx
      have := hw j hj
      unfold werr at this
      rw [getD_lt hj] at this
      unfold wrongP at this
      split at this
      · cases this
      · split at this
        · cases this
        · rename_i n1
          split at this
          · cases this
          · rename_i n2
            refine ⟨Int.not_le.1 fun hle => n2 ⟨h1, .inr hle⟩, ?_⟩
            refine Classical.byContradiction fun hne => n1 (.inr ⟨by rw [h1]; decide, hne⟩)
    refine ⟨fun n hn => ?_, fun x hx' h1 => (hx x hx' h1).2⟩
    unfold allI at hn
    rcases List.mem_cons.1 hn with rfl | hn
    · exact ⟨h0.1, idlt e1 (by decide)⟩
    · rcases List.mem_cons.1 hn with rfl | hn
      · exact ⟨h0.2.1, idlt e2 (by decide)⟩
      · obtain ⟨x, hx', rfl⟩ := List.mem_map.1 hn
        obtain ⟨hx1, hx2⟩ := List.mem_filter.1 hx'
        exact ⟨h0.2.2 x hx1, (hx x hx1 (by simpa using hx2)).1⟩

end Go.Proofs
namespace Go.Proofs
open Go.Gk Go.RowKit Go.Gm

theorem _root_.Go.Gk.Blk.rM0 {w : World} {b : Nat} {T : TypeId} {cs : List Value} (h : Blk w b T cs) {x : Option Nat} (hn : cs[0]? = some (.map x)) {φ : Option Nat → Prop} (hφ : φ x) : ldM w (blk b) φ := ⟨x, h.cell0 hn, hφ⟩
theorem uU32 : Tryz.prog.underlying 22 = some (.int .u32) := by kernel_rfl
end Go.Proofs
namespace Go.Proofs
open Go.Gk
set_option linter.unusedVariables false
set_option maxRecDepth 100000

/-- slices.Repeat[[]int,int] -/
def a_slices_Repeat_sint_int : Ann := (.seq none .nil (.seq (some ⟨[0, 1], []⟩) (.seq none .nil (.cond .nil .nil)) (.seq none .nil (.seq (some ⟨[0, 6], []⟩) (.seq none .nil (.cond .nil .nil)) (.seq none .nil (.seq none .nil (.seq none (.one (.loop ⟨[7], [(8, (.b (.int .i64)))]⟩ (.seq none (.seq none .nil (.cond .nil .nil)) (.one .nil)))) (.seq none .nil .nil))))))))
def L_slices_Repeat_sint_int (p0 : Sl) (p1 : Int) (R : Value → World → Prop) (w : World) : Prop :=
 JoinW (S := Unit) (fun m1 =>
 ifB (decide (p1 < (0 : Int)))
 (False)
 (m1 (()) w))
 (fun s2 w1 =>
 callR Tryz.prog 153 #[(.int .u64 (IntKind.u64.wrap (p0.l : Int))), (.int .u64 (IntKind.u64.wrap p1))] w1 fun v3 w2 =>
 ∃ x4 : Int, ∃ x5 : Int, v3 = (.tuple #[(.int .u64 x4), (.int .u64 x5)]) ∧
 JoinW (S := Unit) (fun m6 =>
 ifB (decide (x4 > (0 : Int)))
 (False)
 (ifB (decide (x5 > (9223372036854775807 : Int)))
 (False)
 (m6 (()) w2)))
 (fun s7 w3 =>
 (0 ≤ (IntKind.i64.wrap x5) ∧ (IntKind.i64.wrap x5) ≤ (IntKind.i64.wrap x5) ∧ (8 : Int) * (IntKind.i64.wrap x5) ≤ 281474976710656 ∧ (IntKind.i64.wrap x5) ≤ 9223372036854775807) ∧
 Nw (w3.alloc (.cells (madeCells #[(.int .i64 (0 : Int))] ((Int.toNat (IntKind.i64.wrap x5)) * 1)) 3)) fun w4 =>
 copyS Tryz.prog #[26, 26] (.slice (some (blk w3.heap.size)) (Int.toNat (IntKind.i64.wrap x5)) (Int.toNat (IntKind.i64.wrap x5))) (.slice p0.a p0.l p0.c) w4 fun x8 w5 =>
 LoopW (S := Int × Unit) (fun s9 w6 n10 =>
 ifB (decide (s9.1 < ((Int.toNat (IntKind.i64.wrap x5)) : Int)))
 ((0 ≤ s9.1 ∧ s9.1 ≤ ((Int.toNat (IntKind.i64.wrap x5)) : Int) ∧ ((Int.toNat (IntKind.i64.wrap x5)) : Int) ≤ ((Int.toNat (IntKind.i64.wrap x5)) : Int)) ∧
 (0 ≤ (0 : Int) ∧ (0 : Int) ≤ s9.1 ∧ s9.1 ≤ ((Int.toNat (IntKind.i64.wrap x5)) : Int)) ∧
 copyS Tryz.prog #[26, 26] (.slice (if (Int.toNat (IntKind.i64.wrap x5)) = (Int.toNat s9.1) then (some (blk w3.heap.size)) else Option.map (fun a => a.add (Int.toNat s9.1)) (some (blk w3.heap.size))) ((Int.toNat (IntKind.i64.wrap x5)) - (Int.toNat s9.1)) ((Int.toNat (IntKind.i64.wrap x5)) - (Int.toNat s9.1))) (.slice (if (Int.toNat (IntKind.i64.wrap x5)) = 0 then (some (blk w3.heap.size)) else Option.map (fun a => a.add 0) (some (blk w3.heap.size))) ((Int.toNat s9.1) - 0) ((Int.toNat (IntKind.i64.wrap x5)) - 0)) w6.drew fun x11 w7 =>
 n10 ((IntKind.i64.wrap (s9.1 + x11)), ()) w7)
 (R (.slice (some (blk w3.heap.size)) (Int.toNat (IntKind.i64.wrap x5)) (Int.toNat (IntKind.i64.wrap x5))) w6))
 (x8, ()) w5))
theorem slices_Repeat_sint_int_calls (p0 : Sl) (p1 : Int) (R : Value → World → Prop) (w : World) (h : L_slices_Repeat_sint_int p0 p1 R w) : Calls Tryz.prog 114 #[(.slice p0.a p0.l p0.c), (.int .i64 p1)] w (Ret R) :=
 lw_calls (fs := Tryz.fs) (an := a_slices_Repeat_sint_int) (args := [(.slice p0.a p0.l p0.c), (.int .i64 p1)]) Tryz.fsOK Tryz.mixed Tryz.func114 (by kernel_rfl) (by kernel_rfl)
 (Eq.mpr (by kernel_rfl : lwFn Tryz.prog Tryz.fs Tryz.f114 a_slices_Repeat_sint_int [(.slice p0.a p0.l p0.c), (.int .i64 p1)] w R = L_slices_Repeat_sint_int p0 p1 R w) h)

/-- math.bits.Mul -/
def a_math_bits_Mul : Ann := (.seq none .nil (.seq none (.cond (.seq none .nil (.seq none .nil .nil)) .nil) (.seq none .nil (.seq none .nil .nil))))
def L_math_bits_Mul (p0 : Int) (p1 : Int) (R : Value → World → Prop) (w : World) : Prop :=
 callR Tryz.prog 203 #[(.int .u64 p0), (.int .u64 p1)] w fun v1 w1 =>
 ∃ x2 : Int, ∃ x3 : Int, v1 = (.tuple #[(.int .u64 x2), (.int .u64 x3)]) ∧
 R (.tuple #[(.int .u64 x2), (.int .u64 x3)]) w1
theorem math_bits_Mul_calls (p0 : Int) (p1 : Int) (R : Value → World → Prop) (w : World) (h : L_math_bits_Mul p0 p1 R w) : Calls Tryz.prog 153 #[(.int .u64 p0), (.int .u64 p1)] w (Ret R) :=
 lw_calls (fs := Tryz.fs) (an := a_math_bits_Mul) (args := [(.int .u64 p0), (.int .u64 p1)]) Tryz.fsOK Tryz.mixed Tryz.func153 (by kernel_rfl) (by kernel_rfl)
 (Eq.mpr (by kernel_rfl : lwFn Tryz.prog Tryz.fs Tryz.f153 a_math_bits_Mul [(.int .u64 p0), (.int .u64 p1)] w R = L_math_bits_Mul p0 p1 R w) h)

/-- math.bits.Mul64 -/
def a_math_bits_Mul64 : Ann := (.seq none .nil (.seq none .nil (.seq none .nil (.seq none .nil (.seq none .nil (.seq none .nil (.seq none .nil (.seq none .nil (.seq none .nil (.seq none .nil (.seq none .nil (.seq none .nil .nil))))))))))))
def L_math_bits_Mul64 (p0 : Int) (p1 : Int) (R : Value → World → Prop) (w : World) : Prop :=
 R (.tuple #[(.int .u64 (IntKind.u64.wrap ((IntKind.u64.wrap ((IntKind.u64.wrap ((Int.fdiv p0 (2 ^ (min 32 (IntKind.bits .u64)))) * (Int.fdiv p1 (2 ^ (min 32 (IntKind.bits .u64)))))) + (Int.fdiv (IntKind.u64.wrap ((IntKind.u64.wrap ((Int.fdiv p0 (2 ^ (min 32 (IntKind.bits .u64)))) * (IntKind.u64.wrap (BitVec.toNat (BitVec.ofInt (IntKind.bits .u64) p1 &&& BitVec.ofInt (IntKind.bits .u64) (4294967295 : Int)) : Int)))) + (Int.fdiv (IntKind.u64.wrap ((IntKind.u64.wrap (BitVec.toNat (BitVec.ofInt (IntKind.bits .u64) p0 &&& BitVec.ofInt (IntKind.bits .u64) (4294967295 : Int)) : Int)) * (IntKind.u64.wrap (BitVec.toNat (BitVec.ofInt (IntKind.bits .u64) p1 &&& BitVec.ofInt (IntKind.bits .u64) (4294967295 : Int)) : Int)))) (2 ^ (min 32 (IntKind.bits .u64)))))) (2 ^ (min 32 (IntKind.bits .u64)))))) + (Int.fdiv (IntKind.u64.wrap ((IntKind.u64.wrap (BitVec.toNat (BitVec.ofInt (IntKind.bits .u64) (IntKind.u64.wrap ((IntKind.u64.wrap ((Int.fdiv p0 (2 ^ (min 32 (IntKind.bits .u64)))) * (IntKind.u64.wrap (BitVec.toNat (BitVec.ofInt (IntKind.bits .u64) p1 &&& BitVec.ofInt (IntKind.bits .u64) (4294967295 : Int)) : Int)))) + (Int.fdiv (IntKind.u64.wrap ((IntKind.u64.wrap (BitVec.toNat (BitVec.ofInt (IntKind.bits .u64) p0 &&& BitVec.ofInt (IntKind.bits .u64) (4294967295 : Int)) : Int)) * (IntKind.u64.wrap (BitVec.toNat (BitVec.ofInt (IntKind.bits .u64) p1 &&& BitVec.ofInt (IntKind.bits .u64) (4294967295 : Int)) : Int)))) (2 ^ (min 32 (IntKind.bits .u64)))))) &&& BitVec.ofInt (IntKind.bits .u64) (4294967295 : Int)) : Int)) + (IntKind.u64.wrap ((IntKind.u64.wrap (BitVec.toNat (BitVec.ofInt (IntKind.bits .u64) p0 &&& BitVec.ofInt (IntKind.bits .u64) (4294967295 : Int)) : Int)) * (Int.fdiv p1 (2 ^ (min 32 (IntKind.bits .u64)))))))) (2 ^ (min 32 (IntKind.bits .u64))))))), (.int .u64 (IntKind.u64.wrap (p0 * p1)))]) w
theorem math_bits_Mul64_calls (p0 : Int) (p1 : Int) (R : Value → World → Prop) (w : World) (h : L_math_bits_Mul64 p0 p1 R w) : Calls Tryz.prog 203 #[(.int .u64 p0), (.int .u64 p1)] w (Ret R) :=
 lw_calls (fs := Tryz.fs) (an := a_math_bits_Mul64) (args := [(.int .u64 p0), (.int .u64 p1)]) Tryz.fsOK Tryz.mixed Tryz.func203 (by kernel_rfl) (by kernel_rfl)
 (Eq.mpr (by kernel_rfl : lwFn Tryz.prog Tryz.fs Tryz.f203 a_math_bits_Mul64 [(.int .u64 p0), (.int .u64 p1)] w R = L_math_bits_Mul64 p0 p1 R w) h)

end Go.Proofs
namespace Go.Proofs
open Go.Gk Go.RowKit

theorem u64_small {n : Nat} (hn : n ≤ 65536) : IntKind.u64.wrap (n : Int) = n := by rw [IntKind.wrap_u64]; omega
theorem mask_small {n : Nat} (hn : n ≤ 65536) : ((BitVec.toNat (BitVec.ofInt (IntKind.bits .u64) (n : Int) &&& BitVec.ofInt (IntKind.bits .u64) (4294967295 : Int)) : Nat) : Int) = n := by
  have h : (BitVec.ofInt 64 (n : Int) &&& BitVec.ofInt 64 (4294967295 : Int)).toNat = n := by
    rw [BitVec.toNat_and, BitVec.toNat_ofInt, BitVec.toNat_ofInt]
    have e1 : ((n : Int) % ((2 ^ 64 : Nat) : Int)).toNat = n := by omega
    have e2 : ((4294967295 : Int) % ((2 ^ 64 : Nat) : Int)).toNat = 2 ^ 32 - 1 := by decide
    rw [e1, e2, Nat.and_two_pow_sub_one_eq_mod]
    omega
  exact congrArg Int.ofNat h
theorem Mul64_one {n : Nat} (hn : n ≤ 65536) {w : World} {R : Value → World → Prop} (hR : R (.tuple #[.int .u64 0, .int .u64 (n : Int)]) w) : callR Tryz.prog 203 #[.int .u64 1, .int .u64 (n : Int)] w R := by
  refine callR.of (math_bits_Mul64_calls 1 n R w ?_) fun _ _ h => h
  unfold L_math_bits_Mul64
  have e0 : ((2 : Int) ^ (min 32 (IntKind.bits .u64))) = 4294967296 := by decide
  have e1 : Int.fdiv 1 4294967296 = 0 := by decide
  have e2 : Int.fdiv (n : Int) 4294967296 = 0 := by rw [Int.fdiv_eq_ediv_of_nonneg _ (by decide)]; omega
  have m1 : ((BitVec.toNat (BitVec.ofInt (IntKind.bits .u64) (1 : Int) &&& BitVec.ofInt (IntKind.bits .u64) (4294967295 : Int)) : Nat) : Int) = 1 := mask_small (n := 1) (by decide)
  have m0 : ((BitVec.toNat (BitVec.ofInt (IntKind.bits .u64) (0 : Int) &&& BitVec.ofInt (IntKind.bits .u64) (4294967295 : Int)) : Nat) : Int) = 0 := mask_small (n := 0) (by decide)
  have u0 : IntKind.u64.wrap (0 : Int) = 0 := by decide
  have u1 : IntKind.u64.wrap (1 : Int) = 1 := by decide
  have f0 : Int.fdiv 0 4294967296 = 0 := by decide
  simp only [e0, e1, e2, mask_small hn, m1, u64_small hn, u0, u1, Int.zero_mul, Int.one_mul, Int.mul_zero, Int.add_zero, f0, m0]
  exact hR

theorem below_setRow {B : Nat} {w w' : World} (h : Below B w w') {g : Nat} (hg : B ≤ g) (cs : Array Value) : Below B w (w'.setRow g cs) :=
  ⟨h.os, h.tape, h.output, by simpa [World.setRow] using h.size, fun k hk => (setRow_other w' g k cs (by omega)).trans (h.block k hk)⟩
/-- copy into a row of the code's own. -/
theorem copyS_row {w : World} {b o : Nat} {cs : List Value} (hD : Blk w b 3 cs) {a : Addr} {dl dc sl sc : Nat} {news : List Value} (hn : news.length = Nat.min sl dl) (hsrc : ∀ j v, news[j]? = some v → w.cell? (a.add j) = some v)
    (hfit : o + news.length ≤ cs.length) (h1 : ∀ v ∈ news, v.oneCell' = true) {k : Int → World → Prop}
    (hk : ∀ w', Blk w' b 3 (cs.take o ++ news ++ cs.drop (o + news.length)) → (∀ B w0, Below B w0 w → B ≤ b → Below B w0 w') → k (news.length : Int) w') :
    copyS Tryz.prog #[26, 26] (.slice (some ⟨b, o, none⟩) dl dc) (.slice (some a) sl sc) w k := by
  have hun : (Tryz.prog).underlying 26 = some (.slice 3) := by kernel_rfl
  have hsz : ((Tryz.prog).info? 3).map (·.size) = some 1 := by kernel_rfl
  have hc := run_copy_row (P := Tryz.prog) w 26 26 0 3 b o dl dc a sl sc cs.toArray 3 news hun hsz hD hn hsrc (by simpa using hfit) h1
  refine ⟨_, _, hc, hk _ ?_ fun B w0 hb hB => below_setRow hb hB _⟩
  exact setRow_heap w b _ _ _ _ hD

set_option maxHeartbeats 1000000 in
theorem Repeat_spec {n : Nat} (hn : n ≤ 65536) (hn1 : 1 ≤ n) {v : Int} {xb : Nat} {w : World} {R : Value → World → Prop} (hx : Blk w xb 3 [.int .i64 v])
    (hR : ∀ b w', Blk w' b 3 (List.replicate n (.int .i64 v)) → w.heap.size ≤ b → Below w.heap.size w w' → R (.slice (some (blk b)) n n) w') :
    callR Tryz.prog 114 #[.slice (some (blk xb)) 1 1, .int .i64 (n : Int)] w R := by
  refine callR.of (slices_Repeat_sint_int_calls ⟨some (blk xb), 1, 1⟩ n R w ?_) fun _ _ h => h
  refine JoinW.cut (fun _ w' => w' = w) (ifB_dec (fun h => by omega) fun _ => rfl) ?_
  rintro _ _ rfl
  rename_i w
  have e1 : IntKind.u64.wrap (((1 : Nat) : Nat) : Int) = 1 := by decide
  dsimp only
  rw [e1, u64_small hn]
  refine callR.of (math_bits_Mul_calls 1 n _ w ?_) fun _ _ h => h
  refine Mul64_one hn ⟨0, n, rfl, 0, n, rfl, ?_⟩
  refine JoinW.cut (fun _ w' => w' = w) (ifB_dec (fun h => absurd h (by decide)) fun _ => ifB_dec (fun h => absurd h (by omega)) fun _ => rfl) ?_
  rintro _ _ rfl
  rename_i w
  have e2 : IntKind.i64.wrap (n : Int) = n := wrap64_in (by omega) (by omega)
  rw [e2]
  refine ⟨⟨by omega, by omega, by omega, by omega⟩, Nw.gen fun w4 hw4 => ?_⟩
  obtain ⟨z, hz⟩ : ∃ z, z = Value.int .i64 0 := ⟨_, rfl⟩
  obtain ⟨u, hu⟩ : ∃ u, u = Value.int .i64 v := ⟨_, rfl⟩
  have hu1 : u.oneCell' = true := by rw [hu]; rfl
  rw [← hz] at hw4
  rw [← hu] at hx hR
  have hD4 : Blk w4 w.heap.size 3 (List.replicate n z) := by rw [hw4]; exact Blk.made w 3 z n
  have b4 : Below w.heap.size w w4 := by rw [hw4]; exact (Below.refl _ _).alloc (Nat.le_refl _) _
  have hx4 := hx.below b4
  have tn : Int.toNat ((n : Nat) : Int) = n := rfl
  rw [tn]
  refine copyS_row hD4 (o := 0) (news := [u]) (by simp [Nat.min_def]; omega) (fun j x hj => by
      cases j with
      | zero => simp at hj; subst hj; exact hx4.cell rfl
      | succ j => simp at hj) (by simp; omega) (by simpa using hu1) fun w5 hD5 hb5 => ?_
  have hb5 := hb5 _ _ b4 (Nat.le_refl _)
  have hD5' : Blk w5 w.heap.size 3 (List.replicate 1 u ++ List.replicate (n - 1) z) := by
    simpa using hD5
  clear hD5 hD4 hx4 hw4
  refine LoopW.ghost (fun j st w' => ∃ m : Nat, 1 ≤ m ∧ m ≤ n ∧ j = n - m ∧ st = ((m : Int), ()) ∧ Below w.heap.size w w' ∧ Blk w' w.heap.size 3 (List.replicate m u ++ List.replicate (n - m) z)) (n - 1)
    ⟨1, Nat.le_refl _, hn1, rfl, rfl, hb5, hD5'⟩ ?_
  rintro _ _ w6 ⟨m, hm1, hmn, rfl, rfl, hb, hD⟩ next hnext
  refine ifB_dec (fun hlt => ?_) (fun hge => ?_)
  · have hlt : m < n := by dsimp only at hlt; omega
    have tm : Int.toNat ((m : Nat) : Int) = m := rfl
    refine ⟨⟨by first | omega | (dsimp only; omega), by first | omega | (dsimp only; omega), by omega⟩, ⟨by omega, by first | omega | (dsimp only; omega), by first | omega | (dsimp only; omega)⟩, ?_⟩
    dsimp only
    rw [tm, if_neg (by omega : ¬ n = m), if_neg (by omega : ¬ n = 0)]
    simp only [Option.map_some, Nat.sub_zero]
    have ea : (blk w.heap.size).add m = ⟨w.heap.size, m, none⟩ := by rw [add_blk]
    have e0 : (blk w.heap.size).add 0 = blk w.heap.size := by rw [add_blk]
    rw [ea, e0]
    obtain ⟨q, hq⟩ : ∃ q, q = Nat.min m (n - m) := ⟨_, rfl⟩
    have hq1 : 1 ≤ q ∧ q ≤ n - m ∧ q ≤ m := by rw [hq]; simp only [Nat.min_def]; split <;> omega
    have hD' := hD.drew
    refine copyS_row hD' (o := m) (news := List.replicate q u) (by rw [List.length_replicate, hq]) (fun j x hj => by
        have hj' : j < q := by have := (List.getElem?_eq_some_iff.1 hj).1; simpa using this
        rw [List.getElem?_replicate, if_pos hj'] at hj
        cases hj
        refine hD'.cell ?_
        rw [List.getElem?_append_left (by simp; omega), List.getElem?_replicate, if_pos (by omega)]) (by simp; omega) (fun x hx => by
        rw [List.eq_of_mem_replicate hx]; exact hu1) fun w7 hD7 hb7 => ?_
    rw [List.length_replicate] at hD7 ⊢
    rw [show IntKind.i64.wrap ((m : Int) + (q : Int)) = ((m + q : Nat) : Int) by rw [wrap64_in (by omega) (by omega)]; omega]
    refine hnext (n - (m + q)) _ _ (by omega) ⟨m + q, by omega, by omega, rfl, rfl, hb7 _ _ hb.drew (Nat.le_refl _), ?_⟩
    have : (List.replicate m u ++ List.replicate (n - m) z).take m ++ List.replicate q u ++ (List.replicate m u ++ List.replicate (n - m) z).drop (m + q) = List.replicate (m + q) u ++ List.replicate (n - (m + q)) z := by
      rw [List.take_left' (by simp), List.drop_append, List.drop_replicate, List.drop_replicate, List.length_replicate, List.replicate_append_replicate]
      simp
      omega
    rw [← this]
    exact hD7
  · have : m = n := by dsimp only at hge; omega
    subst this
    refine hR w.heap.size w6 ?_ (Nat.le_refl _) hb
    simpa using hD

end Go.Proofs
namespace Go.Proofs
open Go.Gk Go.RowKit Go.Gm

def KeyN (L : List (Int × Int)) : Prop := (L.map (·.1)).Nodup
theorem keys_set (k v : Int) : ∀ L : List (Int × Int), (setL L k v).map (·.1) = L.map (·.1) ∨ ((setL L k v).map (·.1) = L.map (·.1) ++ [k] ∧ k ∉ L.map (·.1))
  | [] => .inr ⟨rfl, by simp⟩
  | p :: r => by
    simp only [setL]
    split
    · rename_i e
      left
      simp [e]
    · rename_i e
      rcases keys_set k v r with h | ⟨h1, h2⟩
      · left
        simp [h]
      · right
        refine ⟨by simp [h1], ?_⟩
        rw [List.map_cons, List.mem_cons, not_or]
        exact ⟨e, h2⟩
theorem KeyN.set {L : List (Int × Int)} (h : KeyN L) (k v : Int) : KeyN (setL L k v) := by
  unfold KeyN at h ⊢
  rcases keys_set k v L with e | ⟨e, hk⟩
  · rw [e]; exact h
  · rw [e]
    refine List.nodup_append.2 ⟨h, by simp, ?_⟩
    intro a ha b hb e'
    rw [List.mem_singleton] at hb
    rw [e', hb] at ha
    exact hk ha

def mk1 (pl : List PI) (id : Int) (k : Nat) : Bool := (pl.getD k pi0).2.2.1 == id && id != 0
def makerI (pl : List PI) (id : Int) (n : Nat) : Int := match (List.range n).find? (mk1 pl id) with
  | some k => (k : Int)
  | none => -1
/-- The map L says who makes an id, of the instructions from k on. -/
def MkOk (L : List (Int × Int)) (pl : List PI) (k : Nat) : Prop := ∀ id, (lookL L id = none → ∀ j, k ≤ j → j < pl.length → mk1 pl id j = false) ∧
  ∀ v, lookL L id = some v → ∃ j : Nat, v = (j : Int) ∧ k ≤ j ∧ j < pl.length ∧ mk1 pl id j = true ∧ ∀ i, k ≤ i → i < j → mk1 pl id i = false
theorem MkOk.end (pl : List PI) : MkOk [] pl pl.length := fun _ => ⟨fun _ j h1 h2 => by omega, fun v h => by cases h⟩
theorem MkOk.step {L : List (Int × Int)} {pl : List PI} {k : Nat} (h : MkOk L pl (k + 1)) (hk : k < pl.length) : MkOk (if pl[k].2.2.1 ≠ 0 then setL L pl[k].2.2.1 k else L) pl k := by
  have hm : ∀ id, mk1 pl id k = (pl[k].2.2.1 == id && id != 0) := fun id => by unfold mk1; rw [getD_lt hk]
  intro id
  obtain ⟨h1, h2⟩ := h id
  by_cases e0 : pl[k].2.2.1 = 0
  · rw [if_neg (fun h => h e0)]
    have hf : mk1 pl id k = false := by
      rw [hm, e0]
      by_cases e : id = 0
      · rw [e]; rfl
      · rw [beq_eq_false_iff_ne.2 (fun h => e h.symm), Bool.false_and]
    refine ⟨fun hn j g1 g2 => ?_, fun v hv => ?_⟩
    · by_cases e : j = k
      · subst e; exact hf
      · exact h1 hn j (by omega) g2
    · obtain ⟨j, q1, q2, q3, q4, q5⟩ := h2 v hv
      refine ⟨j, q1, by omega, q3, q4, fun i g1 g2 => ?_⟩
      by_cases e : i = k
      · subst e; exact hf
      · exact q5 i (by omega) g2
  · rw [if_pos e0, lookL_set]
    by_cases e : id = pl[k].2.2.1
    · rw [if_pos e]
      refine ⟨fun hn => by (cases hn), fun v hv => ⟨k, (Option.some.inj hv).symm, Nat.le_refl _, hk, ?_, fun i g1 g2 => by omega⟩⟩
      rw [hm, e]
      simp [e0]
    · rw [if_neg e]
      have hf : mk1 pl id k = false := by rw [hm, beq_eq_false_iff_ne.2 (fun h => e h.symm), Bool.false_and]
      refine ⟨fun hn j g1 g2 => ?_, fun v hv => ?_⟩
      · by_cases e : j = k
        · subst e; exact hf
        · exact h1 hn j (by omega) g2
      · obtain ⟨j, q1, q2, q3, q4, q5⟩ := h2 v hv
        refine ⟨j, q1, by omega, q3, q4, fun i g1 g2 => ?_⟩
        by_cases e : i = k
        · subst e; exact hf
        · exact q5 i (by omega) g2
theorem MkOk.maker {L : List (Int × Int)} {pl : List PI} (h : MkOk L pl 0) (id : Int) : makerI pl id pl.length = (match lookL L id with | some v => v | none => -1) := by
  obtain ⟨h1, h2⟩ := h id
  unfold makerI
  cases e : lookL L id with
  | none =>
    have : (List.range pl.length).find? (mk1 pl id) = none := by
      rw [List.find?_eq_none]
      intro j hj
      rw [h1 e j (Nat.zero_le _) (List.mem_range.1 hj)]
      simp
    rw [this]
  | some v =>
    obtain ⟨j, q1, _, q3, q4, q5⟩ := h2 v e
    rw [find_first q3 q4 fun i hi => q5 i (Nat.zero_le _) hi]
    exact q1.symm
theorem MkOk.range {L : List (Int × Int)} {pl : List PI} (h : MkOk L pl 0) {id v : Int} (hv : lookL L id = some v) : ∃ p ∈ pl, p.2.2.1 = id := by
  obtain ⟨j, _, _, q3, q4, _⟩ := (h id).2 v hv
  refine ⟨pl[j], List.getElem_mem q3, ?_⟩
  unfold mk1 at q4
  rw [getD_lt q3, Bool.and_eq_true, beq_iff_eq] at q4
  exact q4.1

theorem uMapI : Tryz.prog.underlying 99 = some (.map 22 3) := by kernel_rfl
theorem Backward1_spec {y : Value} {s : Sl} {pl : List PI} {pb : Nat} {w : World} (Inv : Nat → World → Prop) (S : World → Prop) (h0 : Inv pl.length w)
    (hkeep : ∀ k w', Inv k w' → w'.cell? (blk pb) = some (.slice s.a s.l s.c) ∧ IsPl w' s pl)
    (hround : ∀ k (hk : k < pl.length) t w', Inv (k + 1) w' → callV Tryz.prog Tryz.fs y [.int .i64 (k : Int), inA (mkIn pl[k] t)] w' fun v w'' => (v = .bool true ∧ Inv k w'') ∨ (v = .bool false ∧ S w''))
    (hend : ∀ w', Inv 0 w' → S w') : Calls Tryz.prog 171 #[y, .pointer (some (blk pb))] w (Ret fun _ w' => S w') := by
  refine slices_Backward_sapi_Inst_api_Inst__1_calls y (blk pb) _ w ⟨s, (hkeep _ _ h0).1, ?_⟩
  have hlen := (hkeep _ _ h0).2.len
  have hmax := (hkeep _ _ h0).2.bound
  dsimp only
  rw [hlen, wrap64_in (by omega) (by omega)]
  refine LoopW.ghost (fun j st w' => j ≤ pl.length ∧ st = ((j : Int) - 1, ()) ∧ Inv j w') pl.length ⟨Nat.le_refl _, rfl, h0⟩ ?_
  rintro k _ w1 ⟨hk, rfl, hI⟩ next hnext
  refine ifB_dec (fun h => ?_) (fun h => ?_)
  · obtain ⟨j, rfl⟩ : ∃ j, k = j + 1 := ⟨k - 1, by dsimp only at h; omega⟩
    have hlt : j < pl.length := by omega
    obtain ⟨c1, c2⟩ := hkeep _ _ hI
    have ej : (((j + 1 : Nat) : Int) - 1) = (j : Int) := by omega
    dsimp only
    rw [ej]
    refine ⟨s, c1, elemPI c2 hlt fun t _ => ?_⟩
    refine callV.mono (hround j hlt t w1 hI) fun v w2 hv => ?_
    rcases hv with ⟨rfl, hv⟩ | ⟨rfl, hv⟩
    · refine ⟨true, rfl, ifB_false rfl ?_⟩
      rw [wrap64_in (by omega) (by omega)]
      exact hnext j _ _ (by omega) ⟨by omega, rfl, hv⟩
    · exact ⟨false, rfl, ifB_true rfl hv⟩
  · have hk0 : k = 0 := by dsimp only at h; omega
    subst hk0
    exact hend w1 hI
theorem makers_spec {s : Sl} {pl : List PI} {w : World} {R : Value → World → Prop} (hN : IsPl w s pl)
    (hR : ∀ w' L, IsMp w' w.heap.size .i64 L → MkOk L pl 0 → KeyN L → Below w.heap.size w w' → R (.map (some w.heap.size)) w') : callR Tryz.prog 101 #[.slice s.a s.l s.c] w R := by
  refine callR.of (ids_makers_calls s R w ?_) fun _ _ h => h
  refine Nw.gen fun w1 e1 => ?_
  have m1 : IsMp w1 w.heap.size .i64 [] := by rw [e1]; exact IsMp.new _ _
  have b1 : Below w.heap.size w w1 := by rw [e1]; exact (Below.refl _ _).alloc (Nat.le_refl _) _
  have z1 : w1.heap.size = w.heap.size + 1 := by rw [e1]; simp
  clear e1
  refine Nw.gen fun w2 e2 => ?_
  have hB2 : Blk w2 w1.heap.size 99 [.map none] := by rw [e2]; exact Blk.new _ _ _
  have b2 : Below w1.heap.size w1 w2 := by rw [e2]; exact (Below.refl _ _).alloc (Nat.le_refl _) _
  have z2 : w2.heap.size = w.heap.size + 2 := by rw [e2]; simp [z1]
  clear e2
  refine ⟨hB2.wr0 (by simp), Nw.gen fun w3 e3 => ?_⟩
  have c3 : Chg w1.heap.size w2 w3 := by rw [e3]; exact Chg.set w1.heap.size 0 w2 _
  have hB3 : Blk w3 w1.heap.size 99 [.map (some w.heap.size)] := by rw [e3]; exact hB2.set0 _
  clear e3
  have m3 := (m1.below b2).of_block (c3.block _ (by omega))
  have hb3 : Below w.heap.size w w3 := c3.below (b1.on b2) (by omega)
  have z3 := c3.size
  refine callR.of (slices_Backward_sapi_Inst_api_Inst_calls s _ w3 ?_) fun _ _ h => h
  refine lay_of fun w4 hC4 b4 z4 => ⟨_, rfl, ?_⟩
  have hC4 : Blk w4 w3.heap.size 23 [.slice s.a s.l s.c] := hC4
  intro mk hy
  have hcf : Tryz.fs.contains 171 = true := by kernel_rfl
  unfold callF
  simp only [hcf]
  generalize hw5 : ((w4.alloc (.deferred (some []))).alloc (mk .ready none)) = w5
  have b5 : Below w4.heap.size w4 w5 := by rw [← hw5]; exact laid_below w4 _ _
  have hd5 : w5.heap[w4.heap.size]? = some (.deferred (some [])) := by rw [← hw5]; exact laid_d w4 _ _
  have hl5 : w5.heap[w4.heap.size + 1]? = some (mk .ready none) := by rw [← hw5]; exact laid_l w4 _ _
  clear hw5
  have b35 := b4.on b5
  refine Backward1_spec (y := .func (.yield (w4.heap.size + 1)) #[] #[]) (s := s) (pl := pl)
    (fun k w' => w'.heap[w4.heap.size + 1]? = some (mk .ready none) ∧ w'.heap[w4.heap.size]? = some (.deferred (some [])) ∧ Blk w' w1.heap.size 99 [.map (some w.heap.size)] ∧ Blk w' w3.heap.size 23 [.slice s.a s.l s.c] ∧ Below w.heap.size w w' ∧
      ∃ L, IsMp w' w.heap.size .i64 L ∧ MkOk L pl k ∧ KeyN L) _
    ⟨hl5, hd5, hB3.below b35, hC4.below b5, hb3.on b35, [], m3.below b35, MkOk.end pl, by simp [KeyN]⟩ ?_ ?_ ?_
  · rintro k w' ⟨h1, h2, h3, h4, h5, _⟩
    exact ⟨h4.cell0 rfl, hN.below h5⟩
  · rintro k hk t w' ⟨h1, h2, h3, h4, h5, L, h6, h7, h8⟩
    have hlt' : w4.heap.size + 1 < w'.heap.size := (Array.getElem?_eq_some_iff.1 h1).1
    refine hy ((k : Int), mkIn pl[k] t, ()) w' _ h1 ?_
    refine box4 rfl fun w6 hI6 b6 z6 => ?_
    have hI6 : Blk w6 w'.heap.size 41 (inV (mkIn pl[k] t)) := hI6
    have hl6 : w6.heap[w4.heap.size + 1]? = some (mk .ready none) := (b6.block _ hlt').trans h1
    refine ⟨hl6, Nw.gen fun w7 e7 => ?_⟩
    have s6 := b6.size
    have hlt6 : w4.heap.size + 1 < w6.heap.size := by omega
    have ho7 : ∀ b, b ≠ w4.heap.size + 1 → w7.heap[b]? = w6.heap[b]? := fun b hb => by rw [e7]; exact World.putObj_heap_other hb
    have z7 : w7.heap.size = w6.heap.size := by rw [e7]; simp
    have hl7 : w7.heap[w4.heap.size + 1]? = some (mk .busy none) := by rw [e7]; exact put_self hlt6 _
    have hb7 : Below w.heap.size w w7 := by rw [e7]; exact (h5.on b6).putObj (by omega) _
    clear e7
    have d7 : w7.heap[w4.heap.size]? = some (.deferred (some [])) := by rw [ho7 _ (by omega), b6.block _ (by omega)]; exact h2
    have k3 := (h3.below b6).of_block (ho7 _ (by have := b4.size; omega))
    have k4 := (h4.below b6).of_block (ho7 _ (by omega))
    have k6 := (h6.below b6).of_block (ho7 _ (by omega))
    have kI := hI6.of_block (ho7 _ (by omega))
    have hst := h7.step hk
    have hput : ∀ {w8 : World}, w8.heap[w4.heap.size + 1]? = some (mk .busy none) → w4.heap.size + 1 < w8.heap.size := fun h => (Array.getElem?_eq_some_iff.1 h).1
    refine kI.rI (n := 2) rfl (ifB_bne (fun e => ?_) (fun e => ?_))
    · have e' : pl[k].2.2.1 ≠ 0 := e
      rw [if_pos e'] at hst
      refine k3.rM0 rfl (kI.rI (n := 2) rfl ?_)
      refine updW_of uMapI uU32 k6 fun w8 m8 c8 => ?_
      have hl8 : w8.heap[w4.heap.size + 1]? = some (mk .busy none) := by rw [c8.block _ (by omega)]; exact hl7
      refine ⟨hl8, .inl ⟨rfl, put_self (hput hl8) _, ?_, ?_, ?_, ?_, _, ?_, hst, h8.set _ _⟩⟩
      · rw [World.putObj_heap_other (by omega), c8.block _ (by omega)]; exact d7
      · exact (c8.blk k3 (by omega)).put (by omega) _
      · exact (c8.blk k4 (by omega)).put (by omega) _
      · exact (c8.below hb7 (Nat.le_refl _)).putObj (by omega) _
      · exact m8.of_block (World.putObj_heap_other (by omega))
    · have e' : ¬ pl[k].2.2.1 ≠ 0 := fun h => h e
      rw [if_neg e'] at hst
      refine ⟨hl7, .inl ⟨rfl, put_self (by omega) _, ?_, ?_, ?_, ?_, L, ?_, hst, h8⟩⟩
      · rw [World.putObj_heap_other (by omega)]; exact d7
      · exact k3.put (by omega) _
      · exact k4.put (by omega) _
      · exact hb7.putObj (by omega) _
      · exact k6.of_block (World.putObj_heap_other (by omega))
  · rintro w' ⟨h1, h2, h3, h4, h5, L, h6, h7, h8⟩
    refine ⟨h1, ?_⟩
    have k3 := h3.put (l := w4.heap.size + 1) (by omega) (mk .exhausted none)
    refine k3.rM0 rfl (closeM_one (by rw [World.putObj_heap_other (by omega)]; exact h2) ?_)
    refine hR _ L ?_ h7 h8 ?_
    · exact (h6.of_block (World.putObj_heap_other (by omega))).of_block (World.putObj_heap_other (by omega))
    · exact (h5.putObj (by omega) _).putObj (by omega) _

end Go.Proofs
namespace Go.Proofs
open Go.Gk Go.RowKit Go.Gm

theorem wrapU32_in {n : Int} (h : 0 ≤ n) (h2 : n ≤ 4294967295) : IntKind.u32.wrap n = n := by
  rw [IntKind.wrap_u32]
  exact Int.emod_eq_of_lt h (Int.lt_of_le_of_lt h2 (by decide))

end Go.Proofs
namespace Go.Proofs
open Go.Gk Go.RowKit Go.Gm

abbrev T20 := Int × Int × Int × Int × Int × Int × Int × Int × Int × Int × Int × Int × Int × Int × Int × Int × Int × Int × Int × Int × Unit
abbrev l20 (x : T20) : List Int := [x.1, x.2.1, x.2.2.1, x.2.2.2.1, x.2.2.2.2.1, x.2.2.2.2.2.1, x.2.2.2.2.2.2.1, x.2.2.2.2.2.2.2.1, x.2.2.2.2.2.2.2.2.1, x.2.2.2.2.2.2.2.2.2.1, x.2.2.2.2.2.2.2.2.2.2.1, x.2.2.2.2.2.2.2.2.2.2.2.1, x.2.2.2.2.2.2.2.2.2.2.2.2.1, x.2.2.2.2.2.2.2.2.2.2.2.2.2.1, x.2.2.2.2.2.2.2.2.2.2.2.2.2.2.1, x.2.2.2.2.2.2.2.2.2.2.2.2.2.2.2.1, x.2.2.2.2.2.2.2.2.2.2.2.2.2.2.2.2.1, x.2.2.2.2.2.2.2.2.2.2.2.2.2.2.2.2.2.1, x.2.2.2.2.2.2.2.2.2.2.2.2.2.2.2.2.2.2.1, x.2.2.2.2.2.2.2.2.2.2.2.2.2.2.2.2.2.2.2.1]
abbrev sp20 (x : T20) : List Value := [.int .i64 x.1, .int .i64 x.2.1, .int .i64 x.2.2.1, .int .i64 x.2.2.2.1, .int .i64 x.2.2.2.2.1, .int .i64 x.2.2.2.2.2.1, .int .i64 x.2.2.2.2.2.2.1, .int .i64 x.2.2.2.2.2.2.2.1, .int .i64 x.2.2.2.2.2.2.2.2.1, .int .i64 x.2.2.2.2.2.2.2.2.2.1, .int .i64 x.2.2.2.2.2.2.2.2.2.2.1, .int .i64 x.2.2.2.2.2.2.2.2.2.2.2.1, .int .i64 x.2.2.2.2.2.2.2.2.2.2.2.2.1, .int .i64 x.2.2.2.2.2.2.2.2.2.2.2.2.2.1, .int .i64 x.2.2.2.2.2.2.2.2.2.2.2.2.2.2.1, .int .i64 x.2.2.2.2.2.2.2.2.2.2.2.2.2.2.2.1, .int .i64 x.2.2.2.2.2.2.2.2.2.2.2.2.2.2.2.2.1, .int .i64 x.2.2.2.2.2.2.2.2.2.2.2.2.2.2.2.2.2.1, .int .i64 x.2.2.2.2.2.2.2.2.2.2.2.2.2.2.2.2.2.2.1, .int .i64 x.2.2.2.2.2.2.2.2.2.2.2.2.2.2.2.2.2.2.2.1]
abbrev ag20 (x : T20) : Value := .agg #[.int .i64 x.1, .int .i64 x.2.1, .int .i64 x.2.2.1, .int .i64 x.2.2.2.1, .int .i64 x.2.2.2.2.1, .int .i64 x.2.2.2.2.2.1, .int .i64 x.2.2.2.2.2.2.1, .int .i64 x.2.2.2.2.2.2.2.1, .int .i64 x.2.2.2.2.2.2.2.2.1, .int .i64 x.2.2.2.2.2.2.2.2.2.1, .int .i64 x.2.2.2.2.2.2.2.2.2.2.1, .int .i64 x.2.2.2.2.2.2.2.2.2.2.2.1, .int .i64 x.2.2.2.2.2.2.2.2.2.2.2.2.1, .int .i64 x.2.2.2.2.2.2.2.2.2.2.2.2.2.1, .int .i64 x.2.2.2.2.2.2.2.2.2.2.2.2.2.2.1, .int .i64 x.2.2.2.2.2.2.2.2.2.2.2.2.2.2.2.1, .int .i64 x.2.2.2.2.2.2.2.2.2.2.2.2.2.2.2.2.1, .int .i64 x.2.2.2.2.2.2.2.2.2.2.2.2.2.2.2.2.2.1, .int .i64 x.2.2.2.2.2.2.2.2.2.2.2.2.2.2.2.2.2.2.1, .int .i64 x.2.2.2.2.2.2.2.2.2.2.2.2.2.2.2.2.2.2.2.1]
theorem l20_of {ps : List Int} (h : ps.length = 20) : ∃ x : T20, ps = l20 x := by
  match ps, h with
  | [a0, a1, a2, a3, a4, a5, a6, a7, a8, a9, a10, a11, a12, a13, a14, a15, a16, a17, a18, a19], _ => exact ⟨(a0, a1, a2, a3, a4, a5, a6, a7, a8, a9, a10, a11, a12, a13, a14, a15, a16, a17, a18, a19, ()), rfl⟩
theorem _root_.Go.Gk.Blk.rI2 {w : World} {b : Nat} {T : TypeId} {cs : List Value} (h : Blk w b T cs) {m n : Nat} {κ : IntKind} {x : Int} (hn : cs[m + n]? = some (.int κ x)) {φ : Int → Prop} (hφ : φ x) : ldI w (((Gk.blk b).add m).add n) κ φ := by
  rw [add_add']; exact h.rI hn hφ
theorem ld20 {w : World} {b : Nat} {T : TypeId} {x : T20} (h : Blk w b T (sp20 x)) {φ : Int → Int → Int → Int → Int → Int → Int → Int → Int → Int → Int → Int → Int → Int → Int → Int → Int → Int → Int → Int → Prop} (hφ : φ x.1 x.2.1 x.2.2.1 x.2.2.2.1 x.2.2.2.2.1 x.2.2.2.2.2.1 x.2.2.2.2.2.2.1 x.2.2.2.2.2.2.2.1 x.2.2.2.2.2.2.2.2.1 x.2.2.2.2.2.2.2.2.2.1 x.2.2.2.2.2.2.2.2.2.2.1 x.2.2.2.2.2.2.2.2.2.2.2.1 x.2.2.2.2.2.2.2.2.2.2.2.2.1 x.2.2.2.2.2.2.2.2.2.2.2.2.2.1 x.2.2.2.2.2.2.2.2.2.2.2.2.2.2.1 x.2.2.2.2.2.2.2.2.2.2.2.2.2.2.2.1 x.2.2.2.2.2.2.2.2.2.2.2.2.2.2.2.2.1 x.2.2.2.2.2.2.2.2.2.2.2.2.2.2.2.2.2.1 x.2.2.2.2.2.2.2.2.2.2.2.2.2.2.2.2.2.2.1 x.2.2.2.2.2.2.2.2.2.2.2.2.2.2.2.2.2.2.2.1) :
      ldI w ((blk b).add 0) .i64 fun x0 =>
      ldI w ((blk b).add 1) .i64 fun x1 =>
      ldI w ((blk b).add 2) .i64 fun x2 =>
      ldI w ((blk b).add 3) .i64 fun x3 =>
      ldI w ((blk b).add 4) .i64 fun x4 =>
      ldI w ((blk b).add 5) .i64 fun x5 =>
      ldI w ((blk b).add 6) .i64 fun x6 =>
      ldI w ((blk b).add 7) .i64 fun x7 =>
      ldI w ((blk b).add 8) .i64 fun x8 =>
      ldI w ((blk b).add 9) .i64 fun x9 =>
      ldI w ((blk b).add 10) .i64 fun x10 =>
      ldI w ((blk b).add 11) .i64 fun x11 =>
      ldI w ((blk b).add 12) .i64 fun x12 =>
      ldI w ((blk b).add 13) .i64 fun x13 =>
      ldI w ((blk b).add 14) .i64 fun x14 =>
      ldI w ((blk b).add 15) .i64 fun x15 =>
      ldI w ((blk b).add 16) .i64 fun x16 =>
      ldI w ((blk b).add 17) .i64 fun x17 =>
      ldI w ((blk b).add 18) .i64 fun x18 =>
      ldI w ((blk b).add 19) .i64 fun x19 =>
      φ x0 x1 x2 x3 x4 x5 x6 x7 x8 x9 x10 x11 x12 x13 x14 x15 x16 x17 x18 x19 :=
  h.rI (n := 0) rfl (h.rI (n := 1) rfl (h.rI (n := 2) rfl (h.rI (n := 3) rfl (h.rI (n := 4) rfl (h.rI (n := 5) rfl (h.rI (n := 6) rfl (h.rI (n := 7) rfl (h.rI (n := 8) rfl (h.rI (n := 9) rfl (h.rI (n := 10) rfl (h.rI (n := 11) rfl (h.rI (n := 12) rfl (h.rI (n := 13) rfl (h.rI (n := 14) rfl (h.rI (n := 15) rfl (h.rI (n := 16) rfl (h.rI (n := 17) rfl (h.rI (n := 18) rfl (h.rI (n := 19) rfl (hφ))))))))))))))))))))
theorem ld20c {w : World} {b : Nat} {T : TypeId} {v0 v1 : Value} {r : List Value} {x : T20} (h : Blk w b T (v0 :: v1 :: (sp20 x ++ r))) {φ : Int → Int → Int → Int → Int → Int → Int → Int → Int → Int → Int → Int → Int → Int → Int → Int → Int → Int → Int → Int → Prop} (hφ : φ x.1 x.2.1 x.2.2.1 x.2.2.2.1 x.2.2.2.2.1 x.2.2.2.2.2.1 x.2.2.2.2.2.2.1 x.2.2.2.2.2.2.2.1 x.2.2.2.2.2.2.2.2.1 x.2.2.2.2.2.2.2.2.2.1 x.2.2.2.2.2.2.2.2.2.2.1 x.2.2.2.2.2.2.2.2.2.2.2.1 x.2.2.2.2.2.2.2.2.2.2.2.2.1 x.2.2.2.2.2.2.2.2.2.2.2.2.2.1 x.2.2.2.2.2.2.2.2.2.2.2.2.2.2.1 x.2.2.2.2.2.2.2.2.2.2.2.2.2.2.2.1 x.2.2.2.2.2.2.2.2.2.2.2.2.2.2.2.2.1 x.2.2.2.2.2.2.2.2.2.2.2.2.2.2.2.2.2.1 x.2.2.2.2.2.2.2.2.2.2.2.2.2.2.2.2.2.2.1 x.2.2.2.2.2.2.2.2.2.2.2.2.2.2.2.2.2.2.2.1) :
      ldI w (((blk b).add 2).add 0) .i64 fun x0 =>
      ldI w (((blk b).add 2).add 1) .i64 fun x1 =>
      ldI w (((blk b).add 2).add 2) .i64 fun x2 =>
      ldI w (((blk b).add 2).add 3) .i64 fun x3 =>
      ldI w (((blk b).add 2).add 4) .i64 fun x4 =>
      ldI w (((blk b).add 2).add 5) .i64 fun x5 =>
      ldI w (((blk b).add 2).add 6) .i64 fun x6 =>
      ldI w (((blk b).add 2).add 7) .i64 fun x7 =>
      ldI w (((blk b).add 2).add 8) .i64 fun x8 =>
      ldI w (((blk b).add 2).add 9) .i64 fun x9 =>
      ldI w (((blk b).add 2).add 10) .i64 fun x10 =>
      ldI w (((blk b).add 2).add 11) .i64 fun x11 =>
      ldI w (((blk b).add 2).add 12) .i64 fun x12 =>
      ldI w (((blk b).add 2).add 13) .i64 fun x13 =>
      ldI w (((blk b).add 2).add 14) .i64 fun x14 =>
      ldI w (((blk b).add 2).add 15) .i64 fun x15 =>
      ldI w (((blk b).add 2).add 16) .i64 fun x16 =>
      ldI w (((blk b).add 2).add 17) .i64 fun x17 =>
      ldI w (((blk b).add 2).add 18) .i64 fun x18 =>
      ldI w (((blk b).add 2).add 19) .i64 fun x19 =>
      φ x0 x1 x2 x3 x4 x5 x6 x7 x8 x9 x10 x11 x12 x13 x14 x15 x16 x17 x18 x19 :=
  h.rI2 (m := 2) (n := 0) rfl (h.rI2 (m := 2) (n := 1) rfl (h.rI2 (m := 2) (n := 2) rfl (h.rI2 (m := 2) (n := 3) rfl (h.rI2 (m := 2) (n := 4) rfl (h.rI2 (m := 2) (n := 5) rfl (h.rI2 (m := 2) (n := 6) rfl (h.rI2 (m := 2) (n := 7) rfl (h.rI2 (m := 2) (n := 8) rfl (h.rI2 (m := 2) (n := 9) rfl (h.rI2 (m := 2) (n := 10) rfl (h.rI2 (m := 2) (n := 11) rfl (h.rI2 (m := 2) (n := 12) rfl (h.rI2 (m := 2) (n := 13) rfl (h.rI2 (m := 2) (n := 14) rfl (h.rI2 (m := 2) (n := 15) rfl (h.rI2 (m := 2) (n := 16) rfl (h.rI2 (m := 2) (n := 17) rfl (h.rI2 (m := 2) (n := 18) rfl (h.rI2 (m := 2) (n := 19) rfl (hφ))))))))))))))))))))
theorem st20 {b : Nat} {T : TypeId} {cs : List Value} {x : T20} {K : World → Prop} {w : World} (hB : Blk w b T cs) (hl : cs.length = 20) (hK : ∀ w', Blk w' b T (sp20 x) → Chg b w w' → K w') :
      Wr w (blk b) ∧ Nw (w.setCell (blk b) (.int .i64 x.1)) fun u0 =>
      Wr u0 ((blk b).add 1) ∧ Nw (u0.setCell ((blk b).add 1) (.int .i64 x.2.1)) fun u1 =>
      Wr u1 ((blk b).add 2) ∧ Nw (u1.setCell ((blk b).add 2) (.int .i64 x.2.2.1)) fun u2 =>
      Wr u2 ((blk b).add 3) ∧ Nw (u2.setCell ((blk b).add 3) (.int .i64 x.2.2.2.1)) fun u3 =>
      Wr u3 ((blk b).add 4) ∧ Nw (u3.setCell ((blk b).add 4) (.int .i64 x.2.2.2.2.1)) fun u4 =>
      Wr u4 ((blk b).add 5) ∧ Nw (u4.setCell ((blk b).add 5) (.int .i64 x.2.2.2.2.2.1)) fun u5 =>
      Wr u5 ((blk b).add 6) ∧ Nw (u5.setCell ((blk b).add 6) (.int .i64 x.2.2.2.2.2.2.1)) fun u6 =>
      Wr u6 ((blk b).add 7) ∧ Nw (u6.setCell ((blk b).add 7) (.int .i64 x.2.2.2.2.2.2.2.1)) fun u7 =>
      Wr u7 ((blk b).add 8) ∧ Nw (u7.setCell ((blk b).add 8) (.int .i64 x.2.2.2.2.2.2.2.2.1)) fun u8 =>
      Wr u8 ((blk b).add 9) ∧ Nw (u8.setCell ((blk b).add 9) (.int .i64 x.2.2.2.2.2.2.2.2.2.1)) fun u9 =>
      Wr u9 ((blk b).add 10) ∧ Nw (u9.setCell ((blk b).add 10) (.int .i64 x.2.2.2.2.2.2.2.2.2.2.1)) fun u10 =>
      Wr u10 ((blk b).add 11) ∧ Nw (u10.setCell ((blk b).add 11) (.int .i64 x.2.2.2.2.2.2.2.2.2.2.2.1)) fun u11 =>
      Wr u11 ((blk b).add 12) ∧ Nw (u11.setCell ((blk b).add 12) (.int .i64 x.2.2.2.2.2.2.2.2.2.2.2.2.1)) fun u12 =>
      Wr u12 ((blk b).add 13) ∧ Nw (u12.setCell ((blk b).add 13) (.int .i64 x.2.2.2.2.2.2.2.2.2.2.2.2.2.1)) fun u13 =>
      Wr u13 ((blk b).add 14) ∧ Nw (u13.setCell ((blk b).add 14) (.int .i64 x.2.2.2.2.2.2.2.2.2.2.2.2.2.2.1)) fun u14 =>
      Wr u14 ((blk b).add 15) ∧ Nw (u14.setCell ((blk b).add 15) (.int .i64 x.2.2.2.2.2.2.2.2.2.2.2.2.2.2.2.1)) fun u15 =>
      Wr u15 ((blk b).add 16) ∧ Nw (u15.setCell ((blk b).add 16) (.int .i64 x.2.2.2.2.2.2.2.2.2.2.2.2.2.2.2.2.1)) fun u16 =>
      Wr u16 ((blk b).add 17) ∧ Nw (u16.setCell ((blk b).add 17) (.int .i64 x.2.2.2.2.2.2.2.2.2.2.2.2.2.2.2.2.2.1)) fun u17 =>
      Wr u17 ((blk b).add 18) ∧ Nw (u17.setCell ((blk b).add 18) (.int .i64 x.2.2.2.2.2.2.2.2.2.2.2.2.2.2.2.2.2.2.1)) fun u18 =>
      Wr u18 ((blk b).add 19) ∧ Nw (u18.setCell ((blk b).add 19) (.int .i64 x.2.2.2.2.2.2.2.2.2.2.2.2.2.2.2.2.2.2.2.1)) fun u19 =>
      K u19 :=
  stC_all (vs := sp20 x) hB hl hK
end Go.Proofs
namespace Go.Proofs
open Go.Gk Go.RowKit Go.Gm

theorem Fns.chg {w w' : World} {fs : Sl} {L : List Fe} {b : Nat} {T : TypeId} {cs : List Value} (h : Fns w fs L) (c : Chg b w w') (hB : Blk w b T cs) (h1 : 29 ≠ T) (h2 : 3 ≠ T) (h3 : 69 ≠ T) : Fns w' fs L := by
  have f : Fr w.heap.size (fun k => k = b) w w' := c.fr
  exact ⟨f.own h.own fun b e e2 => by subst e2; exact own_apart h.own hB h1 e, fun x hx =>
    ⟨f.own (h.row x hx).1 fun b e e2 => by subst e2; exact own_apart (h.row x hx).1 hB h2 e, f.own (h.row x hx).2 fun b e e2 => by subst e2; exact own_apart (h.row x hx).2 hB h3 e⟩⟩
section
variable {x : Mo} {pl : List PI} {w : World} {R : Value → World → Prop}
theorem read_spec (hN : IsPl w x.2.2.1 pl) (hp : PlOk pl)
    (hok : ∀ bc ps fs L w', layP x.2.1 pl = (0, 0) → Ct w w' bc x.2.2.1 pl.length ps fs → PartsTo pl 10 pl.length ps → Fns w' fs L → Fresh w.heap.size fs → cutF pl pl.length = L.map (·.1) → GoodL pl pl.length →
      R (.tuple #[.pointer (some (blk bc)), .agg #[.int .i64 0, .int .i64 0]]) w')
    (hbad : ∀ w', Below w.heap.size w w' → (layP x.2.1 pl).1 ≠ 0 → R (.tuple #[.pointer none, .agg #[.int .i64 (layP x.2.1 pl).1, .int .i64 ((layP x.2.1 pl).2 : Int)]]) w') :
    callR Tryz.prog 103 #[moA x] w R := by
  refine callR.of (layout_read_calls x R w ?_) fun _ _ h => h
  refine lay_of fun w1 hB1 b1 z1 => ?_
  have hB1 : Blk w1 w.heap.size 25 (moV x) := hB1
  refine lay_of fun w2 hC2 b2 z2 => ?_
  have hC2 : Blk w2 w1.heap.size 33 [.int .i64 0, .int .i64 0] := hC2
  have hb2 := b1.on b2
  have s1 := b1.size
  have hlen := hN.len
  have h40 := hp.len
  refine Mo.load (hB1.below b2) ?_
  refine Shape_spec (x := x) (hN.below hb2) hp fun w3 b3 => ⟨((shapeP x.2.1 pl).1, ((shapeP x.2.1 pl).2 : Int), ()), rfl, ?_⟩
  refine box2 rfl fun w4 h4 b4 z4 => ?_
  have b24 := b3.on b4
  have hb4 := hb2.on b24
  have hB4 := (hB1.below b2).below b24
  have hC4 := hC2.below b24
  have s24 := b24.size
  refine h4.rI0 rfl (ifB_bne (fun e => ?_) (fun e => ?_))
  · have e' : (shapeP x.2.1 pl).1 ≠ 0 := e
    have hl : layP x.2.1 pl = shapeP x.2.1 pl := if_pos e'
    rw [hl] at hbad
    refine Sp.load h4.drew ?_
    refine st2 hC4.drew rfl fun w5 h5 c5 => Sp.load h5 ?_
    exact hbad w5 (c5.below hb4.drew (by omega)) e'
  · have e' : (shapeP x.2.1 pl).1 = 0 := e
    have hl : layP x.2.1 pl = chkP pl := if_neg (fun h => h e')
    refine hB4.rS (n := 2) (x := x.2.2.1) rfl ?_
    refine lay_of fun w9 h9 b9 z9 => ?_
    have h9 : Blk w9 w4.heap.size 151 (ctV x.2.2.1 (0 : Nat) (List.replicate 20 0) ⟨none, 0, 0⟩) := h9
    have hCt : Ct w4 w9 w4.heap.size x.2.2.1 0 (List.replicate 20 0) ⟨none, 0, 0⟩ := ⟨Nat.le_refl _, b9, h9, List.length_replicate⟩
    have s4 := hb4.size
    generalize hbc : w4.heap.size = bc at hCt z9
    refine cut_spec hCt (hN.below hb4) h40 (fun ps fs L w10 hC10 f10 hg ho hP hL hF hcut => ?_) (fun n ps fs w10 hC10 f10 hS => ?_)
    · refine ⟨true, rfl, ifB_true rfl ?_⟩
      have hlay : layP x.2.1 pl = (0, 0) := by rw [hl, chk_end hg, if_neg (by rw [ho]; decide)]
      have hR1 := hC4.below hC10.b0
      have hCw : Ct w w10 bc x.2.2.1 pl.length ps fs := ⟨by omega, hb4.on hC10.b0, hC10.blk, hC10.len⟩
      refine st2 hR1 rfl fun w12 h12 c12 => Sp.load h12 ?_
      exact hok bc ps fs L w12 hlay (hCw.chg c12 (by omega) (by omega)) hP (hL.chg c12 hR1 (by decide) (by decide) (by decide)) (fun a ha => by have := hF a ha; have := b9.size; omega) hcut hg
    · refine ⟨false, rfl, ifB_false rfl ?_⟩
      have bd : Below w10.heap.size w10 w10.drew := (Below.refl _ _).drew
      have hlay : layP x.2.1 pl = (if n < pl.length then 50 else 51, n) := by rw [hl]; exact hS.chk
      rw [hlay] at hbad
      have hBm := (hB4.below hC10.b0)
      have hR1 := hC4.below hC10.b0
      have hbw : Below w.heap.size w w10 := hb4.on hC10.b0
      refine hC10.blk.drew.rI (n := 1) rfl (hBm.drew.rS (n := 2) (x := x.2.2.1) rfl (ifB_dec (fun h => ?_) (fun h => ?_)))
      · have hlt : n < pl.length := by omega
        rw [if_pos hlt] at hbad
        refine hC10.blk.drew.drew.rI (n := 1) rfl (st2 hR1.drew.drew rfl fun w13 h13 c13 => Sp.load h13 ?_)
        exact hbad w13 (c13.below hbw.drew.drew (by omega)) (show (50 : Int) ≠ 0 by decide)
      · have hlt : ¬ n < pl.length := by omega
        rw [if_neg hlt] at hbad
        refine hC10.blk.drew.drew.rI (n := 1) rfl (st2 hR1.drew.drew rfl fun w13 h13 c13 => Sp.load h13 ?_)
        exact hbad w13 (c13.below hbw.drew.drew (by omega)) (show (51 : Int) ≠ 0 by decide)
theorem Parts_spec (hN : IsPl w x.2.2.1 pl) (hp : PlOk pl)
    (hR : ∀ (y : T20) w', Below w.heap.size w w' → ((layP x.2.1 pl).1 = 0 → PartsTo pl 10 pl.length (l20 y) ∧ GoodL pl pl.length) → R (.tuple #[ag20 y, .agg #[.int .i64 (layP x.2.1 pl).1, .int .i64 ((layP x.2.1 pl).2 : Int)]]) w') :
    callR Tryz.prog 100 #[moA x] w R := by
  refine callR.of (layout_Parts_calls x R w ?_) fun _ _ h => h
  refine lay_of fun w1 hB1 b1 z1 => ?_
  have hB1 : Blk w1 w.heap.size 25 (moV x) := hB1
  refine lay_of fun w2 hA2 b2 z2 => ?_
  refine lay_of fun w3 hC3 b3 z3 => ?_
  have hC3 : Blk w3 w2.heap.size 33 [.int .i64 0, .int .i64 0] := hC3
  have hb23 := b2.on b3
  have hb3 := b1.on hb23
  have s1 := b1.size
  refine Mo.load (hB1.below hb23) ?_
  refine read_spec (x := x) (hN.below hb3) hp (fun bc ps fs L w4 hlay hC4 hP hL hF hcut hg => ⟨some (blk bc), (0, 0, ()), rfl, ?_⟩) (fun w4 b4 hne => ⟨none, ((layP x.2.1 pl).1, ((layP x.2.1 pl).2 : Int), ()), rfl, ?_⟩)
  · rw [hlay] at hR
    refine box2 rfl fun w7 h7 b7 z7 => ?_
    have hC7 := hC4.below b7
    have b37 := hC4.b0.on b7
    have hA7 := ((hA2.below b3).below b37).drew
    have hS7 := (hC3.below b37).drew
    have hbw := (hb3.on b37).drew
    have s37 := b37.size
    have h7 := h7.drew
    obtain ⟨y, rfl⟩ := l20_of hC7.len
    have hct := hC7.blk.drew
    generalize w7.drew = w8 at hct hA7 hS7 hbw h7
    refine ifB_false rfl (derefP_some rfl (ld20c (x := y) hct ?_))
    refine Sp.load h7 ?_
    refine st20 (x := y) hA7 rfl fun w49 h49 c49 => ?_
    have hS49 := c49.blk hS7 (by omega)
    have h7' := c49.blk h7 (by have := hC4.b0.size; omega)
    refine ⟨h7'.cell (n := 0) rfl, h7'.cell (n := 1) rfl, ?_⟩
    refine st2 hS49 rfl fun w51 h51 c51 => ?_
    refine ld20 (x := y) (c51.blk h49 (by omega)) (Sp.load h51 ?_)
    exact hR y w51 (c51.below (c49.below hbw (by omega)) (by omega)) fun _ => ⟨hP, hg⟩
  · refine box2 rfl fun w7 h7 b7 z7 => ?_
    have b37 := b4.on b7
    have hA7 := ((hA2.below b3).below b37).drew
    have hS7 := (hC3.below b37).drew
    have hbw := (hb3.on b37).drew
    have s37 := b37.size
    have s34 := b4.size
    have h7 := h7.drew
    generalize w7.drew = w8 at hA7 hS7 hbw h7
    refine ifB_true rfl (Sp.load h7 ?_)
    refine st20 (x := (0, 0, 0, 0, 0, 0, 0, 0, 0, 0, 0, 0, 0, 0, 0, 0, 0, 0, 0, 0, ())) hA7 rfl fun w49 h49 c49 => ?_
    have hS49 := c49.blk hS7 (by omega)
    have h7' := c49.blk h7 (by omega)
    refine ⟨h7'.cell (n := 0) rfl, h7'.cell (n := 1) rfl, ?_⟩
    refine st2 hS49 rfl fun w51 h51 c51 => ?_
    refine ld20 (x := (0, 0, 0, 0, 0, 0, 0, 0, 0, 0, 0, 0, 0, 0, 0, 0, 0, 0, 0, 0, ())) (c51.blk h49 (by omega)) (Sp.load h51 ?_)
    exact hR _ w51 (c51.below (c49.below hbw (by omega)) (by omega)) fun h => absurd h hne
end
end Go.Proofs
namespace Go.Proofs
open Go.Gk Go.RowKit Go.Gm

theorem makerI_iff {pl : List PI} {id : Int} {n : Nat} : 0 ≤ makerI pl id n ↔ ∃ k, k < n ∧ mk1 pl id k = true := by
  unfold makerI
  constructor
  · intro h
    cases e : (List.range n).find? (mk1 pl id) with
    | none => rw [e] at h; exact absurd h (by decide)
    | some k => exact ⟨k, List.mem_range.1 (List.mem_of_find?_eq_some e), List.find?_some e⟩
  · rintro ⟨k, h1, h2⟩
    cases e : (List.range n).find? (mk1 pl id) with
    | none =>
      rw [List.find?_eq_none] at e
      exact absurd h2 (e k (List.mem_range.2 h1))
    | some k => exact Int.natCast_nonneg k
theorem mk1_zero (pl : List PI) (k : Nat) : mk1 pl 0 k = false := by unfold mk1; simp
theorem MkOk.lt {L : List (Int × Int)} {pl : List PI} (h : MkOk L pl 0) {id v : Int} (hv : lookL L id = some v) (n : Nat) : v < n ↔ 0 ≤ makerI pl id n := by
  obtain ⟨j, rfl, _, q3, q4, q5⟩ := (h id).2 v hv
  rw [makerI_iff]
  constructor
  · intro hh
    exact ⟨j, by omega, q4⟩
  · rintro ⟨k, h1, h2⟩
    rcases Nat.lt_or_ge k j with g | g
    · rw [q5 k (Nat.zero_le _) g] at h2; cases h2
    · omega
theorem MkOk.none {L : List (Int × Int)} {pl : List PI} (h : MkOk L pl 0) {id : Int} (hv : lookL L id = none) : makerI pl id pl.length < 0 := by
  rcases Int.lt_or_le (makerI pl id pl.length) 0 with g | g
  · exact g
  · obtain ⟨k, h1, h2⟩ := makerI_iff.1 g
    rw [(h id).1 hv k (Nat.zero_le _) h1] at h2
    cases h2
theorem MkOk.some {L : List (Int × Int)} {pl : List PI} (h : MkOk L pl 0) {id v : Int} (hv : lookL L id = some v) : 0 ≤ makerI pl id pl.length := by
  obtain ⟨j, _, _, q3, q4, _⟩ := (h id).2 v hv
  exact makerI_iff.2 ⟨j, q3, q4⟩
def idsAt (pl : List PI) (n : Nat) : List Int := idsP (ix pl n).2.1 (ix pl n).2.2.2
def fltP (pl : List PI) (n : Nat) : Int :=
  if 0 ≤ makerI pl (ix pl n).2.2.1 n then 90
  else if (idsAt pl n).any (fun id => decide (makerI pl id pl.length < 0)) = true then 91
  else if partP (ix pl n) = 7 ∧ (idsAt pl n).any (fun id => decide (makerI pl id n < 0)) = true then 92 else 0
def chk9P (bound : Int) (pl : List PI) : Int × Nat := if (layP bound pl).1 ≠ 0 then layP bound pl else match (List.range pl.length).find? (fun k => fltP pl k != 0) with
  | some k => (fltP pl k, k)
  | none => (0, 0)
theorem chk9_lay {bound : Int} {pl : List PI} (h : (layP bound pl).1 ≠ 0) : chk9P bound pl = layP bound pl := if_pos h
theorem chk9_bad {bound : Int} {pl : List PI} (h : ¬ (layP bound pl).1 ≠ 0) {n : Nat} (hn : n < pl.length) (hj : ∀ j, j < n → fltP pl j = 0) (hf : fltP pl n ≠ 0) : chk9P bound pl = (fltP pl n, n) := by
  unfold chk9P
  rw [if_neg h, find_first hn (by rw [bne_iff_ne.2 hf]) fun j hj' => by rw [hj j hj']; rfl]
theorem chk9_good {bound : Int} {pl : List PI} (h : ¬ (layP bound pl).1 ≠ 0) (hj : ∀ j, j < pl.length → fltP pl j = 0) : chk9P bound pl = (0, 0) := by
  unfold chk9P
  have : (List.range pl.length).find? (fun k => fltP pl k != 0) = none := by
    rw [List.find?_eq_none]
    intro j hj'
    rw [hj j (List.mem_range.1 hj')]
    simp
  rw [if_neg h, this]
theorem any_lt {α : Type} {l : List α} {p : α → Bool} {k : Nat} (hk : k < l.length) (h : p l[k] = true) : l.any p = true := List.any_eq_true.2 ⟨l[k], List.getElem_mem hk, h⟩
theorem any_none {α : Type} {l : List α} {p : α → Bool} (h : ∀ k (hk : k < l.length), p l[k] = false) : l.any p = false := by
  cases e : l.any p
  · rfl
  · obtain ⟨x, h1, h2⟩ := List.any_eq_true.1 e
    obtain ⟨k, hk, rfl⟩ := List.mem_iff_getElem.1 h1
    rw [h k hk] at h2
    cases h2

end Go.Proofs
namespace Go.Proofs
open Go.Gk Go.RowKit Go.Gm

theorem zInt : ∃ i, Tryz.prog.info? 3 = some i ∧ i.zero = some (.int .i64 0) := ⟨Tryz.t3, by kernel_rfl, rfl⟩
section
variable {x : Mo} {pl : List PI} {w : World} {R : Value → World → Prop}
theorem Check_spec (hN : IsPl w x.2.2.1 pl) (hp : PlOk pl) (hR : ∀ w', Below w.heap.size w w' → R (.agg #[.int .i64 (chk9P x.2.1 pl).1, .int .i64 ((chk9P x.2.1 pl).2 : Int)]) w') :
    callR Tryz.prog 44 #[moA x] w R := by
  refine callR.of (ids_Check_calls x R w ?_) fun _ _ h => h
  refine lay_of fun w1 hB1 b1 z1 => ?_
  have hB1 : Blk w1 w.heap.size 25 (moV x) := hB1
  refine lay_of fun w2 hC2 b2 z2 => ?_
  have hC2 : Blk w2 w1.heap.size 33 [.int .i64 0, .int .i64 0] := hC2
  have hb2 := b1.on b2
  have s1 := b1.size
  have hlen := hN.len
  have h40 := hp.len
  refine Mo.load (hB1.below b2) ?_
  refine Parts_spec (x := x) (hN.below hb2) hp fun y w3 b3 hP => ⟨y, ((layP x.2.1 pl).1, ((layP x.2.1 pl).2 : Int), ()), rfl, ?_⟩
  refine lay_of fun w4 hY4 b4 z4 => ?_
  refine lay_of fun w5 hE5 b5 z5 => ?_
  have hE5 : Blk w5 w4.heap.size 33 [.int .i64 0, .int .i64 0] := hE5
  refine st20 (x := y) (hY4.below b5) rfl fun w25 hY25 c25 => ?_
  refine st2 (c25.blk hE5 (by omega)) rfl fun w27 hE27 c27 => ?_
  have hY27 := c27.blk hY25 (by omega)
  have b327 : Below w3.heap.size w3 w27 := c27.below (c25.below (b4.on b5) (Nat.le_refl _)) (by omega)
  have b227 := b3.on b327
  have hb27 := hb2.on b227
  have hB27 := (hB1.below b2).below b227
  have hC27 := hC2.below b227
  have out : ∀ {w' : World} {a b : Int}, Below w27.heap.size w27 w' → (chk9P x.2.1 pl).1 = a → (((chk9P x.2.1 pl).2 : Nat) : Int) = b → Wr w' (blk w1.heap.size) ∧ Nw (w'.setCell (blk w1.heap.size) (.int .i64 a)) fun w7 => Wr w7 ((blk w1.heap.size).add 1) ∧
      Nw (w7.setCell ((blk w1.heap.size).add 1) (.int .i64 b)) fun w8 => ldI w8 ((blk w1.heap.size).add 0) .i64 fun x9 => ldI w8 ((blk w1.heap.size).add 1) .i64 fun x10 => R (.agg #[(.int .i64 x9), (.int .i64 x10)]) w8 := by
    intro w' a b hb e1 e2
    subst e1 e2
    exact st2 (hC27.below hb) rfl fun w8 h8 c8 => Sp.load h8 (hR w8 (c8.below (hb27.on hb) (by omega)))
  refine hE27.rI0 rfl (ifB_bne (fun e => ?_) (fun e => ?_))
  · have e' : (layP x.2.1 pl).1 ≠ 0 := e
    have hl := chk9_lay e'
    exact Sp.load hE27 (out (Below.refl _ _) (by rw [hl]) (by rw [hl]))
  have e0 : (layP x.2.1 pl).1 = 0 := e
  have e' : ¬ (layP x.2.1 pl).1 ≠ 0 := fun h => h e
  obtain ⟨hPT, hG⟩ := hP e0
  obtain ⟨q1, q2, q3, q4⟩ := hPT 7 (by omega)
  generalize hfr : (l20 y).getD (2 * 7) 0 = from_ at q1 q2 q4
  generalize hto : (l20 y).getD (2 * 7 + 1) 0 = to_ at q2 q3 q4
  refine hB27.rS (n := 2) (x := x.2.2.1) rfl ?_
  refine makers_spec (hN.below hb27) fun w30 L hM30 hMk hKN b30 => ⟨some w27.heap.size, rfl, ⟨by omega, by omega⟩, ?_⟩
  have hY30 := hY27.below b30
  refine hY30.rI2 (m := 7 * 2) (n := 0) (x := from_) (by rw [← hfr]; rfl) (hY30.rI2 (m := 7 * 2) (n := 1) (x := to_) (by rw [← hto]; rfl) ?_)
  refine box2 rfl fun w33 hG33 b33 z33 => ?_
  have b2733 := b30.on b33
  have hM33 := hM30.below b33
  have hB33 := hB27.below b2733
  refine hB33.rS (n := 2) (x := x.2.2.1) rfl ?_
  refine LoopW.count pl.length hN.bound (fun k w' => Below w33.heap.size w33 w' ∧ ∀ j, j < k → fltP pl j = 0) ⟨Below.refl _ _, fun j hj => by omega⟩ ?_
  rintro k w34 hk ⟨hb34, hj⟩ next hnext
  have hb2734 := b2733.on hb34
  have hN34 := hN.below (hb27.on hb2734)
  refine ifB_dec (fun h => ?_) (fun h => ?_)
  · have hlt : k < pl.length := by dsimp only at h; omega
    have eix : pl[k] = ix pl k := (ix_lt hlt).symm
    refine JoinW.cut (fun _ w' => Below w33.heap.size w33 w' ∧ fltP pl k = 0) ?_ ?_
    · refine elemPI hN34 hlt fun t ht => ?_
      refine box4 rfl fun w39 h39 b39 z39 => ?_
      have h39 : Blk w39 w34.heap.size 41 (inV (mkIn pl[k] t)) := h39
      have hb39 := hb34.on b39
      refine JoinW.cut (fun _ w' => w' = w39 ∧ ¬ 0 ≤ makerI pl (ix pl k).2.2.1 k) ?_ ?_
      · refine h39.rI (n := 2) rfl (ifB_bne (fun e1 => ?_) (fun e1 => ⟨rfl, fun g => ?_⟩))
        · have e1 : pl[k].2.2.1 ≠ 0 := e1
          refine h39.rI (n := 2) rfl (lookV_of uMapI uU32 zInt (hM33.below hb39) ?_)
          have hmk : mk1 pl (ix pl k).2.2.1 k = true := by unfold mk1; rw [← eix, getD_lt hlt, beq_self_eq_true, bne_iff_ne.2 e1]; rfl
          cases hl : lookL L pl[k].2.2.1 with
          | none =>
            have := (hMk pl[k].2.2.1).1 hl k (Nat.zero_le _) hlt
            rw [← eix] at hmk
            rw [hmk] at this
            cases this
          | some v =>
            have hv := hMk.lt hl k
            rw [eix] at hv
            refine ifB_dec (fun h => ?_) (fun h => ⟨rfl, fun g => h (hv.2 g)⟩)
            have hf : fltP pl k = 90 := by unfold fltP; rw [if_pos (hv.1 h)]
            have hb := chk9_bad e' hlt hj (by rw [hf]; decide)
            exact out (b2733.on hb39) (by rw [hb, hf]) (by rw [hb])
        · have e1 : pl[k].2.2.1 = 0 := e1
          rw [← eix, e1] at g
          obtain ⟨j, _, h2⟩ := makerI_iff.1 g
          rw [mk1_zero] at h2
          cases h2
      · rintro _ w42 ⟨rfl, n90⟩
        refine Ins.load h39 ?_
        have hfl : fltP pl k = if (idsAt pl k).any (fun id => decide (makerI pl id pl.length < 0)) = true then 91 else if partP (ix pl k) = 7 ∧ (idsAt pl k).any (fun id => decide (makerI pl id k < 0)) = true then 92 else 0 := by
          unfold fltP; rw [if_neg n90]
        refine Ids_spec (x := mkIn pl[k] t) (ht.below b39) (hp.args _ (List.getElem_mem hlt)) fun r w43 hO hF b43 => ⟨r, rfl, ?_⟩
        have hO : Own w43 22 1 r ((idsAt pl k).map (Value.int .u32)) := by unfold idsAt; rw [← eix]; exact hO
        generalize idsAt pl k = ids at hO hfl
        have hI := hO.isS
        have hrl := hI.len
        have hib := hI.bound
        have hb43 := hb39.on b43
        refine LoopW.ghost (fun j (st : Bool × Int × Unit) w' => ∃ (i : Nat), j = ids.length - i ∧ i ≤ ids.length ∧ w' = w43 ∧ st.2.1 = (i : Int) ∧ (∀ q (hq : q < ids.length), q < i → 0 ≤ makerI pl ids[q] pl.length) ∧ (st.1 = true ↔ ∃ q, ∃ hq : q < ids.length, q < i ∧ makerI pl ids[q] k < 0)) ids.length
          ⟨0, rfl, Nat.zero_le _, rfl, rfl, fun q hq h => by omega, ⟨fun h => (by cases h), fun ⟨q, hq, h, _⟩ => by omega⟩⟩ ?_
        rintro _ ⟨ah, _, _⟩ w44 ⟨i, rfl, hi, hw, e2, hmd, hah⟩ next2 hnext2
        dsimp only at e2 hah
        subst hw e2
        refine ifB_dec (fun h => ?_) (fun h => ?_)
        · have hil : i < ids.length := by dsimp only at h; omega
          refine JoinW.cut (fun (st : Bool × Unit) w' => w' = w44 ∧ 0 ≤ makerI pl ids[i] pl.length ∧ (st.1 = true ↔ ah = true ∨ makerI pl ids[i] k < 0)) ?_ ?_
          · refine elemU hI hil (lookOk_of uMapI uU32 zInt (hM33.below hb43) ?_)
            cases hl : lookL L ids[i] with
            | none =>
              refine ifB_true rfl ?_
              have hf : fltP pl k = 91 := by rw [hfl, if_pos (any_lt hil (decide_eq_true (hMk.none hl)))]
              have hb := chk9_bad e' hlt hj (by rw [hf]; decide)
              exact out (b2733.on hb43) (by rw [hb, hf]) (by rw [hb])
            | some v =>
              refine ifB_false rfl ?_
              have hv := hMk.lt hl k
              refine ifB_bool (fun hat => ⟨rfl, hMk.some hl, ⟨fun _ => .inl hat, fun _ => rfl⟩⟩) (fun haf => ⟨rfl, hMk.some hl, ?_⟩)
              show (decide (v ≥ (k : Int)) = true ↔ _)
              have haf : ah = false := haf
              rw [haf]
              constructor
              · intro g
                have := of_decide_eq_true g
                right
                rcases Int.lt_or_le (makerI pl ids[i] k) 0 with q | q
                · exact q
                · have := hv.2 q; omega
              · rintro (g | g)
                · cases g
                · refine decide_eq_true ?_
                  rcases Int.lt_or_le v k with q | q
                  · have := hv.1 q; omega
                  · exact q
          · rintro ⟨ah', _⟩ w47 ⟨hw, hmi, hah'⟩
            dsimp only at hah' ⊢
            subst hw
            rw [wrap64_succ (by omega)]
            refine hnext2 (ids.length - (i + 1)) _ _ (by omega) ⟨i + 1, rfl, hil, rfl, rfl, fun q hq h => ?_, ?_⟩
            · by_cases eq : q = i
              · subst eq; exact hmi
              · exact hmd q hq (by omega)
            · dsimp only
              rw [hah', hah]
              constructor
              · rintro (⟨q, hq, h1, h2⟩ | g)
                · exact ⟨q, hq, by omega, h2⟩
                · exact ⟨i, hil, by omega, g⟩
              · rintro ⟨q, hq, h1, h2⟩
                by_cases eq : q = i
                · subst eq; exact .inr h2
                · exact .inl ⟨q, hq, by omega, h2⟩
        · have hil : i = ids.length := by dsimp only at h; omega
          subst hil
          have n91 : ¬ ids.any (fun id => decide (makerI pl id pl.length < 0)) = true := by
            rw [any_none (p := fun id => decide (makerI pl id pl.length < 0)) fun q hq => decide_eq_false (by have := hmd q hq hq; omega)]
            decide
          rw [if_neg n91] at hfl
          have hany : ids.any (fun id => decide (makerI pl id k < 0)) = ah := by
            rw [Bool.eq_iff_iff, hah]
            constructor
            · intro g
              obtain ⟨y', y1, y2⟩ := List.any_eq_true.1 g
              obtain ⟨q, hq, rfl⟩ := List.mem_iff_getElem.1 y1
              exact ⟨q, hq, hq, of_decide_eq_true y2⟩
            · rintro ⟨q, hq, _, h2⟩
              exact any_lt hq (decide_eq_true h2)
          rw [hany] at hfl
          have hq4 := q4 k hlt
          have hG44 := hG33.below hb43
          refine JoinW.cut (fun _ w' => w' = w44 ∧ partP (ix pl k) = 7 ∧ ah = true) ?_ ?_
          · refine ifB_not (ifB_bool (fun hat => ?_) (fun haf => ⟨hb43, by have haf : ah = false := haf; rw [hfl, if_neg (fun g => by rw [haf] at g; cases g.2)]⟩))
            refine hG44.rI0 rfl (ifB_dec (fun h1 => ⟨hb43, ?_⟩) (fun h1 => ?_))
            · rw [hfl, if_neg (fun g => by have := hq4.2 g.1; dsimp only at h1; omega)]
            · refine hG44.rI (n := 1) rfl (ifB_dec (fun h2 => ⟨hb43, ?_⟩) (fun h2 => ⟨rfl, hq4.1 ⟨by dsimp only at h1; omega, by dsimp only at h2; omega⟩, hat⟩))
              rw [hfl, if_neg (fun g => by have := hq4.2 g.1; dsimp only at h2; omega)]
          · rintro _ w48 ⟨rfl, g1, g2⟩
            have hf : fltP pl k = 92 := by rw [hfl, if_pos ⟨g1, g2⟩]
            have hb := chk9_bad e' hlt hj (by rw [hf]; decide)
            exact out (b2733.on hb43) (by rw [hb, hf]) (by rw [hb])
    · rintro _ w51 ⟨hb51, hf⟩
      refine hnext w51 hlt ⟨hb51, fun j hjk => ?_⟩
      by_cases ej : j = k
      · subst ej; exact hf
      · exact hj j (by omega)
  · have hk' : k = pl.length := by dsimp only at h; omega
    have hg := chk9_good e' (fun j hj' => hj j (by omega))
    exact out hb2734 (by rw [hg]) (by rw [hg]; rfl)

noncomputable instance decPl (a b : List PI) : Decidable (a = b) := Classical.propDecidable _
end
end Go.Proofs
namespace Go.Proofs
open Go.Gk Go.RowKit Go.Gm

/-- Other ids. -/
def turnA (g : Int → Int) (a : Ag) : Ag := if a.1 = 1 then (a.1, g a.2.1, a.2.2) else a
def turnI (g : Int → Int) (p : PI) : PI := (p.1, g p.2.1, g p.2.2.1, p.2.2.2.map (turnA g))
def turnP (g : Int → Int) (pl : List PI) : List PI := pl.map (turnI g)
/-- How many results stand ahead of k. -/
def cntP (pl : List PI) : Nat → Nat
  | 0 => 0
  | k + 1 => cntP pl k + (if (ix pl k).2.2.1 ≠ 0 then 1 else 0)
/-- The numbers that Renumber has given ahead of k. -/
def rnP (pl : List PI) : Nat → Int → Int
  | 0, _ => 0
  | k + 1, id => if (ix pl k).2.2.1 ≠ 0 ∧ id = (ix pl k).2.2.1 then IntKind.u32.wrap ((cntP pl (k + 1) : Nat) : Int) else rnP pl k id
def newP (pl : List PI) : List PI := turnP (rnP pl pl.length) pl
def bndP (pl : List PI) : Int := IntKind.u32.wrap (((cntP pl pl.length : Nat) : Int) + 1)

/-- What Check says, where it says nothing. -/
theorem chk9_ok {bd : Int} {pl : List PI} (h : (chk9P bd pl).1 = 0) : chk9P bd pl = (0, 0) ∧ (layP bd pl).1 = 0 ∧ ∀ k, k < pl.length → fltP pl k = 0 := by
  unfold chk9P at h ⊢
  by_cases h1 : (layP bd pl).1 ≠ 0
  · rw [if_pos h1] at h; exact absurd h h1
  · rw [if_neg h1] at h ⊢
    have h1 : (layP bd pl).1 = 0 := Classical.not_not.1 h1
    cases hf : (List.range pl.length).find? (fun k => fltP pl k != 0) with
    | none =>
      refine ⟨rfl, h1, fun k hk => ?_⟩
      have := List.find?_eq_none.1 hf k (List.mem_range.2 hk)
      simpa using this
    | some k =>
      rw [hf] at h
      have := List.find?_some hf
      dsimp only at h
      rw [h] at this
      simp at this
theorem lay_shape {bd : Int} {pl : List PI} (h : (layP bd pl).1 = 0) : (shapeP bd pl).1 = 0 := by
  unfold layP at h
  by_cases h1 : (shapeP bd pl).1 ≠ 0
  · rw [if_pos h1] at h; exact h
  · exact Classical.not_not.1 h1
/-- No result is made twice. -/
theorem flt_new {pl : List PI} {k : Nat} (h : fltP pl k = 0) (h0 : (ix pl k).2.2.1 ≠ 0) : ∀ j, j < k → j < pl.length → (ix pl j).2.2.1 ≠ (ix pl k).2.2.1 := by
  intro j hj hl e
  have n90 : ¬ 0 ≤ makerI pl (ix pl k).2.2.1 k := by
    intro g
    unfold fltP at h
    rw [if_pos g] at h
    cases h
  refine n90 (makerI_iff.2 ⟨j, hj, ?_⟩)
  unfold mk1
  rw [show pl.getD j pi0 = ix pl j from ?_, e, beq_self_eq_true, bne_iff_ne.2 h0]
  · rfl
  · rw [getD_lt hl, ix_lt hl]
/-- The ids of a whole module are below its bound. -/
theorem ids_range {bd : Int} {pl : List PI} (hp : PlOk pl) (h0 : 0 ≤ bd) (h : (shapeP bd pl).1 = 0) : ∀ n ∈ allP pl, 0 ≤ n ∧ n < bd := by
  obtain ⟨h1, h2⟩ := shape_ok h
  intro n hn
  obtain ⟨p, hp', hn⟩ := List.mem_flatMap.1 hn
  obtain ⟨k, hk, rfl⟩ := List.getElem_of_mem hp'
  have := hp.nums _ (List.getElem_mem hk)
  exact (fault_ids (h2 k hk) (by omega) ⟨this.1.1, this.2.1.1, fun x hx => (this.2.2 x hx).1⟩).1 n hn
theorem mem_all {pl : List PI} {k : Nat} (hk : k < pl.length) : pl[k].2.1 ∈ allP pl ∧ pl[k].2.2.1 ∈ allP pl ∧ ∀ a ∈ pl[k].2.2.2, a.1 = 1 → a.2.1 ∈ allP pl := by
  have hm : ∀ {n}, n ∈ allI pl[k] → n ∈ allP pl := fun h => List.mem_flatMap.2 ⟨_, List.getElem_mem hk, h⟩
  refine ⟨hm (by simp [allI]), hm (by simp [allI]), fun a ha h1 => hm ?_⟩
  simp only [allI, List.mem_cons]
  right; right
  exact List.mem_map.2 ⟨a, List.mem_filter.2 ⟨ha, by simp [h1]⟩, rfl⟩
theorem rnP_zero (pl : List PI) : ∀ k, rnP pl k 0 = 0
  | 0 => rfl
  | k + 1 => by
    simp only [rnP]
    rw [if_neg (fun g => g.1 g.2.symm)]
    exact rnP_zero pl k
end Go.Proofs

namespace Go.Proofs
open Go.Gk Go.RowKit Go.Gm

theorem getD_ge {α : Type} {l : List α} {i : Nat} {d : α} (h : l.length ≤ i) : l.getD i d = d := by simp [List.getD, h]
theorem turnA_k (g : Int → Int) (a : Ag) : (turnA g a).1 = a.1 := by unfold turnA; split <;> rfl
theorem turnA_t (g : Int → Int) (a : Ag) : (turnA g a).2.2 = a.2.2 := by unfold turnA; split <;> rfl
theorem turnA_id (g : Int → Int) {a : Ag} (h : a.1 = 1) : (turnA g a).2.1 = g a.2.1 := by unfold turnA; rw [if_pos h]
theorem turnA_no (g : Int → Int) {a : Ag} (h : a.1 ≠ 1) : turnA g a = a := by unfold turnA; rw [if_neg h]
theorem idP_turn {g : Int → Int} {must : Bool} {n b b' e : Int} (he : e ≠ 0) (h : idP must n b e = 0) (hz : g 0 = 0) (hg : n ≠ 0 → 0 < g n ∧ g n < b') : idP must (g n) b' e = 0 := by
  unfold idP at h ⊢
  by_cases em : must = (n != 0)
  · have em' : must = (g n != 0) := by
      rw [em]
      by_cases h0 : n = 0
      · rw [h0, hz]
      · have := hg h0
        rw [bne_iff_ne.2 h0, bne_iff_ne.2 (show g n ≠ 0 by omega)]
    rw [if_pos em', if_neg]
    rintro ⟨m, hb⟩
    rw [m] at em
    have h0 : n ≠ 0 := bne_iff_ne.1 em.symm
    have := hg h0
    omega
  · rw [if_neg em] at h
    exact absurd h he
theorem wrong_turn {g : Int → Int} {c b b' : Int} {a : Ag} (h : wrongP c a b = 0) (hg : a.1 = 1 → a.2.1 ≠ 0 → 0 < g a.2.1 ∧ g a.2.1 < b') : wrongP c (turnA g a) b' = 0 := by
  unfold wrongP at h
  by_cases n1 : c = 0 ∨ a.1 ≠ kindP c
  · rw [if_pos n1] at h; exact absurd h (by decide)
  rw [if_neg n1] at h
  by_cases n2 : (a.1 = 3 ∧ a.2.1 ≠ 0) ∨ (a.1 ≠ 3 ∧ a.2.2.size ≠ 0)
  · rw [if_pos n2] at h; exact absurd h (by decide)
  rw [if_neg n2] at h
  by_cases n3 : a.1 = 1 ∧ (a.2.1 = 0 ∨ b ≤ a.2.1)
  · rw [if_pos n3] at h; exact absurd h (by decide)
  rw [if_neg n3] at h
  by_cases n4 : a.1 = 4 ∧ enumP c a.2.1 = false
  · rw [if_pos n4] at h; exact absurd h (by decide)
  rw [if_neg n4] at h
  by_cases n5 : nul a.2.2 = true
  · rw [if_pos n5] at h; exact absurd h (by decide)
  by_cases e : a.1 = 1
  · have h0 : a.2.1 ≠ 0 := fun g0 => n3 ⟨e, .inl g0⟩
    obtain ⟨g1, g2⟩ := hg e h0
    unfold turnA wrongP
    rw [if_pos e]
    dsimp only
    rw [if_neg n1, if_neg, if_neg, if_neg, if_neg n5]
    · rintro ⟨q, _⟩; omega
    · rintro ⟨_, q⟩; omega
    · rintro (⟨q, _⟩ | q)
      · omega
      · exact n2 (.inr q)
  · rw [turnA_no g e]
    unfold wrongP
    rw [if_neg n1, if_neg n2, if_neg (fun q => e q.1), if_neg n4, if_neg n5]
theorem cost_turn (g : Int → Int) (a : Ag) : cost (turnA g a) = cost a := by unfold cost; rw [turnA_k, turnA_t]
theorem costN_turn (g : Int → Int) (al : List Ag) (k : Nat) : costN (al.map (turnA g)) k = costN al k := by
  unfold costN
  rw [← List.map_take, List.map_map]
  congr 1
  exact List.map_congr_left fun a _ => cost_turn g a
theorem roomP_turn (g : Int → Int) (f : Fl) (al : List Ag) : roomP f (al.map (turnA g)) = roomP f al := by
  unfold roomP; rw [List.length_map, costN_turn]
theorem roomI_turn (g : Int → Int) (p : PI) : roomI (turnI g p) = roomI p := by
  unfold roomI turnI
  dsimp only
  cases frm p.1 with
  | none => rfl
  | some f => exact roomP_turn g f _
theorem argK_none {f : Fl} {al : List Ag} {b : Int} {k : Nat} (h : ∀ j, j < k → werr f al b j = 0) : argK f al b k = 0 := by
  unfold argK
  have : (List.range k).find? (fun j => werr f al b j != 0) = none := by
    rw [List.find?_eq_none]
    intro j hj
    rw [h j (List.mem_range.1 hj)]
    simp
  rw [this]
/-- What is known where an instruction has no fault. -/
theorem fault_all {p : PI} {b : Int} (h : faultI p b = 0) : ∃ f, frm p.1 = some f ∧ idP f.ty p.2.1 b 40 = 0 ∧ idP f.re p.2.2.1 b 41 = 0 ∧ (∀ j, j < p.2.2.2.length → werr f p.2.2.2 b j = 0) ∧
    wholeP f p.2.2.2.length = true ∧ roomP f p.2.2.2 ≤ 65535 := by
  unfold faultI at h
  cases hf : frm p.1 with
  | none => rw [faultP_none hf] at h; cases h
  | some f =>
    rw [faultP_some hf] at h
    unfold faultF at h
    by_cases e1 : errK f p.2.1 p.2.2.1 p.2.2.2 b p.2.2.2.length ≠ 0
    · rw [if_pos e1] at h; exact absurd h e1
    rw [if_neg e1] at h
    obtain ⟨q1, q2, q3⟩ := errK_all (Classical.not_not.1 e1)
    by_cases e2 : wholeP f p.2.2.2.length = false
    · rw [if_pos e2] at h; exact absurd h (by decide)
    rw [if_neg e2] at h
    by_cases e3 : 65535 < roomP f p.2.2.2
    · rw [if_pos e3] at h; exact absurd h (by decide)
    exact ⟨f, rfl, q1, q2, argK_all q3, by simpa using e2, by omega⟩
theorem fault_of {p : PI} {b : Int} {f : Fl} (hf : frm p.1 = some f) (h1 : idP f.ty p.2.1 b 40 = 0) (h2 : idP f.re p.2.2.1 b 41 = 0) (h3 : ∀ j, j < p.2.2.2.length → werr f p.2.2.2 b j = 0)
    (h4 : wholeP f p.2.2.2.length = true) (h5 : roomP f p.2.2.2 ≤ 65535) : faultI p b = 0 := by
  unfold faultI
  rw [faultP_some hf]
  unfold faultF errK
  rw [h1, h2, argK_none h3, h4]
  rw [if_neg (by simp), if_neg (by simp), if_neg (by omega)]
theorem fault_turn {g : Int → Int} {p : PI} {b b' : Int} (h : faultI p b = 0) (hz : g 0 = 0) (hg : ∀ n ∈ allI p, n ≠ 0 → 0 < g n ∧ g n < b') : faultI (turnI g p) b' = 0 := by
  obtain ⟨f, hf, h1, h2, h3, h4, h5⟩ := fault_all h
  refine fault_of (p := turnI g p) (f := f) hf (idP_turn (by decide) h1 hz (hg _ (by simp [allI]))) (idP_turn (by decide) h2 hz (hg _ (by simp [allI]))) (fun j hj => ?_) ?_ ?_
  · have hj : j < p.2.2.2.length := by simpa [turnI] using hj
    have hw := h3 j hj
    unfold werr at hw ⊢
    unfold turnI
    dsimp only
    rw [getD_lt (by rw [List.length_map]; exact hj), List.getElem_map]
    rw [getD_lt hj] at hw
    refine wrong_turn hw fun e => hg _ ?_
    simp only [allI, List.mem_cons]
    right; right
    exact List.mem_map.2 ⟨_, List.mem_filter.2 ⟨List.getElem_mem hj, by simp [e]⟩, rfl⟩
  · unfold turnI; dsimp only; rw [List.length_map]; exact h4
  · unfold turnI; dsimp only; rw [roomP_turn]; exact h5
theorem var_kind : (match frm 59 with | some f => kindP (letP f 0 : Int) | none => 0) = 4 := by decide +kernel
theorem part_turn {g : Int → Int} {p : PI} {b : Int} (h : faultI p b = 0) : partP (turnI g p) = partP p := by
  obtain ⟨f, hf, _, _, h3, _, _⟩ := fault_all h
  have : isVar (turnI g p) = isVar p := by
    unfold isVar turnI
    dsimp only
    by_cases e : p.1 = 59
    · cases hl : p.2.2.2 with
      | nil => rfl
      | cons a r =>
        have hw := h3 0 (by rw [hl]; simp)
        unfold werr at hw
        rw [hl] at hw
        have hk := (wrong_kind hw).2
        have hv := var_kind
        rw [e] at hf
        rw [hf] at hv
        have hv : kindP (letP f 0 : Int) = 4 := hv
        have hk : a.1 = kindP (letP f 0 : Int) := hk
        rw [List.map_cons]
        dsimp only
        rw [turnA_no g (show a.1 ≠ 1 by rw [hk, hv]; decide)]
    · rw [beq_eq_false_iff_ne.2 e]
      rfl
  unfold partP
  rw [this]
  rfl

structure TurnOk (g : Int → Int) (pl : List PI) (b' : Int) : Prop where
  zero : g 0 = 0
  rng : ∀ n ∈ allP pl, n ≠ 0 → 0 < g n ∧ g n < b'
  inj : ∀ m ∈ allP pl, ∀ n ∈ allP pl, g m = g n → m = n
  pos : 0 < b' ∧ b' ≤ 65536
theorem turnP_len (g : Int → Int) (pl : List PI) : (turnP g pl).length = pl.length := List.length_map _
theorem mem_allI {p : PI} {pl : List PI} (hp : p ∈ pl) {n : Int} (h : n ∈ allI p) : n ∈ allP pl := List.mem_flatMap.2 ⟨p, hp, h⟩
theorem ix_turn {g : Int → Int} (hz : g 0 = 0) (pl : List PI) (k : Nat) : ix (turnP g pl) k = turnI g (ix pl k) := by
  by_cases hk : k < pl.length
  · rw [ix, getD_lt (by rw [turnP_len]; exact hk), ix_lt hk]
    unfold turnP
    rw [List.getElem_map]
  · unfold ix
    rw [getD_ge (by rw [turnP_len]; omega), getD_ge (by omega)]
    unfold turnI
    rw [hz]
    rfl
theorem chk_sim {pl ql : List PI} (hl : pl.length = ql.length) (h1 : ∀ k, (ix pl k).1 = (ix ql k).1) (h2 : ∀ k, partP (ix pl k) = partP (ix ql k)) : chkP pl = chkP ql := by
  have hm : ∀ n, mdlP pl n = mdlP ql n := fun n => by unfold mdlP; simp only [h2]
  have ho : ∀ n, overP pl n = overP ql n := fun n => by unfold overP; simp only [h2]
  have ha : ∀ n, aheadP pl n = aheadP ql n := fun n => by cases n with
    | zero => rfl
    | succ n => simp only [aheadP, h1, h2]
  have hf : ∀ n, firstP pl n = firstP ql n := fun n => by
    induction n with
    | zero => rfl
    | succ n ih => simp only [firstP, h1, ih]
  have hy : (fun k => !mayP pl k) = fun k => !mayP ql k := funext fun n => by unfold mayP; rw [ho, hm, h2, h1, ha, hf]
  have hop : openP pl = openP ql := by unfold openP; rw [hm, hl, h1, h2]
  unfold chkP
  rw [hy, hl, hop]
theorem tot_le {bound : Int} {pl : List PI} (h : (shapeP bound pl).1 = 0) : totP pl pl.length ≤ 1048576 := by
  cases hl : pl.length with
  | zero => simp [totP]
  | succ n =>
    unfold shapeP at h
    split at h
    · cases h
    · split at h
      · dsimp only at h
        split at h
        · rename_i hf; exact absurd h hf
        · cases h
      · rename_i hn
        have := List.find?_eq_none.1 hn n (List.mem_range.2 (by omega))
        unfold badI at this
        simp only [Bool.or_eq_true, not_or, decide_eq_true_eq] at this
        omega
theorem totP_mono (pl : List PI) {a b : Nat} (h : a ≤ b) (hb : b ≤ pl.length) : totP pl a ≤ totP pl b := by
  induction b with
  | zero => have : a = 0 := by omega
            subst this; exact Nat.le_refl _
  | succ b ih =>
    by_cases e : a = b + 1
    · subst e; exact Nat.le_refl _
    · have := ih (by omega) (by omega)
      rw [totP_succ (by omega)]
      omega
theorem totP_turn (g : Int → Int) (pl : List PI) (k : Nat) : totP (turnP g pl) k = totP pl k := by
  unfold totP turnP
  rw [← List.map_take, List.map_map]
  congr 2
  exact List.map_congr_left fun p _ => roomI_turn g p
section
variable {g : Int → Int} {pl : List PI} {b b' : Int}
theorem TurnOk.fault (h : TurnOk g pl b') (hs : (shapeP b pl).1 = 0) : ∀ k, k < pl.length → faultI (ix (turnP g pl) k) b' = 0 := by
  intro k hk
  rw [ix_turn h.zero]
  have hf := (shape_ok hs).2 k hk
  rw [ix_lt hk]
  exact fault_turn hf h.zero fun n hn => h.rng n (mem_allI (List.getElem_mem hk) hn)
theorem TurnOk.shape (h : TurnOk g pl b') (hs : (shapeP b pl).1 = 0) : shapeP b' (turnP g pl) = (0, 0) := by
  have hb := h.pos
  refine shape_good (by omega) fun j hj => ?_
  have hj' : j < pl.length := by rwa [turnP_len] at hj
  refine badI_false hj ?_ ?_
  · have := h.fault hs j hj'
    rwa [ix_lt hj] at this
  · rw [totP_turn]
    have := totP_mono pl (a := j + 1) (b := pl.length) (by omega) (Nat.le_refl _)
    have := tot_le hs
    omega
theorem TurnOk.part (h : TurnOk g pl b') (hs : (shapeP b pl).1 = 0) (k : Nat) : partP (ix (turnP g pl) k) = partP (ix pl k) := by
  rw [ix_turn h.zero]
  by_cases hk : k < pl.length
  · exact part_turn (b := b) (by rw [ix_lt hk]; exact (shape_ok hs).2 k hk)
  · have : ix pl k = pi0 := getD_ge (by omega)
    rw [this]
    unfold turnI
    rw [h.zero]
    rfl
theorem TurnOk.chk (h : TurnOk g pl b') (hs : (shapeP b pl).1 = 0) : chkP (turnP g pl) = chkP pl :=
  chk_sim (turnP_len g pl) (fun k => by rw [ix_turn h.zero]; rfl) (h.part hs)
theorem TurnOk.iff0 (h : TurnOk g pl b') {n : Int} (hn : n ∈ allP pl ∨ n = 0) : g n = 0 ↔ n = 0 := by
  constructor
  · intro e
    rcases hn with hn | hn
    · refine Classical.byContradiction fun h0 => ?_
      have := h.rng n hn h0
      omega
    · exact hn
  · intro e; rw [e, h.zero]
theorem TurnOk.eq (h : TurnOk g pl b') {m n : Int} (hm : m ∈ allP pl ∨ m = 0) (hn : n ∈ allP pl ∨ n = 0) : g m = g n ↔ m = n := by
  constructor
  · intro e
    rcases hm with hm | hm
    · rcases hn with hn | hn
      · exact h.inj m hm n hn e
      · subst hn; rw [h.zero] at e; exact (h.iff0 (.inl hm)).1 e
    · subst hm
      rw [h.zero] at e
      exact ((h.iff0 hn).1 e.symm).symm
  · intro e; rw [e]
theorem res_mem (pl : List PI) (k : Nat) : (ix pl k).2.2.1 ∈ allP pl ∨ (ix pl k).2.2.1 = 0 := by
  by_cases hk : k < pl.length
  · left; rw [ix_lt hk]; exact (mem_all hk).2.1
  · right
    have : ix pl k = pi0 := getD_ge (by omega)
    rw [this]
theorem TurnOk.mk1 (h : TurnOk g pl b') {id : Int} (hid : id ∈ allP pl ∨ id = 0) (k : Nat) : Go.Proofs.mk1 (turnP g pl) (g id) k = Go.Proofs.mk1 pl id k := by
  unfold Go.Proofs.mk1
  rw [show (turnP g pl).getD k pi0 = ix (turnP g pl) k from rfl, show pl.getD k pi0 = ix pl k from rfl, ix_turn h.zero]
  unfold turnI
  dsimp only
  rw [Bool.eq_iff_iff]
  simp only [Bool.and_eq_true, beq_iff_eq, bne_iff_ne, ne_eq]
  rw [h.eq (res_mem pl k) hid, h.iff0 hid]
theorem TurnOk.maker (h : TurnOk g pl b') {id : Int} (hid : id ∈ allP pl ∨ id = 0) (n : Nat) : makerI (turnP g pl) (g id) n = makerI pl id n := by
  unfold makerI
  rw [show Go.Proofs.mk1 (turnP g pl) (g id) = Go.Proofs.mk1 pl id from funext (h.mk1 hid)]
theorem ids_mem {p : PI} {n : Int} (h : n ∈ idsP p.2.1 p.2.2.2) : n ∈ allI p := by
  unfold idsP idsN at h
  rw [List.take_length] at h
  rcases List.mem_append.1 h with h | h
  · split at h
    · cases h
    · rw [List.mem_singleton.1 h]; simp [allI]
  · simp only [allI, List.mem_cons]
    exact .inr (.inr h)
theorem at_mem {k : Nat} {n : Int} (h : n ∈ idsAt pl k) : n ∈ allP pl ∨ n = 0 := by
  unfold idsAt at h
  by_cases hk : k < pl.length
  · rw [ix_lt hk] at h
    exact .inl (mem_allI (List.getElem_mem hk) (ids_mem h))
  · have : ix pl k = pi0 := getD_ge (by omega)
    rw [this] at h
    cases h
theorem args_turn (g : Int → Int) : ∀ al : List Ag, (((al.map (turnA g)).filter fun a => a.1 == 1).map (·.2.1)) = (((al.filter fun a => a.1 == 1).map (·.2.1)).map g)
  | [] => rfl
  | a :: al => by
    rw [List.map_cons, List.filter_cons, List.filter_cons, turnA_k]
    by_cases e : a.1 = 1
    · rw [if_pos (beq_iff_eq.2 e), if_pos (beq_iff_eq.2 e), List.map_cons, List.map_cons, List.map_cons, args_turn g al, turnA_id g e]
    · rw [if_neg (fun q => e (beq_iff_eq.1 q)), if_neg (fun q => e (beq_iff_eq.1 q)), args_turn g al]
theorem TurnOk.ids (h : TurnOk g pl b') (k : Nat) : idsAt (turnP g pl) k = (idsAt pl k).map g := by
  have hty : (ix pl k).2.1 ∈ allP pl ∨ (ix pl k).2.1 = 0 := by
    by_cases hk : k < pl.length
    · left; rw [ix_lt hk]; exact (mem_all hk).1
    · right
      have : ix pl k = pi0 := getD_ge (by omega)
      rw [this]
  unfold idsAt
  rw [ix_turn h.zero]
  unfold turnI idsP idsN
  dsimp only
  rw [List.take_length, List.take_length, List.map_append, args_turn]
  congr 1
  by_cases e : (ix pl k).2.1 = 0
  · rw [if_pos e, if_pos (by rw [e, h.zero])]; rfl
  · rw [if_neg e, if_neg (fun q => e ((h.iff0 hty).1 q))]; rfl
theorem any_map_congr {α β : Type} {l : List α} {f : α → β} {p : β → Bool} {q : α → Bool} (h : ∀ x ∈ l, p (f x) = q x) : (l.map f).any p = l.any q := by
  induction l with
  | nil => rfl
  | cons x l ih => rw [List.map_cons, List.any_cons, List.any_cons, h x List.mem_cons_self, ih fun y hy => h y (List.mem_cons_of_mem _ hy)]
theorem TurnOk.flt (h : TurnOk g pl b') (hs : (shapeP b pl).1 = 0) (k : Nat) : fltP (turnP g pl) k = fltP pl k := by
  unfold fltP
  rw [h.ids, h.part hs, turnP_len]
  rw [any_map_congr (q := fun id => decide (makerI pl id pl.length < 0)) fun n hn => by rw [h.maker (at_mem hn)]]
  rw [any_map_congr (q := fun id => decide (makerI pl id k < 0)) fun n hn => by rw [h.maker (at_mem hn)]]
  have : (ix (turnP g pl) k).2.2.1 = g (ix pl k).2.2.1 := by rw [ix_turn h.zero]; rfl
  rw [this, h.maker (res_mem pl k)]
theorem TurnOk.chk9 (h : TurnOk g pl b') (hs : (shapeP b pl).1 = 0) : chk9P b' (turnP g pl) = chk9P b pl := by
  have hl : layP b' (turnP g pl) = layP b pl := by
    unfold layP
    rw [h.shape hs, h.chk hs, if_neg (by simp), if_neg (by rw [hs]; simp)]
  unfold chk9P
  rw [hl, turnP_len]
  simp only [h.flt hs]
theorem TurnOk.cnt (h : TurnOk g pl b') : ∀ k, cntP (turnP g pl) k = cntP pl k
  | 0 => rfl
  | k + 1 => by
    have : (ix (turnP g pl) k).2.2.1 = g (ix pl k).2.2.1 := by rw [ix_turn h.zero]; rfl
    simp only [cntP, h.cnt k, this, ne_eq, h.iff0 (res_mem pl k)]
theorem TurnOk.rn (h : TurnOk g pl b') {id : Int} (hid : id ∈ allP pl ∨ id = 0) : ∀ k, rnP (turnP g pl) k (g id) = rnP pl k id
  | 0 => rfl
  | k + 1 => by
    have : (ix (turnP g pl) k).2.2.1 = g (ix pl k).2.2.1 := by rw [ix_turn h.zero]; rfl
    simp only [rnP, h.rn hid k, h.cnt (k + 1), this, ne_eq, h.iff0 (res_mem pl k), h.eq hid (res_mem pl k)]
end
theorem turnI_congr {f h : Int → Int} {p : PI} (hh : ∀ n ∈ allI p, h n = f n) : turnI h p = turnI f p := by
  unfold turnI
  rw [hh p.2.1 (by simp [allI]), hh p.2.2.1 (by simp [allI])]
  congr 3
  refine List.map_congr_left fun a ha => ?_
  unfold turnA
  by_cases e : a.1 = 1
  · rw [if_pos e, if_pos e, hh]
    simp only [allI, List.mem_cons]
    right; right
    exact List.mem_map.2 ⟨_, List.mem_filter.2 ⟨ha, by simp [e]⟩, rfl⟩
  · rw [if_neg e, if_neg e]
theorem turnP_congr {f h : Int → Int} {pl : List PI} (hh : ∀ n ∈ allP pl, h n = f n) : turnP h pl = turnP f pl :=
  List.map_congr_left fun _ hp => turnI_congr fun n hn => hh n (mem_allI hp hn)
theorem turnI_turn (h g : Int → Int) (p : PI) : turnI h (turnI g p) = turnI (fun n => h (g n)) p := by
  unfold turnI
  dsimp only
  rw [List.map_map]
  congr 3
  refine List.map_congr_left fun a _ => ?_
  simp only [Function.comp]
  by_cases e : a.1 = 1
  · unfold turnA
    rw [if_pos e, if_pos e, if_pos e]
  · rw [turnA_no g e, turnA_no h e, turnA_no _ e]
theorem turnP_turn (h g : Int → Int) (pl : List PI) : turnP h (turnP g pl) = turnP (fun n => h (g n)) pl := by
  unfold turnP
  rw [List.map_map]
  exact List.map_congr_left fun p _ => turnI_turn h g p
/-- Numbered once more: the same. -/
theorem TurnOk.new {g : Int → Int} {pl : List PI} {b' : Int} (h : TurnOk g pl b') : newP (turnP g pl) = newP pl ∧ bndP (turnP g pl) = bndP pl := by
  refine ⟨?_, by unfold bndP; rw [turnP_len, h.cnt]⟩
  unfold newP
  rw [turnP_turn, turnP_len]
  exact turnP_congr fun n hn => h.rn (.inl hn) _

theorem cntP_mono (pl : List PI) {a b : Nat} (h : a ≤ b) : cntP pl a ≤ cntP pl b := by
  induction b with
  | zero => have : a = 0 := by omega
            subst this; exact Nat.le_refl _
  | succ b ih =>
    by_cases e : a = b + 1
    · subst e; exact Nat.le_refl _
    · have := ih (by omega)
      simp only [cntP]
      omega
theorem nodupI_le : ∀ (m : Nat) (l : List Int), l.Nodup → (∀ x ∈ l, 1 ≤ x ∧ x ≤ m) → l.length ≤ m
  | 0, l, _, h => by
    cases l with
    | nil => exact Nat.le_refl _
    | cons a r => have := h a List.mem_cons_self; omega
  | m + 1, l, hn, h => by
    have ih := nodupI_le m (l.erase ((m + 1 : Nat) : Int)) (hn.erase _) fun x hx => by
      obtain ⟨h1, h2⟩ := (hn.mem_erase_iff).1 hx
      have := h x h2
      omega
    rw [List.length_erase] at ih
    split at ih <;> omega
/-- The results ahead of k. -/
def resP (pl : List PI) (k : Nat) : List Int := ((List.range k).filter fun j => (ix pl j).2.2.1 != 0).map fun j => (ix pl j).2.2.1
theorem resP_len (pl : List PI) : ∀ k, (resP pl k).length = cntP pl k
  | 0 => rfl
  | k + 1 => by
    have ih := resP_len pl k
    unfold resP at ih ⊢
    rw [List.length_map] at ih ⊢
    rw [List.range_succ, List.filter_append, List.length_append, ih]
    simp only [cntP]
    rw [List.filter_cons]
    by_cases e : (ix pl k).2.2.1 = 0
    · rw [if_neg (fun g => bne_iff_ne.1 g e), if_neg (fun g => g e)]; rfl
    · rw [if_pos (bne_iff_ne.2 e), if_pos e]; rfl
theorem resP_nodup {pl : List PI} (h : ∀ k, k < pl.length → (ix pl k).2.2.1 ≠ 0 → ∀ j, j < k → j < pl.length → (ix pl j).2.2.1 ≠ (ix pl k).2.2.1) : ∀ k, k ≤ pl.length → (resP pl k).Nodup
  | 0, _ => List.nodup_nil
  | k + 1, hk => by
    have ih := resP_nodup h k (by omega)
    unfold resP at ih ⊢
    rw [List.range_succ, List.filter_append, List.map_append]
    refine List.nodup_append.2 ⟨ih, ?_, ?_⟩
    · rw [List.filter_cons]
      split <;> simp
    · intro a ha c hc e
      obtain ⟨j, hj, rfl⟩ := List.mem_map.1 ha
      obtain ⟨i, hi, rfl⟩ := List.mem_map.1 hc
      obtain ⟨hi, h0⟩ := List.mem_filter.1 hi
      have := List.mem_singleton.1 hi
      subst this
      have hj := List.mem_range.1 (List.mem_filter.1 hj).1
      exact h i (by omega) (bne_iff_ne.1 h0) j hj (by omega) e
/-- What is known of a module that Check lets pass. -/
structure Whole9 (bd : Int) (pl : List PI) : Prop where
  shape : (shapeP bd pl).1 = 0
  lim : 0 < bd ∧ bd ≤ 65536
  rng : ∀ n ∈ allP pl, 0 ≤ n ∧ n < bd
  new : ∀ k, k < pl.length → (ix pl k).2.2.1 ≠ 0 → ∀ j, j < k → j < pl.length → (ix pl j).2.2.1 ≠ (ix pl k).2.2.1
  made : ∀ n ∈ allP pl, n ≠ 0 → ∃ k, k < pl.length ∧ (ix pl k).2.2.1 = n
  ok : chk9P bd pl = (0, 0)
theorem Whole9.of {bd : Int} {pl : List PI} (hp : PlOk pl) (h0 : 0 ≤ bd) (h : (chk9P bd pl).1 = 0) : Whole9 bd pl := by
  obtain ⟨c1, c2, c3⟩ := chk9_ok h
  have hs := lay_shape c2
  have hbd := (shape_ok hs).1
  refine ⟨hs, by omega, ids_range hp h0 hs, fun k hk h0 => flt_new (c3 k hk) h0, fun n hn h0 => ?_, c1⟩
  obtain ⟨p, hp', hn⟩ := List.mem_flatMap.1 hn
  obtain ⟨k, hk, rfl⟩ := List.getElem_of_mem hp'
  have hr : n = pl[k].2.2.1 ∨ n ∈ idsAt pl k := by
    unfold idsAt idsP idsN
    rw [ix_lt hk, List.take_length]
    simp only [allI, List.mem_cons] at hn
    rcases hn with e | e | e
    · right
      refine List.mem_append_left _ ?_
      rw [if_neg (by rw [← e]; exact h0), e]
      exact List.mem_singleton.2 rfl
    · exact .inl e
    · right
      exact List.mem_append_right _ e
  rcases hr with e | e
  · exact ⟨k, hk, by rw [ix_lt hk, e]⟩
  · have hf := c3 k hk
    unfold fltP at hf
    by_cases e1 : 0 ≤ makerI pl (ix pl k).2.2.1 k
    · rw [if_pos e1] at hf; exact absurd hf (by decide)
    rw [if_neg e1] at hf
    by_cases e2 : (idsAt pl k).any (fun id => decide (makerI pl id pl.length < 0)) = true
    · rw [if_pos e2] at hf; exact absurd hf (by decide)
    have : 0 ≤ makerI pl n pl.length := by
      rcases Int.lt_or_le (makerI pl n pl.length) 0 with q | q
      · exact absurd (List.any_eq_true.2 ⟨n, e, decide_eq_true q⟩) e2
      · exact q
    obtain ⟨j, hj, hm⟩ := makerI_iff.1 this
    unfold mk1 at hm
    rw [Bool.and_eq_true] at hm
    exact ⟨j, hj, beq_iff_eq.1 hm.1⟩
theorem Whole9.cnt {bd : Int} {pl : List PI} (h : Whole9 bd pl) : ((cntP pl pl.length : Nat) : Int) ≤ bd - 1 := by
  have hb := h.lim
  have := nodupI_le (bd - 1).toNat (resP pl pl.length) (resP_nodup h.new _ (Nat.le_refl _)) fun x hx => by
    unfold resP at hx
    obtain ⟨j, hj, rfl⟩ := List.mem_map.1 hx
    obtain ⟨hj, h0⟩ := List.mem_filter.1 hj
    have hj := List.mem_range.1 hj
    have h0 : (ix pl j).2.2.1 ≠ 0 := bne_iff_ne.1 h0
    have := h.rng (ix pl j).2.2.1 (by rw [ix_lt hj]; exact (mem_all hj).2.1)
    omega
  rw [resP_len] at this
  omega
theorem Whole9.rn_at {bd : Int} {pl : List PI} (h : Whole9 bd pl) {k : Nat} (hk : k < pl.length) (h0 : (ix pl k).2.2.1 ≠ 0) : ∀ K, k < K → K ≤ pl.length → rnP pl K (ix pl k).2.2.1 = ((cntP pl (k + 1) : Nat) : Int)
  | 0, h1, _ => by omega
  | K + 1, h1, h2 => by
    simp only [rnP]
    have hc := h.cnt
    have hb := h.lim
    have hm := cntP_mono pl (show k + 1 ≤ pl.length from hk)
    by_cases e : K = k
    · subst e
      rw [if_pos ⟨h0, rfl⟩]
      exact wrapU32_in (by omega) (by omega)
    · rw [if_neg, h.rn_at hk h0 K (by omega) (by omega)]
      rintro ⟨q1, q2⟩
      exact h.new K (by omega) q1 k (by omega) hk q2
theorem cnt_one {pl : List PI} {k : Nat} (h0 : (ix pl k).2.2.1 ≠ 0) : cntP pl (k + 1) = cntP pl k + 1 := by
  simp only [cntP]; rw [if_pos h0]
theorem Whole9.bnd {bd : Int} {pl : List PI} (h : Whole9 bd pl) : bndP pl = ((cntP pl pl.length : Nat) : Int) + 1 := by
  have hc := h.cnt
  have hb := h.lim
  exact wrapU32_in (by omega) (by omega)
theorem Whole9.turn {bd : Int} {pl : List PI} (h : Whole9 bd pl) : TurnOk (rnP pl pl.length) pl (bndP pl) := by
  have hc := h.cnt
  have hb := h.lim
  have hbn := h.bnd
  have at_ : ∀ n ∈ allP pl, n ≠ 0 → ∃ k, k < pl.length ∧ (ix pl k).2.2.1 = n ∧ rnP pl pl.length n = ((cntP pl (k + 1) : Nat) : Int) := fun n hn h0 => by
    obtain ⟨k, hk, e⟩ := h.made n hn h0
    refine ⟨k, hk, e, ?_⟩
    rw [← e]
    exact h.rn_at hk (by rw [e]; exact h0) _ hk (Nat.le_refl _)
  refine ⟨rnP_zero pl _, fun n hn h0 => ?_, fun m hm n hn e => ?_, by omega⟩
  · obtain ⟨k, hk, e1, e2⟩ := at_ n hn h0
    have := cntP_mono pl (show k + 1 ≤ pl.length from hk)
    have := cnt_one (pl := pl) (k := k) (by rw [e1]; exact h0)
    omega
  · by_cases m0 : m = 0
    · subst m0
      by_cases n0 : n = 0
      · exact n0.symm
      · obtain ⟨k, hk, e1, e2⟩ := at_ n hn n0
        rw [rnP_zero] at e
        have := cnt_one (pl := pl) (k := k) (by rw [e1]; exact n0)
        omega
    · by_cases n0 : n = 0
      · subst n0
        obtain ⟨k, hk, e1, e2⟩ := at_ m hm m0
        rw [rnP_zero] at e
        have := cnt_one (pl := pl) (k := k) (by rw [e1]; exact m0)
        omega
      · obtain ⟨j, hj, e1, e2⟩ := at_ m hm m0
        obtain ⟨k, hk, f1, f2⟩ := at_ n hn n0
        have cj := cnt_one (pl := pl) (k := j) (by rw [e1]; exact m0)
        have ck := cnt_one (pl := pl) (k := k) (by rw [f1]; exact n0)
        rcases Nat.lt_trichotomy j k with q | q | q
        · have := cntP_mono pl (show j + 1 ≤ k from q)
          omega
        · subst q; rw [← e1, f1]
        · have := cntP_mono pl (show k + 1 ≤ j from q)
          omega

end Go.Proofs

namespace Go.Proofs
open Go.Gk Go.RowKit Go.Gm

theorem perm_of_subset {α : Type} [BEq α] [LawfulBEq α] : ∀ {S T : List α}, S.Nodup → (∀ x ∈ S, x ∈ T) → T.length ≤ S.length → T.Perm S
  | [], T, _, _, h => by
    cases T with
    | nil => exact List.Perm.refl _
    | cons a r => simp at h
  | x :: S, T, hn, hs, h => by
    have hx := hs x List.mem_cons_self
    obtain ⟨h1, h2⟩ := List.nodup_cons.1 hn
    refine (List.perm_cons_erase hx).trans (List.Perm.cons x (perm_of_subset h2 (fun y hy => ?_) ?_))
    · exact (List.mem_erase_of_ne (fun e => by subst e; exact h1 hy)).2 (hs y (List.mem_cons_of_mem _ hy))
    · rw [List.length_erase_of_mem hx]
      simp at h
      omega
abbrev rngI (n : Nat) : List Int := (List.range n).map fun (k : Nat) => (k : Int)
theorem rngI_nodup (n : Nat) : (rngI n).Nodup := by
  refine List.pairwise_map.2 (List.nodup_range.imp fun {a b} h => ?_)
  omega
theorem mem_rngI {n : Nat} {x : Int} : x ∈ rngI n ↔ 0 ≤ x ∧ x < n := by
  constructor
  · intro h
    obtain ⟨k, hk, rfl⟩ := List.mem_map.1 h
    have := List.mem_range.1 hk
    omega
  · rintro ⟨h1, h2⟩
    exact List.mem_map.2 ⟨x.toNat, List.mem_range.2 (by omega), by omega⟩
/-- May ids below a bound be renamed so? -/
structure WayP (bd : Int) (T : List Int) : Prop where
  len : (T.length : Int) = bd
  zero : T.getD 0 1 = 0
  perm : T.Perm (rngI T.length)
noncomputable instance wayD (bd : Int) (T : List Int) : Decidable (WayP bd T) := Classical.propDecidable _
noncomputable def wayB (bd : Int) (T : List Int) : Bool := decide (WayP bd T)
theorem wayB_true {bd : Int} {T : List Int} (h : WayP bd T) : wayB bd T = true := by unfold wayB; exact decide_eq_true h
theorem wayB_false {bd : Int} {T : List Int} (h : ¬ WayP bd T) : wayB bd T = false := by unfold wayB; exact decide_eq_false h
theorem wayB_iff {bd : Int} {T : List Int} : wayB bd T = true ↔ WayP bd T := by unfold wayB; exact decide_eq_true_iff
theorem WayP.nodup {bd : Int} {T : List Int} (h : WayP bd T) : T.Nodup := h.perm.nodup_iff.2 (rngI_nodup _)
/-- Sorted, such words are the numbers from 0 on. -/
theorem sorted_iff {T A : List Int} (hp : A.Perm T) (hs : A.Pairwise (· ≤ ·)) : T.Perm (rngI T.length) ↔ ∀ n (h : n < A.length), A[n] = (n : Int) := by
  constructor
  · intro h
    have e : A = rngI T.length := List.Perm.eq_of_pairwise (le := fun (x y : Int) => x ≤ y) (fun a b _ _ h1 h2 => Int.le_antisymm h1 h2) hs
      (List.pairwise_map.2 (List.pairwise_lt_range.imp fun {a b} h => by omega)) (hp.trans h)
    intro n hn
    subst e
    simp
  · intro h
    refine hp.symm.trans ?_
    have e : A = rngI A.length := List.ext_getElem (by simp) fun n h1 h2 => by rw [h n h1]; simp
    rw [← hp.length_eq]
    rw [e]
    simp
abbrev toG (T : List Int) (n : Int) : Int := T.getD n.toNat 0
theorem WayP.turn {bd : Int} {T : List Int} {pl : List PI} (h : WayP bd T) (hp : PlOk pl) (h0 : 0 ≤ bd) (hs : (shapeP bd pl).1 = 0) : TurnOk (toG T) pl bd := by
  have hb := (shape_ok hs).1
  have hl := h.len
  have hr := ids_range hp h0 hs
  have hz : toG T 0 = 0 := by
    have := h.zero
    unfold toG
    rw [getD_lt (show (0 : Int).toNat < T.length by simp; omega)]
    rw [getD_lt (by omega)] at this
    exact this
  have hin : ∀ m n : Int, 0 ≤ m → m < bd → 0 ≤ n → n < bd → toG T m = toG T n → m = n := by
    intro m n m1 m2 n1 n2 e
    unfold toG at e
    rw [getD_lt (by omega), getD_lt (by omega)] at e
    have := (List.getElem_inj (h₀ := by omega) (h₁ := by omega) h.nodup).1 e
    omega
  refine ⟨hz, fun n hn n0 => ?_, fun m hm n hn e => ?_, by omega⟩
  · obtain ⟨n1, n2⟩ := hr n hn
    have hm : toG T n ∈ T := by unfold toG; rw [getD_lt (by omega)]; exact List.getElem_mem _
    have := mem_rngI.1 (h.perm.mem_iff.1 hm)
    have : toG T n ≠ 0 := fun e => n0 (hin n 0 n1 n2 (by omega) (by omega) (by rw [e, hz]))
    omega
  · obtain ⟨n1, n2⟩ := hr n hn
    obtain ⟨m1, m2⟩ := hr m hm
    exact hin m n m1 m2 n1 n2 e
/-- The words that rename back. -/
theorem WayP.back {bd : Int} {T S : List Int} (h : WayP bd T) (hb : 0 < bd) (hl : S.length = T.length) (hS : ∀ i (hi : i < T.length), S.getD T[i].toNat 0 = (i : Int)) : WayP bd S ∧ ∀ n : Int, 0 ≤ n → n < bd → toG S (toG T n) = n := by
  have hlen := h.len
  have hT : ∀ i (hi : i < T.length), 0 ≤ T[i] ∧ T[i] < T.length := fun i hi => mem_rngI.1 (h.perm.mem_iff.1 (List.getElem_mem hi))
  refine ⟨⟨by rw [hl]; exact hlen, ?_, ?_⟩, fun n n1 n2 => ?_⟩
  · have h0 := h.zero
    rw [getD_lt (by omega)] at h0
    have := hS 0 (by omega)
    rw [h0] at this
    rw [getD_lt (by omega)]
    rwa [show (0 : Int).toNat = 0 from rfl, getD_lt (by omega)] at this
  · rw [hl]
    refine perm_of_subset (rngI_nodup _) (fun x hx => ?_) (by simp [hl])
    obtain ⟨x1, x2⟩ := mem_rngI.1 hx
    have := hS x.toNat (by omega)
    have hq := hT x.toNat (by omega)
    rw [getD_lt (by omega)] at this
    rw [show x = ((x.toNat : Nat) : Int) by omega, ← this]
    exact List.getElem_mem _
  · unfold toG
    rw [getD_lt (show n.toNat < T.length by omega), hS n.toNat (by omega)]
    omega
end Go.Proofs
namespace Go.Proofs
open Go.Gk Go.RowKit Go.Gm

abbrev Fv := Int × Int × Sl × Sl × Int × Unit
abbrev fvV (v : Fv) : List Value := [.int .u32 v.1, .int .i64 v.2.1, .slice v.2.2.1.a v.2.2.1.l v.2.2.1.c, .slice v.2.2.2.1.a v.2.2.2.1.l v.2.2.2.1.c, .int .i64 v.2.2.2.2.1]
noncomputable instance fnD : DecidableEq FnL := fun _ _ => Classical.propDecidable _
section
variable {w w' : World} {v : Fv} {f g : FnL} {R : Value → World → Prop}
theorem Fv.load {b : Nat} {T : TypeId} (h : Blk w b T (fvV v)) {φ : Int → Int → Sl → Sl → Int → Prop} (hφ : φ v.1 v.2.1 v.2.2.1 v.2.2.2.1 v.2.2.2.2.1) :
    ldI w ((blk b).add 0) .u32 fun x1 => ldI w ((blk b).add 1) .i64 fun x2 => ldS w ((blk b).add 2) fun x3 => ldS w ((blk b).add 3) fun x4 => ldI w ((blk b).add 4) .i64 fun x5 => φ x1 x2 x3 x4 x5 :=
  h.rI (n := 0) (x := v.1) rfl (h.rI (n := 1) (x := v.2.1) rfl (h.rS (n := 2) (x := v.2.2.1) rfl (h.rS (n := 3) (x := v.2.2.2.1) rfl (h.rI (n := 4) (x := v.2.2.2.2.1) rfl hφ))))
theorem elemFn {fs : Sl} {L : List Fe} (h : Fns w fs L) {k : Nat} (hk : k < L.length) {φ : Int → Int → Sl → Sl → Int → Prop} (hφ : φ L[k].1.id L[k].1.at_ L[k].2.1 L[k].2.2 L[k].1.en) :
    (0 ≤ (k : Int) ∧ (k : Int) < (fs.l : Int)) ∧ derefP fs.a fun a => ldI w ((a.add (Int.toNat (k : Int) * 5)).add 0) .u32 fun x1 => ldI w ((a.add (Int.toNat (k : Int) * 5)).add 1) .i64 fun x2 => ldS w ((a.add (Int.toNat (k : Int) * 5)).add 2) fun x3 => ldS w ((a.add (Int.toNat (k : Int) * 5)).add 3) fun x4 => ldI w ((a.add (Int.toNat (k : Int) * 5)).add 4) .i64 fun x5 => φ x1 x2 x3 x4 x5 := by
  have hc : IsC 5 feV w fs L := Own.isC feV_len (by omega) h.own
  obtain ⟨a, ha⟩ := hc.base hk
  have hcell := hc.cell a ha k hk
  refine ⟨⟨by omega, by have := h.len; omega⟩, derefP_some ha ⟨_, ?_, _, ?_, _, ?_, _, ?_, _, ?_, hφ⟩⟩
  · rw [add_add']; exact hcell 0 (by omega)
  · rw [add_add']; exact hcell 1 (by omega)
  · rw [add_add']; exact hcell 2 (by omega)
  · rw [add_add']; exact hcell 3 (by omega)
  · rw [add_add']; exact hcell 4 (by omega)
end

section
variable {x : Mo} {pl : List PI} {w : World} {R : Value → World → Prop}
theorem Cut_spec (hN : IsPl w x.2.2.1 pl) (hp : PlOk pl)
    (hok : ∀ fs L w', (layP x.2.1 pl).1 = 0 → Below w.heap.size w w' → Fns w' fs L → L.map (·.1) = cutF pl pl.length → R (.tuple #[.slice fs.a fs.l fs.c, .agg #[.int .i64 0, .int .i64 0]]) w')
    (hbad : ∀ w', (layP x.2.1 pl).1 ≠ 0 → Below w.heap.size w w' → R (.tuple #[.slice none 0 0, .agg #[.int .i64 (layP x.2.1 pl).1, .int .i64 ((layP x.2.1 pl).2 : Int)]]) w') :
    callR Tryz.prog 45 #[moA x] w R := by
  refine callR.of (layout_Cut_calls x R w ?_) fun _ _ h => h
  refine lay_of fun w1 hB1 b1 z1 => ?_
  have hB1 : Blk w1 w.heap.size 25 (moV x) := hB1
  refine lay_of fun w2 hC2 b2 z2 => ?_
  have hC2 : Blk w2 w1.heap.size 33 [.int .i64 0, .int .i64 0] := hC2
  have hb2 := b1.on b2
  refine Mo.load (hB1.below b2) ?_
  refine read_spec (x := x) (hN.below hb2) hp (fun bc ps fs L w3 hlay hC3 hP hL hF hcut hg => ⟨some (blk bc), (0, 0, ()), rfl, ?_⟩) (fun w3 b3 hne => ⟨none, ((layP x.2.1 pl).1, ((layP x.2.1 pl).2 : Int), ()), rfl, ?_⟩)
  · refine box2 rfl fun w6 h6 b6 z6 => ?_
    have b26 := hC3.b0.on b6
    have hCc := (hC3.below b6).drew
    have hS6 := (hC2.below b26).drew
    have h6' := h6.drew
    refine ifB_false rfl (derefP_some rfl ?_)
    refine hCc.blk.rS (n := 22) (x := fs) (ctV_f hCc.len) ?_
    have s26 := b26.size
    refine Sp.load h6' (st2 hS6 rfl fun w8 hS8 c8 => Sp.load hS8 ?_)
    have hL6 : Fns w6.drew fs L := (hL.below b6).below (Below.refl _ _).drew
    exact hok fs L w8 (by rw [hlay]) (c8.below ((hb2.on b26).drew) (by omega)) (hL6.chg c8 hS6 (by decide) (by decide) (by decide)) hcut.symm
  · refine box2 rfl fun w6 h6 b6 z6 => ?_
    have b26 := b3.on b6
    have hS6 := (hC2.below b26).drew
    have h6' := h6.drew
    refine ifB_true rfl (Sp.load h6' (st2 hS6 rfl fun w8 hS8 c8 => Sp.load hS8 ?_))
    exact hbad w8 hne (c8.below ((hb2.on b26).drew) (by omega))
end

section
variable {w : World} {R : Value → World → Prop} {r : Nat} {M : List (Int × Int)}
/-- What stands right ahead of a block's last instruction says. -/
def mrgP (M : List (Int × Int)) (op : Int) (al : List Ag) (lop : Int) : Option Mg :=
  if op = 247 then (match lookL M (al.getD 0 ag0).2.1 with
    | some a => some (if lop = 251 then 3 else 1, a, -1)
    | none => none)
  else if op = 246 then (match lookL M (al.getD 0 ag0).2.1, lookL M (al.getD 1 ag0).2.1 with
    | some a, some b => some (2, a, b)
    | _, _ => none)
  else some (0, -1, -1)
end
end Go.Proofs
namespace Go.Proofs
open Go.Gk Go.RowKit Go.Gm

theorem eInst : ElemT Tryz.prog 23 41 4 40 := ⟨by kernel_rfl, Tryz.t41, .agg #[.int .u16 0, .int .u32 0, .int .u32 0, .slice none 0 0], by kernel_rfl, rfl, rfl, rfl, rfl⟩
theorem eArg : ElemT Tryz.prog 39 61 3 24 := ⟨by kernel_rfl, Tryz.t61, .agg #[.int .u8 0, .int .u32 0, .string (ByteArray.mk #[])], by kernel_rfl, rfl, rfl, rfl, rfl⟩
/-- append of one element of some cells: what lies elsewhere stays. -/
theorem push_keep {P : Program} {t e : TypeId} {sz bytes : Nat} (he : ElemT P t e sz bytes) {w0 w : World} {s : Sl} {xs : List Value} (h : Own w e sz s xs) (hb : Below w0.heap.size w0 w) (hF : Fresh w0.heap.size s) {vs : List Value} (hvs : vs.length = sz) (hv : ∀ u ∈ vs, u.oneCell' = true) {b c : Nat} {T : TypeId}
    (hB : Blk w b T vs) (h63 : s.l + 1 ≤ 9223372036854775807) (hbytes : (s.l + 1) * bytes ≤ 140737488355328) {k : Sl → World → Prop}
    (hk : ∀ r w', Own w' e sz r (xs ++ vs) → Below w0.heap.size w0 w' → Fresh w0.heap.size r → w.heap.size ≤ w'.heap.size → (∀ i, i < w.heap.size → s.a ≠ some (blk i) → w'.heap[i]? = w.heap[i]?) → k r w') : appendS P t (.slice s.a s.l s.c) (.slice (some (blk b)) 1 c) w k := by
  refine append_own he h (news := vs) (by omega) (fun j u hj => hB.cell hj) hv h63 hbytes fun r w' h1 hl' hg => ?_
  rcases hg with ⟨_, _, h3⟩ | ⟨b', h3, h4, h5⟩
  · rw [h3] at hl'; omega
  · have hbb : w0.heap.size ≤ b' := by
      rcases h4 with h4 | h4
      · exact hF _ h4
      · have := hb.size
        omega
    refine hk r w' h1 (hb.trans (below_grown h5 hbb hb.size)) (fun a ha => by rw [h3] at ha; cases ha; exact hbb) (below_grown h5 (Nat.zero_le _) (Nat.zero_le _)).size fun i hi hne => h5.block _ hi fun e => ?_
    have e := Option.some.inj e
    subst e
    rcases h4 with h4 | h4
    · exact hne h4
    · omega
def OwnPl (w : World) (B : Nat) (s : Sl) (pl : List PI) : Prop :=
  ∃ hs : List Ins, hs.length = pl.length ∧ Own w 41 4 s (flat inV hs) ∧ Fresh B s ∧ ∀ (j : Nat) (h : j < hs.length) (h' : j < pl.length), ∃ t, hs[j] = mkIn pl[j] t ∧ Own w 61 3 t (flat agV pl[j].2.2.2) ∧ Fresh B t
section
variable {w w' w0 : World} {B : Nat} {s t : Sl} {pl : List PI} {p : PI}
theorem OwnPl.keep (h : OwnPl w B s pl) (hk : ∀ i, B ≤ i → i < w.heap.size → w'.heap[i]? = w.heap[i]?) : OwnPl w' B s pl := by
  obtain ⟨hs, h1, h2, h3, h4⟩ := h
  refine ⟨hs, h1, h2.of_block fun a ha => hk _ (h3 a ha) (h2.lt ha).2, h3, fun j hj hj' => ?_⟩
  obtain ⟨t, e, h5, h6⟩ := h4 j hj hj'
  exact ⟨t, e, h5.of_block fun a ha => hk _ (h6 a ha) (h5.lt ha).2, h6⟩
theorem OwnPl.below (h : OwnPl w B s pl) (hb : Below w.heap.size w w') : OwnPl w' B s pl := h.keep fun i _ hi => hb.block i hi
theorem OwnPl.nil (w : World) (B : Nat) : OwnPl w B ⟨none, 0, 0⟩ [] := ⟨[], rfl, Own.nil _ _ _, fun a ha => by (cases ha), fun j h => by (cases h)⟩
theorem OwnPl.isPl (h : OwnPl w B s pl) : IsPl w s pl := by
  obtain ⟨hs, h1, h2, h3, h4⟩ := h
  have hc : IsC 4 inV w s hs := Own.isC inV_len (by omega) h2
  refine ⟨by rw [hc.len, h1], hc.cap, hc.max, hc.nil, fun a ha k hk => ?_⟩
  obtain ⟨t, e, h5, h6⟩ := h4 k (by omega) hk
  refine ⟨t, fun j hj => ?_, Own.isC agV_len (by omega) h5⟩
  rw [← e]
  exact hc.cell a ha k (by omega) j hj
theorem own_notBlk {T T' : TypeId} {sz b : Nat} {xs cs : List Value} (h : Own w T sz s xs) (hB : Blk w b T' cs) (hT : T ≠ T') : s.a ≠ some (Gk.blk b) := fun e => by
  obtain ⟨cs', h'⟩ := h.type e
  exact Blk.apart h' hB hT rfl
theorem own_notOwn {T T' : TypeId} {sz sz' : Nat} {xs ys : List Value} (h : Own w T sz s xs) (k : Own w T' sz' t ys) (hT : T ≠ T') {a : Addr} (ha : t.a = some a) : s.a ≠ some (Gk.blk a.block) := fun e => by
  obtain ⟨cs', h'⟩ := k.type ha
  exact own_notBlk h h' hT e
theorem OwnPl.push {b c : Nat} (h : OwnPl w w0.heap.size s pl) (hb : Below w0.heap.size w0 w) (ht : Own w 61 3 t (flat agV p.2.2.2)) (hF : Fresh w0.heap.size t) (hB : Blk w b 41 (inV (mkIn p t))) (hl : 40 * (pl.length + 1) ≤ 140737488355328) {K : Sl → World → Prop}
    (hK : ∀ r w', OwnPl w' w0.heap.size r (pl ++ [p]) → Below w0.heap.size w0 w' → w.heap.size ≤ w'.heap.size → (∀ i T cs, Blk w i T cs → T ≠ 41 → w'.heap[i]? = w.heap[i]?) → K r w') : appendS Tryz.prog 23 (.slice s.a s.l s.c) (.slice (some (blk b)) 1 c) w K := by
  have hsl := h.isPl.len
  obtain ⟨hs, h1, h2, h3, h4⟩ := h
  refine push_keep eInst h2 hb h3 rfl (by simp [Value.oneCell']) hB (by omega) (by omega) fun r w' k1 k2 k3 k4 k5 => hK r w' ⟨hs ++ [mkIn p t], by simp [h1], ?_, k3, ?_⟩ k2 k4 fun i T cs hi hT => k5 i hi.lt (own_notBlk h2 hi hT.symm)
  · simpa [flat] using k1
  · intro j hj hj'
    by_cases hlt : j < hs.length
    · obtain ⟨t', e, h5, h6⟩ := h4 j hlt (by omega)
      rw [List.getElem_append_left hlt]
      have e2 : (pl ++ [p])[j] = pl[j]'(by omega) := List.getElem_append_left (by omega)
      rw [e2]
      exact ⟨t', e, h5.of_block fun a ha => k5 _ (h5.lt ha).2 (own_notOwn h2 h5 (by decide) ha), h6⟩
    · have ej : j = hs.length := by simp at hj; omega
      subst ej
      have e2 : (pl ++ [p])[hs.length] = p := by simp [h1]
      rw [e2]
      exact ⟨t, by simp, ht.of_block fun a ha => k5 _ (ht.lt ha).2 (own_notOwn h2 ht (by decide) ha), hF⟩
end


theorem CloneA_spec {s : Sl} {l : List Ag} {w : World} {R : Value → World → Prop} (h : IsAg w s l) (h24 : 24 * l.length ≤ 140737488351232)
    (hR : ∀ r w', Own w' 61 3 r (flat agV l) → Fresh w.heap.size r → Below w.heap.size w w' → R (.slice r.a r.l r.c) w') :
    callR Tryz.prog 110 #[.slice s.a s.l s.c] w R := by
  refine callR.of (slices_Clone_sapi_Arg_api_Arg_calls s R w ?_) fun _ _ h => h
  refine ifB_bool (fun hn => ?_) (fun hn => ?_)
  · have hn : s.a = none := by simpa using hn
    have hc := h.nil hn
    have : l = [] := List.eq_nil_of_length_eq_zero (by have := h.len; have := h.cap; omega)
    subst this
    exact hR ⟨none, 0, 0⟩ w (Own.nil _ _ _) (fun a ha => by cases ha) (Below.refl _ _)
  · obtain ⟨a, ha⟩ : ∃ a, s.a = some a := by
      cases hs : s.a with
      | none => rw [hs] at hn; cases hn
      | some a => exact ⟨a, rfl⟩
    refine Nw.gen fun w1 hw1 => ?_
    have hB : Blk w1 w.heap.size 61 [] := by rw [hw1]; exact Blk.new w 61 #[]
    have hb1 : Below w.heap.size w w1 := by rw [hw1]; exact (Below.refl _ _).alloc (Nat.le_refl _) _
    have hO : Own w1 61 3 ⟨some (blk w.heap.size), 0, 0⟩ [] := ⟨rfl, .inr ⟨_, [], rfl, hB, Nat.le_refl _, by simp, rfl, rfl⟩⟩
    have h' := IsAg.below h hb1
    rw [ha, h.len]
    refine append_own eArg hO (m := l.length) (news := flat agV l) (flat_length agV_len l) (fun j u hj => ?_) (fun u hu => ?_) (by have := h.bound; simp; omega) (by simp; omega) fun r w' h1 _ h3 => ?_
    · have hlt : j < l.length * 3 := by
        have := (List.getElem?_eq_some_iff.1 hj).1
        rwa [flat_length agV_len] at this
      have e : j = j / 3 * 3 + j % 3 := by omega
      have hg := flat_get agV_len l (j / 3) (by omega) (j % 3) (by omega)
      have hc := h'.cell a ha (j / 3) (by omega) (j % 3) (by omega)
      rw [e] at hj
      rw [e, hc, ← hg, hj]
    · obtain ⟨x, _, hx⟩ := List.mem_flatMap.1 hu
      simp only [agV, List.mem_cons, List.not_mem_nil, or_false] at hx
      rcases hx with rfl | rfl | rfl <;> rfl
    · have h1 : Own w' 61 3 r (flat agV l) := by simpa using h1
      rcases h3 with ⟨h4, h5, h6⟩ | ⟨b, h4, h5, h6⟩
      · subst h5
        exact hR _ _ h1 (fun a ha => by rw [h4] at ha; cases ha) hb1
      · have hbb : w.heap.size ≤ b := by
          rcases h5 with h5 | h5
          · cases h5; exact Nat.le_refl _
          · have := hb1.size; omega
        exact hR _ _ h1 (fun a ha => by rw [h4] at ha; cases ha; exact hbb) (hb1.trans (below_grown h6 hbb hb1.size))
/-- One argument's number is written. -/
theorem flat_num : ∀ (l : List Ag) (i : Nat) (h : i < l.length) (v : Int), (flat agV l).set (i * 3 + 1) (.int .u32 v) = flat agV (l.set i (l[i].1, v, l[i].2.2))
  | a :: l, 0, _, v => rfl
  | a :: l, i + 1, h, v => by
    have ih := flat_num l i (by simpa using h) v
    simp only [flat, List.flatMap_cons, List.set_cons_succ, List.getElem_cons_succ] at ih ⊢
    rw [List.set_append_right _ _ (by rw [agV_len]; omega), agV_len, ← ih]
    congr 2
    omega
theorem Own.num {w : World} {q : Sl} {b : Nat} {l : List Ag} (h : Own w 61 3 q (flat agV l)) (ha : q.a = some (blk b)) {i : Nat} (hi : i < l.length) (v : Int) :
    Wr w ((blk b).add (i * 3 + 1)) ∧ Own (w.setCell ((blk b).add (i * 3 + 1)) (.int .u32 v)) 61 3 q (flat agV (l.set i (l[i].1, v, l[i].2.2))) := by
  obtain ⟨h1, h2⟩ := h
  rw [flat_length agV_len] at h1
  rcases h2 with rfl | ⟨b', cs, e, hB, h3, h4, h5, h6⟩
  · cases ha
  · rw [ha] at e
    have e : b = b' := by injection e with e; injection e
    subst e
    refine ⟨hB.wr ?_, by rw [flat_length agV_len, List.length_set]; exact h1, .inr ⟨b, _, ha, hB.set _ _, h3, h4, by rw [List.length_set]; exact h5, ?_⟩⟩
    · have : q.l * 3 ≤ q.c * 3 := Nat.mul_le_mul_right _ h3
      omega
    · rw [List.take_set, h6, flat_num l i hi v]

end Go.Proofs

namespace Go.Proofs
open Go.Gk Go.RowKit Go.Gm

theorem st123 {b : Nat} {T : TypeId} {v0 v1 v2 v3 u1 u2 u3 : Value} {K : World → Prop} {w : World} (hB : Blk w b T [v0, v1, v2, v3]) (hK : ∀ w', Blk w' b T [v0, u1, u2, u3] → Chg b w w' → K w') :
    Wr w ((blk b).add 1) ∧ Nw (w.setCell ((blk b).add 1) u1) fun w1 => Wr w1 ((blk b).add 2) ∧ Nw (w1.setCell ((blk b).add 2) u2) fun w2 => Wr w2 ((blk b).add 3) ∧ Nw (w2.setCell ((blk b).add 3) u3) fun w3 => K w3 :=
  ⟨hB.wr (by simp), Nw.mk ⟨(hB.set 1 u1).wr (by simp), Nw.mk ⟨((hB.set 1 u1).set 2 u2).wr (by simp), Nw.mk (hK _ (((hB.set 1 u1).set 2 u2).set 3 u3) (((Chg.set b 1 w u1).trans (Chg.set b 2 _ u2)).trans (Chg.set b 3 _ u3)))⟩⟩⟩
theorem OwnPl.chg {w w' : World} {B b : Nat} {s : Sl} {pl : List PI} (h : OwnPl w B s pl) (c : Chg b w w') (hb : b < B) : OwnPl w' B s pl := h.keep fun i hi _ => c.block i (by omega)
theorem OwnPl.lower {w : World} {B B' : Nat} {s : Sl} {pl : List PI} (h : OwnPl w B s pl) (hB : B' ≤ B) : OwnPl w B' s pl := by
  obtain ⟨hs, h1, h2, h3, h4⟩ := h
  refine ⟨hs, h1, h2, fun a ha => Nat.le_trans hB (h3 a ha), fun j hj hj' => ?_⟩
  obtain ⟨t, e, h5, h6⟩ := h4 j hj hj'
  exact ⟨t, e, h5, fun a ha => Nat.le_trans hB (h6 a ha)⟩
/-- The first i arguments under other ids. -/
def upTo (g : Int → Int) (al : List Ag) (i : Nat) : List Ag := (al.take i).map (turnA g) ++ al.drop i
section
variable {g : Int → Int} {al : List Ag} {i : Nat}
theorem upTo_len : (upTo g al i).length = al.length := by
  unfold upTo
  rw [List.length_append, List.length_map, List.length_take, List.length_drop]
  omega
theorem upTo_get (hi : i < al.length) (h : i < (upTo g al i).length) : (upTo g al i)[i] = al[i] := by
  have e : (upTo g al i)[i]? = some al[i] := by
    unfold upTo
    rw [List.getElem?_append_right (by rw [List.length_map, List.length_take]; omega), List.length_map, List.length_take, Nat.min_eq_left (Nat.le_of_lt hi), Nat.sub_self, List.getElem?_drop, Nat.add_zero, List.getElem?_eq_getElem hi]
  exact (List.getElem?_eq_some_iff.1 e).2
theorem upTo_set (hi : i < al.length) : (upTo g al i).set i (turnA g al[i]) = upTo g al (i + 1) := by
  unfold upTo
  rw [List.set_append_right _ _ (by rw [List.length_map, List.length_take]; omega), List.take_succ_eq_append_getElem hi, List.map_append, List.length_map, List.length_take, Nat.min_eq_left (Nat.le_of_lt hi), Nat.sub_self, List.drop_eq_getElem_cons hi, List.set_cons_zero, List.append_assoc]
  rfl
theorem upTo_skip (hi : i < al.length) (e : al[i].1 ≠ 1) : upTo g al (i + 1) = upTo g al i := by
  rw [← upTo_set hi, turnA_no g e, ← upTo_get (g := g) hi (by rw [upTo_len]; exact hi), List.set_getElem_self]
theorem upTo_all : upTo g al al.length = al.map (turnA g) := by unfold upTo; simp
theorem upTo_zero : upTo g al 0 = al := by unfold upTo; simp
end
theorem turnP_succ (g : Int → Int) {pl : List PI} {k : Nat} (hk : k < pl.length) : turnP g (pl.take (k + 1)) = turnP g (pl.take k) ++ [turnI g pl[k]] := by
  unfold turnP
  rw [List.take_succ_eq_append_getElem hk, List.map_append]
  rfl

section
variable {x : Mo} {pl : List PI} {w : World} {R : Value → World → Prop}
theorem turned_spec {f : Value} {g : Int → Int} (hN : IsPl w x.2.2.1 pl) (hp : PlOk pl)
    (hf : ∀ w', Below w.heap.size w w' → ∀ n ∈ allP pl, callV Tryz.prog Tryz.fs f [.int .u32 n] w' fun v w'' => v = .int .u32 (g n) ∧ Below w'.heap.size w' w'')
    (hR : ∀ s w', OwnPl w' w.heap.size s (turnP g pl) → Below w.heap.size w w' → R (moA (x.1, x.2.1, s, ())) w') : callR Tryz.prog 53 #[moA x, f] w R := by
  refine callR.of (ids_turned_calls x f R w ?_) fun _ _ h => h
  refine lay_of fun w1 hB1 b1 z1 => ?_
  have hB1 : Blk w1 w.heap.size 25 (moV x) := hB1
  refine lay_of fun w2 hC2 b2 z2 => ?_
  have hC2 : Blk w2 w1.heap.size 25 [.int .u32 0, .int .u32 0, .slice none 0 0] := hC2
  have hB2 := hB1.below b2
  have hl := hN.len
  have h40 := hp.len
  refine hB2.rS (n := 2) (x := x.2.2.1) rfl ⟨⟨by omega, by omega, by omega, by omega⟩, ?_⟩
  refine lay_of fun w3 hD3 b3 z3 => ?_
  have hb3 := (b1.on b2).on b3
  have hB3 := hB2.below b3
  have hC3 := hC2.below b3
  refine hB3.rS (n := 2) (x := x.2.2.1) rfl ?_
  have hO3 : OwnPl w3 w.heap.size ⟨some (blk w2.heap.size), 0, x.2.2.1.l⟩ (turnP g (pl.take 0)) := by
    refine ⟨[], rfl, ⟨rfl, .inr ⟨_, _, rfl, hD3, Nat.zero_le _, (by dsimp only; omega), ?_, rfl⟩⟩, fun a ha => ?_, fun j h => by (cases h)⟩
    · rw [Array.length_toList, size_madeCells]
    · cases ha
      show w.heap.size ≤ w2.heap.size
      omega
  refine LoopW.countSl pl.length hN.bound (fun k r w' => OwnPl w' w.heap.size r (turnP g (pl.take k)) ∧ Below w.heap.size w w' ∧ w3.heap.size ≤ w'.heap.size ∧ Blk w' w.heap.size 25 (moV x) ∧ Blk w' w1.heap.size 25 [.int .u32 0, .int .u32 0, .slice none 0 0])
    ⟨hO3, hb3, Nat.le_refl _, hB3, hC3⟩ ?_
  rintro k r w4 hk ⟨hO, hb, hz, hB, hC⟩ next hnext
  refine ifB_dec (fun h => ?_) (fun h => ?_)
  · have hlt : k < pl.length := by dsimp only at h; omega
    obtain ⟨m1, m2, m3⟩ := mem_all hlt
    have h24 := hp.args _ (List.getElem_mem hlt)
    refine elemPI (hN.below hb) hlt fun t ht => ?_
    refine box4 rfl fun w5 hI5 b5 z5 => ?_
    have hI5 : Blk w5 w4.heap.size 41 (inV (mkIn pl[k] t)) := hI5
    have bd : Below w5.heap.size w5 w5.drew := (Below.refl _ _).drew
    refine hI5.drew.rI (n := 1) (x := pl[k].2.1) rfl (hI5.drew.rI (n := 2) (x := pl[k].2.2.1) rfl (hI5.drew.rS (n := 3) (x := t) rfl ?_))
    have hb5 := (hb.on b5).on bd
    refine callV.mono (hf _ hb5 _ m1) fun v w6 ⟨hv, b6⟩ => ⟨g pl[k].2.1, hv, ?_⟩
    have hI6 := hI5.drew.below b6
    have hb6 := hb5.on b6
    refine ⟨hI6.cell (n := 3) rfl, hI6.cell (n := 2) rfl, ?_⟩
    refine callV.mono (hf _ hb6 _ m2) fun v w7 ⟨hv', b7⟩ => ⟨g pl[k].2.2.1, hv', ?_⟩
    have hI7 := hI6.below b7
    have hb7 := hb6.on b7
    have b47 := ((b5.on bd).on b6).on b7
    refine ⟨hI7.cell (n := 3) rfl, ?_⟩
    refine CloneA_spec (ht.below b47) h24 fun q w8 hq hqF b8 => ⟨q, rfl, ?_⟩
    have hI8 := hI7.below b8
    have s47 := b47.size
    have hi7 := hI7.lt
    refine st123 hI8 fun w9 hI9 c9 => ?_
    have hI9 : Blk w9 w4.heap.size 41 (inV (pl[k].1, g pl[k].2.1, g pl[k].2.2.1, q, ())) := hI9
    have hq9 : Own w9 61 3 q (flat agV (upTo g pl[k].2.2.2 0)) := by
      rw [upTo_zero]
      exact hq.of_block fun a ha => c9.block _ (by have := hqF a ha; omega)
    have b49 : Below w4.heap.size w4 w9 := c9.below (b47.on b8) (Nat.le_refl _)
    have hb9 := hb.on b49
    have s9 := c9.size
    have s8 := b8.size
    have hql : q.l = pl[k].2.2.2.length := by
      have := hq.1
      rw [flat_length agV_len] at this
      omega
    refine hI9.rS (n := 3) (x := q) rfl ?_
    refine LoopW.count pl[k].2.2.2.length (by omega) (fun i w' => Own w' 61 3 q (flat agV (upTo g pl[k].2.2.2 i)) ∧ Blk w' w4.heap.size 41 (inV (pl[k].1, g pl[k].2.1, g pl[k].2.2.1, q, ())) ∧ Below w7.heap.size w9 w') ⟨hq9, hI9, Below.refl _ _⟩ ?_
    rintro i w10 hi ⟨hq10, hI10, f10⟩ next2 hnext2
    have s10 := f10.size
    refine ifB_dec (fun h => ?_) (fun h => ?_)
    · have hil : i < pl[k].2.2.2.length := by dsimp only at h; omega
      refine JoinW.cut (fun _ w' => Own w' 61 3 q (flat agV (upTo g pl[k].2.2.2 (i + 1))) ∧ Blk w' w4.heap.size 41 (inV (pl[k].1, g pl[k].2.1, g pl[k].2.2.1, q, ())) ∧ Below w7.heap.size w9 w') ?_ (fun _ w' hP => hnext2 w' hil hP)
      have hul : i < (upTo g pl[k].2.2.2 i).length := by rw [upTo_len]; exact hil
      have hIs : IsAg w10 q (upTo g pl[k].2.2.2 i) := Own.isC agV_len (by omega) hq10
      refine elemA3 hIs hul ?_
      rw [upTo_get hil hul]
      refine box3 rfl fun w11 hA11 b11 z11 => ?_
      have f11 : Below w7.heap.size w9 w11 := f10.trans (b11.mono (by omega))
      refine hA11.rI0 rfl (ifB_beq (fun e => ?_) (fun e => ?_))
      · have hI11 := hI10.below b11
        have bd11 : Below w11.heap.size w11 w11.drew := (Below.refl _ _).drew
        have s11 := b11.size
        refine hI11.drew.rS (n := 3) (x := q) rfl (hA11.drew.rI (n := 1) (x := pl[k].2.2.2[i].2.1) rfl ?_)
        refine callV.mono (hf _ ((hb9.trans (f11.mono (by have := hb7.size; omega))).drew) _ (m3 _ (List.getElem_mem hil) e)) fun v w12 ⟨hv2, b12⟩ => ⟨g pl[k].2.2.2[i].2.1, hv2, ?_⟩
        have b1112 := bd11.on b12
        have hI12 := hI11.below b1112
        have hq12 := (hq10.below b11).below b1112
        obtain ⟨a, ha⟩ := hIs.base hul
        have ha' : q.a = some (blk a.block) := by rw [ha]; exact congrArg some (hq10.lt ha).1
        obtain ⟨n1, n2⟩ := Own.num hq12 ha' (by rw [upTo_len]; exact hil) (g pl[k].2.2.2[i].2.1)
        have haF := hqF a ha
        refine ⟨hI12.cell (n := 3) rfl, ⟨by omega, by dsimp only; omega⟩, derefP_some ha' ?_⟩
        dsimp only
        rw [show Int.toNat (i : Int) = i from rfl, add_add']
        refine ⟨n1, Nw.mk ⟨?_, (Chg.set a.block _ w12 _).blk hI12 (by omega), ?_⟩⟩
        · have hs := upTo_set (g := g) hil
          have hg := upTo_get (g := g) hil (by rw [upTo_len]; exact hil)
          have hA : turnA g pl[k].2.2.2[i] = (pl[k].2.2.2[i].1, g pl[k].2.2.2[i].2.1, pl[k].2.2.2[i].2.2) := by unfold turnA; rw [if_pos e]
          rw [hg] at n2
          rw [hA] at hs
          rw [hs] at n2
          exact n2
        · have f12 : Below w7.heap.size w9 w12 := f11.trans (b1112.mono (by omega))
          exact f12.setCell (by rw [add_block]; exact haF) _
      · refine ⟨?_, hI10.below b11, f11⟩
        rw [upTo_skip hil e]
        exact hq10.below b11
    · have hi' : i = pl[k].2.2.2.length := by dsimp only at h; omega
      subst hi'
      rw [upTo_all] at hq10
      have hb10 := hb9.trans (f10.mono (by have := hb7.size; omega))
      have b410 : Below w4.heap.size w4 w10 := b49.trans (f10.mono (by omega))
      have s410 := b410.size
      refine Ins.load hI10 ?_
      refine lay_of fun w11 hD11 b11 z11 => ?_
      have hD11 : Blk w11 w10.heap.size 41 (inV (mkIn (turnI g pl[k]) q)) := hD11
      refine OwnPl.push (w0 := w) (p := turnI g pl[k]) (t := q) ((hO.below b410).below b11) (hb10.on b11) (hq10.below b11) (fun a ha => by have := hqF a ha; have := hb7.size; omega) hD11 (by rw [turnP_len, List.length_take]; omega) fun r' w12 hO12 hb12 hz12 hk12 => ?_
      rw [← turnP_succ g hlt] at hO12
      have s11 := b11.size
      refine hnext r' w12 hlt ⟨hO12, hb12, by omega, ?_, ?_⟩
      · exact ((hB.below b410).below b11).of_block (hk12 _ _ _ ((hB.below b410).below b11) (by decide))
      · exact ((hC.below b410).below b11).of_block (hk12 _ _ _ ((hC.below b410).below b11) (by decide))
  · have hk' : k = pl.length := by dsimp only at h; omega
    subst hk'
    rw [List.take_length] at hO
    have c1 := Chg.set w.heap.size 2 w4 (.slice r.a r.l r.c)
    refine ⟨hB.wr (n := 2) (by simp), Nw.mk ?_⟩
    have hB5 : Blk _ w.heap.size 25 (moV (x.1, x.2.1, r, ())) := hB.set 2 (.slice r.a r.l r.c)
    have hC5 := c1.blk hC (by omega)
    refine Mo.load hB5 ?_
    refine st3 hC5 rfl fun w6 hC6 c6 => ?_
    have hC6 : Blk w6 w1.heap.size 25 (moV (x.1, x.2.1, r, ())) := hC6
    refine Mo.load hC6 ?_
    -- the two boxes hold no instruction
    have hO6 : OwnPl w6 w.heap.size r (turnP g pl) := by
      obtain ⟨hs, h1, h2, h3, h4⟩ := hO
      have keep : ∀ i T cs, Blk w4 i T cs → T ≠ 25 → w6.heap[i]? = w4.heap[i]? := fun i T cs hi hT => by
        rw [c6.block i (Blk.apart hi hC hT), c1.block i (Blk.apart hi hB hT)]
      refine ⟨hs, h1, h2.of_block fun a ha => ?_, h3, fun j hj hj' => ?_⟩
      · obtain ⟨cs, hc⟩ := h2.type ha
        exact keep _ _ _ hc (by decide)
      · obtain ⟨t, e, h5, h6⟩ := h4 j hj hj'
        refine ⟨t, e, h5.of_block fun a ha => ?_, h6⟩
        obtain ⟨cs, hc⟩ := h5.type ha
        exact keep _ _ _ hc (by decide)
    exact hR r w6 hO6 (c6.below (c1.below hb (Nat.le_refl _)) (by omega))
end
end Go.Proofs
namespace Go.Proofs
open Go.Gk Go.RowKit Go.Gm

/-- The finder of a function's blocks: the first k of those behind the first one. -/
def lblN (bk : List (Int × Int × Int)) : Nat → List (Int × Int)
  | 0 => []
  | k + 1 => setL (lblN bk k) (bk.getD (k + 1) (0, 0, 0)).1 ((k : Int) + 1)
abbrev lblM (bk : List (Int × Int × Int)) : List (Int × Int) := lblN bk (bk.length - 1)
def fndP (M : List (Int × Int)) (ls : List Int) : Option (List Int) := if ls.all (fun n => (lookL M n).isSome) = true then some (ls.map fun n => (lookL M n).getD 0) else none
def blkM (pl : List PI) (bk : List (Int × Int × Int)) (b : Int × Int × Int) : Option Mg := mrgP (lblM bk) (ix pl (b.2.2.toNat - 2)).1 (ix pl (b.2.2.toNat - 2)).2.2.2 (ix pl (b.2.2.toNat - 1)).1
def blkT (pl : List PI) (b : Int × Int × Int) : List Int := tgtP (ix pl (b.2.2.toNat - 1)).1 (ix pl (b.2.2.toNat - 1)).2.2.2
def mgsP (pl : List PI) (bk : List (Int × Int × Int)) : List Mg := bk.map fun b => (blkM pl bk b).getD (0, -1, -1)
def rowsP (pl : List PI) (bk : List (Int × Int × Int)) : List (List Int) := bk.map fun b => (fndP (lblM bk) (blkT pl b)).getD []
theorem findSome_first {α β : Type} {f : α → Option β} : ∀ {l : List α} {k : Nat} (hk : k < l.length) {v : β}, f l[k] = some v → (∀ j (h : j < l.length), j < k → f l[j] = none) → l.findSome? f = some v
  | a :: l, 0, _, v, h, _ => by
    rw [List.findSome?_cons]
    have h : f a = some v := h
    rw [h]
  | a :: l, k + 1, hk, v, h, hj => by
    rw [List.findSome?_cons]
    have h0 : f a = none := hj 0 (by simp) (by omega)
    rw [h0]
    exact findSome_first (l := l) (k := k) (by simpa using hk) h fun j h1 h2 => hj (j + 1) (by simpa using h1) (by omega)
theorem args_247 : (match frm 247 with | some f => decide (1 ≤ f.fixed.length) | none => false) = true := by decide +kernel
theorem args_246 : (match frm 246 with | some f => decide (2 ≤ f.fixed.length) | none => false) = true := by decide +kernel
theorem whole_le {f : Fl} {n : Nat} (h : wholeP f n = true) : f.fixed.length ≤ n := by
  unfold wholeP at h
  split at h
  · cases h
  · omega
theorem merge_args {p : PI} {b : Int} (h : faultI p b = 0) : (p.1 = 247 → 0 < p.2.2.2.length) ∧ (p.1 = 246 → 1 < p.2.2.2.length) := by
  obtain ⟨f, hf, _, _, _, hw, _⟩ := fault_all h
  have hl := whole_le hw
  refine ⟨fun e => ?_, fun e => ?_⟩
  · have h1 := args_247
    rw [e] at hf
    rw [hf] at h1
    have := of_decide_eq_true h1
    omega
  · have h1 := args_246
    rw [e] at hf
    rw [hf] at h1
    have := of_decide_eq_true h1
    omega
end Go.Proofs
