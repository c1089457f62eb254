/-
  The document's rules; The document's rules: ways, edges back, edges out; All flaws by the document; the statement NestFlaws.
-/
import Derived.Test.Ytjplhoollkeihaa16t
/-!
  The document's rules.
-/
namespace Go.Gk
theorem LoopW.countS2 {α β : Type} {body : α × β × Int × Unit → World → (α × β × Int × Unit → World → Prop) → Prop} {w : World} {a0 : α} {b0 : β} (n : Nat) (hn : n ≤ 9223372036854775807) (I : Nat → α → β → World → Prop) (h0 : I 0 a0 b0 w)
    (h : ∀ k a b w, k ≤ n → I k a b w → ∀ next : α × β × Int × Unit → World → Prop, (∀ a' b' w', k < n → I (k + 1) a' b' w' → next (a', b', IntKind.i64.wrap ((k : Int) + 1), ()) w') → body (a, b, (k : Int), ()) w next) : LoopW body (a0, b0, (0 : Int), ()) w := by
  refine LoopW.ghost (fun j s w => ∃ k : Nat, k ≤ n ∧ j = n - k ∧ ∃ a b, s = (a, b, (k : Int), ()) ∧ I k a b w) n ⟨0, Nat.zero_le _, rfl, a0, b0, rfl, h0⟩ ?_
  rintro _ _ w ⟨k, hk, rfl, a, b, rfl, hI⟩ next hnext
  refine h k a b w hk hI next fun a' b' w' hlt hI' => ?_
  rw [wrap64_succ (by omega)]
  exact hnext (n - (k + 1)) _ _ (by omega) ⟨k + 1, by omega, rfl, a', b', rfl, hI'⟩
end Go.Gk
namespace Go.Proofs
open Go.Gk Go.RowKit Go.Gr Go.Dm

section
variable {xb rb : Nat} {nx : List (List Nat)} {ml : List Mg} {s : Sl} {w : World} {R : Value → World → Prop}
theorem IsX.gr (h : IsX w xb rb s nx ml) {φ : Option Addr → Prop} (hφ : φ (some (Gk.blk rb))) : derefP (some (Gk.blk xb)) fun a1 => ldP w a1 φ := by
  obtain ⟨wb, is, ds, bl, h1, _⟩ := h.ex
  exact derefP_some rfl ⟨_, h1.cell0 rfl, hφ⟩
/-- A row of Dom. -/
theorem IsX.row (h : IsX w xb rb s nx ml) {a : Nat} (ha : a < nx.length) {φ : Sl → Prop}
    (hφ : ∀ x : Sl, (∀ {b : Nat}, b < nx.length → ∀ {ψ : Bool → Prop}, (∀ v, (v = true ↔ DW (wideX nx ml) (a : Int) (b : Int)) → ψ v) → (0 ≤ (b : Int) ∧ (b : Int) < (x.l : Int)) ∧ derefP x.a fun a7 => ldB w (a7.add (Int.toNat (b : Int))) ψ) → φ x) :
    derefP (some (Gk.blk xb)) fun a3 => ldS w (a3.add 4) fun x4 => (0 ≤ (a : Int) ∧ (a : Int) < (x4.l : Int)) ∧ derefP x4.a fun a5 => ldS w (a5.add (Int.toNat (a : Int))) φ := by
  obtain ⟨wb, is, ds, bl, h1, h2, h3, h4, hs, g1, g2, g3⟩ := h.ex
  obtain ⟨bl2, g4, g5, g6⟩ := g3 a (by omega)
  refine derefP_some rfl ⟨ds, h1.cell (n := 4) rfl, elemS g1 (k := a) (by omega) (hφ _ fun {b} hb {ψ} hψ => elemB g4 (k := b) (by omega) (hψ _ ?_))⟩
  rw [show bl2[b]'(by omega) = bl2.getD b false by simp [List.getD, show b < bl2.length by omega], g6, DW_nat]
/-- All of Dom. -/
theorem IsX.all (h : IsX w xb rb s nx ml) {φ : Sl → Prop}
    (hφ : ∀ x : Sl, (∀ {a b : Nat}, a < nx.length → b < nx.length → ∀ {ψ : Bool → Prop}, (∀ v, (v = true ↔ DW (wideX nx ml) (a : Int) (b : Int)) → ψ v) → (0 ≤ (a : Int) ∧ (a : Int) < (x.l : Int)) ∧ derefP x.a fun a5 => ldS w (a5.add (Int.toNat (a : Int))) fun x6 => (0 ≤ (b : Int) ∧ (b : Int) < (x6.l : Int)) ∧ derefP x6.a fun a7 => ldB w (a7.add (Int.toNat (b : Int))) ψ) → φ x) :
    derefP (some (Gk.blk xb)) fun a3 => ldS w (a3.add 4) φ := by
  obtain ⟨wb, is, ds, bl, h1, h2, h3, h4, h5⟩ := h.ex
  exact derefP_some rfl ⟨ds, h1.cell (n := 4) rfl, hφ _ fun {a b} ha hb {ψ} hψ => h5.get ha hb fun v hv => hψ v (by rw [DW_nat]; exact hv)⟩
theorem fls {P : Prop} (h : ¬ P) : (false = true) ↔ P := ⟨fun e => (by cases e), fun h' => absurd h' h⟩
theorem tru {P : Prop} (h : P) : (true = true) ↔ P := ⟨fun _ => h, fun _ => rfl⟩
theorem no_of {b : Bool} {P : Prop} (h : b = true ↔ P) (e : b = false) : ¬ P := fun hp => by rw [h.2 hp] at e; cases e
variable (h : IsX w xb rb s nx ml)
include h
theorem IsX.co_lt {x : Nat} (hx : x < nx.length) (hk : kdM ml x = 2) : ∃ t : Nat, coM ml x = (t : Int) ∧ t < nx.length ∧ t ∈ (wideX nx ml).getD x [] := by
  obtain ⟨t, e, ht⟩ := co_ext h.d hx hk
  have := h.d.okw.rows x t ht
  rw [wide_len] at this
  exact ⟨t, e, this, ht⟩
theorem IsX.to_lt {x : Nat} (hx : x < nx.length) (hk : kdM ml x ≠ 0) : ∃ t : Nat, toM ml x = (t : Int) ∧ t < nx.length := by
  obtain ⟨t, e, ht⟩ := to_ext h.d hx hk
  have := h.d.okw.rows x t ht
  rw [wide_len] at this
  exact ⟨t, e, this⟩
/-- A merge's fields are asked. -/
theorem IsX.kd {i : Nat} (hi : i < nx.length) {φ : Int → Prop} (hφ : φ (kdM ml i)) : derefP (some (Gk.blk xb)) fun a5 => ldS w (a5.add 1) fun x2 => (0 ≤ (i : Int) ∧ (i : Int) < (x2.l : Int)) ∧ derefP x2.a fun a => ldI w (a.add (Int.toNat (i : Int) * 3)) .u8 φ := by
  have := h.len
  refine h.ms (elemMk h.m (k := i) (by omega) ?_)
  rw [getD_get (by omega)]
  exact hφ
theorem IsX.to {i : Nat} (hi : i < nx.length) {φ : Int → Prop} (hφ : φ (toM ml i)) : derefP (some (Gk.blk xb)) fun a5 => ldS w (a5.add 1) fun x2 => (0 ≤ (i : Int) ∧ (i : Int) < (x2.l : Int)) ∧ derefP x2.a fun a => ldI w ((a.add (Int.toNat (i : Int) * 3)).add 1) .i64 φ := by
  have := h.len
  refine h.ms (elemMt h.m (k := i) (by omega) ?_)
  rw [getD_get (by omega)]
  exact hφ
theorem IsX.co {i : Nat} (hi : i < nx.length) {φ : Int → Prop} (hφ : φ (coM ml i)) : derefP (some (Gk.blk xb)) fun a5 => ldS w (a5.add 1) fun x2 => (0 ≤ (i : Int) ∧ (i : Int) < (x2.l : Int)) ∧ derefP x2.a fun a => ldI w ((a.add (Int.toNat (i : Int) * 3)).add 2) .i64 φ := by
  have := h.len
  refine h.ms (elemMc h.m (k := i) (by omega) ?_)
  rw [getD_get (by omega)]
  exact hφ

theorem rBare_spec {i : Nat} (hi : i < nx.length) (hR : ∀ b w', Below w.heap.size w w' → (b = true ↔ ruleM nx ml i 0) → R (.bool b) w') : callR Try.prog 156 #[.pointer (some (Gk.blk xb)), .int .i64 (i : Int)] w R := by
  refine callR.of (intaglioref16_Nest_Bare_calls _ (i : Int) R w ?_) fun _ _ h => h
  refine h.kd hi (ifB_beq (fun e => h.gr (rNext_spec h.d.ok h.g fun r w1 o b => ⟨r, rfl, hR _ w1 b ?_⟩)) fun e => hR _ w (Below.refl _ _) (fls fun hh => e hh.1))
  rw [rowAt_nat] at o
  have := own_len o
  rw [decide_eq_true_iff]
  exact ⟨fun q => ⟨e, by omega⟩, fun q => by have := q.2; omega⟩

theorem rMerge_spec {i : Nat} (hi : i < nx.length) (hR : ∀ b w', Below w.heap.size w w' → (b = true ↔ ruleM nx ml i 1) → R (.bool b) w') : callR Try.prog 157 #[.pointer (some (Gk.blk xb)), .int .i64 (i : Int)] w R := by
  refine callR.of (intaglioref16_Nest_Merge_calls _ (i : Int) R w ?_) fun _ _ h => h
  have hmx := h.d.ok.max
  have hR : ∀ b w', Below w.heap.size w w' → (b = true ↔ MergeM nx ml i) → R (.bool b) w' := hR
  refine h.kd hi (ifB_beq (fun e => hR _ w (Below.refl _ _) (fls fun hh => hh.1 e)) fun hk => h.to hi ?_)
  obtain ⟨t, et, htl⟩ := h.to_lt hi hk
  have et' : toM ml i = (t : Int) := et
  rw [et]
  refine JoinW.cut (fun _ w' => w' = w ∧ t ≠ i ∧ DW (wideX nx ml) (i : Int) (t : Int)) ?_ ?_
  · refine ifB_beq (fun e => hR _ w (Below.refl _ _) (tru ⟨hk, .inl (by rw [et']; exact e)⟩)) fun hne => h.dom hi htl fun v hv => ifB_not (ifB_bool (fun e1 => ⟨rfl, fun e => hne (by rw [e]), hv.1 e1⟩) fun e1 => hR _ w (Below.refl _ _) (tru ⟨hk, .inr (.inl (by rw [et']; exact no_of hv e1))⟩))
  rintro _ wz ⟨ez, hti, hdt⟩
  have ez := ez.symm
  subst ez
  refine h.kd hi ?_
  have bd : Below w.heap.size w w.drew := (Below.refl _ _).drew
  have h' := h.below bd
  refine JoinW.cut (fun _ w' => w' = w.drew ∧ (kdM ml i = 2 → coM ml i ≠ (t : Int) ∧ DW (wideX nx ml) (i : Int) (coM ml i))) ?_ ?_
  · refine ifB_beq (fun e2 => h'.co hi (ifB_beq (fun e => hR _ _ bd (tru ⟨hk, .inr (.inr (.inl ⟨e2, .inl (by rw [et']; exact e)⟩))⟩)) fun hne => h'.row hi fun x30 h30 => h'.co hi ?_)) fun e2 => ⟨rfl, fun e => absurd e e2⟩
    obtain ⟨c, ec, hcl, _⟩ := h.co_lt hi e2
    rw [ec] at hne ⊢
    refine h30 hcl fun v hv => ifB_not (ifB_bool (fun e3 => ⟨rfl, fun _ => ⟨hne, hv.1 e3⟩⟩) fun e3 => hR _ _ bd (tru ⟨hk, .inr (.inr (.inl ⟨e2, .inr (by rw [ec]; exact no_of hv e3)⟩))⟩))
  rintro _ _ ⟨rfl, hco⟩
  refine LoopW.count nx.length (by omega) (fun k w' => Below w.heap.size w w' ∧ ∀ o, o < k → o ≠ i → HeadM nx ml o → ¬ (toM ml o = (t : Int) ∨ (kdM ml i = 2 ∧ kdM ml o = 2 ∧ coM ml o = coM ml i))) ⟨bd, fun o ho => by omega⟩ ?_
  rintro k w3 hk3 ⟨b3, hno⟩ next hnext
  have h3 := h.below b3
  refine h3.ms (ifB_dec (fun hlt => ?_) fun hge => hR _ w3 b3 (fls ?_))
  · have hlt : k < nx.length := by have := h.len; dsimp only at hlt; omega
    refine JoinW.cut (fun _ w' => Below w.heap.size w w' ∧ (k ≠ i → HeadM nx ml k → ¬ (toM ml k = (t : Int) ∨ (kdM ml i = 2 ∧ kdM ml k = 2 ∧ coM ml k = coM ml i)))) ?_ fun _ w' ⟨q1, q2⟩ => hnext _ hlt ⟨q1, fun o ho => ?_⟩
    · refine JoinW.cut (fun _ w' => w' = w3 ∧ k ≠ i ∧ HeadM nx ml k) ?_ ?_
      · refine ifB_beq (fun e => ⟨b3, fun hne => absurd (by dsimp only at e; omega) hne⟩) fun hne => Head_spec h3 hlt fun b hb => ⟨b, rfl, ifB_not (ifB_bool (fun eb => ⟨rfl, fun e => hne (by rw [e]), hb.1 eb⟩) fun eb => ⟨b3, fun _ hh => absurd hh (no_of hb eb)⟩)⟩
      rintro _ wz ⟨ez, hne, hh⟩
      have ez := ez.symm
      subst ez
      have bd3 : Below w.heap.size w w3.drew := b3.drew
      have h3' := h.below bd3
      have yes : (toM ml k = (t : Int) ∨ (kdM ml i = 2 ∧ kdM ml k = 2 ∧ coM ml k = coM ml i)) → R (.bool true) w3.drew := fun q => hR _ _ bd3 (tru ⟨hk, .inr (.inr (.inr ⟨k, hlt, hne, hh, by rw [et']; exact q⟩))⟩)
      refine h3'.to hlt (ifB_beq (fun e => yes (.inl e)) fun ne1 => ifB_beq (fun e2 => h3'.kd hlt (ifB_beq (fun e3 => h3'.co hlt (h3'.co hi (ifB_beq (fun e4 => yes (.inr ⟨e2, e3, e4⟩)) fun ne4 => ⟨bd3, fun _ _ q => ?_⟩))) fun ne3 => ⟨bd3, fun _ _ q => ?_⟩)) fun ne2 => ⟨bd3, fun _ _ q => ?_⟩)
      · rcases q with q | q
        · exact ne1 q
        · exact ne4 q.2.2
      · rcases q with q | q
        · exact ne1 q
        · exact ne3 q.2.1
      · rcases q with q | q
        · exact ne1 q
        · exact ne2 q.1
    · by_cases e : o = k
      · rw [e]; exact q2
      · exact hno o (by omega)
  · have hke : k = nx.length := by have := h.len; dsimp only at hge; omega
    rintro ⟨_, q | q | q | ⟨o, ho, hoi, hh, q⟩⟩
    · rw [et'] at q; omega
    · rw [et'] at q; exact q hdt
    · obtain ⟨q1, q2⟩ := hco q.1
      rcases q.2 with q3 | q3
      · rw [et'] at q3; exact q1 q3
      · exact q3 q2
    · rw [et'] at q
      exact hno o (by omega) hoi hh q

noncomputable def fwdL (nx : List (List Nat)) (ml : List Mg) (i k : Nat) : List Nat := ((nx.getD i []).take k).filter fun t => !dwB nx ml t i
theorem rForward_spec {i : Nat} (hi : i < nx.length) (hR : ∀ r w', Below w.heap.size w w' → Own w' 3 1 r ((fwdL nx ml i (nx.getD i []).length).map iN) → R (.slice r.a r.l r.c) w') : callR Try.prog 212 #[.pointer (some (Gk.blk xb)), .int .i64 (i : Int)] w R := by
  refine callR.of (intaglioref16_Nest_Forward_calls _ (i : Int) R w ?_) fun _ _ h => h
  have hmx := h.d.ok.max
  have hrl := h.d.ok.row_le i
  refine h.gr (rNext_spec h.d.ok h.g fun r4 w1 o4 b1 => ⟨r4, rfl, ?_⟩)
  rw [rowAt_nat] at o4
  have z1 := b1.size
  have i4 : IsI w1 r4 ((nx.getD i []).map fun (x : Nat) => (x : Int)) := IsS.toI (Own.isS o4)
  have l4 := own_len o4
  refine LoopW.countS (nx.getD i []).length (by omega) (fun k (l : Sl) w' => Below w1.heap.size w1 w' ∧ w1.heap.size ≤ w'.heap.size ∧ Own w' 3 1 l ((fwdL nx ml i k).map iN) ∧ Fresh w1.heap.size l) ⟨Below.refl _ _, Nat.le_refl _, Own.nil _ _ _, fun a ha => by cases ha⟩ ?_
  rintro k l w2 hk ⟨b2, z2, o2, f2⟩ next hnext
  refine ifB_dec (fun hlt => ?_) (fun hge => ?_)
  · have hlt : k < (nx.getD i []).length := by dsimp only at hlt; omega
    have bd : Below w1.heap.size w1 w2.drew := b2.drew
    have h' := (h.below b1).below bd
    have ht := h.d.ok.rows i _ (List.getElem_mem hlt)
    have i4' := i4.below bd
    have hfl : (fwdL nx ml i k).length ≤ k := by
      unfold fwdL
      have := List.length_filter_le (fun t => !dwB nx ml t i) ((nx.getD i []).take k)
      rw [List.length_take] at this
      omega
    have e : fwdL nx ml i (k + 1) = fwdL nx ml i k ++ if (!dwB nx ml (nx.getD i [])[k] i) = true then [(nx.getD i [])[k]] else [] := by
      unfold fwdL
      rw [List.take_succ_eq_append_getElem hlt, List.filter_append]
      congr 1
      simp [List.filter_cons]
    refine JoinW.cut (fun (st : Sl × Unit) w' => Below w1.heap.size w1 w' ∧ w1.heap.size ≤ w'.heap.size ∧ Own w' 3 1 st.1 ((fwdL nx ml i (k + 1)).map iN) ∧ Fresh w1.heap.size st.1) ?_ fun st w' hh => hnext _ _ hlt hh
    refine h'.all fun x10 h10 => elemI i4' (k := k) (by rw [List.length_map]; exact hlt) ?_
    rw [List.getElem_map]
    refine h10 ht hi fun v hv => ifB_not (ifB_bool (fun ev => ⟨bd, z2, ?_, f2⟩) fun ev => elemI i4' (k := k) (by rw [List.length_map]; exact hlt) ?_)
    · rw [e, if_neg (by rw [dwB_iff.2 (hv.1 ev)]; simp), List.append_nil]
      exact o2
    · rw [List.getElem_map]
      refine push_own rfl bd z2 (o2.drew) f2 (by omega) fun r' w' q1 q2 q3 q4 => ⟨q1, q2, ?_, q4⟩
      have : dwB nx ml (nx.getD i [])[k] i = false := by rw [← Bool.not_eq_true, dwB_iff]; exact no_of hv ev
      rw [e, if_pos (by rw [this]; rfl)]
      exact q3
  · have : k = (nx.getD i []).length := by dsimp only at hge; omega
    subst this
    exact hR l w2 (b1.trans (b2.mono z1)) o2
omit h in
theorem mem_fwdL {i t : Nat} : t ∈ fwdL nx ml i (nx.getD i []).length ↔ FEM nx ml i t := by
  unfold fwdL FEM
  rw [List.take_length, List.mem_filter, Bool.not_eq_true', ← Bool.not_eq_true, dwB_iff]
end

end Go.Proofs

/-!
  The document's rules: ways, edges back, edges out.
-/
namespace Go.Proofs
open Go.Gk Go.RowKit Go.Gr Go.Dm

section
variable {xb rb : Nat} {nx : List (List Nat)} {ml : List Mg} {s : Sl} {w : World} {R : Value → World → Prop}
variable (h : IsX w xb rb s nx ml)
include h
set_option maxHeartbeats 4000000 in
theorem rComes_spec {fr to : Nat} (hf : fr < nx.length) (ht : to < nx.length) (hR : ∀ b w', Below w.heap.size w w' → (b = true ↔ Way (FEM nx ml) fr to) → R (.bool b) w') :
    callR Try.prog 183 #[.pointer (some (Gk.blk xb)), .int .i64 (fr : Int), .int .i64 (to : Int)] w R := by
  refine callR.of (intaglioref16_Nest_Comes_calls _ (fr : Int) (to : Int) R w ?_) fun _ _ h => h
  have hmx := h.d.ok.max
  have hsl := h.len.1
  refine h.ms ⟨⟨by omega, by omega, by omega, by omega⟩, Nw.gen fun w1 hw1 => ⟨⟨by omega, by omega⟩, ?_⟩⟩
  obtain ⟨B, hB⟩ : ∃ B, B = w.heap.size := ⟨_, rfl⟩
  have k1 : Blk w1 B 4 ((List.replicate nx.length false).map Value.bool) := by
    have e : (List.replicate nx.length false).map Value.bool = List.replicate nx.length (.bool false) := List.map_replicate
    rw [hw1, hB, hsl, e]
    exact Blk.made w _ _ nx.length
  have b1 : Below w.heap.size w w1 := by rw [hw1]; exact (Below.refl _ _).alloc (Nat.le_refl _) _
  rw [← hB]
  clear hw1
  refine ⟨k1.wr (n := fr) (by simp; omega), Nw.gen fun w2 hw2 => ?_⟩
  have k2 : Blk w2 B 4 (((List.replicate nx.length false).set fr true).map Value.bool) := by rw [hw2, List.map_set]; exact k1.set fr _
  have b2 : Below w.heap.size w w2 := by rw [hw2]; exact b1.setCell (by rw [add_block]; show w.heap.size ≤ B; omega) _
  clear hw2
  have rep : ∀ j, (List.replicate nx.length false).getD j false = false := fun j => by
    simp [List.getD, List.getElem?_replicate]
    split <;> rfl
  -- what the marks are
  let Mk : List Bool → World → Prop := fun bl w' => Below w.heap.size w w' ∧ Blk w' B 4 (bl.map Value.bool) ∧ bl.length = nx.length ∧ (∀ j, bl.getD j false = true → Way (FEM nx ml) fr j) ∧ bl.getD fr false = true
  have m2 : Mk ((List.replicate nx.length false).set fr true) w2 := by
    refine ⟨b2, k2, by simp, fun j hj => ?_, ?_⟩
    · rw [getD_set (by simp; omega), rep, Bool.false_or] at hj
      have : j = fr := by simpa using hj
      rw [this]; exact .refl
    · rw [getD_set (by simp; omega)]; simp
  let Cl : List Bool → Nat → Prop := fun bl i => bl.getD i false = true → ∀ t, FEM nx ml i t → bl.getD t false = true
  refine LoopW.ghost (fun j (st : Bool × Unit) w' => ∃ bl, Mk bl w' ∧ ((st.1 = true ∧ j = nx.length - bl.count true + 1) ∨ (st.1 = false ∧ j = 0 ∧ ∀ i, i < nx.length → Cl bl i))) _ ⟨_, m2, .inl ⟨rfl, rfl⟩⟩ ?_
  rintro j ⟨more, _⟩ w3 ⟨bl0, hM, hst⟩ next hnext
  refine ifB_bool (fun em => ?_) fun em => ?_
  · have em : more = true := em
    subst em
    have hj : j = nx.length - bl0.count true + 1 := by
      rcases hst with q | q
      · exact q.2
      · exact absurd q.1 (by simp)
    have hc0 : bl0.count true ≤ nx.length := by rw [← hM.2.2.1]; exact List.count_le_length
    let St : Nat → Bool → List Bool → Prop := fun i mo bl => (mo = false → bl = bl0 ∧ ∀ k, k < i → Cl bl k) ∧ (mo = true → bl0.count true < bl.count true)
    refine LoopW.countS nx.length (by omega) (fun i (mo : Bool) w' => ∃ bl, Mk bl w' ∧ St i mo bl) ⟨bl0, hM, fun _ => ⟨rfl, fun k hk => by omega⟩, fun e => by cases e⟩ ?_
    rintro i mo w4 hi ⟨bl, hM4, hS4⟩ next2 hnext2
    have h4 := h.below hM4.1
    refine h4.ms (ifB_dec (fun hlt => ?_) fun hge => ?_)
    · have hlt : i < nx.length := by dsimp only at hlt; omega
      refine JoinW.cut (fun (st : Bool × Unit) w' => ∃ bl, Mk bl w' ∧ St (i + 1) st.1 bl) ?_ fun st w' hh => hnext2 _ _ hlt hh
      refine ⟨⟨by dsimp only; omega, by dsimp only; omega⟩, _, hM4.2.1.cell (getD_map_bool (by rw [hM4.2.2.1]; exact hlt)), ifB_not (ifB_bool (fun e1 => ?_) fun e1 => ?_)⟩
      · have e1 : bl.getD i false = true := e1
        refine rForward_spec h4 hlt fun r w5 b5 o5 => ⟨r, rfl, ?_⟩
        have i5 : IsI w5 r ((fwdL nx ml i (nx.getD i []).length).map fun (x : Nat) => (x : Int)) := IsS.toI (Own.isS o5)
        have l5 := own_len o5
        obtain ⟨L, hL⟩ : ∃ L, L = fwdL nx ml i (nx.getD i []).length := ⟨_, rfl⟩
        have memL : ∀ t, t ∈ L ↔ FEM nx ml i t := fun t => by rw [hL]; exact mem_fwdL
        have hLl : L.length ≤ 4096 := by
          rw [hL]; unfold fwdL
          have := List.length_filter_le (fun t => !dwB nx ml t i) ((nx.getD i []).take (nx.getD i []).length)
          rw [List.take_length] at this
          have := h.d.ok.row_le i
          rw [List.take_length]
          omega
        rw [← hL] at i5 l5
        have rB : r.a ≠ some (Gk.blk B) ∨ r.l = 0 ∨ True := .inr (.inr trivial)
        clear rB
        have hM5 : Mk bl w5 := ⟨hM4.1.trans (b5.mono hM4.1.size), hM4.2.1.below b5, hM4.2.2.1, hM4.2.2.2.1, hM4.2.2.2.2⟩
        have hrow : ∀ {w'}, Only ⟨some (Gk.blk B), nx.length, nx.length⟩ w5 w' → IsI w' r (L.map fun (x : Nat) => (x : Int)) := fun {w'} on => i5.of_block fun a ha _ => by
          refine on.block _ fun a' ha' e => ?_
          cases ha'
          have e : B = a.block := e
          obtain ⟨cs, hcs⟩ := o5.type ha
          rw [← e] at hcs
          exact absurd (hcs.type hM5.2.1) (by decide)
        refine LoopW.countS L.length (by omega) (fun k (mo : Bool) w' => ∃ bl, Mk bl w' ∧ Only ⟨some (Gk.blk B), nx.length, nx.length⟩ w5 w' ∧ bl.getD i false = true ∧ ((mo = false → bl = bl0 ∧ (∀ k, k < i → Cl bl k) ∧ ∀ m (hm : m < L.length), m < k → bl.getD L[m] false = true) ∧ (mo = true → bl0.count true < bl.count true))) ⟨bl, hM5, Only.refl _ _, e1, fun e => ⟨(hS4.1 e).1, (hS4.1 e).2, fun m hm hm0 => by omega⟩, hS4.2⟩ ?_
        rintro k mo w6 hk ⟨bl, hM6, on6, e1, hA, hB2⟩ next3 hnext3
        have i6 := hrow on6
        refine ifB_dec (fun hlt2 => ?_) fun hge2 => ?_
        · have hlt2 : k < L.length := by dsimp only at hlt2; omega
          have htl : L[k] < nx.length := h.d.ok.rows i _ ((memL _).1 (List.getElem_mem hlt2)).1
          refine JoinW.cut (fun (st : Bool × Unit) w' => ∃ bl, Mk bl w' ∧ Only ⟨some (Gk.blk B), nx.length, nx.length⟩ w5 w' ∧ bl.getD i false = true ∧ ((st.1 = false → bl = bl0 ∧ (∀ k, k < i → Cl bl k) ∧ ∀ m (hm : m < L.length), m < k + 1 → bl.getD L[m] false = true) ∧ (st.1 = true → bl0.count true < bl.count true))) ?_ fun st w' hh => hnext3 _ _ hlt2 hh
          refine elemI i6 (k := k) (by rw [List.length_map]; exact hlt2) ?_
          rw [List.getElem_map]
          refine ⟨⟨by omega, by omega⟩, _, hM6.2.1.cell (n := L[k]) (getD_map_bool (by rw [hM6.2.2.1]; exact htl)), ifB_not (ifB_bool (fun e2 => ?_) fun e2 => elemI i6 (k := k) (by rw [List.length_map]; exact hlt2) ?_)⟩
          · refine ⟨bl, hM6, on6, e1, fun e => ⟨(hA e).1, (hA e).2.1, fun m hm hm1 => ?_⟩, hB2⟩
            by_cases em : m = k
            · subst em; exact e2
            · exact (hA e).2.2 m hm (by omega)
          · rw [List.getElem_map]
            have e2 : bl.getD L[k] false = false := e2
            refine ⟨⟨by omega, by omega⟩, hM6.2.1.wr (n := L[k]) (by rw [List.length_map, hM6.2.2.1]; exact htl), Nw.mk ⟨bl.set L[k] true, ⟨hM6.1.setCell (by rw [add_block]; show w.heap.size ≤ B; omega) _, ?_, by rw [List.length_set]; exact hM6.2.2.1, fun j hj => ?_, ?_⟩, on6.set rfl _ _, ?_, (fun e => by cases e), fun _ => ?_⟩⟩
            · rw [List.map_set]; exact hM6.2.1.set _ _
            · rw [getD_set (by rw [hM6.2.2.1]; exact htl)] at hj
              by_cases e : j = L[k]
              · rw [e]; exact .step (hM6.2.2.2.1 i e1) ((memL _).1 (List.getElem_mem hlt2))
              · have : (j == L[k]) = false := by simpa using e
                rw [this, Bool.or_false] at hj
                exact hM6.2.2.2.1 j hj
            · rw [getD_set (by rw [hM6.2.2.1]; exact htl), hM6.2.2.2.2]; rfl
            · rw [getD_set (by rw [hM6.2.2.1]; exact htl), e1]; rfl
            · have up := count_up (bl := bl) (t := L[k]) (by rw [hM6.2.2.1]; exact htl) e2
              cases mo with
              | true => have := hB2 rfl; omega
              | false => have := (hA rfl).1; rw [← this]; exact up
        · have hkL : k = L.length := by dsimp only at hge2; omega
          refine ⟨bl, hM6, fun e => ⟨(hA e).1, fun k' hk' => ?_⟩, hB2⟩
          by_cases e' : k' = i
          · subst e'
            intro _ t ht'
            obtain ⟨m, hm, em⟩ := List.getElem_of_mem ((memL t).2 ht')
            rw [← em]
            exact (hA e).2.2 m hm (by omega)
          · exact (hA e).2.1 k' (by omega)
      · have e1 : bl.getD i false = false := e1
        refine ⟨bl, hM4, fun e => ⟨(hS4.1 e).1, fun k hk => ?_⟩, hS4.2⟩
        by_cases ek : k = i
        · subst ek; exact fun e' => by rw [e1] at e'; cases e'
        · exact (hS4.1 e).2 k (by omega)
    · have : i = nx.length := by dsimp only at hge; omega
      subst this
      cases mo with
      | true =>
        have hc := hS4.2 rfl
        have hc2 : bl.count true ≤ nx.length := by rw [← hM4.2.2.1]; exact List.count_le_length
        exact hnext (nx.length - bl.count true + 1) _ _ (by omega) ⟨bl, hM4, .inl ⟨rfl, rfl⟩⟩
      | false => exact hnext 0 _ _ (by omega) ⟨bl, hM4, .inr ⟨rfl, rfl, (hS4.1 rfl).2⟩⟩
  · have em : more = false := em
    subst em
    have hcl : ∀ i, i < nx.length → Cl bl0 i := by
      rcases hst with q | q
      · exact absurd q.1 (by simp)
      · exact q.2.2
    refine ⟨⟨by omega, by omega⟩, _, hM.2.1.cell (n := to) (getD_map_bool (by rw [hM.2.2.1]; exact ht)), hR _ w3 hM.1 ⟨hM.2.2.2.1 to, fun hw => ?_⟩⟩
    show bl0.getD to false = true
    clear ht hR
    induction hw with
    | refl => exact hM.2.2.2.2
    | step h1 h2 ih =>
      rename_i b c
      refine hcl b ?_ ih c h2
      by_cases e : b < nx.length
      · exact e
      · have := ih
        simp [List.getD, List.getElem?_eq_none (show bl0.length ≤ b by rw [hM.2.2.1]; omega)] at this

theorem rBack_spec {i : Nat} (hi : i < nx.length) (hR : ∀ b w', Below w.heap.size w w' → (b = true ↔ ruleM nx ml i 2) → R (.bool b) w') : callR Try.prog 158 #[.pointer (some (Gk.blk xb)), .int .i64 (i : Int)] w R := by
  refine callR.of (intaglioref16_Nest_Back_calls _ (i : Int) R w ?_) fun _ _ h => h
  have hR : ∀ b w', Below w.heap.size w w' → (b = true ↔ BackM nx ml i) → R (.bool b) w' := hR
  have hmx := h.d.ok.max
  have hrl := h.d.ok.row_le i
  refine h.gr (rNext_spec h.d.ok h.g fun r4 w1 o4 b1 => ⟨r4, rfl, ?_⟩)
  rw [rowAt_nat] at o4
  have z1 := b1.size
  have i4 : IsI w1 r4 ((nx.getD i []).map fun (x : Nat) => (x : Int)) := IsS.toI (Own.isS o4)
  have l4 := own_len o4
  refine LoopW.count (nx.getD i []).length (by omega) (fun k w' => Below w1.heap.size w1 w' ∧ ∀ v ∈ (nx.getD i []).take k, ¬ BackEM nx ml i v) ⟨Below.refl _ _, by simp⟩ ?_
  rintro k w2 hk ⟨b2, hno⟩ next hnext
  have b12 := b1.trans (b2.mono z1)
  have h2 := h.below b12
  refine ifB_dec (fun hlt => ?_) (fun hge => ?_)
  · have hlt : k < (nx.getD i []).length := by dsimp only at hlt; omega
    obtain ⟨v, hv⟩ : ∃ v, v = (nx.getD i [])[k] := ⟨_, rfl⟩
    have hvm : v ∈ nx.getD i [] := by rw [hv]; exact List.getElem_mem _
    have hvl := h.d.ok.rows i v hvm
    refine JoinW.cut (fun _ w' => Below w1.heap.size w1 w' ∧ ¬ BackEM nx ml i v) ?_ fun _ w' ⟨q1, q2⟩ => hnext _ hlt ⟨q1, fun x hx => ?_⟩
    · refine elemI (i4.below b2) (k := k) (by rw [List.length_map]; exact hlt) ?_
      rw [List.getElem_map, ← hv]
      have bd : Below w.heap.size w w2.drew := b12.drew
      have hd2 := h.below bd
      refine h2.dom hvl hi fun b hb => ifB_bool (fun e1 => hd2.kd hvl (ifB_bne (fun e2 => hR _ _ bd (tru (.inl ⟨v, hvm, .inl ⟨hb.1 e1, .inl e2⟩⟩))) fun e2 => ?_)) fun e1 => ?_
      · obtain ⟨c, ec, hcl, _⟩ := h.co_lt hvl e2
        refine hd2.all fun x22 h22 => hd2.co hvl ?_
        rw [ec]
        refine h22 hcl hi fun b3 hb3 => ifB_not (ifB_bool (fun e3 => ⟨b2.drew, fun q => ?_⟩) fun e3 => hR _ _ bd (tru (.inl ⟨v, hvm, .inl ⟨hb.1 e1, .inr (by rw [ec]; exact no_of hb3 e3)⟩⟩)))
        rcases q with ⟨_, q | q⟩ | q
        · exact q e2
        · rw [ec] at q; exact q (hb3.1 e3)
        · exact q.1 (hb.1 e1)
      · refine rComes_spec h2 hvl hi fun b3 w3 b23 hb3 => ⟨b3, rfl, ifB_bool (fun e3 => hR _ _ (b12.trans (b23.mono b12.size)) (tru (.inl ⟨v, hvm, .inr ⟨no_of hb e1, hb3.1 e3⟩⟩))) fun e3 => ⟨b2.trans (b23.mono b2.size), fun q => ?_⟩⟩
        rcases q with q | q
        · exact no_of hb e1 q.1
        · exact no_of hb3 e3 q.2
    · rw [List.take_succ_eq_append_getElem hlt, List.mem_append, List.mem_singleton, ← hv] at hx
      rcases hx with hx | hx
      · exact hno x hx
      · rw [hx]; exact q2
  · have : k = (nx.getD i []).length := by dsimp only at hge; omega
    subst this
    rw [List.take_length] at hno
    refine h2.gr (rAhead_spec h.d.ok h2.g fun r36 w5 o36 b5 => ⟨r36, rfl, ?_⟩)
    rw [rowAt_nat] at o36
    obtain ⟨A, hA⟩ : ∃ A, A = (aheadOf nx).getD i [] := ⟨_, rfl⟩
    rw [← hA] at o36
    have i36 : IsI w5 r36 (A.map fun (x : Nat) => (x : Int)) := IsS.toI (Own.isS o36)
    have l36 := own_len o36
    have hAl : A.length ≤ nx.length := by rw [hA]; exact ahead_le nx i
    have b15 := b12.trans (b5.mono b12.size)
    refine LoopW.countS A.length (by omega) (fun k (c : Int) w' => Below w5.heap.size w5 w' ∧ c = ((A.take k).countP (dwB nx ml i) : Nat)) ⟨Below.refl _ _, by simp⟩ ?_
    rintro k c w6 hk ⟨b6, rfl⟩ next2 hnext2
    refine ifB_dec (fun hlt => ?_) (fun hge => ?_)
    · have hlt : k < A.length := by dsimp only at hlt; omega
      have hul : A[k] < nx.length := by
        have hm : A[k] ∈ (aheadOf nx).getD i [] := by rw [← hA]; exact List.getElem_mem hlt
        have := (edge_iff h.d.ok).1 hm
        by_cases e : A[k] < nx.length
        · exact e
        · simp [List.getD, List.getElem?_eq_none (show nx.length ≤ A[k] by omega)] at this
      have bd : Below w5.heap.size w5 w6.drew := b6.drew
      have h6 := h.below (b15.trans (bd.mono b15.size))
      have hle := List.countP_le_length (p := dwB nx ml i) (l := A.take k)
      rw [List.length_take, Nat.min_eq_left (by omega)] at hle
      have e : (A.take (k + 1)).countP (dwB nx ml i) = (A.take k).countP (dwB nx ml i) + if dwB nx ml i A[k] then 1 else 0 := by
        rw [List.take_succ_eq_append_getElem hlt, List.countP_append, List.countP_singleton]
      refine JoinW.cut (fun (st : Int × Unit) w' => Below w5.heap.size w5 w' ∧ st.1 = ((A.take (k + 1)).countP (dwB nx ml i) : Nat)) ?_ fun st w' hh => hnext2 _ _ hlt hh
      refine h6.row hi fun x44 h44 => elemI (i36.below bd) (k := k) (by rw [List.length_map]; exact hlt) ?_
      rw [List.getElem_map]
      refine h44 hul fun v hv => ifB_bool (fun e1 => ⟨bd, ?_⟩) fun e1 => ⟨bd, ?_⟩
      · rw [e, if_pos (dwB_iff.2 (hv.1 e1))]
        dsimp only
        rw [wrap64_in (by omega) (by omega)]
        rfl
      · rw [e, if_neg (by rw [dwB_iff]; exact no_of hv e1)]
        rfl
    · have : k = A.length := by dsimp only at hge; omega
      subst this
      rw [List.take_length]
      refine hR _ w6 (b15.trans (b6.mono b15.size)) ?_
      rw [decide_eq_true_iff]
      unfold BackM
      rw [← hA]
      constructor
      · exact fun q => .inr (by dsimp only at q; omega)
      · rintro (⟨v, hv, q⟩ | q)
        · exact absurd q (hno v hv)
        · dsimp only; omega

theorem rExit_spec {i : Nat} (_hi : i < nx.length) (may : ∀ {w'} {t : Nat} {R' : Value → World → Prop}, IsX w' xb rb s nx ml → t < nx.length → (∀ b w'', Below w'.heap.size w' w'' → (b = true ↔ MayM nx ml i t) → R' (.bool b) w'') → callR Try.prog 184 #[.pointer (some (Gk.blk xb)), .int .i64 (i : Int), .int .i64 (t : Int)] w' R')
    (hR : ∀ b w', Below w.heap.size w w' → (b = true ↔ ruleM nx ml i 3) → R (.bool b) w') : callR Try.prog 159 #[.pointer (some (Gk.blk xb)), .int .i64 (i : Int)] w R := by
  refine callR.of (intaglioref16_Nest_Exit_calls _ (i : Int) R w ?_) fun _ _ h => h
  have hR : ∀ b w', Below w.heap.size w w' → (b = true ↔ ∃ t ∈ nx.getD i [], ¬ MayM nx ml i t) → R (.bool b) w' := hR
  have hmx := h.d.ok.max
  have hrl := h.d.ok.row_le i
  refine h.gr (rNext_spec h.d.ok h.g fun r4 w1 o4 b1 => ⟨r4, rfl, ?_⟩)
  rw [rowAt_nat] at o4
  have z1 := b1.size
  have i4 : IsI w1 r4 ((nx.getD i []).map fun (x : Nat) => (x : Int)) := IsS.toI (Own.isS o4)
  have l4 := own_len o4
  refine LoopW.count (nx.getD i []).length (by omega) (fun k w' => Below w1.heap.size w1 w' ∧ ∀ v ∈ (nx.getD i []).take k, MayM nx ml i v) ⟨Below.refl _ _, by simp⟩ ?_
  rintro k w2 hk ⟨b2, hno⟩ next hnext
  have b12 := b1.trans (b2.mono z1)
  refine ifB_dec (fun hlt => ?_) (fun hge => ?_)
  · have hlt : k < (nx.getD i []).length := by dsimp only at hlt; omega
    have hvl := h.d.ok.rows i _ (List.getElem_mem hlt)
    refine elemI (i4.below b2) (k := k) (by rw [List.length_map]; exact hlt) ?_
    rw [List.getElem_map]
    refine may (h.below b12) hvl fun b w3 b3 hb => ⟨b, rfl, ifB_not (ifB_bool (fun e => hnext _ hlt ⟨b2.trans (b3.mono b2.size), fun v hv => ?_⟩) fun e => hR _ _ (b12.trans (b3.mono b12.size)) (tru ⟨_, List.getElem_mem hlt, no_of hb e⟩))⟩
    rw [List.take_succ_eq_append_getElem hlt, List.mem_append, List.mem_singleton] at hv
    rcases hv with hv | hv
    · exact hno v hv
    · rw [hv]; exact hb.1 e
  · have : k = (nx.getD i []).length := by dsimp only at hge; omega
    subst this
    rw [List.take_length] at hno
    exact hR _ w2 b12 (fls fun ⟨t, ht, q⟩ => q (hno t ht))

set_option maxHeartbeats 4000000 in
theorem rMay_spec {i t : Nat} (hi : i < nx.length) (ht : t < nx.length) (hR : ∀ b w', Below w.heap.size w w' → (b = true ↔ MayM nx ml i t) → R (.bool b) w') :
    callR Try.prog 184 #[.pointer (some (Gk.blk xb)), .int .i64 (i : Int), .int .i64 (t : Int)] w R := by
  refine callR.of (intaglioref16_Nest_May_calls _ (i : Int) (t : Int) R w ?_) fun _ _ h => h
  have hmx := h.d.ok.max
  have hsl := h.len.1
  have hd := h.d
  have lsucc : ∀ k, leftN nx ml i t (k + 1) = leftN nx ml i t k + if (inM nx ml k i && !inM nx ml k t) = true then 1 else 0 := fun k => by
    unfold leftN
    rw [List.range_succ, List.countP_append, List.countP_singleton]
  have lle : ∀ k, leftN nx ml i t k ≤ k := fun k => by
    unfold leftN
    have := List.countP_le_length (p := fun h => inM nx ml h i && !inM nx ml h t) (l := List.range k)
    simpa using this
  refine LoopW.countS2 nx.length (by omega) (fun k (o l : Int) w' => Below w.heap.size w w' ∧ l = (leftN nx ml i t k : Nat) ∧ (∀ x, x < k → InM nx ml x t → ¬ InM nx ml x i → t = x) ∧ ((o = -1 ∧ leftN nx ml i t k = 0 ∧ ∀ x, x < k → InM nx ml x i → InM nx ml x t) ∨ ∃ o' : Nat, o = (o' : Int) ∧ OuterM nx ml i t o' k)) ⟨Below.refl _ _, by simp [leftN], fun x hx => by omega, .inl ⟨rfl, by simp [leftN], fun x hx => by omega⟩⟩ ?_
  rintro k o l w1 hk ⟨b1, rfl, hin, ho⟩ next hnext
  have h1 := h.below b1
  have z1 := b1.size
  refine h1.ms (ifB_dec (fun hlt => ?_) fun hge => ?_)
  · have hlt : k < nx.length := by dsimp only at hlt; omega
    have hkk := hlt
    have hll := lle k
    refine JoinW.cut (fun (st : Int × Int × Unit) w' => Below w.heap.size w w' ∧ st.2.1 = (leftN nx ml i t (k + 1) : Nat) ∧ (∀ x, x < k + 1 → InM nx ml x t → ¬ InM nx ml x i → t = x) ∧ ((st.1 = -1 ∧ leftN nx ml i t (k + 1) = 0 ∧ ∀ x, x < k + 1 → InM nx ml x i → InM nx ml x t) ∨ ∃ o' : Nat, st.1 = (o' : Int) ∧ OuterM nx ml i t o' (k + 1))) ?_ fun st w' hh => hnext _ _ _ hlt hh
    refine JoinW.cut (fun _ w' => Below w.heap.size w w' ∧ (InM nx ml k t → ¬ InM nx ml k i → t = k)) ?_ ?_
    · refine In_spec h1 hlt ht fun b w2 b2 hb => ⟨b, rfl, ?_⟩
      have b12 := b1.trans (b2.mono z1)
      refine ifB_bool (fun e1 => In_spec (h.below b12) hlt hi fun b3 w3 b3' hb3 => ⟨b3, rfl, ?_⟩) fun e1 => ⟨b12, fun q => absurd q (no_of hb e1)⟩
      have b13 := b12.trans (b3'.mono b12.size)
      refine ifB_not (ifB_bool (fun e2 => ⟨b13, fun _ q => absurd (hb3.1 e2) q⟩) fun e2 => ifB_bne (fun hne => hR _ _ b13 (fls fun hh => ?_)) fun e => ⟨b13, fun _ _ => by dsimp only at e; omega⟩)
      have := hh.1 k hlt (hb.1 e1) (no_of hb3 e2)
      exact hne (by rw [this])
    rintro _ w4 ⟨b4, hin4⟩
    have hin' : ∀ x, x < k + 1 → InM nx ml x t → ¬ InM nx ml x i → t = x := fun x hx => by
      by_cases e : x = k
      · rw [e]; exact hin4
      · exact hin x (by omega)
    have z4 := b4.size
    have same : ¬ (InM nx ml k i ∧ ¬ InM nx ml k t) → leftN nx ml i t (k + 1) = leftN nx ml i t k ∧ ((o = -1 ∧ leftN nx ml i t (k + 1) = 0 ∧ ∀ x, x < k + 1 → InM nx ml x i → InM nx ml x t) ∨ ∃ o' : Nat, o = (o' : Int) ∧ OuterM nx ml i t o' (k + 1)) := fun hn => by
      have e0 : leftN nx ml i t (k + 1) = leftN nx ml i t k := by
        rw [lsucc, if_neg, Nat.add_zero]
        rw [Bool.and_eq_true, Bool.not_eq_true', ← Bool.not_eq_true, inM_iff, inM_iff]
        exact hn
      refine ⟨e0, ?_⟩
      rcases ho with ⟨q1, q2, q3⟩ | ⟨o', q1, q2, q3, q4, q5⟩
      · refine .inl ⟨q1, by omega, fun x hx hxi => ?_⟩
        by_cases e : x = k
        · subst e
          by_cases e' : InM nx ml x t
          · exact e'
          · exact absurd ⟨hxi, e'⟩ hn
        · exact q3 x (by omega) hxi
      · refine .inr ⟨o', q1, by omega, q3, q4, fun x hx hxi hxt => ?_⟩
        by_cases e : x = k
        · subst e; exact absurd ⟨hxi, hxt⟩ hn
        · exact q5 x (by omega) hxi hxt
    refine In_spec (h.below b4) hlt hi fun b w5 b5 hb => ⟨b, rfl, ?_⟩
    have b15 := b4.trans (b5.mono z4)
    refine ifB_bool (fun e1 => In_spec (h.below b15) hlt ht fun b6 w6 b6' hb6 => ⟨b6, rfl, ?_⟩) fun e1 => ⟨b15, by rw [(same fun q => no_of hb e1 q.1).1], hin', (same fun q => no_of hb e1 q.1).2⟩
    have b16 := b15.trans (b6'.mono b15.size)
    refine ifB_not (ifB_bool (fun e2 => ⟨b16, by rw [(same fun q => q.2 (hb6.1 e2)).1], hin', (same fun q => q.2 (hb6.1 e2)).2⟩) fun e2 => ?_)
    have hki := hb.1 e1
    have hkt := no_of hb6 e2
    have eN : leftN nx ml i t (k + 1) = leftN nx ml i t k + 1 := by
      rw [lsucc, if_pos]
      rw [Bool.and_eq_true, Bool.not_eq_true', ← Bool.not_eq_true, inM_iff, inM_iff]
      exact ⟨hki, hkt⟩
    have eW : IntKind.i64.wrap (((leftN nx ml i t k : Nat) : Int) + 1) = ((leftN nx ml i t (k + 1) : Nat) : Int) := by rw [eN, wrap64_succ (by omega)]
    have newk : (∀ x, x < k → InM nx ml x i → ¬ InM nx ml x t → DW (wideX nx ml) (k : Int) (x : Int)) → OuterM nx ml i t k (k + 1) := fun hh => ⟨by omega, hki, hkt, fun x hx hxi hxt => by
      by_cases e : x = k
      · rw [e]; exact (hd.refl_of hki.2.1).1
      · exact hh x (by omega) hxi hxt⟩
    rcases ho with ⟨q1, q2, q3⟩ | ⟨o', q1, q2, q3, q4, q5⟩
    · subst q1
      exact ifB_true (by simp) ⟨b16, eW, hin', .inr ⟨k, rfl, newk fun x hx hxi hxt => absurd (q3 x hx hxi) hxt⟩⟩
    · subst q1
      refine ifB_dec (fun hlt => absurd hlt (by simp only; omega)) fun _ => (h.below b16).dom hkk (b := o') (by omega) fun v hv => ifB_bool (fun e3 => ⟨b16, eW, hin', .inr ⟨k, rfl, newk fun x hx hxi hxt => hd.trans (hv.1 e3) (q5 x hx hxi hxt)⟩⟩) fun e3 => ⟨b16, eW, hin', .inr ⟨o', rfl, by omega, q3, q4, fun x hx hxi hxt => ?_⟩⟩
      by_cases e : x = k
      · subst e
        exact (hd.lin q3.2.1 hxi.2.1).resolve_right (no_of hv e3)
      · exact q5 x (by omega) hxi hxt
  · have : k = nx.length := by dsimp only at hge; omega
    subst this
    refine ifB_beq (fun e => hR _ _ b1 (tru ⟨fun x hx => hin x hx, .inl (by dsimp only at e; omega)⟩)) fun hne => ?_
    have hne' : leftN nx ml i t nx.length ≠ 0 := fun e => hne (by rw [e]; rfl)
    rcases ho with ⟨_, q, _⟩ | ⟨o', rfl, hO⟩
    · exact absurd q hne'
    have hol := hO.1
    have tt : ((t : Int) = toM ml o' ∧ (leftN nx ml i t nx.length = 1 ∨ WithinM nx ml o' i 3)) → MayM nx ml i t := fun q => ⟨fun x hx => hin x hx, .inr (.inl ⟨o', hO, q⟩)⟩
    refine JoinW.cut (fun _ w' => Below w.heap.size w w' ∧ ¬ ((t : Int) = toM ml o' ∧ (leftN nx ml i t nx.length = 1 ∨ WithinM nx ml o' i 3))) ?_ ?_
    · refine h1.to hol (ifB_beq (fun e => ifB_beq (fun e1 => hR _ _ b1 (tru (tt ⟨e, .inl (by dsimp only at e1; omega)⟩))) fun e1 => Within_spec h1 hol hi fun b w8 b8 hb => ⟨b, rfl, ?_⟩) fun e => ⟨b1, fun q => e q.1⟩)
      have b18 := b1.trans (b8.mono z1)
      refine ifB_bool (fun e2 => hR _ _ b18 (tru (tt ⟨e, .inr (hb.1 e2)⟩))) fun e2 => ⟨b18, fun q => ?_⟩
      rcases q.2 with q | q
      · exact e1 (by rw [q]; rfl)
      · exact no_of hb e2 q
    rintro _ w9 ⟨b9, hnt⟩
    refine LoopW.count nx.length (by omega) (fun k w' => Below w.heap.size w w' ∧ ∀ x, x < k → ¬ (WithinM nx ml x i 2 ∧ (t : Int) = coM ml x ∧ InM nx ml x t)) ⟨b9, fun x hx => by omega⟩ ?_
    rintro m w10 hm ⟨b10, hno⟩ next2 hnext2
    have h10 := h.below b10
    have z10 := b10.size
    refine h10.ms (ifB_dec (fun hlt => ?_) fun hge => hR _ _ b10 (fls fun hh => ?_))
    · have hlt : m < nx.length := by dsimp only at hlt; omega
      refine JoinW.cut (fun _ w' => Below w.heap.size w w' ∧ ¬ (WithinM nx ml m i 2 ∧ (t : Int) = coM ml m ∧ InM nx ml m t)) ?_ fun _ w' ⟨q1, q2⟩ => hnext2 _ hlt ⟨q1, fun x hx => by
        by_cases e : x = m
        · rw [e]; exact q2
        · exact hno x (by omega)⟩
      refine Within_spec h10 hlt hi fun b w11 b11 hb => ⟨b, rfl, ?_⟩
      have b1' := b10.trans (b11.mono z10)
      have h11 := h.below b1'
      refine ifB_bool (fun e1 => h11.co hlt (ifB_beq (fun e2 => In_spec h11 hlt ht fun b12 w12 b12' hb12 => ⟨b12, rfl, ?_⟩) fun e2 => ⟨b1', fun q => e2 q.2.1⟩)) fun e1 => ⟨b1', fun q => no_of hb e1 q.1⟩
      have b2' := b1'.trans (b12'.mono b1'.size)
      exact ifB_bool (fun e3 => hR _ _ b2' (tru ⟨fun x hx => hin x hx, .inr (.inr ⟨m, hlt, hb.1 e1, e2, hb12.1 e3⟩)⟩)) fun e3 => ⟨b2', fun q => no_of hb12 e3 q.2.2⟩
    · rcases hh.2 with q | ⟨o2, q1, q2⟩ | ⟨x, q1, q2⟩
      · exact hne' q
      · have := q1.uniq hd hO
        subst this
        exact hnt q2
      · have : m = nx.length := by dsimp only at hge; omega
        exact hno x (by omega) q2
end

end Go.Proofs

/-!
  All flaws by the document; the statement NestFlaws.
-/
namespace Go.Proofs
open Go.Gk Go.RowKit Go.Gr Go.Dm

section
variable {xb rb gb : Nat} {nx : List (List Nat)} {ml : List Mg} {s : Sl} {w : World} {R : Value → World → Prop}
theorem flawsAtM_succ (i m : Nat) : flawsAtM nx ml i (m + 1) = flawsAtM nx ml i m ++ if brkM nx ml i m then [((i : Int), errOf m)] else [] := by
  unfold flawsAtM
  rw [filter_succ, List.map_append]
  congr 1
  split <;> simp
theorem flawsAtM_len (i m : Nat) : (flawsAtM nx ml i m).length ≤ m := by
  unfold flawsAtM
  rw [List.length_map]
  have := List.length_filter_le (brkM nx ml i) (List.range m)
  simpa using this
theorem flawsM_succ (k : Nat) : flawsM nx ml (k + 1) = flawsM nx ml k ++ flawsAtM nx ml k 4 := by
  unfold flawsM
  rw [List.range_succ, List.flatMap_append]
  simp
theorem flawsM_len : ∀ k, (flawsM nx ml k).length ≤ 4 * k
  | 0 => by simp [flawsM]
  | k + 1 => by
    have := flawsM_len k
    have := flawsAtM_len (nx := nx) (ml := ml) k 4
    rw [flawsM_succ, List.length_append]
    omega

/-- A flaw is told, if there is one. -/
theorem flaw_step {B0 : Nat} {w0 w2 : World} {r : Sl} {i k m : Nat} {b : Bool} {e : Int} (he : e = errOf m) (hb : Below B0 w0 w2) (hB : B0 ≤ w2.heap.size) (ho : OwnF w2 r (flawsM nx ml i ++ flawsAtM nx ml k m)) (hf : Fresh B0 r) (hl : i ≤ 4096) (hm : m < 4)
    (hk : k ∈ orderOf (wideX nx ml)) (hv : b = true ↔ ruleM nx ml k m) {K : Sl → World → Prop}
    (hK : ∀ r' w', Below B0 w0 w' → B0 ≤ w'.heap.size → OwnF w' r' (flawsM nx ml i ++ flawsAtM nx ml k (m + 1)) → Fresh B0 r' → K r' w') :
    ifB b (Nw (w2.alloc (.cells #[.int .i64 (k : Int), .int .i64 e] 143)) fun w3 => appendS Try.prog 67 (.slice r.a r.l r.c) (.slice (some (Gk.blk w2.heap.size)) 1 1) w3 fun r15 w4 => K r15 w4) (K r w2) := by
  have h1 := flawsM_len (nx := nx) (ml := ml) i
  have h2 := flawsAtM_len (nx := nx) (ml := ml) k m
  refine ifB_bool (fun eb => pushF hb hB ho hf (by rw [List.length_append]; omega) fun r' w' q1 q2 q3 q4 => hK r' w' q1 q2 ?_ q4) fun eb => hK r w2 hb hB ?_ hf
  · rw [flawsAtM_succ, if_pos (brkM_iff.2 ⟨hk, hv.1 eb⟩), ← List.append_assoc, ← he]
    exact q3
  · rw [flawsAtM_succ, if_neg, List.append_nil]
    · exact ho
    · rw [brkM_iff]; exact fun q => no_of hv eb q.2

set_option maxHeartbeats 2000000 in
theorem rAll_spec (h : IsX w xb rb s nx ml) (hR : ∀ r w', Below w.heap.size w w' → OwnF w' r (flawsM nx ml nx.length) → R (.slice r.a r.l r.c) w') : callR Try.prog 119 #[.pointer (some (Gk.blk xb))] w R := by
  refine callR.of (intaglioref16_Nest_All_calls _ R w ?_) fun _ _ h => h
  have hmx := h.d.ok.max
  have hsl := h.len.1
  refine LoopW.countS nx.length (by omega) (fun k (l : Sl) w' => Below w.heap.size w w' ∧ w.heap.size ≤ w'.heap.size ∧ OwnF w' l (flawsM nx ml k) ∧ Fresh w.heap.size l) ⟨Below.refl _ _, Nat.le_refl _, by rw [show flawsM nx ml 0 = [] from by simp [flawsM]]; exact Own.nil _ _ _, fun a ha => by cases ha⟩ ?_
  rintro k l w1 hk ⟨b1, z1, o1, f1⟩ next hnext
  have h1 := h.below b1
  refine h1.ms (ifB_dec (fun hlt => ?_) fun hge => ?_)
  · have hlt : k < nx.length := by dsimp only at hlt; omega
    refine JoinW.cut (fun (st : Sl × Unit) w' => Below w.heap.size w w' ∧ w.heap.size ≤ w'.heap.size ∧ OwnF w' st.1 (flawsM nx ml (k + 1)) ∧ Fresh w.heap.size st.1) ?_ fun st w' hh => hnext _ _ hlt hh
    obtain ⟨wb, is, ds, bl, x1, x2, x3, x4, x5⟩ := h1.ex
    refine derefP_some rfl ⟨is, x1.cell (n := 3) rfl, elemB x2 (k := k) (by omega) ?_⟩
    rw [show bl[k]'(by omega) = bl.getD k false by simp [List.getD, show k < bl.length by omega]]
    refine ifB_not (ifB_bool (fun e => ?_) fun e => ⟨b1, z1, ?_, f1⟩)
    · have hko := (x4 k).1 e
      have o1' : OwnF w1 l (flawsM nx ml k ++ flawsAtM nx ml k 0) := by rw [show flawsAtM nx ml k 0 = [] from by simp [flawsAtM], List.append_nil]; exact o1
      have bin : ∀ {wa wc : World}, Below w.heap.size w wa → w.heap.size ≤ wa.heap.size → Below wa.heap.size wa wc → Below w.heap.size w wc ∧ w.heap.size ≤ wc.heap.size := fun {wa wc} ba za bc => ⟨ba.trans (bc.mono za), by have := bc.size; omega⟩
      refine JoinW.cut (fun (st : Sl × Unit) w' => Below w.heap.size w w' ∧ w.heap.size ≤ w'.heap.size ∧ OwnF w' st.1 (flawsM nx ml k ++ flawsAtM nx ml k 1) ∧ Fresh w.heap.size st.1) ?_ ?_
      · refine rBare_spec h1 hlt fun b w2 b2 hb => ⟨b, rfl, ?_⟩
        obtain ⟨b12, z12⟩ := bin b1 z1 b2
        exact flaw_step (e := 163) (m := 0) (i := k) rfl b12 z12 (Own.below o1' b2) f1 (by omega) (by omega) hko hb fun r' w' q1 q2 q3 q4 => ⟨q1, q2, q3, q4⟩
      rintro ⟨r2, _⟩ w5 ⟨b5, z5, o5, f5⟩
      refine JoinW.cut (fun (st : Sl × Unit) w' => Below w.heap.size w w' ∧ w.heap.size ≤ w'.heap.size ∧ OwnF w' st.1 (flawsM nx ml k ++ flawsAtM nx ml k 2) ∧ Fresh w.heap.size st.1) ?_ ?_
      · refine rMerge_spec (h.below b5) hlt fun b w2 b2 hb => ⟨b, rfl, ?_⟩
        obtain ⟨b12, z12⟩ := bin b5 z5 b2
        exact flaw_step (e := 160) (m := 1) (i := k) rfl b12 z12 (Own.below o5 b2) f5 (by omega) (by omega) hko hb fun r' w' q1 q2 q3 q4 => ⟨q1, q2, q3, q4⟩
      rintro ⟨r9, _⟩ w9 ⟨b9, z9, o9, f9⟩
      refine JoinW.cut (fun (st : Sl × Unit) w' => Below w.heap.size w w' ∧ w.heap.size ≤ w'.heap.size ∧ OwnF w' st.1 (flawsM nx ml k ++ flawsAtM nx ml k 3) ∧ Fresh w.heap.size st.1) ?_ ?_
      · refine rBack_spec (h.below b9) hlt fun b w2 b2 hb => ⟨b, rfl, ?_⟩
        obtain ⟨b12, z12⟩ := bin b9 z9 b2
        exact flaw_step (e := 162) (m := 2) (i := k) rfl b12 z12 (Own.below o9 b2) f9 (by omega) (by omega) hko hb fun r' w' q1 q2 q3 q4 => ⟨q1, q2, q3, q4⟩
      rintro ⟨r13, _⟩ w13 ⟨b13, z13, o13, f13⟩
      refine rExit_spec (h.below b13) hlt (fun hx ht hR' => rMay_spec hx hlt ht hR') fun b w2 b2 hb => ⟨b, rfl, ?_⟩
      obtain ⟨b12, z12⟩ := bin b13 z13 b2
      refine flaw_step (e := 161) (m := 3) (i := k) rfl b12 z12 (Own.below o13 b2) f13 (by omega) (by omega) hko hb fun r' w' q1 q2 q3 q4 => ⟨q1, q2, ?_, q4⟩
      rw [flawsM_succ]
      exact q3
    · rw [flawsM_succ, show flawsAtM nx ml k 4 = [] from ?_, List.append_nil]
      · exact o1
      · unfold flawsAtM
        rw [List.map_eq_nil_iff, List.filter_eq_nil_iff]
        intro r _
        rw [brkM_iff]
        exact fun q => by rw [(x4 k).2 q.1] at e; cases e
  · have : k = nx.length := by dsimp only at hge; omega
    subst this
    exact hR l w1 b1 o1

open Classical in
noncomputable def flE (N : Prop) (nx : List (List Nat)) (ml : List Mg) : Int := if N then 1 else if ¬ Fit nx.length ml then 2 else 0
open Classical in
noncomputable def flL (N : Prop) (nx : List (List Nat)) (ml : List Mg) : List (Int × Int) := if ¬ N ∧ Fit nx.length ml then flawsM nx ml nx.length else []
open Classical in
/-- What Check answers. -/
noncomputable def chk (N : Prop) (nx : List (List Nat)) (ml : List Mg) : Int × Int := if flE N nx ml = 0 then spotOf (flL N nx ml) else (flE N nx ml, 0)
variable {p q : Option Addr} {N : Prop}
theorem flE1 (hn : N) : flE N nx ml = 1 ∧ flL N nx ml = [] ∧ chk N nx ml = (1, 0) := by simp [flE, flL, chk, hn]
theorem flE2 (hn : ¬ N) (hf : ¬ Fit nx.length ml) : flE N nx ml = 2 ∧ flL N nx ml = [] ∧ chk N nx ml = (2, 0) := by simp [flE, flL, chk, hn, hf]
theorem flE0 (hn : ¬ N) (hf : Fit nx.length ml) : flE N nx ml = 0 ∧ flL N nx ml = flawsM nx ml nx.length ∧ chk N nx ml = spotOf (flawsM nx ml nx.length) := by simp [flE, flL, chk, hn, hf]

theorem rFlaws_spec (hp : PR2 w p rb nx) (hM : IsM w s ml) (hR : ∀ r w', Below w.heap.size w w' → OwnF w' r (flL (p = none) nx ml) → R (.tuple #[.slice r.a r.l r.c, .int .i64 (flE (p = none) nx ml)]) w') :
    callR Try.prog 65 #[.pointer p, .slice s.a s.l s.c] w R := by
  refine callR.of (intaglioref16_Flaws_calls p s R w ?_) fun _ _ h => h
  have nil : ∀ {w'}, OwnF w' ⟨none, 0, 0⟩ [] := Own.nil _ _ _
  refine Asked_spec hp hM (fun e => ⟨1, rfl, ifB_true (by decide) ?_⟩) (fun e hf => ⟨2, rfl, ifB_true (by decide) ?_⟩) fun e hf => ⟨0, rfl, ifB_false (by decide) ?_⟩
  · have := hR ⟨none, 0, 0⟩ w (Below.refl _ _) (by rw [(flE1 e).2.1]; exact nil)
    rw [(flE1 e).1] at this
    exact this
  · have := hR ⟨none, 0, 0⟩ w (Below.refl _ _) (by rw [(flE2 e hf).2.1]; exact nil)
    rw [(flE2 e hf).1] at this
    exact this
  · cases p with
    | none => exact absurd rfl e
    | some a =>
    obtain ⟨rfl, hx, hG⟩ := hp a rfl
    refine rNew_spec hx hG hM hf fun w2 xb b2 hX => ⟨_, rfl, rAll_spec hX fun r w3 b3 o3 => ⟨r, rfl, ?_⟩⟩
    have := hR r w3 (b2.trans (b3.mono b2.size)) (by rw [(flE0 e hf).2.1]; exact o3)
    rw [(flE0 e hf).1] at this
    exact this
theorem rCheck_spec (hp : PR2 w p rb nx) (hM : IsM w s ml) (hR : ∀ w', Below w.heap.size w w' → R (.agg #[.int .i64 (chk (p = none) nx ml).1, .int .i64 (chk (p = none) nx ml).2]) w') :
    callR Try.prog 71 #[.pointer p, .slice s.a s.l s.c] w R := by
  refine callR.of (intaglioref16_Check_calls p s R w ?_) fun _ _ h => h
  refine Nw.gen fun w1 hw1 => ?_
  have hB1 : Blk w1 w.heap.size 75 [.int .i64 0, .int .i64 0] := by rw [hw1]; exact Blk.new w _ #[_, _]
  have b1 : Below w.heap.size w w1 := by rw [hw1]; exact (Below.refl _ _).alloc (Nat.le_refl _) _
  have z1 := b1.size
  clear hw1
  have fin : ∀ (w2 : World) (x y : Int), Below w1.heap.size w1 w2 → (x, y) = chk (p = none) nx ml →
      Wr w2 (Gk.blk w.heap.size) ∧ Nw (w2.setCell (Gk.blk w.heap.size) (.int .i64 x)) fun w3 => Wr w3 ((Gk.blk w.heap.size).add 1) ∧ Nw (w3.setCell ((Gk.blk w.heap.size).add 1) (.int .i64 y)) fun w4 =>
        ldI w4 ((Gk.blk w.heap.size).add 0) .i64 fun x4 => ldI w4 ((Gk.blk w.heap.size).add 1) .i64 fun x5 => R (.agg #[.int .i64 x4, .int .i64 x5]) w4 := fun w2 x y b2 hxy => by
    have e1 : x = (chk (p = none) nx ml).1 := congrArg Prod.fst hxy
    have e2 : y = (chk (p = none) nx ml).2 := congrArg Prod.snd hxy
    clear hxy
    subst e1 e2
    have hB2 := hB1.below b2
    have h3 := (hB2.set0 (.int .i64 (chk (p = none) nx ml).1)).set 1 (.int .i64 (chk (p = none) nx ml).2)
    exact ⟨hB2.wr0 (by simp), (hB2.set0 _).wr (n := 1) (by simp), _, h3.cell0 rfl, _, h3.cell (n := 1) rfl, hR _ (((b1.trans (b2.mono z1)).setCell (Nat.le_refl _) _).setCell (by rw [add_block]; exact Nat.le_refl _) _)⟩
  refine rFlaws_spec (hp.below b1) (IsC.mbelow hM b1) fun r w2 b2 o2 => ⟨r, _, rfl, ifB_bne (fun hne => fin w2 _ 0 b2 (by unfold chk; rw [if_neg hne])) fun he => ?_⟩
  have hF := o2.isF
  have hl := hF.len
  have hc : chk (p = none) nx ml = spotOf (flL (p = none) nx ml) := by unfold chk; rw [if_pos he]
  cases hL : flL (p = none) nx ml with
  | nil =>
    rw [hL] at hl hc
    exact ifB_beq (fun _ => fin w2 0 0 b2 hc.symm) fun h => absurd (by simp at hl; omega) h
  | cons x L' =>
    rw [hL] at hl hF hc
    refine ifB_beq (fun h => absurd h (by simp at hl; omega)) fun _ => ?_
    have hF2 := IsC.below flV_len hF (Below.refl _ w2).drew
    obtain ⟨a, ha⟩ := hF2.base (i := 0) (by simp)
    have hc0 := hF2.cell a ha 0 (by simp) 0 (by omega)
    have hc1 := hF2.cell a ha 0 (by simp) 1 (by omega)
    have bnd : 0 ≤ (0 : Int) ∧ (0 : Int) < (r.l : Int) := ⟨by omega, by simp at hl; omega⟩
    exact ⟨bnd, derefP_some ha ⟨_, by rw [add_add']; exact hc1, bnd, derefP_some ha ⟨_, hc0, fin w2.drew _ _ (b2.drew) hc.symm⟩⟩⟩

theorem gFlaws_spec (hq : PG w q gb nx) (hM : IsM w s ml) (hR : ∀ r w', Below w.heap.size w w' → OwnF w' r (flL (q = none) nx ml) → R (.tuple #[.slice r.a r.l r.c, .int .i64 (flE (q = none) nx ml)]) w') :
    callR Try.prog 67 #[.pointer q, .slice s.a s.l s.c] w R := by
  have nil : ∀ {w'}, OwnF w' ⟨none, 0, 0⟩ [] := Own.nil _ _ _
  refine Flaws_spec hq hM (fun e => ?_) (fun e hf w' hb => ?_) fun e hf w' nb g r hb hn ho => ?_
  · have := hR ⟨none, 0, 0⟩ w (Below.refl _ _) (by rw [(flE1 e).2.1]; exact nil)
    rw [(flE1 e).1] at this
    exact this
  · have := hR ⟨none, 0, 0⟩ w' hb (by rw [(flE2 e hf).2.1]; exact nil)
    rw [(flE2 e hf).1] at this
    exact this
  · rw [hn.flawsE] at ho
    have := hR r w' hb (by rw [(flE0 e hf).2.1]; exact ho)
    rw [(flE0 e hf).1] at this
    exact this
theorem gCheck_spec (hq : PG w q gb nx) (hM : IsM w s ml) (hR : ∀ w', Below w.heap.size w w' → R (.agg #[.int .i64 (chk (q = none) nx ml).1, .int .i64 (chk (q = none) nx ml).2]) w') :
    callR Try.prog 70 #[.pointer q, .slice s.a s.l s.c] w R := by
  refine Check_spec hq hM (fun e w' hb => ?_) (fun e hf w' hb => ?_) fun e hf w' w2 nb g hb hn => ?_
  · have := hR w' hb
    rw [(flE1 e).2.2] at this
    exact this
  · have := hR w' hb
    rw [(flE2 e hf).2.2] at this
    exact this
  · have := hR w' hb
    rw [(flE0 e hf).2.2] at this
    rw [hn.flawsE]
    exact this

theorem NestFlaws_spec {t : Sl} {hs : List Sl} {ll : List (List Int)} {w : World} {R : Value → World → Prop} (hI : IsII w t hs ll) (_h24 : 24 * ll.length ≤ 281474976710656) (h8 : ∀ l ∈ ll, 8 * l.length ≤ 281474976710656)
    (hM : IsM w s ml) (h24 : 24 * ml.length ≤ 281474976710656) (_hk : ∀ x ∈ ml, 0 ≤ x.1) (hR : ∀ w', Below w.heap.size w w' → R (.bool true) w') :
    callR Try.prog 14 #[.slice t.a t.l t.c, .slice s.a s.l s.c] w R := by
  refine callR.of (intagliolaw16_NestFlaws_calls t s R w ?_) fun _ _ h => h
  refine ifB_dec (fun _ => hR w (Below.refl _ _)) fun h64 => ?_
  refine both_open hI h8 fun p q rb gb nx w2 b2 hp hq hpq => ?_
  have hN : (p = none) = (q = none) := propext hpq
  have z2 := b2.size
  have hM2 := IsC.mbelow hM b2
  refine rFlaws_spec hp hM2 fun x8 w3 b3 o3 => ⟨x8, _, rfl, ?_⟩
  have z3 := b3.size
  refine copiedM_spec (IsC.mbelow hM2 b3) h24 fun w4 s4 b4 _ _ m4 _ => ⟨s4, rfl, ?_⟩
  have b24 := b3.trans (b4.mono z3)
  have z24 := b24.size
  refine gFlaws_spec (hq.below b24) m4 fun x13 w5 b5 o5 => ⟨x13, _, rfl, ?_⟩
  have b25 := b24.trans (b5.mono z24)
  have z25 := b25.size
  refine JoinW.cut (fun _ w' => Below w2.heap.size w2 w') ?_ fun _ w10 b10 => nawake_spec fun w11 b11 => ⟨true, rfl, hR w11 ((b2.trans (b10.mono z2)).trans (b11.mono (by have := b10.size; omega)))⟩
  rw [hN]
  refine ifB_bne (fun h => absurd rfl h) fun _ => ?_
  have f3 : IsF w5 x8 (flL (q = none) nx ml) := by
    have := (Own.below (Own.below o3 b4) b5)
    rw [hN] at this
    exact OwnF.isF this
  refine flawsEq_spec o5.isF f3 fun w6 _ b6 => ⟨true, rfl, ifB_false rfl ?_⟩
  have b26 := b25.trans (b6.mono z25)
  have z26 := b26.size
  have m6 := IsC.mbelow (IsC.mbelow m4 b5) b6
  refine sameM_spec m6 (IsC.mbelow hM2 b26) fun w7 _ b7 => ⟨true, rfl, ifB_false rfl ?_⟩
  have b27 := b26.trans (b7.mono z26)
  have z27 := b27.size
  refine gCheck_spec (hq.below b27) (IsC.mbelow m6 b7) fun w8 b8 => ⟨(_, _, ()), rfl, ?_⟩
  have b28 := b27.trans (b8.mono z27)
  have z28 := b28.size
  refine rCheck_spec (hp.below b28) (IsC.mbelow hM2 b28) fun w9 b9 => ⟨(_, _, ()), rfl, ?_⟩
  rw [hN]
  exact ifB_false (by simp) (b28.trans (b9.mono z28))
end

end Go.Proofs
