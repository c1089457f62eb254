/-
  The document's grammar: forms, letters, kinds, what fits: the same plain answers.
-/
import Derived.Test.YtpeonjpjphhenaaL03r
import Derived.Test.Ytpeonjpjphhenaa03h
namespace Go.Proofs
open Go.Gk Go.RowKit Go.Gm

theorem form_spec {f : Fm} {w : World} {R : Value → World → Prop} (hR : ∀ w', Below w.heap.size w w' → R (fmA f) w') :
    callR Try.prog 100 #[.int .u16 f.1, .string f.2.1, .bool f.2.2.1, .bool f.2.2.2.1, .string f.2.2.2.2.1, .string f.2.2.2.2.2.1, .int .i64 f.2.2.2.2.2.2.1, .int .u8 f.2.2.2.2.2.2.2.1] w R := by
  refine callR.of (intaglioref03_form_calls _ _ _ _ _ _ _ _ R w ?_) fun _ _ h => h
  refine box8 rfl fun w1 hB b1 z1 => ?_
  have hB : Blk w1 w.heap.size 133 (fmV f) := hB
  exact Fm.load hB (hR w1 b1)
/-- What is answered for a row of the document's table. -/
def refB (op : Int) (f : Fl) (R : Value → World → Prop) (w w1 : World) : Prop :=
  callR Try.prog 100 #[.int .u16 op, .string (bs f.1), .bool f.2.1, .bool f.2.2.1, .string (bs f.2.2.2.1), .string (bs f.2.2.2.2.1), .int .i64 (f.2.2.2.2.2.1 : Int), .int .u8 (f.2.2.2.2.2.2 : Int)] w1 fun v1 w2 =>
  ∃ x2 : Fm, v1 = fmA x2 ∧ stC (blk w.heap.size) 0 (fmV x2) w2 fun w10 =>
    ldI w10 ((blk w.heap.size).add 0) .u16 fun x1 => ldStr w10 ((blk w.heap.size).add 1) fun x2 => ldB w10 ((blk w.heap.size).add 2) fun x3 => ldB w10 ((blk w.heap.size).add 3) fun x4 => ldStr w10 ((blk w.heap.size).add 4) fun x5 => ldStr w10 ((blk w.heap.size).add 5) fun x6 =>
      ldI w10 ((blk w.heap.size).add 6) .i64 fun x7 => ldI w10 ((blk w.heap.size).add 7) .u8 fun x8 =>
      R (.tuple #[(.agg #[(.int .u16 x1), (.string x2), (.bool x3), (.bool x4), (.string x5), (.string x6), (.int .i64 x7), (.int .u8 x8)]), (.bool true)]) w10
def refD (R : Value → World → Prop) (w w1 : World) : Prop :=
  stC (blk w.heap.size) 0 (fmV (0, bs [], false, false, bs [], bs [], 0, 0, ())) w1 fun w10 =>
    ldI w10 ((blk w.heap.size).add 0) .u16 fun x1 => ldStr w10 ((blk w.heap.size).add 1) fun x2 => ldB w10 ((blk w.heap.size).add 2) fun x3 => ldB w10 ((blk w.heap.size).add 3) fun x4 => ldStr w10 ((blk w.heap.size).add 4) fun x5 => ldStr w10 ((blk w.heap.size).add 5) fun x6 =>
      ldI w10 ((blk w.heap.size).add 6) .i64 fun x7 => ldI w10 ((blk w.heap.size).add 7) .u8 fun x8 =>
      R (.tuple #[(.agg #[(.int .u16 x1), (.string x2), (.bool x3), (.bool x4), (.string x5), (.string x6), (.int .i64 x7), (.int .u8 x8)]), (.bool false)]) w10
set_option maxRecDepth 100000 in
theorem refOf_E (op : Int) (R : Value → World → Prop) (w : World) : L_intaglioref03_Of op R w =
    Nw (w.alloc (.cells #[(.int .u16 (0 : Int)), (.string (ByteArray.mk #[])), (.bool false), (.bool false), (.string (ByteArray.mk #[])), (.string (ByteArray.mk #[])), (.int .i64 (0 : Int)), (.int .u8 (0 : Int))] 133)) fun w1 =>
      chain tabR op (fun f => refB op f R w w1) (refD R w w1) := by kernel_rfl
theorem rOf_spec {op : Int} {w : World} {R : Value → World → Prop} (hR : ∀ w', Below w.heap.size w w' → R (.tuple #[fmA (fmO op (frm op)), .bool (frm op).isSome]) w') :
    callR Try.prog 75 #[.int .u16 op] w R := by
  refine callR.of (intaglioref03_Of_calls op R w ?_) fun _ _ h => h
  rw [refOf_E]
  refine lay_of fun w1 hA b1 z1 => ?_
  have hA : Blk w1 w.heap.size 133 (fmV (fmO op none)) := hA
  refine chain_of (fun f hf => ?_) (fun hf => ?_)
  · have hf : frm op = some f := hf
    rw [hf] at hR
    unfold refB
    refine form_spec (f := fmO op (some f)) fun w2 b2 => ⟨fmO op (some f), rfl, ?_⟩
    refine stC_all (hA.below b2) rfl fun w3 h1 h2 => ?_
    exact Fm.load h1 (hR w3 (h2.below (b1.on b2) (Nat.le_refl _)))
  · have hf : frm op = none := hf
    rw [hf] at hR
    unfold refD
    refine stC_all hA rfl fun w3 h1 h2 => ?_
    exact Fm.load (f := fmO op none) h1 (hR w3 (h2.below b1 (Nat.le_refl _)))

/-! ### Names and kinds -/
abbrev Nm := Int × Int × Bs
abbrev nmV (x : Nm) : List Value := [.int .u8 x.1, .int .u32 x.2.1, .string (bs x.2.2)]
theorem nmV_len (x : Nm) : (nmV x).length = 3 := rfl
theorem eNm : ElemT Try.prog 204 207 3 24 := ⟨by kernel_rfl, Try.t207, .agg #[.int .u8 0, .int .u32 0, .string (ByteArray.mk #[])], by kernel_rfl, rfl, rfl, rfl, rfl⟩
def appAll : List Nm → Sl → World → (Sl → World → Prop) → Prop
  | [], r, w, K => K r w
  | p :: l, r, w, K => Nw (w.alloc (.cells #[(.int .u8 p.1), (.int .u32 p.2.1), (.string (bs p.2.2))] 207)) fun w1 =>
    appendS Try.prog 204 (.slice r.a r.l r.c) (.slice (some (blk w.heap.size)) 1 1) w1 fun r' w2 => appAll l r' w2 K
theorem appAll_of {w0 : World} {K : Sl → World → Prop} : ∀ (l : List Nm) {r : Sl} {w : World} {xs : List Value}, Own w 207 3 r xs → Below w0.heap.size w0 w → Fresh w0.heap.size r → r.l + l.length ≤ 1000 →
    (∀ r' w', Own w' 207 3 r' (xs ++ flat nmV l) → Below w0.heap.size w0 w' → K r' w') → appAll l r w K
  | [], r, w, xs, hO, hb, hF, hl, hK => hK r w (by simpa [flat] using hO) hb
  | p :: l, r, w, xs, hO, hb, hF, hl, hK => by
    simp only [List.length_cons] at hl
    refine lay_of fun w1 hB b1 z1 => ?_
    refine append_own eNm (hO.below b1) (news := nmV p) rfl (fun j u hj => hB.cell hj) ?_ (by omega) (by omega) fun r' w2 hO' hl' hg => ?_
    · intro u hu
      simp only [nmV, List.mem_cons, List.not_mem_nil, or_false] at hu
      rcases hu with rfl | rfl | rfl <;> rfl
    · rcases hg with ⟨h1, h2, h3⟩ | ⟨b, hb', hab, hg⟩
      · rw [h3] at hl'
        omega
      · have hBb : w0.heap.size ≤ b := by
          rcases hab with h | h
          · have := hF _ h
            exact this
          · have := hb.size
            omega
        refine appAll_of l hO' ((hb.on b1).trans (below_grown hg hBb (by have := hb.size; omega))) ?_ (by omega) fun r2 w3 h4 h5 => hK r2 w3 ?_ h5
        · intro a ha
          rw [hb'] at ha
          cases ha
          exact hBb
        · have : xs ++ flat nmV (p :: l) = (xs ++ nmV p) ++ flat nmV l := by simp [flat]
          rw [this]
          exact h4
set_option maxRecDepth 100000 in
theorem Names_E (R : Value → World → Prop) (w : World) : L_intaglioref03_Names R w = appAll tabM ⟨none, 0, 0⟩ w fun r w' => R (.slice r.a r.l r.c) w' := by kernel_rfl
theorem Names_spec {w : World} {R : Value → World → Prop} (hR : ∀ s w', IsC 3 nmV w' s tabM → Below w.heap.size w w' → R (.slice s.a s.l s.c) w') : callR Try.prog 144 #[] w R := by
  refine callR.of (intaglioref03_Names_calls R w ?_) fun _ _ h => h
  rw [Names_E]
  refine appAll_of tabM (Own.nil _ _ _) (Below.refl _ _) (fun a ha => by cases ha) (by decide +kernel) fun r w' h1 h2 => hR r w' ?_ h2
  rw [List.nil_append] at h1
  exact Own.isC nmV_len (by omega) h1
theorem kind_four {c : Int} : (Gm.look tabN c).isSome = true ↔ ∃ p ∈ tabM, p.1 = c := by
  constructor
  · intro h
    obtain ⟨s, hs⟩ := Option.isSome_iff_exists.1 h
    have := List.all_eq_true.1 names_back _ (look_mem hs)
    obtain ⟨q, hq, e⟩ := List.any_eq_true.1 this
    exact ⟨q, hq, of_decide_eq_true e⟩
  · rintro ⟨p, hp, rfl⟩
    exact List.all_eq_true.1 names_there _ hp
theorem rKind_spec {c : Int} {w : World} {R : Value → World → Prop} (hR : ∀ w', Below w.heap.size w w' → R (.int .u8 (kindP c)) w') : callR Try.prog 120 #[.int .u8 c] w R := by
  refine callR.of (intaglioref03_Kind_calls c R w ?_) fun _ _ h => h
  unfold kindP at hR
  refine ifB_beq (fun e => by rw [if_pos e] at hR; exact hR w (Below.refl _ _)) (fun e => ?_)
  rw [if_neg e] at hR
  refine ifB_beq (fun e => by rw [if_pos e] at hR; exact hR w (Below.refl _ _)) (fun e => ?_)
  rw [if_neg e] at hR
  refine ifB_beq (fun e => by rw [if_pos e] at hR; exact hR w (Below.refl _ _)) (fun e => ?_)
  rw [if_neg e] at hR
  refine Names_spec fun s w1 hs b1 => ⟨s, rfl, ?_⟩
  have hlen := hs.len
  have hmax := hs.bound
  refine LoopW.count s.l (by omega) (fun k w' => w' = w1 ∧ ∀ j (hj : j < tabM.length), j < k → tabM[j].1 ≠ c) ⟨rfl, fun j hj h => by omega⟩ ?_
  rintro k _ hk ⟨rfl, hj⟩ next hnext
  refine ifB_dec (fun h => ?_) (fun h => ?_)
  · have hlt : k < tabM.length := by dsimp only at h; omega
    obtain ⟨a, ha⟩ := hs.base hlt
    refine ⟨⟨by omega, by omega⟩, derefP_some ha ⟨_, hs.cell a ha k hlt 0 (by omega), ?_⟩⟩
    refine ifB_beq (fun e => ?_) (fun e => ?_)
    · have := hR _ b1
      rwa [if_pos (kind_four.2 ⟨_, List.getElem_mem hlt, e⟩)] at this
    · refine hnext _ (by omega) ⟨rfl, fun j hj' hjk => ?_⟩
      by_cases e' : j = k
      · subst e'; exact e
      · exact hj j hj' (by omega)
  · have hk : k = tabM.length := by dsimp only at h; omega
    have := hR _ b1
    rwa [if_neg (fun h => by
      obtain ⟨p, hp, e⟩ := kind_four.1 h
      obtain ⟨i, hi, e'⟩ := List.mem_iff_getElem.1 hp
      exact hj i hi (by omega) (by rw [e']; exact e))] at this

/-! ### Letters -/
theorem letP_none (k : Nat) : letP fl0 k = 0 := by
  simp [letP, fl0, Fl.fixed, Fl.rest]
theorem rLetter_spec {op : Int} {i : Nat} {w : World} {R : Value → World → Prop} (hi : i ≤ 9223372036854775807) (hR : ∀ w', Below w.heap.size w w' → R (.int .u8 (letP (flOf op) i : Int)) w') :
    callR Try.prog 98 #[.int .u16 op, .int .i64 (i : Int)] w R := by
  refine callR.of (intaglioref03_Letter_calls op i R w ?_) fun _ _ h => h
  have hg := lOk (flOf_ok op)
  have hfm := fmIs op
  refine rOf_spec fun w1 b1 => ⟨fmO op (frm op), (frm op).isSome, rfl, ?_⟩
  have hnone : (!(frm op).isSome) = true → flOf op = fl0 := by
    intro h
    unfold flOf
    cases e : frm op with
    | none => rfl
    | some f => rw [e] at h; cases h
  generalize (frm op).isSome = is at hnone
  generalize flOf op = g at hg hfm hnone hR
  generalize fmO op (frm op) = fm at hfm
  refine box8 rfl fun w2 hB b2 z2 => ?_
  have hB : Blk w2 w1.heap.size 133 (fmV fm) := hB
  have hb := b1.on b2
  have h1 := hg.fl
  have h2 := hg.rl
  have h3 := hg.ml
  refine JoinW.cut (fun _ w' => w' = w2) ?_ ?_
  · refine ifB_bool (fun hn => ?_) (fun hn => ifB_dec (fun h => absurd h (by omega)) (fun _ => rfl))
    have := hR w2 hb
    rwa [hnone hn, letP_none] at this
  · rintro _ w' rfl
    refine hB.rT (n := 4) rfl ?_
    rw [hfm.fixed, bs_size]
    refine ifB_dec (fun hlt => ?_) (fun hge => ?_)
    · have hlt' : i < g.fixed.length := by omega
      refine hB.rT (n := 4) rfl ?_
      rw [hfm.fixed, bs_size, bs_byte]
      refine ⟨⟨by omega, by omega⟩, ?_⟩
      have := hR w' hb
      rwa [letP, if_pos hlt'] at this
    · have hge' : ¬ i < g.fixed.length := by omega
      refine hB.rT (n := 5) rfl ?_
      rw [hfm.rest, bs_size]
      refine ifB_beq (fun e => ?_) (fun e => ?_)
      · have := hR w' hb
        rwa [letP, if_neg hge', if_pos (by omega)] at this
      · have hne : ¬ g.rest.length = 0 := by omega
        refine hB.rT (n := 4) rfl ?_
        rw [hfm.fixed, bs_size, wrap64_in (by omega) (by omega)]
        have hk : (i : Int) - (g.fixed.length : Int) = ((i - g.fixed.length : Nat) : Int) := by omega
        rw [hk]
        refine JoinW.cut (fun _ w2 => w2 = w'.drew ∧ ¬ (0 < g.most ∧ g.most * g.rest.length ≤ i - g.fixed.length)) ?_ ?_
        · refine hB.drew.rI (n := 6) rfl ?_
          rw [hfm.most]
          refine ifB_dec (fun hm => ?_) (fun hm => ⟨rfl, by omega⟩)
          refine hB.drew.rT (n := 5) rfl ?_
          rw [hfm.rest, bs_size]
          refine ifB_dec (fun h => absurd h (by omega)) (fun _ => ?_)
          refine hB.drew.rI (n := 6) rfl ?_
          rw [hfm.most]
          have hdv : (i - g.fixed.length) / g.rest.length ≤ i - g.fixed.length := Nat.div_le_self _ _
          have hiff : g.most ≤ (i - g.fixed.length) / g.rest.length ↔ g.most * g.rest.length ≤ i - g.fixed.length := Nat.le_div_iff_mul_le (by omega)
          rw [show Int.tdiv ((i - g.fixed.length : Nat) : Int) (g.rest.length : Int) = (((i - g.fixed.length) / g.rest.length : Nat) : Int) from (Int.ofNat_tdiv _ _).symm]
          generalize (i - g.fixed.length) / g.rest.length = q at hdv hiff
          rw [wrap64_in (by omega) (by omega)]
          refine ifB_dec (fun hc => ?_) (fun hc => ⟨rfl, fun h => ?_⟩)
          · have := hR w'.drew hb.drew
            rwa [letP, if_neg hge', if_neg hne, if_pos ⟨by omega, hiff.1 (by omega)⟩] at this
          · have := hiff.2 h.2
            omega
        · rintro _ w2 ⟨rfl, hno⟩
          refine hB.drew.drew.rT (n := 5) rfl (hB.drew.drew.rT (n := 5) rfl ?_)
          rw [hfm.rest, bs_size]
          refine ifB_dec (fun h => absurd h (by omega)) (fun _ => ?_)
          have hlt : (i - g.fixed.length) % g.rest.length < g.rest.length := Nat.mod_lt _ (by omega)
          rw [show Int.tmod ((i - g.fixed.length : Nat) : Int) (g.rest.length : Int) = (((i - g.fixed.length) % g.rest.length : Nat) : Int) from (Int.ofNat_tmod _ _).symm, bs_byte]
          refine ⟨⟨by omega, by omega⟩, ?_⟩
          have := hR w'.drew.drew hb.drew.drew
          rwa [letP, if_neg hge', if_neg hne, if_neg hno] at this

/-! ### What fits -/
end Go.Proofs
