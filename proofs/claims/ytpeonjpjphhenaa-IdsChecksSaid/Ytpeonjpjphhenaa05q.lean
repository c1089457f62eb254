/-
  layout, plain: what the ways through a function come to; the functions as the document folds them; the places of the parts.
-/
import Derived.Test.Ytpeonjpjphhenaa05p
namespace Go.Proofs
open Go.Gk Go.RowKit Go.Gm

/-! ### Kinds -/
theorem kd_part {p : PI} (h : kdP p ≠ 9) : partP p = 8 := by
  unfold kdP at h
  by_cases e : partP p = 8
  · exact e
  · rw [if_pos e] at h; exact absurd rfl h
theorem kd_nine {p : PI} (h : kdP p = 9) : partP p ≠ 8 := by
  intro e
  unfold kdP at h
  rw [if_neg (fun g => g e)] at h
  repeat' split at h
  all_goals omega
theorem kd_op {p : PI} (h8 : partP p = 8) : kdP p = (if p.1 = 54 then 1 else if p.1 = 55 then 2 else if p.1 = 56 then 8 else if p.1 = 248 then 3 else if p.1 = 245 then 4
  else if p.1 = 59 then 5 else if p.1 = 246 then 6 else if p.1 = 247 then 6 else if endsP p.1 = true then 7 else 0) := by
  unfold kdP
  rw [if_neg (fun g => g h8)]
theorem ends_iff {op : Int} : endsP op = true ↔ 249 ≤ op ∧ op ≤ 255 := by unfold endsP; exact decide_eq_true_iff
theorem ends_false {op : Int} : endsP op = false ↔ ¬ (249 ≤ op ∧ op ≤ 255) := by unfold endsP; exact decide_eq_false_iff_not
/-- The kinds by operations. -/
theorem kd_ops {p : PI} (h8 : partP p = 8) : (kdP p = 1 ↔ p.1 = 54) ∧ (kdP p = 2 ↔ p.1 = 55) ∧ (kdP p = 8 ↔ p.1 = 56) ∧ (kdP p = 3 ↔ p.1 = 248) ∧ (kdP p = 4 ↔ p.1 = 245) ∧ (kdP p = 5 ↔ p.1 = 59) ∧
    (kdP p = 6 ↔ p.1 = 246 ∨ p.1 = 247) ∧ (kdP p = 7 ↔ 249 ≤ p.1 ∧ p.1 ≤ 255) ∧ kdP p ≠ 9 := by
  rw [kd_op h8]
  simp only [ends_iff]
  repeat' split
  all_goals omega
def mayI (mg en : Int) : Bool := if en = 251 then mg == 247 else if en = 249 then mg == 246 else if en = 250 then true else false
structure BlkOp (ah : Int) : Prop where
  ne : ah ≠ 0 ∧ ah ≠ 54 ∧ ah ≠ 55 ∧ ah ≠ 56 ∧ ah ≠ 246 ∧ ah ≠ 247
  en : ¬ (249 ≤ ah ∧ ah ≤ 255)
theorem opMay_blk {op ah : Int} {F : Bool} (h : BlkOp ah) : opMay op ah F = (if op = 54 ∨ op = 55 ∨ op = 248 ∨ op = 56 then false else if op = 245 then (ah == 248 || ah == 245) && !F else if op = 59 then (ah == 248 || ah == 59) && F else true) := by
  obtain ⟨⟨h0, h1, h2, h3, h4, h5⟩, h6⟩ := h
  have h6' := ends_false.2 h6
  have no : ∀ {c : Int}, ah ≠ c → (ah == c) = false := fun h => beq_eq_false_iff_ne.2 h
  unfold opMay
  by_cases e1 : op = 54
  · rw [if_pos e1, if_pos (.inl e1), no h0, no h3]; rfl
  rw [if_neg e1]
  by_cases e2 : op = 55
  · rw [if_pos e2, if_pos (.inr (.inl e2)), no h1, no h2]; rfl
  rw [if_neg e2]
  by_cases e3 : op = 248
  · rw [if_pos e3, if_pos (.inr (.inr (.inl e3))), no h1, no h2, h6']; rfl
  rw [if_neg e3]
  by_cases e4 : op = 56
  · rw [if_pos e4, if_pos (.inr (.inr (.inr e4))), h6']
  rw [if_neg e4, if_neg (by rw [h6']; rintro (e | e | e | e | e) <;> first | exact absurd e (by assumption) | cases e), if_neg (c := op = 54 ∨ op = 55 ∨ op = 248 ∨ op = 56) (by omega), if_neg h4, if_neg h5]
theorem opMay_merge {op ah : Int} {F : Bool} (h : ah = 246 ∨ ah = 247) : opMay op ah F = mayI ah op := by
  have he : endsP ah = false := ends_false.2 (by omega)
  have no : ∀ {c : Int}, ah ≠ c → (ah == c) = false := fun h => beq_eq_false_iff_ne.2 h
  unfold opMay mayI
  by_cases e1 : op = 54
  · rw [if_pos e1, no (by omega), no (by omega)]; subst e1; rfl
  rw [if_neg e1]
  by_cases e2 : op = 55
  · rw [if_pos e2, no (by omega), no (by omega)]; subst e2; rfl
  rw [if_neg e2]
  by_cases e3 : op = 248
  · rw [if_pos e3, no (by omega), no (by omega), he]; subst e3; rfl
  rw [if_neg e3]
  by_cases e4 : op = 56
  · rw [if_pos e4, he]; subst e4; rfl
  rw [if_neg e4, if_neg (by rw [he]; rintro (e | e | e | e | e) <;> first | omega | cases e)]
  by_cases e5 : op = 245
  · rw [if_pos e5, no (by omega), no (by omega)]; subst e5; rfl
  rw [if_neg e5]
  by_cases e6 : op = 59
  · rw [if_pos e6, no (by omega), no (by omega)]; subst e6; rfl
  rw [if_neg e6]
  rcases h with h | h
  · rw [if_pos h]
    by_cases e7 : op = 249
    · subst e7; subst h; rfl
    by_cases e8 : op = 250
    · subst e8; subst h; rfl
    rw [if_neg e7, if_neg e8, beq_eq_false_iff_ne.2 e7, beq_eq_false_iff_ne.2 e8]
    by_cases e9 : op = 251
    · rw [if_pos e9, h]; rfl
    · rw [if_neg e9]; rfl
  · rw [if_neg (by omega), if_pos h]
    by_cases e7 : op = 251
    · subst e7; subst h; rfl
    by_cases e8 : op = 250
    · subst e8; subst h; rfl
    rw [if_neg e7, if_neg e8, beq_eq_false_iff_ne.2 e7, beq_eq_false_iff_ne.2 e8]
    by_cases e9 : op = 249
    · rw [if_pos e9, h]; rfl
    · rw [if_neg e9]; rfl

/-! ### Within a function -/
variable {pl : List PI} {n : Nat} {ah : Int} {F : Bool}
theorem first_step (hn : 0 < n) (h : (ix pl n).1 ≠ 248) : firstP pl n = firstP pl (n - 1) := by
  obtain ⟨m, rfl⟩ : ∃ m, n = m + 1 := ⟨n - 1, by omega⟩
  exact if_neg h
theorem InvF.param (h : InvF pl n ah) (ha : ah = 54 ∨ ah = 55) (hn : n < pl.length) (hk : kdP (ix pl n) = 2) : InvF pl (n + 1) 55 := by
  have h8 := kd_part (p := ix pl n) (by omega)
  have hop := ((kd_ops h8).2.1).1 hk
  have := h.step hn h8 (by rw [hop]; rcases ha with e | e <;> rw [e] <;> rfl)
  rwa [hop] at this
theorem InvF.noblock (h : InvF pl n ah) (ha : ah = 54 ∨ ah = 55) (h2 : n < pl.length → kdP (ix pl n) ≠ 2) (h3 : n < pl.length → kdP (ix pl n) ≠ 3) : StopL pl n := by
  refine h.bad (by omega) fun hn h8 => ?_
  have hk := kd_ops h8
  have h2 := h2 hn
  have h3 := h3 hn
  have e2 : (ix pl n).1 ≠ 55 := fun e => h2 (hk.2.1.2 e)
  have e3 : (ix pl n).1 ≠ 248 := fun e => h3 (hk.2.2.2.1.2 e)
  unfold opMay
  by_cases e1 : (ix pl n).1 = 54
  · rw [if_pos e1]; rcases ha with e | e <;> rw [e] <;> rfl
  rw [if_neg e1, if_neg e2, if_neg e3]
  by_cases e4 : (ix pl n).1 = 56
  · rw [if_pos e4]; rcases ha with e | e <;> rw [e] <;> rfl
  rw [if_neg e4, if_pos (by omega)]
theorem InvF.noend (h : InvF pl n ah) (ha : 249 ≤ ah ∧ ah ≤ 255) (h3 : n < pl.length → kdP (ix pl n) ≠ 3) (h8' : n < pl.length → kdP (ix pl n) ≠ 8) : StopL pl n := by
  refine h.bad (by omega) fun hn h8 => ?_
  have hk := kd_ops h8
  have h3 := h3 hn
  have h8' := h8' hn
  have e3 : (ix pl n).1 ≠ 248 := fun e => h3 (hk.2.2.2.1.2 e)
  have e4 : (ix pl n).1 ≠ 56 := fun e => h8' (hk.2.2.1.2 e)
  have no : ∀ {c : Int}, ah ≠ c → (ah == c) = false := fun h => beq_eq_false_iff_ne.2 h
  unfold opMay
  by_cases e1 : (ix pl n).1 = 54
  · rw [if_pos e1, no (by omega), no (by omega)]; rfl
  rw [if_neg e1]
  by_cases e2 : (ix pl n).1 = 55
  · rw [if_pos e2, no (by omega), no (by omega)]; rfl
  rw [if_neg e2, if_neg e3, if_neg e4, if_pos (.inr (.inr (.inr (.inr (ends_iff.2 ha)))))]
theorem InvF.shut (h : InvF pl n ah) (ha : 249 ≤ ah ∧ ah ≤ 255) (hn : n < pl.length) (hk : kdP (ix pl n) = 8) : InvF pl (n + 1) 56 := by
  have h8 := kd_part (p := ix pl n) (by omega)
  have hop := ((kd_ops h8).2.2.1).1 hk
  have := h.step hn h8 (by rw [hop]; exact ends_iff.2 ha)
  rwa [hop] at this
/-- Within a block, whose being the first says F. -/
structure InvB (pl : List PI) (n : Nat) (F : Bool) (ah : Int) : Prop where
  f : InvF pl n ah
  fi : firstP pl (n - 1) = F
  op : BlkOp ah
theorem InvF.label (h : InvF pl n ah) (ha : (ah = 54 ∨ ah = 55) ∨ (249 ≤ ah ∧ ah ≤ 255)) (hn : n < pl.length) (hk : kdP (ix pl n) = 3) : InvB pl (n + 1) (ah == 54 || ah == 55) 248 := by
  have h8 := kd_part (p := ix pl n) (by omega)
  have hop := ((kd_ops h8).2.2.2.1).1 hk
  have hs := h.step hn h8 (by
    rw [hop]
    rcases ha with (e | e) | e
    · rw [e]; rfl
    · rw [e]; rfl
    · unfold opMay
      rw [if_neg (by omega), if_neg (by omega), if_pos rfl, ends_iff.2 e, Bool.or_true])
  rw [hop] at hs
  refine ⟨hs, ?_, ⟨⟨by decide, by decide, by decide, by decide, by decide, by decide⟩, by decide⟩⟩
  rw [Nat.add_sub_cancel]
  obtain ⟨m, rfl⟩ : ∃ m, n = m + 1 := ⟨n - 1, by have := h.pos; omega⟩
  have : firstP pl (m + 1) = ((ix pl m).1 == 54 || (ix pl m).1 == 55) := if_pos hop
  rw [this]
  have hah : (ix pl m).1 = ah := h.op
  rw [hah]
theorem InvB.go (h : InvB pl n F ah) (hn : n < pl.length) (h8 : partP (ix pl n) = 8) (hm : opMay (ix pl n).1 ah F = true) : InvF pl (n + 1) (ix pl n).1 := h.f.step hn h8 (by rw [h.fi]; exact hm)
theorem InvB.next (h : InvB pl n F ah) (hn : n < pl.length) (h8 : partP (ix pl n) = 8) (hm : opMay (ix pl n).1 ah F = true) (hop : BlkOp (ix pl n).1) (h248 : (ix pl n).1 ≠ 248) : InvB pl (n + 1) F (ix pl n).1 :=
  ⟨h.go hn h8 hm, by rw [Nat.add_sub_cancel, first_step h.f.pos h248]; exact h.fi, hop⟩
theorem InvB.local (h : InvB pl n true ah) (ha : ah = 248 ∨ ah = 59) (hn : n < pl.length) (hk : kdP (ix pl n) = 5) : InvB pl (n + 1) true 59 := by
  have h8 := kd_part (p := ix pl n) (by omega)
  have hop := ((kd_ops h8).2.2.2.2.2.1).1 hk
  have := h.next hn h8 (by rw [opMay_blk h.op, hop]; rcases ha with e | e <;> rw [e] <;> rfl) (by rw [hop]; exact ⟨⟨by decide, by decide, by decide, by decide, by decide, by decide⟩, by decide⟩) (by omega)
  rwa [hop] at this
theorem InvB.phi (h : InvB pl n false ah) (ha : ah = 248 ∨ ah = 245) (hn : n < pl.length) (hk : kdP (ix pl n) = 4) : InvB pl (n + 1) false 245 := by
  have h8 := kd_part (p := ix pl n) (by omega)
  have hop := ((kd_ops h8).2.2.2.2.1).1 hk
  have := h.next hn h8 (by rw [opMay_blk h.op, hop]; rcases ha with e | e <;> rw [e] <;> rfl) (by rw [hop]; exact ⟨⟨by decide, by decide, by decide, by decide, by decide, by decide⟩, by decide⟩) (by omega)
  rwa [hop] at this
theorem op_ne {p : PI} (h8 : partP p = 8) : p.1 ≠ 0 := by
  intro e
  unfold partP at h8
  have hv : isVar p = false := by unfold isVar; rw [e]; rfl
  rw [hv, e] at h8
  exact absurd h8 (by decide +kernel)
theorem InvB.plain (h : InvB pl n F ah) (hn : n < pl.length) (hk : kdP (ix pl n) = 0) : InvB pl (n + 1) F (ix pl n).1 ∧ (ix pl n).1 ≠ 248 ∧ (ix pl n).1 ≠ 245 ∧ (ix pl n).1 ≠ 59 := by
  have h8 := kd_part (p := ix pl n) (by omega)
  have hk' := kd_ops h8
  rw [hk] at hk'
  obtain ⟨k1, k2, k3, k4, k5, k6, k7, k8, _⟩ := hk'
  have h0 := op_ne h8
  refine ⟨h.next hn h8 ?_ ⟨by omega, by omega⟩ (by omega), by omega, by omega, by omega⟩
  rw [opMay_blk h.op, if_neg (by omega), if_neg (by omega), if_neg (by omega)]
theorem InvB.merge (h : InvB pl n F ah) (hn : n < pl.length) (hk : kdP (ix pl n) = 6) : InvF pl (n + 1) (ix pl n).1 ∧ ((ix pl n).1 = 246 ∨ (ix pl n).1 = 247) := by
  have h8 := kd_part (p := ix pl n) (by omega)
  have hop := ((kd_ops h8).2.2.2.2.2.2.1).1 hk
  refine ⟨h.go hn h8 ?_, hop⟩
  rw [opMay_blk h.op, if_neg (by omega), if_neg (by omega), if_neg (by omega)]
theorem InvB.ender (h : InvB pl n F ah) (hn : n < pl.length) (hk : kdP (ix pl n) = 7) : InvF pl (n + 1) (ix pl n).1 ∧ 249 ≤ (ix pl n).1 ∧ (ix pl n).1 ≤ 255 := by
  have h8 := kd_part (p := ix pl n) (by omega)
  have hop := ((kd_ops h8).2.2.2.2.2.2.2.1).1 hk
  refine ⟨h.go hn h8 ?_, hop⟩
  rw [opMay_blk h.op, if_neg (by omega), if_neg (by omega), if_neg (by omega)]
theorem InvF.mender (h : InvF pl n ah) (ha : ah = 246 ∨ ah = 247) (hn : n < pl.length) (hk : kdP (ix pl n) = 7) (hm : mayI ah (ix pl n).1 = true) : InvF pl (n + 1) (ix pl n).1 ∧ 249 ≤ (ix pl n).1 ∧ (ix pl n).1 ≤ 255 := by
  have h8 := kd_part (p := ix pl n) (by omega)
  have hop := ((kd_ops h8).2.2.2.2.2.2.2.1).1 hk
  exact ⟨h.step hn h8 (by rw [opMay_merge ha]; exact hm), hop⟩
theorem InvF.mbad (h : InvF pl n ah) (ha : ah = 246 ∨ ah = 247) (hb : n < pl.length → kdP (ix pl n) = 7 → mayI ah (ix pl n).1 = false) : StopL pl n := by
  refine h.bad (by omega) fun hn h8 => ?_
  rw [opMay_merge ha]
  by_cases hk : kdP (ix pl n) = 7
  · exact hb hn hk
  · have h7 := (kd_ops h8).2.2.2.2.2.2.2.1
    unfold mayI
    rw [if_neg (by omega), if_neg (by omega), if_neg (by omega)]
theorem InvB.bad (h : InvB pl n F ah) (h0 : n < pl.length → kdP (ix pl n) ≠ 0 ∧ kdP (ix pl n) ≠ 6 ∧ kdP (ix pl n) ≠ 7) (h4 : n < pl.length → kdP (ix pl n) = 4 → F = false → ah ≠ 248 ∧ ah ≠ 245)
    (h5 : n < pl.length → kdP (ix pl n) = 5 → F = true → ah ≠ 248 ∧ ah ≠ 59) : StopL pl n := by
  refine h.f.bad (by have := h.op.ne; omega) fun hn h8 => ?_
  obtain ⟨q0, q6, q7⟩ := h0 hn
  have h4 := h4 hn
  have h5 := h5 hn
  have no : ∀ {c : Int}, ah ≠ c → (ah == c) = false := fun h => beq_eq_false_iff_ne.2 h
  rw [h.fi, opMay_blk h.op]
  obtain ⟨k1, k2, k3, k4, k5, k6, k7, k8, k9⟩ := kd_ops h8
  by_cases e : (ix pl n).1 = 54 ∨ (ix pl n).1 = 55 ∨ (ix pl n).1 = 248 ∨ (ix pl n).1 = 56
  · rw [if_pos e]
  rw [if_neg e]
  by_cases e4 : (ix pl n).1 = 245
  · rw [if_pos e4]
    cases F
    · obtain ⟨g1, g2⟩ := h4 (k5.2 e4) rfl
      rw [no g1, no g2]; rfl
    · simp
  rw [if_neg e4]
  by_cases e5 : (ix pl n).1 = 59
  · rw [if_pos e5]
    cases F
    · simp
    · obtain ⟨g1, g2⟩ := h5 (k6.2 e5) rfl
      rw [no g1, no g2]; rfl
  exfalso
  refine q0 ?_
  rw [kd_op h8, if_neg (by omega), if_neg (by omega), if_neg (by omega), if_neg (by omega), if_neg e4, if_neg e5, if_neg (by omega), if_neg (by omega), if_neg (fun g => by have := ends_iff.1 g; omega)]

/-! ### The functions -/
structure FnL where
  id : Int
  at_ : Int
  en : Int
  ps : List Int
  bk : List (Int × Int × Int)
def modL {α : Type} (f : α → α) : List α → List α
  | [] => []
  | [x] => [f x]
  | x :: y :: r => x :: modL f (y :: r)
theorem modL_append {α : Type} (f : α → α) (x : α) : ∀ l : List α, modL f (l ++ [x]) = l ++ [f x]
  | [] => rfl
  | [y] => rfl
  | y :: z :: r => by
    have := modL_append f x (z :: r)
    simp only [List.cons_append, modL] at this ⊢
    rw [this]
def cutS (l : List FnL) (k : Nat) (p : PI) : List FnL :=
  if p.1 = 54 then l ++ [⟨p.2.2.1, k, 0, [], []⟩]
  else if p.1 = 55 then modL (fun f => { f with ps := f.ps ++ [(k : Int)] }) l
  else if p.1 = 56 then modL (fun f => { f with en := k }) l
  else if p.1 = 248 then modL (fun f => { f with bk := f.bk ++ [(p.2.2.1, (k : Int), 0)] }) l
  else if endsP p.1 = true then modL (fun f => { f with bk := modL (fun b => (b.1, b.2.1, (k : Int) + 1)) f.bk }) l
  else l
def cutF (pl : List PI) : Nat → List FnL
  | 0 => []
  | n + 1 => cutS (cutF pl n) n (ix pl n)
theorem parts8 : partO 54 = 8 ∧ partO 55 = 8 ∧ partO 56 = 8 ∧ partO 248 = 8 ∧ partO 249 = 8 ∧ partO 250 = 8 ∧ partO 251 = 8 ∧ partO 252 = 8 ∧ partO 253 = 8 ∧ partO 254 = 8 ∧ partO 255 = 8 := by decide +kernel
theorem cut_idle {p : PI} (h : partP p ≠ 8 ∨ kdP p = 0 ∨ kdP p = 4 ∨ kdP p = 5 ∨ kdP p = 6) (l : List FnL) (k : Nat) : cutS l k p = l := by
  have hno : ¬ (p.1 = 54 ∨ p.1 = 55 ∨ p.1 = 56 ∨ p.1 = 248 ∨ (249 ≤ p.1 ∧ p.1 ≤ 255)) := by
    intro hop
    have h8 : partP p = 8 := by
      unfold partP
      split
      · rfl
      · obtain ⟨q1, q2, q3, q4, q5, q6, q7, q8, q9, q10, q11⟩ := parts8
        have hc : p.1 = 54 ∨ p.1 = 55 ∨ p.1 = 56 ∨ p.1 = 248 ∨ p.1 = 249 ∨ p.1 = 250 ∨ p.1 = 251 ∨ p.1 = 252 ∨ p.1 = 253 ∨ p.1 = 254 ∨ p.1 = 255 := by omega
        rcases hc with e | e | e | e | e | e | e | e | e | e | e <;> rw [e] <;> assumption
    obtain ⟨k1, k2, k3, k4, k5, k6, k7, k8, k9⟩ := kd_ops h8
    rcases h with h | h | h | h | h
    · exact h h8
    all_goals omega
  unfold cutS
  rw [if_neg (by omega), if_neg (by omega), if_neg (by omega), if_neg (by omega), if_neg (fun e => hno (by have := ends_iff.1 e; omega))]

/-! ### The places of the parts -/
/-- ps has, by twos, the places of the parts below p, of the instructions below n. -/
def PartsTo (pl : List PI) (p n : Nat) (ps : List Int) : Prop :=
  ∀ q, q < p → 0 ≤ ps.getD (2 * q) 0 ∧ ps.getD (2 * q) 0 ≤ ps.getD (2 * q + 1) 0 ∧ ps.getD (2 * q + 1) 0 ≤ n ∧ ∀ i, i < n → ((ps.getD (2 * q) 0 ≤ (i : Int) ∧ (i : Int) < ps.getD (2 * q + 1) 0) ↔ partP (ix pl i) = q)
theorem getD_set2 {ps : List Int} {i j : Nat} {a b : Int} (hi : i + 1 < ps.length) : ((ps.set i a).set (i + 1) b).getD j 0 = if j = i then a else if j = i + 1 then b else ps.getD j 0 := by
  simp only [List.getD_eq_getElem?_getD]
  by_cases e : j = i + 1
  · subst e
    rw [List.getElem?_set_self (by simpa using hi), if_neg (by omega), if_pos rfl]
    rfl
  · rw [List.getElem?_set_ne (fun h => e h.symm)]
    by_cases e2 : j = i
    · subst e2
      rw [List.getElem?_set_self (by omega), if_pos rfl]
      rfl
    · rw [List.getElem?_set_ne (fun h => e2 h.symm), if_neg e2, if_neg e]
theorem PartsTo.step {p f n' : Nat} {ps : List Int} (h : PartsTo pl p f ps) (hps : ps.length = 20) (hp : p < 10) (hfn : f ≤ n') (hlow : ∀ k, k < f → partP (ix pl k) < p) (hown : ∀ k, f ≤ k → k < n' → partP (ix pl k) = p) :
    PartsTo pl (p + 1) n' ((ps.set (2 * p) f).set (2 * p + 1) n') := by
  intro q hq
  rw [getD_set2 (by omega), getD_set2 (by omega)]
  by_cases e : q = p
  · subst e
    rw [if_pos rfl, if_neg (by omega), if_pos rfl]
    refine ⟨by omega, by omega, by omega, fun i hi => ⟨fun hh => hown i (by omega) hi, fun hh => ⟨?_, by omega⟩⟩⟩
    rcases Nat.lt_or_ge i f with g | g
    · have := hlow i g; omega
    · omega
  · rw [if_neg (by omega), if_neg (by omega), if_neg (by omega), if_neg (by omega)]
    obtain ⟨h1, h2, h3, h4⟩ := h q (by omega)
    refine ⟨h1, h2, by omega, fun i hi => ?_⟩
    rcases Nat.lt_or_ge i f with g | g
    · exact h4 i g
    · have := hown i g hi
      constructor
      · intro hh; omega
      · intro hh; omega
theorem PartsTo.more {p n n' : Nat} {ps : List Int} (h : PartsTo pl p n ps) (hn : n ≤ n') (hown : ∀ k, n ≤ k → k < n' → p ≤ partP (ix pl k)) : PartsTo pl p n' ps := by
  intro q hq
  obtain ⟨h1, h2, h3, h4⟩ := h q hq
  refine ⟨h1, h2, by omega, fun i hi => ?_⟩
  rcases Nat.lt_or_ge i n with g | g
  · exact h4 i g
  · have := hown i g hi
    constructor
    · intro hh; omega
    · intro hh; omega
theorem good_mono {n : Nat} (h : GoodL pl n) {i j : Nat} (hij : i < j) (hj : j < n) : partP (ix pl i) ≤ partP (ix pl j) := by
  rcases Nat.lt_or_ge (partP (ix pl j)) (partP (ix pl i)) with g | g
  · have := h j hj
    rw [may_over hij g] at this
    cases this
  · exact g
theorem PartsTo.all {n : Nat} {ps : List Int} (h : PartsTo pl 8 n ps) (hps : ps.length = 20) (hn : n ≤ pl.length) (hlow : ∀ k, k < n → partP (ix pl k) < 8) (hg : GoodL pl pl.length) (h8 : n < pl.length → partP (ix pl n) = 8) :
    PartsTo pl 10 pl.length ((((ps.set 16 n).set 17 pl.length).set 18 pl.length).set 19 pl.length) := by
  have hown : ∀ k, n ≤ k → k < pl.length → partP (ix pl k) = 8 := by
    intro k h1 h2
    by_cases e : k = n
    · subst e; exact h8 h2
    · have := good_mono hg (i := n) (j := k) (by omega) h2
      rw [h8 (by omega)] at this
      have := partP_le (ix pl k)
      omega
  have s8 := h.step (n' := pl.length) hps (by omega) hn hlow hown
  have := s8.step (n' := pl.length) (by simpa using hps) (by omega) (Nat.le_refl _) (fun k hk => by have := partP_le (ix pl k); omega) (fun k h1 h2 => by omega)
  exact this
/-! ### Rows -/
theorem rows_ind {P : Nat → Int → Prop} {Q : Int → Prop} {k : Int} (step : ∀ m a, P m a → Q a → m < pl.length → kdP (ix pl m) = k → ∃ a', P (m + 1) a' ∧ Q a') {n' : Nat} (hle : n ≤ n') (hn' : n' ≤ pl.length)
    (hk : ∀ j, n ≤ j → j < n' → kdP (ix pl j) = k) {a : Int} (hP : P n a) (hQ : Q a) : ∃ a', P n' a' ∧ Q a' := by
  obtain ⟨d, rfl⟩ : ∃ d, n' = n + d := ⟨n' - n, by omega⟩
  clear hle
  induction d with
  | zero => exact ⟨a, hP, hQ⟩
  | succ d ih =>
    obtain ⟨a', h1, h2⟩ := ih (by omega) (fun j g1 g2 => hk j g1 (by omega))
    exact step (n + d) a' h1 h2 (by omega) (hk (n + d) (by omega) (by omega))
theorem InvF.params (h : InvF pl n ah) (ha : ah = 54 ∨ ah = 55) {n' : Nat} (hle : n ≤ n') (hn' : n' ≤ pl.length) (hk : ∀ j, n ≤ j → j < n' → kdP (ix pl j) = 2) : ∃ ah', InvF pl n' ah' ∧ (ah' = 54 ∨ ah' = 55) :=
  rows_ind (P := fun m a => InvF pl m a) (Q := fun a => a = 54 ∨ a = 55) (fun m a h1 h2 h3 h4 => ⟨55, h1.param h2 h3 h4, .inr rfl⟩) hle hn' hk h ha
theorem InvB.locals (h : InvB pl n true ah) (ha : ah = 248 ∨ ah = 59) {n' : Nat} (hle : n ≤ n') (hn' : n' ≤ pl.length) (hk : ∀ j, n ≤ j → j < n' → kdP (ix pl j) = 5) : ∃ ah', InvB pl n' true ah' ∧ (ah' = 248 ∨ ah' = 59) :=
  rows_ind (P := fun m a => InvB pl m true a) (Q := fun a => a = 248 ∨ a = 59) (fun m a h1 h2 h3 h4 => ⟨59, h1.local h2 h3 h4, .inr rfl⟩) hle hn' hk h ha
theorem InvB.phis (h : InvB pl n false ah) (ha : ah = 248 ∨ ah = 245) {n' : Nat} (hle : n ≤ n') (hn' : n' ≤ pl.length) (hk : ∀ j, n ≤ j → j < n' → kdP (ix pl j) = 4) : ∃ ah', InvB pl n' false ah' ∧ (ah' = 248 ∨ ah' = 245) :=
  rows_ind (P := fun m a => InvB pl m false a) (Q := fun a => a = 248 ∨ a = 245) (fun m a h1 h2 h3 h4 => ⟨245, h1.phi h2 h3 h4, .inr rfl⟩) hle hn' hk h ha
theorem InvB.plains (h : InvB pl n F ah) {n' : Nat} (hle : n ≤ n') (hn' : n' ≤ pl.length) (hk : ∀ j, n ≤ j → j < n' → kdP (ix pl j) = 0) : ∃ ah', InvB pl n' F ah' ∧ (n' = n ∨ (ah' ≠ 248 ∧ ah' ≠ 245 ∧ ah' ≠ 59)) := by
  by_cases e : n' = n
  · subst e
    exact ⟨ah, h, .inl rfl⟩
  · obtain ⟨m, rfl⟩ : ∃ m, n' = m + 1 := ⟨n' - 1, by omega⟩
    obtain ⟨a, h1, _⟩ := rows_ind (P := fun m a => InvB pl m F a) (Q := fun _ => True) (n := n) (n' := m) (fun m a h1 _ h3 h4 => ⟨_, (h1.plain h3 h4).1, trivial⟩) (by omega) (by omega) (fun j g1 g2 => hk j g1 (by omega)) h trivial
    obtain ⟨h2, h3⟩ := h1.plain (by omega) (hk m (by omega) (by omega))
    exact ⟨_, h2, .inr h3⟩
theorem cutF_idle {n' : Nat} (hle : n ≤ n') (hk : ∀ j, n ≤ j → j < n' → partP (ix pl j) ≠ 8 ∨ kdP (ix pl j) = 0 ∨ kdP (ix pl j) = 4 ∨ kdP (ix pl j) = 5 ∨ kdP (ix pl j) = 6) : cutF pl n' = cutF pl n := by
  obtain ⟨d, rfl⟩ : ∃ d, n' = n + d := ⟨n' - n, by omega⟩
  clear hle
  induction d with
  | zero => rfl
  | succ d ih =>
    show cutS (cutF pl (n + d)) (n + d) (ix pl (n + d)) = cutF pl n
    rw [cut_idle (hk (n + d) (by omega) (by omega)), ih fun j g1 g2 => hk j g1 (by omega)]
theorem cutF_fun {l : List FnL} (h : cutF pl n = l) (hk : kdP (ix pl n) = 1) : cutF pl (n + 1) = l ++ [⟨(ix pl n).2.2.1, n, 0, [], []⟩] := by
  have h8 := kd_part (p := ix pl n) (by omega)
  have hop := ((kd_ops h8).1).1 hk
  show cutS (cutF pl n) n (ix pl n) = _
  unfold cutS
  rw [if_pos hop, h]
theorem cutF_end {l : List FnL} {f : FnL} (h : cutF pl n = l ++ [f]) (hk : kdP (ix pl n) = 8) : cutF pl (n + 1) = l ++ [{ f with en := n }] := by
  have h8 := kd_part (p := ix pl n) (by omega)
  have hop := ((kd_ops h8).2.2.1).1 hk
  show cutS (cutF pl n) n (ix pl n) = _
  unfold cutS
  rw [if_neg (by omega), if_neg (by omega), if_pos hop, h, modL_append]
theorem cutF_label {l : List FnL} {f : FnL} (h : cutF pl n = l ++ [f]) (hk : kdP (ix pl n) = 3) : cutF pl (n + 1) = l ++ [{ f with bk := f.bk ++ [((ix pl n).2.2.1, (n : Int), 0)] }] := by
  have h8 := kd_part (p := ix pl n) (by omega)
  have hop := ((kd_ops h8).2.2.2.1).1 hk
  show cutS (cutF pl n) n (ix pl n) = _
  unfold cutS
  rw [if_neg (by omega), if_neg (by omega), if_neg (by omega), if_pos hop, h, modL_append]
theorem cutF_ender {l : List FnL} {f : FnL} {b : List (Int × Int × Int)} {i a t : Int} (h : cutF pl n = l ++ [{ f with bk := b ++ [(i, a, t)] }]) (hk : kdP (ix pl n) = 7) :
    cutF pl (n + 1) = l ++ [{ f with bk := b ++ [(i, a, (n : Int) + 1)] }] := by
  have h8 := kd_part (p := ix pl n) (by omega)
  have hop := ((kd_ops h8).2.2.2.2.2.2.2.1).1 hk
  show cutS (cutF pl n) n (ix pl n) = _
  unfold cutS
  rw [if_neg (by omega), if_neg (by omega), if_neg (by omega), if_neg (by omega), if_pos (ends_iff.2 hop), h, modL_append]
  dsimp only
  rw [modL_append]
theorem cutF_params {l : List FnL} {f : FnL} (h : cutF pl n = l ++ [f]) {n' : Nat} (hle : n ≤ n') (hk : ∀ j, n ≤ j → j < n' → kdP (ix pl j) = 2) :
    cutF pl n' = l ++ [{ f with ps := f.ps ++ (List.range (n' - n)).map fun i => ((n + i : Nat) : Int) }] := by
  obtain ⟨d, rfl⟩ : ∃ d, n' = n + d := ⟨n' - n, by omega⟩
  clear hle
  rw [Nat.add_sub_cancel_left]
  induction d with
  | zero => rw [List.range_zero, List.map_nil, List.append_nil]; exact h
  | succ d ih =>
    have hk2 := hk (n + d) (by omega) (by omega)
    have h8 := kd_part (p := ix pl (n + d)) (by omega)
    have hop := ((kd_ops h8).2.1).1 hk2
    show cutS (cutF pl (n + d)) (n + d) (ix pl (n + d)) = _
    unfold cutS
    rw [if_neg (by omega), if_pos hop, ih fun j g1 g2 => hk j g1 (by omega), modL_append, List.range_succ, List.map_append]
    simp [List.append_assoc]
/-- How a part ends. -/
structure OutP (pl : List PI) (p f n : Nat) : Prop where
  lo : f ≤ n
  le : n ≤ pl.length
  own : ∀ k, f ≤ k → k < n → partP (ix pl k) = p
  out : p ≠ 1 → InvT pl (p + 1) n
  one : p = 1 → (n = f ∧ (f < pl.length → partP (ix pl f) ≠ 1)) ∨ n = f + 1
theorem OutP.go {p f : Nat} (h : OutP pl p f n) (hT : InvT pl p f) (hne : p = 1 → n ≠ f) : InvT pl (p + 1) n := by
  by_cases e : p = 1
  · subst e
    rcases h.one rfl with ⟨g, _⟩ | g
    · exact absurd g (hne rfl)
    · subst g
      exact hT.model (by have := h.le; omega) (h.own f (Nat.le_refl _) (by omega))
  · exact h.out e
theorem OutP.stop {f : Nat} (h : OutP pl 1 f n) (hT : InvT pl 1 f) (he : n = f) : StopL pl n := by
  rcases h.one rfl with ⟨_, g⟩ | g
  · subst he
    exact hT.nomodel g
  · omega
end Go.Proofs
