/-
  layout, plain: parts, kinds, what may stand where; what the document says of a place, and what is known of a prefix; layout, plain: what the ways through a function come to; the functions as the document folds them; the places of the parts.
-/
import Derived.Test.Ytpeonjpjphhenaa04p
/-!
  layout, plain: parts, kinds, what may stand where; what the document says of a place, and what is known of a prefix.
-/
namespace Go.Proofs
open Go.Gk Go.RowKit Go.Gm

/-! ### Parts and kinds -/
def isVar (p : PI) : Bool := p.1 == 59 && (match p.2.2.2 with | [] => false | a :: _ => a.2.1 == 7)
def partO (op : Int) : Nat := match frm op with
  | some g => g.2.2.2.2.2.2
  | none => 0
def partP (p : PI) : Nat := if isVar p then 8 else partO p.1
theorem parts_ok : tabR.all (fun p => decide (p.2.2.2.2.2.2.2 ≤ 8)) = true := by decide +kernel
theorem partO_le (op : Int) : partO op ≤ 8 := by
  unfold partO
  cases h : frm op with
  | none => exact Nat.zero_le _
  | some g => exact of_decide_eq_true (List.all_eq_true.1 parts_ok _ (look_mem h))
theorem partP_le (p : PI) : partP p ≤ 8 := by
  unfold partP
  split
  · exact Nat.le_refl _
  · exact partO_le _
def endsP (op : Int) : Bool := decide (249 ≤ op ∧ op ≤ 255)
def kdP (p : PI) : Int :=
  if partP p ≠ 8 then 9 else if p.1 = 54 then 1 else if p.1 = 55 then 2 else if p.1 = 56 then 8 else if p.1 = 248 then 3 else if p.1 = 245 then 4
  else if p.1 = 59 then 5 else if p.1 = 246 then 6 else if p.1 = 247 then 6 else if endsP p.1 = true then 7 else 0
def opMay (op ah : Int) (fi : Bool) : Bool :=
  if op = 54 then ah == 0 || ah == 56
  else if op = 55 then ah == 54 || ah == 55
  else if op = 248 then ah == 54 || ah == 55 || endsP ah
  else if op = 56 then endsP ah
  else if ah = 0 ∨ ah = 54 ∨ ah = 55 ∨ ah = 56 ∨ endsP ah = true then false
  else if op = 245 then (ah == 248 || ah == 245) && !fi
  else if op = 59 then (ah == 248 || ah == 59) && fi
  else if ah = 246 then op == 249 || op == 250
  else if ah = 247 then op == 250 || op == 251
  else true
abbrev ix (pl : List PI) (k : Nat) : PI := pl.getD k pi0
def aheadP (pl : List PI) : Nat → Int
  | 0 => 0
  | n + 1 => if partP (ix pl n) = 8 then (ix pl n).1 else 0
def firstP (pl : List PI) : Nat → Bool
  | 0 => false
  | n + 1 => if (ix pl (n + 1)).1 = 248 then (ix pl n).1 == 54 || (ix pl n).1 == 55 else firstP pl n
def mdlP (pl : List PI) (n : Nat) : Bool := (List.range n).any fun k => partP (ix pl k) == 1
def overP (pl : List PI) (n : Nat) : Bool := (List.range n).any fun k => decide (partP (ix pl n) < partP (ix pl k))
def mayP (pl : List PI) (n : Nat) : Bool :=
  if overP pl n = true then false
  else if partP (ix pl n) = 1 then !mdlP pl n
  else if 1 < partP (ix pl n) ∧ mdlP pl n = false then false
  else if partP (ix pl n) < 8 then true
  else opMay (ix pl n).1 (aheadP pl n) (firstP pl (n - 1))
def openP (pl : List PI) : Bool := !mdlP pl pl.length || (decide (0 < pl.length) && partP (ix pl (pl.length - 1)) == 8 && (ix pl (pl.length - 1)).1 != 56)
def chkP (pl : List PI) : Int × Nat := match (List.range pl.length).find? (fun k => !mayP pl k) with
  | some k => (50, k)
  | none => if openP pl = true then (51, pl.length) else (0, 0)
def layP (bound : Int) (pl : List PI) : Int × Nat := if (shapeP bound pl).1 ≠ 0 then shapeP bound pl else chkP pl
def GoodL (pl : List PI) (n : Nat) : Prop := ∀ k, k < n → mayP pl k = true

/-! ### What is known of a prefix -/
theorem mdlP_iff {pl : List PI} {n : Nat} : mdlP pl n = true ↔ ∃ k, k < n ∧ partP (ix pl k) = 1 := by
  unfold mdlP
  simp [List.any_eq_true]
theorem mdlP_mono {pl : List PI} {n m : Nat} (h : mdlP pl n = true) (hnm : n ≤ m) : mdlP pl m = true := by
  obtain ⟨k, h1, h2⟩ := mdlP_iff.1 h
  exact mdlP_iff.2 ⟨k, by omega, h2⟩
theorem mdlP_none {pl : List PI} {n : Nat} (h : ∀ k, k < n → partP (ix pl k) ≠ 1) : mdlP pl n = false := by
  cases e : mdlP pl n
  · rfl
  · obtain ⟨k, h1, h2⟩ := mdlP_iff.1 e
    exact absurd h2 (h k h1)
theorem overP_iff {pl : List PI} {n : Nat} : overP pl n = true ↔ ∃ k, k < n ∧ partP (ix pl n) < partP (ix pl k) := by
  unfold overP
  simp [List.any_eq_true]
theorem may_over {pl : List PI} {n k : Nat} (hk : k < n) (h : partP (ix pl n) < partP (ix pl k)) : mayP pl n = false := by
  unfold mayP
  rw [if_pos (overP_iff.2 ⟨k, hk, h⟩)]
theorem not_over {pl : List PI} {n : Nat} (h : ∀ k, k < n → partP (ix pl k) ≤ partP (ix pl n)) : ¬ overP pl n = true := fun e => by
  obtain ⟨k, h1, h2⟩ := overP_iff.1 e
  have := h k h1
  omega
theorem may_low {pl : List PI} {n : Nat} (h : ∀ k, k < n → partP (ix pl k) ≤ partP (ix pl n)) (h1 : partP (ix pl n) = 1 → mdlP pl n = false) (h2 : 1 < partP (ix pl n) → mdlP pl n = true) (h8 : partP (ix pl n) < 8) :
    mayP pl n = true := by
  unfold mayP
  rw [if_neg (not_over h)]
  by_cases e : partP (ix pl n) = 1
  · rw [if_pos e, h1 e]
    rfl
  · rw [if_neg e, if_neg (fun ⟨g1, g2⟩ => by rw [h2 g1] at g2; cases g2), if_pos h8]
theorem may_nomodel {pl : List PI} {n : Nat} (h : mdlP pl n = false) (h1 : 1 < partP (ix pl n)) : mayP pl n = false := by
  unfold mayP
  by_cases e : overP pl n = true
  · rw [if_pos e]
  · rw [if_neg e, if_neg (by omega), if_pos ⟨h1, h⟩]
theorem may_again {pl : List PI} {n : Nat} (h : mdlP pl n = true) (h1 : partP (ix pl n) = 1) : mayP pl n = false := by
  unfold mayP
  by_cases e : overP pl n = true
  · rw [if_pos e]
  · rw [if_neg e, if_pos h1, h]
    rfl
theorem may_eight {pl : List PI} {n : Nat} (h : mdlP pl n = true) (h8 : partP (ix pl n) = 8) : mayP pl n = opMay (ix pl n).1 (aheadP pl n) (firstP pl (n - 1)) := by
  unfold mayP
  rw [if_neg (not_over fun k hk => by rw [h8]; exact partP_le _), if_neg (by omega), if_neg (fun ⟨_, g⟩ => by rw [h] at g; cases g), if_neg (by omega)]
theorem GoodL.step {pl : List PI} {n : Nat} (h : GoodL pl n) (hn : mayP pl n = true) : GoodL pl (n + 1) := fun k hk => by
  by_cases e : k = n
  · subst e; exact hn
  · exact h k (by omega)
theorem chk_bad {pl : List PI} {n : Nat} (hg : GoodL pl n) (hn : n < pl.length) (hm : mayP pl n = false) : chkP pl = (50, n) := by
  unfold chkP
  rw [find_first hn (by rw [hm]; rfl) fun j hj => by rw [hg j hj]; rfl]
theorem chk_end {pl : List PI} (hg : GoodL pl pl.length) : chkP pl = if openP pl = true then (51, pl.length) else (0, 0) := by
  unfold chkP
  have : (List.range pl.length).find? (fun k => !mayP pl k) = none := by
    rw [List.find?_eq_none]
    intro j hj
    rw [hg j (List.mem_range.1 hj)]
    simp
  rw [this]
/-- A place that is known to be the first at which a module stops standing in order. -/
def StopL (pl : List PI) (n : Nat) : Prop := n ≤ pl.length ∧ GoodL pl n ∧ (n < pl.length → mayP pl n = false) ∧ (n = pl.length → openP pl = true)
theorem StopL.chk {pl : List PI} {n : Nat} (h : StopL pl n) : chkP pl = (if n < pl.length then 50 else 51, n) := by
  obtain ⟨h1, h2, h3, h4⟩ := h
  by_cases e : n < pl.length
  · rw [if_pos e]
    exact chk_bad h2 e (h3 e)
  · have : n = pl.length := by omega
    subst this
    rw [if_neg e, chk_end h2, if_pos (h4 rfl)]
theorem open_nomodel {pl : List PI} (h : mdlP pl pl.length = false) : openP pl = true := by
  unfold openP
  rw [h]
  rfl

/-! ### The parts ahead of the functions -/
structure InvT (pl : List PI) (p n : Nat) : Prop where
  le : n ≤ pl.length
  good : GoodL pl n
  low : ∀ k, k < n → partP (ix pl k) < p
  mdl : 2 ≤ p → mdlP pl n = true
  stuck : n < pl.length → partP (ix pl n) < p → mayP pl n = false
theorem InvT.zero (pl : List PI) : InvT pl 0 0 := ⟨Nat.zero_le _, fun k hk => by omega, fun k hk => by omega, fun h => by omega, fun _ h => by omega⟩
/-- Within a part, from behind its beginning on. -/
structure InvP (pl : List PI) (p from' n : Nat) : Prop where
  le : n ≤ pl.length
  lo : from' ≤ n
  good : GoodL pl n
  own : ∀ k, from' ≤ k → k < n → partP (ix pl k) = p
  one : p = 1 → n = from'
theorem InvT.into {pl : List PI} {p n : Nat} (h : InvT pl p n) : InvP pl p n n := ⟨h.le, Nat.le_refl _, h.good, fun k h1 h2 => by omega, fun _ => rfl⟩
theorem InvP.may {pl : List PI} {p f n : Nat} (h : InvP pl p f n) (hT : InvT pl p f) (hp8 : p < 8) (hpart : partP (ix pl n) = p) : mayP pl n = true := by
  refine may_low (fun k hk => ?_) (fun e => ?_) (fun e => ?_) (by omega)
  · rw [hpart]
    by_cases hkf : k < f
    · exact Nat.le_of_lt (hT.low k hkf)
    · exact Nat.le_of_eq (h.own k (by omega) hk)
  · have hp1 : p = 1 := by omega
    have hnf := h.one hp1
    refine mdlP_none fun k hk => ?_
    have := hT.low k (by omega)
    omega
  · exact mdlP_mono (hT.mdl (by omega)) h.lo
theorem InvP.step {pl : List PI} {p f n : Nat} (h : InvP pl p f n) (hT : InvT pl p f) (hp8 : p < 8) (hn : n < pl.length) (hpart : partP (ix pl n) = p) (h1 : p ≠ 1) : InvP pl p f (n + 1) :=
  ⟨by omega, by have := h.lo; omega, h.good.step (h.may hT hp8 hpart), fun k k1 k2 => by
    by_cases e : k = n
    · subst e; exact hpart
    · exact h.own k k1 (by omega), fun e => absurd e h1⟩
/-- The part ends at n: nothing more of it, or its only one has been taken. -/
theorem InvP.out {pl : List PI} {p f n : Nat} (h : InvP pl p f n) (hT : InvT pl p f) (h1 : p ≠ 1) (hne : n < pl.length → partP (ix pl n) ≠ p) : InvT pl (p + 1) n :=
  ⟨h.le, h.good, fun k hk => by
    by_cases hkf : k < f
    · have := hT.low k hkf; omega
    · have := h.own k (by omega) hk; omega, fun h2 => mdlP_mono (hT.mdl (by omega)) h.lo, fun hn hlt => by
    by_cases e : n = f
    · subst e
      exact hT.stuck hn (by have := hne hn; omega)
    · refine may_over (k := n - 1) (by have := h.lo; omega) ?_
      rw [h.own (n - 1) (by have := h.lo; omega) (by have := h.lo; omega)]
      have := hne hn
      omega⟩
theorem InvT.model {pl : List PI} {n : Nat} (hT : InvT pl 1 n) (hn : n < pl.length) (hpart : partP (ix pl n) = 1) : InvT pl 2 (n + 1) := by
  have hm : mdlP pl (n + 1) = true := mdlP_iff.2 ⟨n, by omega, hpart⟩
  refine ⟨by omega, hT.good.step (hT.into.may hT (by omega) hpart), fun k hk => ?_, fun _ => hm, fun h1 h2 => ?_⟩
  · by_cases e : k = n
    · subst e; omega
    · have := hT.low k (by omega); omega
  · rcases Nat.lt_or_ge (partP (ix pl (n + 1))) 1 with h | h
    · exact may_over (k := n) (by omega) (by omega)
    · exact may_again hm (by omega)
theorem InvT.nomodel {pl : List PI} {n : Nat} (hT : InvT pl 1 n) (hne : n < pl.length → partP (ix pl n) ≠ 1) : StopL pl n := by
  have hm : mdlP pl n = false := mdlP_none fun k hk => by have := hT.low k hk; omega
  refine ⟨hT.le, hT.good, fun hn => ?_, fun e => ?_⟩
  · rcases Nat.lt_or_ge (partP (ix pl n)) 1 with h | h
    · exact hT.stuck hn h
    · exact may_nomodel hm (by have := hne hn; omega)
  · subst e
    exact open_nomodel hm

/-! ### The functions -/
/-- Between functions. -/
structure InvO (pl : List PI) (n : Nat) : Prop where
  le : n ≤ pl.length
  good : GoodL pl n
  mdl : mdlP pl n = true
  ah : aheadP pl n = 0 ∨ aheadP pl n = 56
  stuck : n < pl.length → partP (ix pl n) ≠ 8 → mayP pl n = false
  shut : n = pl.length → openP pl = false
theorem ahead_succ {pl : List PI} {n : Nat} (h : partP (ix pl n) = 8) : aheadP pl (n + 1) = (ix pl n).1 := if_pos h
theorem InvT.fun {pl : List PI} {n : Nat} (h : InvT pl 8 n) : InvO pl n := by
  have h0 : aheadP pl n = 0 := by
    cases n with
    | zero => rfl
    | succ m => exact if_neg (by have := h.low m (by omega); omega)
  refine ⟨h.le, h.good, h.mdl (by omega), .inl h0, fun hn h8 => h.stuck hn (by have := partP_le (ix pl n); omega), fun e => ?_⟩
  subst e
  unfold openP
  rw [h.mdl (by omega)]
  cases hl : pl.length with
  | zero => rfl
  | succ m =>
    have := h.low m (by omega)
    rw [Nat.add_sub_cancel, beq_eq_false_iff_ne.2 (show partP (ix pl m) ≠ 8 by omega)]
    simp
/-- Within functions: the last one's operation is ah. -/
structure InvF (pl : List PI) (n : Nat) (ah : Int) : Prop where
  le : n ≤ pl.length
  good : GoodL pl n
  mdl : mdlP pl n = true
  pos : 0 < n
  part : partP (ix pl (n - 1)) = 8
  op : (ix pl (n - 1)).1 = ah
theorem InvF.ah {pl : List PI} {n : Nat} {ah : Int} (h : InvF pl n ah) : aheadP pl n = ah := by
  obtain ⟨m, rfl⟩ : ∃ m, n = m + 1 := ⟨n - 1, by have := h.pos; omega⟩
  have := ahead_succ (n := m) h.part
  rw [this]
  exact h.op
theorem InvF.step {pl : List PI} {n : Nat} {ah : Int} (h : InvF pl n ah) (hn : n < pl.length) (h8 : partP (ix pl n) = 8) (hm : opMay (ix pl n).1 ah (firstP pl (n - 1)) = true) : InvF pl (n + 1) (ix pl n).1 :=
  ⟨by omega, h.good.step (by rw [may_eight h.mdl h8, h.ah]; exact hm), mdlP_mono h.mdl (by omega), by omega, h8, rfl⟩
theorem InvF.bad {pl : List PI} {n : Nat} {ah : Int} (h : InvF pl n ah) (h56 : ah ≠ 56) (hb : n < pl.length → partP (ix pl n) = 8 → opMay (ix pl n).1 ah (firstP pl (n - 1)) = false) : StopL pl n := by
  refine ⟨h.le, h.good, fun hn => ?_, fun e => ?_⟩
  · by_cases h8 : partP (ix pl n) = 8
    · rw [may_eight h.mdl h8, h.ah]
      exact hb hn h8
    · refine may_over (k := n - 1) (by have := h.pos; omega) ?_
      rw [h.part]
      have := partP_le (ix pl n)
      omega
  · subst e
    unfold openP
    rw [h.part, h.op, h.mdl]
    have := h.pos
    simp [this, h56]
theorem InvF.end {pl : List PI} {n : Nat} (h : InvF pl n 56) : InvO pl n := by
  refine ⟨h.le, h.good, h.mdl, .inr h.ah, fun hn h8 => ?_, fun e => ?_⟩
  · refine may_over (k := n - 1) (by have := h.pos; omega) ?_
    rw [h.part]
    have := partP_le (ix pl n)
    omega
  · subst e
    unfold openP
    rw [h.part, h.op, h.mdl]
    simp
theorem InvO.begin {pl : List PI} {n : Nat} (h : InvO pl n) (hn : n < pl.length) (h8 : partP (ix pl n) = 8) (hop : (ix pl n).1 = 54) : InvF pl (n + 1) 54 := by
  refine ⟨by omega, h.good.step ?_, mdlP_mono h.mdl (by omega), by omega, h8, hop⟩
  rw [may_eight h.mdl h8, hop]
  rcases h.ah with e | e <;> rw [e] <;> rfl
theorem InvO.bad {pl : List PI} {n : Nat} (h : InvO pl n) (hn : n < pl.length) (hk : kdP (ix pl n) ≠ 1) : StopL pl n := by
  refine ⟨h.le, h.good, fun _ => ?_, fun e => by omega⟩
  by_cases h8 : partP (ix pl n) = 8
  · rw [may_eight h.mdl h8]
    have hop : (ix pl n).1 ≠ 54 := fun e => hk (by unfold kdP; rw [if_neg (fun hh => hh h8), if_pos e])
    have : aheadP pl n = 0 ∨ aheadP pl n = 54 ∨ aheadP pl n = 55 ∨ aheadP pl n = 56 ∨ endsP (aheadP pl n) = true := by rcases h.ah with e | e <;> simp [e]
    unfold opMay
    rw [if_neg hop]
    by_cases e1 : (ix pl n).1 = 55
    · rw [if_pos e1]; rcases h.ah with e | e <;> rw [e] <;> rfl
    · rw [if_neg e1]
      by_cases e2 : (ix pl n).1 = 248
      · rw [if_pos e2]; rcases h.ah with e | e <;> rw [e] <;> rfl
      · rw [if_neg e2]
        by_cases e3 : (ix pl n).1 = 56
        · rw [if_pos e3]; rcases h.ah with e | e <;> rw [e] <;> rfl
        · rw [if_neg e3, if_pos this]
  · exact h.stuck hn h8
end Go.Proofs

/-!
  layout, plain: what the ways through a function come to; the functions as the document folds them; the places of the parts.
-/
namespace Go.Proofs
open Go.Gk Go.RowKit Go.Gm

/-! ### Kinds -/
theorem kd_part {p : PI} (h : kdP p ≠ 9) : partP p = 8 := by
  unfold kdP at h
  by_cases e : partP p = 8
  · exact e
  · rw [if_pos e] at h; exact absurd rfl h
theorem kd_nine {p : PI} (h : kdP p = 9) : partP p ≠ 8 := by
  intro e
  unfold kdP at h
  rw [if_neg (fun g => g e)] at h
  repeat' split at h
  all_goals omega
theorem kd_op {p : PI} (h8 : partP p = 8) : kdP p = (if p.1 = 54 then 1 else if p.1 = 55 then 2 else if p.1 = 56 then 8 else if p.1 = 248 then 3 else if p.1 = 245 then 4
  else if p.1 = 59 then 5 else if p.1 = 246 then 6 else if p.1 = 247 then 6 else if endsP p.1 = true then 7 else 0) := by
  unfold kdP
  rw [if_neg (fun g => g h8)]
theorem ends_iff {op : Int} : endsP op = true ↔ 249 ≤ op ∧ op ≤ 255 := by unfold endsP; exact decide_eq_true_iff
theorem ends_false {op : Int} : endsP op = false ↔ ¬ (249 ≤ op ∧ op ≤ 255) := by unfold endsP; exact decide_eq_false_iff_not
/-- The kinds by operations. -/
theorem kd_ops {p : PI} (h8 : partP p = 8) : (kdP p = 1 ↔ p.1 = 54) ∧ (kdP p = 2 ↔ p.1 = 55) ∧ (kdP p = 8 ↔ p.1 = 56) ∧ (kdP p = 3 ↔ p.1 = 248) ∧ (kdP p = 4 ↔ p.1 = 245) ∧ (kdP p = 5 ↔ p.1 = 59) ∧
    (kdP p = 6 ↔ p.1 = 246 ∨ p.1 = 247) ∧ (kdP p = 7 ↔ 249 ≤ p.1 ∧ p.1 ≤ 255) ∧ kdP p ≠ 9 := by
  rw [kd_op h8]
  simp only [ends_iff]
  repeat' split
  all_goals omega
def mayI (mg en : Int) : Bool := if en = 251 then mg == 247 else if en = 249 then mg == 246 else if en = 250 then true else false
structure BlkOp (ah : Int) : Prop where
  ne : ah ≠ 0 ∧ ah ≠ 54 ∧ ah ≠ 55 ∧ ah ≠ 56 ∧ ah ≠ 246 ∧ ah ≠ 247
  en : ¬ (249 ≤ ah ∧ ah ≤ 255)
theorem opMay_blk {op ah : Int} {F : Bool} (h : BlkOp ah) : opMay op ah F = (if op = 54 ∨ op = 55 ∨ op = 248 ∨ op = 56 then false else if op = 245 then (ah == 248 || ah == 245) && !F else if op = 59 then (ah == 248 || ah == 59) && F else true) := by
  obtain ⟨⟨h0, h1, h2, h3, h4, h5⟩, h6⟩ := h
  have h6' := ends_false.2 h6
  have no : ∀ {c : Int}, ah ≠ c → (ah == c) = false := fun h => beq_eq_false_iff_ne.2 h
  unfold opMay
  by_cases e1 : op = 54
  · rw [if_pos e1, if_pos (.inl e1), no h0, no h3]; rfl
  rw [if_neg e1]
  by_cases e2 : op = 55
  · rw [if_pos e2, if_pos (.inr (.inl e2)), no h1, no h2]; rfl
  rw [if_neg e2]
  by_cases e3 : op = 248
  · rw [if_pos e3, if_pos (.inr (.inr (.inl e3))), no h1, no h2, h6']; rfl
  rw [if_neg e3]
  by_cases e4 : op = 56
  · rw [if_pos e4, if_pos (.inr (.inr (.inr e4))), h6']
  rw [if_neg e4, if_neg (by rw [h6']; rintro (e | e | e | e | e) <;> first | exact absurd e (by assumption) | cases e), if_neg (c := op = 54 ∨ op = 55 ∨ op = 248 ∨ op = 56) (by omega), if_neg h4, if_neg h5]
theorem opMay_merge {op ah : Int} {F : Bool} (h : ah = 246 ∨ ah = 247) : opMay op ah F = mayI ah op := by
  have he : endsP ah = false := ends_false.2 (by omega)
  have no : ∀ {c : Int}, ah ≠ c → (ah == c) = false := fun h => beq_eq_false_iff_ne.2 h
  unfold opMay mayI
  by_cases e1 : op = 54
  · rw [if_pos e1, no (by omega), no (by omega)]; subst e1; rfl
  rw [if_neg e1]
  by_cases e2 : op = 55
  · rw [if_pos e2, no (by omega), no (by omega)]; subst e2; rfl
  rw [if_neg e2]
  by_cases e3 : op = 248
  · rw [if_pos e3, no (by omega), no (by omega), he]; subst e3; rfl
  rw [if_neg e3]
  by_cases e4 : op = 56
  · rw [if_pos e4, he]; subst e4; rfl
  rw [if_neg e4, if_neg (by rw [he]; rintro (e | e | e | e | e) <;> first | omega | cases e)]
  by_cases e5 : op = 245
  · rw [if_pos e5, no (by omega), no (by omega)]; subst e5; rfl
  rw [if_neg e5]
  by_cases e6 : op = 59
  · rw [if_pos e6, no (by omega), no (by omega)]; subst e6; rfl
  rw [if_neg e6]
  rcases h with h | h
  · rw [if_pos h]
    by_cases e7 : op = 249
    · subst e7; subst h; rfl
    by_cases e8 : op = 250
    · subst e8; subst h; rfl
    rw [if_neg e7, if_neg e8, beq_eq_false_iff_ne.2 e7, beq_eq_false_iff_ne.2 e8]
    by_cases e9 : op = 251
    · rw [if_pos e9, h]; rfl
    · rw [if_neg e9]; rfl
  · rw [if_neg (by omega), if_pos h]
    by_cases e7 : op = 251
    · subst e7; subst h; rfl
    by_cases e8 : op = 250
    · subst e8; subst h; rfl
    rw [if_neg e7, if_neg e8, beq_eq_false_iff_ne.2 e7, beq_eq_false_iff_ne.2 e8]
    by_cases e9 : op = 249
    · rw [if_pos e9, h]; rfl
    · rw [if_neg e9]; rfl

/-! ### Within a function -/
variable {pl : List PI} {n : Nat} {ah : Int} {F : Bool}
theorem first_step (hn : 0 < n) (h : (ix pl n).1 ≠ 248) : firstP pl n = firstP pl (n - 1) := by
  obtain ⟨m, rfl⟩ : ∃ m, n = m + 1 := ⟨n - 1, by omega⟩
  exact if_neg h
theorem InvF.param (h : InvF pl n ah) (ha : ah = 54 ∨ ah = 55) (hn : n < pl.length) (hk : kdP (ix pl n) = 2) : InvF pl (n + 1) 55 := by
  have h8 := kd_part (p := ix pl n) (by omega)
  have hop := ((kd_ops h8).2.1).1 hk
  have := h.step hn h8 (by rw [hop]; rcases ha with e | e <;> rw [e] <;> rfl)
  rwa [hop] at this
theorem InvF.noblock (h : InvF pl n ah) (ha : ah = 54 ∨ ah = 55) (h2 : n < pl.length → kdP (ix pl n) ≠ 2) (h3 : n < pl.length → kdP (ix pl n) ≠ 3) : StopL pl n := by
  refine h.bad (by omega) fun hn h8 => ?_
  have hk := kd_ops h8
  have h2 := h2 hn
  have h3 := h3 hn
  have e2 : (ix pl n).1 ≠ 55 := fun e => h2 (hk.2.1.2 e)
  have e3 : (ix pl n).1 ≠ 248 := fun e => h3 (hk.2.2.2.1.2 e)
  unfold opMay
  by_cases e1 : (ix pl n).1 = 54
  · rw [if_pos e1]; rcases ha with e | e <;> rw [e] <;> rfl
  rw [if_neg e1, if_neg e2, if_neg e3]
  by_cases e4 : (ix pl n).1 = 56
  · rw [if_pos e4]; rcases ha with e | e <;> rw [e] <;> rfl
  rw [if_neg e4, if_pos (by omega)]
theorem InvF.noend (h : InvF pl n ah) (ha : 249 ≤ ah ∧ ah ≤ 255) (h3 : n < pl.length → kdP (ix pl n) ≠ 3) (h8' : n < pl.length → kdP (ix pl n) ≠ 8) : StopL pl n := by
  refine h.bad (by omega) fun hn h8 => ?_
  have hk := kd_ops h8
  have h3 := h3 hn
  have h8' := h8' hn
  have e3 : (ix pl n).1 ≠ 248 := fun e => h3 (hk.2.2.2.1.2 e)
  have e4 : (ix pl n).1 ≠ 56 := fun e => h8' (hk.2.2.1.2 e)
  have no : ∀ {c : Int}, ah ≠ c → (ah == c) = false := fun h => beq_eq_false_iff_ne.2 h
  unfold opMay
  by_cases e1 : (ix pl n).1 = 54
  · rw [if_pos e1, no (by omega), no (by omega)]; rfl
  rw [if_neg e1]
  by_cases e2 : (ix pl n).1 = 55
  · rw [if_pos e2, no (by omega), no (by omega)]; rfl
  rw [if_neg e2, if_neg e3, if_neg e4, if_pos (.inr (.inr (.inr (.inr (ends_iff.2 ha)))))]
theorem InvF.shut (h : InvF pl n ah) (ha : 249 ≤ ah ∧ ah ≤ 255) (hn : n < pl.length) (hk : kdP (ix pl n) = 8) : InvF pl (n + 1) 56 := by
  have h8 := kd_part (p := ix pl n) (by omega)
  have hop := ((kd_ops h8).2.2.1).1 hk
  have := h.step hn h8 (by rw [hop]; exact ends_iff.2 ha)
  rwa [hop] at this
/-- Within a block, whose being the first says F. -/
structure InvB (pl : List PI) (n : Nat) (F : Bool) (ah : Int) : Prop where
  f : InvF pl n ah
  fi : firstP pl (n - 1) = F
  op : BlkOp ah
theorem InvF.label (h : InvF pl n ah) (ha : (ah = 54 ∨ ah = 55) ∨ (249 ≤ ah ∧ ah ≤ 255)) (hn : n < pl.length) (hk : kdP (ix pl n) = 3) : InvB pl (n + 1) (ah == 54 || ah == 55) 248 := by
  have h8 := kd_part (p := ix pl n) (by omega)
  have hop := ((kd_ops h8).2.2.2.1).1 hk
  have hs := h.step hn h8 (by
    rw [hop]
    rcases ha with (e | e) | e
    · rw [e]; rfl
    · rw [e]; rfl
    · unfold opMay
      rw [if_neg (by omega), if_neg (by omega), if_pos rfl, ends_iff.2 e, Bool.or_true])
  rw [hop] at hs
  refine ⟨hs, ?_, ⟨⟨by decide, by decide, by decide, by decide, by decide, by decide⟩, by decide⟩⟩
  rw [Nat.add_sub_cancel]
  obtain ⟨m, rfl⟩ : ∃ m, n = m + 1 := ⟨n - 1, by have := h.pos; omega⟩
  have : firstP pl (m + 1) = ((ix pl m).1 == 54 || (ix pl m).1 == 55) := if_pos hop
  rw [this]
  have hah : (ix pl m).1 = ah := h.op
  rw [hah]
theorem InvB.go (h : InvB pl n F ah) (hn : n < pl.length) (h8 : partP (ix pl n) = 8) (hm : opMay (ix pl n).1 ah F = true) : InvF pl (n + 1) (ix pl n).1 := h.f.step hn h8 (by rw [h.fi]; exact hm)
theorem InvB.next (h : InvB pl n F ah) (hn : n < pl.length) (h8 : partP (ix pl n) = 8) (hm : opMay (ix pl n).1 ah F = true) (hop : BlkOp (ix pl n).1) (h248 : (ix pl n).1 ≠ 248) : InvB pl (n + 1) F (ix pl n).1 :=
  ⟨h.go hn h8 hm, by rw [Nat.add_sub_cancel, first_step h.f.pos h248]; exact h.fi, hop⟩
theorem InvB.local (h : InvB pl n true ah) (ha : ah = 248 ∨ ah = 59) (hn : n < pl.length) (hk : kdP (ix pl n) = 5) : InvB pl (n + 1) true 59 := by
  have h8 := kd_part (p := ix pl n) (by omega)
  have hop := ((kd_ops h8).2.2.2.2.2.1).1 hk
  have := h.next hn h8 (by rw [opMay_blk h.op, hop]; rcases ha with e | e <;> rw [e] <;> rfl) (by rw [hop]; exact ⟨⟨by decide, by decide, by decide, by decide, by decide, by decide⟩, by decide⟩) (by omega)
  rwa [hop] at this
theorem InvB.phi (h : InvB pl n false ah) (ha : ah = 248 ∨ ah = 245) (hn : n < pl.length) (hk : kdP (ix pl n) = 4) : InvB pl (n + 1) false 245 := by
  have h8 := kd_part (p := ix pl n) (by omega)
  have hop := ((kd_ops h8).2.2.2.2.1).1 hk
  have := h.next hn h8 (by rw [opMay_blk h.op, hop]; rcases ha with e | e <;> rw [e] <;> rfl) (by rw [hop]; exact ⟨⟨by decide, by decide, by decide, by decide, by decide, by decide⟩, by decide⟩) (by omega)
  rwa [hop] at this
theorem op_ne {p : PI} (h8 : partP p = 8) : p.1 ≠ 0 := by
  intro e
  unfold partP at h8
  have hv : isVar p = false := by unfold isVar; rw [e]; rfl
  rw [hv, e] at h8
  exact absurd h8 (by decide +kernel)
theorem InvB.plain (h : InvB pl n F ah) (hn : n < pl.length) (hk : kdP (ix pl n) = 0) : InvB pl (n + 1) F (ix pl n).1 ∧ (ix pl n).1 ≠ 248 ∧ (ix pl n).1 ≠ 245 ∧ (ix pl n).1 ≠ 59 := by
  have h8 := kd_part (p := ix pl n) (by omega)
  have hk' := kd_ops h8
  rw [hk] at hk'
  obtain ⟨k1, k2, k3, k4, k5, k6, k7, k8, _⟩ := hk'
  have h0 := op_ne h8
  refine ⟨h.next hn h8 ?_ ⟨by omega, by omega⟩ (by omega), by omega, by omega, by omega⟩
  rw [opMay_blk h.op, if_neg (by omega), if_neg (by omega), if_neg (by omega)]
theorem InvB.merge (h : InvB pl n F ah) (hn : n < pl.length) (hk : kdP (ix pl n) = 6) : InvF pl (n + 1) (ix pl n).1 ∧ ((ix pl n).1 = 246 ∨ (ix pl n).1 = 247) := by
  have h8 := kd_part (p := ix pl n) (by omega)
  have hop := ((kd_ops h8).2.2.2.2.2.2.1).1 hk
  refine ⟨h.go hn h8 ?_, hop⟩
  rw [opMay_blk h.op, if_neg (by omega), if_neg (by omega), if_neg (by omega)]
theorem InvB.ender (h : InvB pl n F ah) (hn : n < pl.length) (hk : kdP (ix pl n) = 7) : InvF pl (n + 1) (ix pl n).1 ∧ 249 ≤ (ix pl n).1 ∧ (ix pl n).1 ≤ 255 := by
  have h8 := kd_part (p := ix pl n) (by omega)
  have hop := ((kd_ops h8).2.2.2.2.2.2.2.1).1 hk
  refine ⟨h.go hn h8 ?_, hop⟩
  rw [opMay_blk h.op, if_neg (by omega), if_neg (by omega), if_neg (by omega)]
theorem InvF.mender (h : InvF pl n ah) (ha : ah = 246 ∨ ah = 247) (hn : n < pl.length) (hk : kdP (ix pl n) = 7) (hm : mayI ah (ix pl n).1 = true) : InvF pl (n + 1) (ix pl n).1 ∧ 249 ≤ (ix pl n).1 ∧ (ix pl n).1 ≤ 255 := by
  have h8 := kd_part (p := ix pl n) (by omega)
  have hop := ((kd_ops h8).2.2.2.2.2.2.2.1).1 hk
  exact ⟨h.step hn h8 (by rw [opMay_merge ha]; exact hm), hop⟩
theorem InvF.mbad (h : InvF pl n ah) (ha : ah = 246 ∨ ah = 247) (hb : n < pl.length → kdP (ix pl n) = 7 → mayI ah (ix pl n).1 = false) : StopL pl n := by
  refine h.bad (by omega) fun hn h8 => ?_
  rw [opMay_merge ha]
  by_cases hk : kdP (ix pl n) = 7
  · exact hb hn hk
  · have h7 := (kd_ops h8).2.2.2.2.2.2.2.1
    unfold mayI
    rw [if_neg (by omega), if_neg (by omega), if_neg (by omega)]
theorem InvB.bad (h : InvB pl n F ah) (h0 : n < pl.length → kdP (ix pl n) ≠ 0 ∧ kdP (ix pl n) ≠ 6 ∧ kdP (ix pl n) ≠ 7) (h4 : n < pl.length → kdP (ix pl n) = 4 → F = false → ah ≠ 248 ∧ ah ≠ 245)
    (h5 : n < pl.length → kdP (ix pl n) = 5 → F = true → ah ≠ 248 ∧ ah ≠ 59) : StopL pl n := by
  refine h.f.bad (by have := h.op.ne; omega) fun hn h8 => ?_
  obtain ⟨q0, q6, q7⟩ := h0 hn
  have h4 := h4 hn
  have h5 := h5 hn
  have no : ∀ {c : Int}, ah ≠ c → (ah == c) = false := fun h => beq_eq_false_iff_ne.2 h
  rw [h.fi, opMay_blk h.op]
  obtain ⟨k1, k2, k3, k4, k5, k6, k7, k8, k9⟩ := kd_ops h8
  by_cases e : (ix pl n).1 = 54 ∨ (ix pl n).1 = 55 ∨ (ix pl n).1 = 248 ∨ (ix pl n).1 = 56
  · rw [if_pos e]
  rw [if_neg e]
  by_cases e4 : (ix pl n).1 = 245
  · rw [if_pos e4]
    cases F
    · obtain ⟨g1, g2⟩ := h4 (k5.2 e4) rfl
      rw [no g1, no g2]; rfl
    · simp
  rw [if_neg e4]
  by_cases e5 : (ix pl n).1 = 59
  · rw [if_pos e5]
    cases F
    · simp
    · obtain ⟨g1, g2⟩ := h5 (k6.2 e5) rfl
      rw [no g1, no g2]; rfl
  exfalso
  refine q0 ?_
  rw [kd_op h8, if_neg (by omega), if_neg (by omega), if_neg (by omega), if_neg (by omega), if_neg e4, if_neg e5, if_neg (by omega), if_neg (by omega), if_neg (fun g => by have := ends_iff.1 g; omega)]

/-! ### The functions -/
structure FnL where
  id : Int
  at_ : Int
  en : Int
  ps : List Int
  bk : List (Int × Int × Int)
def modL {α : Type} (f : α → α) : List α → List α
  | [] => []
  | [x] => [f x]
  | x :: y :: r => x :: modL f (y :: r)
theorem modL_append {α : Type} (f : α → α) (x : α) : ∀ l : List α, modL f (l ++ [x]) = l ++ [f x]
  | [] => rfl
  | [y] => rfl
  | y :: z :: r => by
    have := modL_append f x (z :: r)
    simp only [List.cons_append, modL] at this ⊢
    rw [this]
def cutS (l : List FnL) (k : Nat) (p : PI) : List FnL :=
  if p.1 = 54 then l ++ [⟨p.2.2.1, k, 0, [], []⟩]
  else if p.1 = 55 then modL (fun f => { f with ps := f.ps ++ [(k : Int)] }) l
  else if p.1 = 56 then modL (fun f => { f with en := k }) l
  else if p.1 = 248 then modL (fun f => { f with bk := f.bk ++ [(p.2.2.1, (k : Int), 0)] }) l
  else if endsP p.1 = true then modL (fun f => { f with bk := modL (fun b => (b.1, b.2.1, (k : Int) + 1)) f.bk }) l
  else l
def cutF (pl : List PI) : Nat → List FnL
  | 0 => []
  | n + 1 => cutS (cutF pl n) n (ix pl n)
theorem parts8 : partO 54 = 8 ∧ partO 55 = 8 ∧ partO 56 = 8 ∧ partO 248 = 8 ∧ partO 249 = 8 ∧ partO 250 = 8 ∧ partO 251 = 8 ∧ partO 252 = 8 ∧ partO 253 = 8 ∧ partO 254 = 8 ∧ partO 255 = 8 := by decide +kernel
theorem cut_idle {p : PI} (h : partP p ≠ 8 ∨ kdP p = 0 ∨ kdP p = 4 ∨ kdP p = 5 ∨ kdP p = 6) (l : List FnL) (k : Nat) : cutS l k p = l := by
  have hno : ¬ (p.1 = 54 ∨ p.1 = 55 ∨ p.1 = 56 ∨ p.1 = 248 ∨ (249 ≤ p.1 ∧ p.1 ≤ 255)) := by
    intro hop
    have h8 : partP p = 8 := by
      unfold partP
      split
      · rfl
      · obtain ⟨q1, q2, q3, q4, q5, q6, q7, q8, q9, q10, q11⟩ := parts8
        have hc : p.1 = 54 ∨ p.1 = 55 ∨ p.1 = 56 ∨ p.1 = 248 ∨ p.1 = 249 ∨ p.1 = 250 ∨ p.1 = 251 ∨ p.1 = 252 ∨ p.1 = 253 ∨ p.1 = 254 ∨ p.1 = 255 := by omega
        rcases hc with e | e | e | e | e | e | e | e | e | e | e <;> rw [e] <;> assumption
    obtain ⟨k1, k2, k3, k4, k5, k6, k7, k8, k9⟩ := kd_ops h8
    rcases h with h | h | h | h | h
    · exact h h8
    all_goals omega
  unfold cutS
  rw [if_neg (by omega), if_neg (by omega), if_neg (by omega), if_neg (by omega), if_neg (fun e => hno (by have := ends_iff.1 e; omega))]

/-! ### The places of the parts -/
/-- ps has, by twos, the places of the parts below p, of the instructions below n. -/
def PartsTo (pl : List PI) (p n : Nat) (ps : List Int) : Prop :=
  ∀ q, q < p → 0 ≤ ps.getD (2 * q) 0 ∧ ps.getD (2 * q) 0 ≤ ps.getD (2 * q + 1) 0 ∧ ps.getD (2 * q + 1) 0 ≤ n ∧ ∀ i, i < n → ((ps.getD (2 * q) 0 ≤ (i : Int) ∧ (i : Int) < ps.getD (2 * q + 1) 0) ↔ partP (ix pl i) = q)
theorem getD_set2 {ps : List Int} {i j : Nat} {a b : Int} (hi : i + 1 < ps.length) : ((ps.set i a).set (i + 1) b).getD j 0 = if j = i then a else if j = i + 1 then b else ps.getD j 0 := by
  simp only [List.getD_eq_getElem?_getD]
  by_cases e : j = i + 1
  · subst e
    rw [List.getElem?_set_self (by simpa using hi), if_neg (by omega), if_pos rfl]
    rfl
  · rw [List.getElem?_set_ne (fun h => e h.symm)]
    by_cases e2 : j = i
    · subst e2
      rw [List.getElem?_set_self (by omega), if_pos rfl]
      rfl
    · rw [List.getElem?_set_ne (fun h => e2 h.symm), if_neg e2, if_neg e]
theorem PartsTo.step {p f n' : Nat} {ps : List Int} (h : PartsTo pl p f ps) (hps : ps.length = 20) (hp : p < 10) (hfn : f ≤ n') (hlow : ∀ k, k < f → partP (ix pl k) < p) (hown : ∀ k, f ≤ k → k < n' → partP (ix pl k) = p) :
    PartsTo pl (p + 1) n' ((ps.set (2 * p) f).set (2 * p + 1) n') := by
  intro q hq
  rw [getD_set2 (by omega), getD_set2 (by omega)]
  by_cases e : q = p
  · subst e
    rw [if_pos rfl, if_neg (by omega), if_pos rfl]
    refine ⟨by omega, by omega, by omega, fun i hi => ⟨fun hh => hown i (by omega) hi, fun hh => ⟨?_, by omega⟩⟩⟩
    rcases Nat.lt_or_ge i f with g | g
    · have := hlow i g; omega
    · omega
  · rw [if_neg (by omega), if_neg (by omega), if_neg (by omega), if_neg (by omega)]
    obtain ⟨h1, h2, h3, h4⟩ := h q (by omega)
    refine ⟨h1, h2, by omega, fun i hi => ?_⟩
    rcases Nat.lt_or_ge i f with g | g
    · exact h4 i g
    · have := hown i g hi
      constructor
      · intro hh; omega
      · intro hh; omega
theorem PartsTo.more {p n n' : Nat} {ps : List Int} (h : PartsTo pl p n ps) (hn : n ≤ n') (hown : ∀ k, n ≤ k → k < n' → p ≤ partP (ix pl k)) : PartsTo pl p n' ps := by
  intro q hq
  obtain ⟨h1, h2, h3, h4⟩ := h q hq
  refine ⟨h1, h2, by omega, fun i hi => ?_⟩
  rcases Nat.lt_or_ge i n with g | g
  · exact h4 i g
  · have := hown i g hi
    constructor
    · intro hh; omega
    · intro hh; omega
theorem good_mono {n : Nat} (h : GoodL pl n) {i j : Nat} (hij : i < j) (hj : j < n) : partP (ix pl i) ≤ partP (ix pl j) := by
  rcases Nat.lt_or_ge (partP (ix pl j)) (partP (ix pl i)) with g | g
  · have := h j hj
    rw [may_over hij g] at this
    cases this
  · exact g
theorem PartsTo.all {n : Nat} {ps : List Int} (h : PartsTo pl 8 n ps) (hps : ps.length = 20) (hn : n ≤ pl.length) (hlow : ∀ k, k < n → partP (ix pl k) < 8) (hg : GoodL pl pl.length) (h8 : n < pl.length → partP (ix pl n) = 8) :
    PartsTo pl 10 pl.length ((((ps.set 16 n).set 17 pl.length).set 18 pl.length).set 19 pl.length) := by
  have hown : ∀ k, n ≤ k → k < pl.length → partP (ix pl k) = 8 := by
    intro k h1 h2
    by_cases e : k = n
    · subst e; exact h8 h2
    · have := good_mono hg (i := n) (j := k) (by omega) h2
      rw [h8 (by omega)] at this
      have := partP_le (ix pl k)
      omega
  have s8 := h.step (n' := pl.length) hps (by omega) hn hlow hown
  have := s8.step (n' := pl.length) (by simpa using hps) (by omega) (Nat.le_refl _) (fun k hk => by have := partP_le (ix pl k); omega) (fun k h1 h2 => by omega)
  exact this
/-! ### Rows -/
theorem rows_ind {P : Nat → Int → Prop} {Q : Int → Prop} {k : Int} (step : ∀ m a, P m a → Q a → m < pl.length → kdP (ix pl m) = k → ∃ a', P (m + 1) a' ∧ Q a') {n' : Nat} (hle : n ≤ n') (hn' : n' ≤ pl.length)
    (hk : ∀ j, n ≤ j → j < n' → kdP (ix pl j) = k) {a : Int} (hP : P n a) (hQ : Q a) : ∃ a', P n' a' ∧ Q a' := by
  obtain ⟨d, rfl⟩ : ∃ d, n' = n + d := ⟨n' - n, by omega⟩
  clear hle
  induction d with
  | zero => exact ⟨a, hP, hQ⟩
  | succ d ih =>
    obtain ⟨a', h1, h2⟩ := ih (by omega) (fun j g1 g2 => hk j g1 (by omega))
    exact step (n + d) a' h1 h2 (by omega) (hk (n + d) (by omega) (by omega))
theorem InvF.params (h : InvF pl n ah) (ha : ah = 54 ∨ ah = 55) {n' : Nat} (hle : n ≤ n') (hn' : n' ≤ pl.length) (hk : ∀ j, n ≤ j → j < n' → kdP (ix pl j) = 2) : ∃ ah', InvF pl n' ah' ∧ (ah' = 54 ∨ ah' = 55) :=
  rows_ind (P := fun m a => InvF pl m a) (Q := fun a => a = 54 ∨ a = 55) (fun m a h1 h2 h3 h4 => ⟨55, h1.param h2 h3 h4, .inr rfl⟩) hle hn' hk h ha
theorem InvB.locals (h : InvB pl n true ah) (ha : ah = 248 ∨ ah = 59) {n' : Nat} (hle : n ≤ n') (hn' : n' ≤ pl.length) (hk : ∀ j, n ≤ j → j < n' → kdP (ix pl j) = 5) : ∃ ah', InvB pl n' true ah' ∧ (ah' = 248 ∨ ah' = 59) :=
  rows_ind (P := fun m a => InvB pl m true a) (Q := fun a => a = 248 ∨ a = 59) (fun m a h1 h2 h3 h4 => ⟨59, h1.local h2 h3 h4, .inr rfl⟩) hle hn' hk h ha
theorem InvB.phis (h : InvB pl n false ah) (ha : ah = 248 ∨ ah = 245) {n' : Nat} (hle : n ≤ n') (hn' : n' ≤ pl.length) (hk : ∀ j, n ≤ j → j < n' → kdP (ix pl j) = 4) : ∃ ah', InvB pl n' false ah' ∧ (ah' = 248 ∨ ah' = 245) :=
  rows_ind (P := fun m a => InvB pl m false a) (Q := fun a => a = 248 ∨ a = 245) (fun m a h1 h2 h3 h4 => ⟨245, h1.phi h2 h3 h4, .inr rfl⟩) hle hn' hk h ha
theorem InvB.plains (h : InvB pl n F ah) {n' : Nat} (hle : n ≤ n') (hn' : n' ≤ pl.length) (hk : ∀ j, n ≤ j → j < n' → kdP (ix pl j) = 0) : ∃ ah', InvB pl n' F ah' ∧ (n' = n ∨ (ah' ≠ 248 ∧ ah' ≠ 245 ∧ ah' ≠ 59)) := by
  by_cases e : n' = n
  · subst e
    exact ⟨ah, h, .inl rfl⟩
  · obtain ⟨m, rfl⟩ : ∃ m, n' = m + 1 := ⟨n' - 1, by omega⟩
    obtain ⟨a, h1, _⟩ := rows_ind (P := fun m a => InvB pl m F a) (Q := fun _ => True) (n := n) (n' := m) (fun m a h1 _ h3 h4 => ⟨_, (h1.plain h3 h4).1, trivial⟩) (by omega) (by omega) (fun j g1 g2 => hk j g1 (by omega)) h trivial
    obtain ⟨h2, h3⟩ := h1.plain (by omega) (hk m (by omega) (by omega))
    exact ⟨_, h2, .inr h3⟩
theorem cutF_idle {n' : Nat} (hle : n ≤ n') (hk : ∀ j, n ≤ j → j < n' → partP (ix pl j) ≠ 8 ∨ kdP (ix pl j) = 0 ∨ kdP (ix pl j) = 4 ∨ kdP (ix pl j) = 5 ∨ kdP (ix pl j) = 6) : cutF pl n' = cutF pl n := by
  obtain ⟨d, rfl⟩ : ∃ d, n' = n + d := ⟨n' - n, by omega⟩
  clear hle
  induction d with
  | zero => rfl
  | succ d ih =>
    show cutS (cutF pl (n + d)) (n + d) (ix pl (n + d)) = cutF pl n
    rw [cut_idle (hk (n + d) (by omega) (by omega)), ih fun j g1 g2 => hk j g1 (by omega)]
theorem cutF_fun {l : List FnL} (h : cutF pl n = l) (hk : kdP (ix pl n) = 1) : cutF pl (n + 1) = l ++ [⟨(ix pl n).2.2.1, n, 0, [], []⟩] := by
  have h8 := kd_part (p := ix pl n) (by omega)
  have hop := ((kd_ops h8).1).1 hk
  show cutS (cutF pl n) n (ix pl n) = _
  unfold cutS
  rw [if_pos hop, h]
theorem cutF_end {l : List FnL} {f : FnL} (h : cutF pl n = l ++ [f]) (hk : kdP (ix pl n) = 8) : cutF pl (n + 1) = l ++ [{ f with en := n }] := by
  have h8 := kd_part (p := ix pl n) (by omega)
  have hop := ((kd_ops h8).2.2.1).1 hk
  show cutS (cutF pl n) n (ix pl n) = _
  unfold cutS
  rw [if_neg (by omega), if_neg (by omega), if_pos hop, h, modL_append]
theorem cutF_label {l : List FnL} {f : FnL} (h : cutF pl n = l ++ [f]) (hk : kdP (ix pl n) = 3) : cutF pl (n + 1) = l ++ [{ f with bk := f.bk ++ [((ix pl n).2.2.1, (n : Int), 0)] }] := by
  have h8 := kd_part (p := ix pl n) (by omega)
  have hop := ((kd_ops h8).2.2.2.1).1 hk
  show cutS (cutF pl n) n (ix pl n) = _
  unfold cutS
  rw [if_neg (by omega), if_neg (by omega), if_neg (by omega), if_pos hop, h, modL_append]
theorem cutF_ender {l : List FnL} {f : FnL} {b : List (Int × Int × Int)} {i a t : Int} (h : cutF pl n = l ++ [{ f with bk := b ++ [(i, a, t)] }]) (hk : kdP (ix pl n) = 7) :
    cutF pl (n + 1) = l ++ [{ f with bk := b ++ [(i, a, (n : Int) + 1)] }] := by
  have h8 := kd_part (p := ix pl n) (by omega)
  have hop := ((kd_ops h8).2.2.2.2.2.2.2.1).1 hk
  show cutS (cutF pl n) n (ix pl n) = _
  unfold cutS
  rw [if_neg (by omega), if_neg (by omega), if_neg (by omega), if_neg (by omega), if_pos (ends_iff.2 hop), h, modL_append]
  dsimp only
  rw [modL_append]
theorem cutF_params {l : List FnL} {f : FnL} (h : cutF pl n = l ++ [f]) {n' : Nat} (hle : n ≤ n') (hk : ∀ j, n ≤ j → j < n' → kdP (ix pl j) = 2) :
    cutF pl n' = l ++ [{ f with ps := f.ps ++ (List.range (n' - n)).map fun i => ((n + i : Nat) : Int) }] := by
  obtain ⟨d, rfl⟩ : ∃ d, n' = n + d := ⟨n' - n, by omega⟩
  clear hle
  rw [Nat.add_sub_cancel_left]
  induction d with
  | zero => rw [List.range_zero, List.map_nil, List.append_nil]; exact h
  | succ d ih =>
    have hk2 := hk (n + d) (by omega) (by omega)
    have h8 := kd_part (p := ix pl (n + d)) (by omega)
    have hop := ((kd_ops h8).2.1).1 hk2
    show cutS (cutF pl (n + d)) (n + d) (ix pl (n + d)) = _
    unfold cutS
    rw [if_neg (by omega), if_pos hop, ih fun j g1 g2 => hk j g1 (by omega), modL_append, List.range_succ, List.map_append]
    simp [List.append_assoc]
/-- How a part ends. -/
structure OutP (pl : List PI) (p f n : Nat) : Prop where
  lo : f ≤ n
  le : n ≤ pl.length
  own : ∀ k, f ≤ k → k < n → partP (ix pl k) = p
  out : p ≠ 1 → InvT pl (p + 1) n
  one : p = 1 → (n = f ∧ (f < pl.length → partP (ix pl f) ≠ 1)) ∨ n = f + 1
theorem OutP.go {p f : Nat} (h : OutP pl p f n) (hT : InvT pl p f) (hne : p = 1 → n ≠ f) : InvT pl (p + 1) n := by
  by_cases e : p = 1
  · subst e
    rcases h.one rfl with ⟨g, _⟩ | g
    · exact absurd g (hne rfl)
    · subst g
      exact hT.model (by have := h.le; omega) (h.own f (Nat.le_refl _) (by omega))
  · exact h.out e
theorem OutP.stop {f : Nat} (h : OutP pl 1 f n) (hT : InvT pl 1 f) (he : n = f) : StopL pl n := by
  rcases h.one rfl with ⟨_, g⟩ | g
  · subst he
    exact hT.nomodel g
  · omega
end Go.Proofs
