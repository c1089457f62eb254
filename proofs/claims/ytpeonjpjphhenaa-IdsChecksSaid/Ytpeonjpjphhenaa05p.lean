/-
  layout, plain: parts, kinds, what may stand where; what the document says of a place, and what is known of a prefix.
-/
import Derived.Test.Ytpeonjpjphhenaa04p
namespace Go.Proofs
open Go.Gk Go.RowKit Go.Gm

/-! ### Parts and kinds -/
def isVar (p : PI) : Bool := p.1 == 59 && (match p.2.2.2 with | [] => false | a :: _ => a.2.1 == 7)
def partO (op : Int) : Nat := match frm op with
  | some g => g.2.2.2.2.2.2
  | none => 0
def partP (p : PI) : Nat := if isVar p then 8 else partO p.1
theorem parts_ok : tabR.all (fun p => decide (p.2.2.2.2.2.2.2 ≤ 8)) = true := by decide +kernel
theorem partO_le (op : Int) : partO op ≤ 8 := by
  unfold partO
  cases h : frm op with
  | none => exact Nat.zero_le _
  | some g => exact of_decide_eq_true (List.all_eq_true.1 parts_ok _ (look_mem h))
theorem partP_le (p : PI) : partP p ≤ 8 := by
  unfold partP
  split
  · exact Nat.le_refl _
  · exact partO_le _
def endsP (op : Int) : Bool := decide (249 ≤ op ∧ op ≤ 255)
def kdP (p : PI) : Int :=
  if partP p ≠ 8 then 9 else if p.1 = 54 then 1 else if p.1 = 55 then 2 else if p.1 = 56 then 8 else if p.1 = 248 then 3 else if p.1 = 245 then 4
  else if p.1 = 59 then 5 else if p.1 = 246 then 6 else if p.1 = 247 then 6 else if endsP p.1 = true then 7 else 0
def opMay (op ah : Int) (fi : Bool) : Bool :=
  if op = 54 then ah == 0 || ah == 56
  else if op = 55 then ah == 54 || ah == 55
  else if op = 248 then ah == 54 || ah == 55 || endsP ah
  else if op = 56 then endsP ah
  else if ah = 0 ∨ ah = 54 ∨ ah = 55 ∨ ah = 56 ∨ endsP ah = true then false
  else if op = 245 then (ah == 248 || ah == 245) && !fi
  else if op = 59 then (ah == 248 || ah == 59) && fi
  else if ah = 246 then op == 249 || op == 250
  else if ah = 247 then op == 250 || op == 251
  else true
abbrev ix (pl : List PI) (k : Nat) : PI := pl.getD k pi0
def aheadP (pl : List PI) : Nat → Int
  | 0 => 0
  | n + 1 => if partP (ix pl n) = 8 then (ix pl n).1 else 0
def firstP (pl : List PI) : Nat → Bool
  | 0 => false
  | n + 1 => if (ix pl (n + 1)).1 = 248 then (ix pl n).1 == 54 || (ix pl n).1 == 55 else firstP pl n
def mdlP (pl : List PI) (n : Nat) : Bool := (List.range n).any fun k => partP (ix pl k) == 1
def overP (pl : List PI) (n : Nat) : Bool := (List.range n).any fun k => decide (partP (ix pl n) < partP (ix pl k))
def mayP (pl : List PI) (n : Nat) : Bool :=
  if overP pl n = true then false
  else if partP (ix pl n) = 1 then !mdlP pl n
  else if 1 < partP (ix pl n) ∧ mdlP pl n = false then false
  else if partP (ix pl n) < 8 then true
  else opMay (ix pl n).1 (aheadP pl n) (firstP pl (n - 1))
def openP (pl : List PI) : Bool := !mdlP pl pl.length || (decide (0 < pl.length) && partP (ix pl (pl.length - 1)) == 8 && (ix pl (pl.length - 1)).1 != 56)
def chkP (pl : List PI) : Int × Nat := match (List.range pl.length).find? (fun k => !mayP pl k) with
  | some k => (50, k)
  | none => if openP pl = true then (51, pl.length) else (0, 0)
def layP (bound : Int) (pl : List PI) : Int × Nat := if (shapeP bound pl).1 ≠ 0 then shapeP bound pl else chkP pl
def GoodL (pl : List PI) (n : Nat) : Prop := ∀ k, k < n → mayP pl k = true

/-! ### What is known of a prefix -/
theorem mdlP_iff {pl : List PI} {n : Nat} : mdlP pl n = true ↔ ∃ k, k < n ∧ partP (ix pl k) = 1 := by
  unfold mdlP
  simp [List.any_eq_true]
theorem mdlP_mono {pl : List PI} {n m : Nat} (h : mdlP pl n = true) (hnm : n ≤ m) : mdlP pl m = true := by
  obtain ⟨k, h1, h2⟩ := mdlP_iff.1 h
  exact mdlP_iff.2 ⟨k, by omega, h2⟩
theorem mdlP_none {pl : List PI} {n : Nat} (h : ∀ k, k < n → partP (ix pl k) ≠ 1) : mdlP pl n = false := by
  cases e : mdlP pl n
  · rfl
  · obtain ⟨k, h1, h2⟩ := mdlP_iff.1 e
    exact absurd h2 (h k h1)
theorem overP_iff {pl : List PI} {n : Nat} : overP pl n = true ↔ ∃ k, k < n ∧ partP (ix pl n) < partP (ix pl k) := by
  unfold overP
  simp [List.any_eq_true]
theorem may_over {pl : List PI} {n k : Nat} (hk : k < n) (h : partP (ix pl n) < partP (ix pl k)) : mayP pl n = false := by
  unfold mayP
  rw [if_pos (overP_iff.2 ⟨k, hk, h⟩)]
theorem not_over {pl : List PI} {n : Nat} (h : ∀ k, k < n → partP (ix pl k) ≤ partP (ix pl n)) : ¬ overP pl n = true := fun e => by
  obtain ⟨k, h1, h2⟩ := overP_iff.1 e
  have := h k h1
  omega
theorem may_low {pl : List PI} {n : Nat} (h : ∀ k, k < n → partP (ix pl k) ≤ partP (ix pl n)) (h1 : partP (ix pl n) = 1 → mdlP pl n = false) (h2 : 1 < partP (ix pl n) → mdlP pl n = true) (h8 : partP (ix pl n) < 8) :
    mayP pl n = true := by
  unfold mayP
  rw [if_neg (not_over h)]
  by_cases e : partP (ix pl n) = 1
  · rw [if_pos e, h1 e]
    rfl
  · rw [if_neg e, if_neg (fun ⟨g1, g2⟩ => by rw [h2 g1] at g2; cases g2), if_pos h8]
theorem may_nomodel {pl : List PI} {n : Nat} (h : mdlP pl n = false) (h1 : 1 < partP (ix pl n)) : mayP pl n = false := by
  unfold mayP
  by_cases e : overP pl n = true
  · rw [if_pos e]
  · rw [if_neg e, if_neg (by omega), if_pos ⟨h1, h⟩]
theorem may_again {pl : List PI} {n : Nat} (h : mdlP pl n = true) (h1 : partP (ix pl n) = 1) : mayP pl n = false := by
  unfold mayP
  by_cases e : overP pl n = true
  · rw [if_pos e]
  · rw [if_neg e, if_pos h1, h]
    rfl
theorem may_eight {pl : List PI} {n : Nat} (h : mdlP pl n = true) (h8 : partP (ix pl n) = 8) : mayP pl n = opMay (ix pl n).1 (aheadP pl n) (firstP pl (n - 1)) := by
  unfold mayP
  rw [if_neg (not_over fun k hk => by rw [h8]; exact partP_le _), if_neg (by omega), if_neg (fun ⟨_, g⟩ => by rw [h] at g; cases g), if_neg (by omega)]
theorem GoodL.step {pl : List PI} {n : Nat} (h : GoodL pl n) (hn : mayP pl n = true) : GoodL pl (n + 1) := fun k hk => by
  by_cases e : k = n
  · subst e; exact hn
  · exact h k (by omega)
theorem chk_bad {pl : List PI} {n : Nat} (hg : GoodL pl n) (hn : n < pl.length) (hm : mayP pl n = false) : chkP pl = (50, n) := by
  unfold chkP
  rw [find_first hn (by rw [hm]; rfl) fun j hj => by rw [hg j hj]; rfl]
theorem chk_end {pl : List PI} (hg : GoodL pl pl.length) : chkP pl = if openP pl = true then (51, pl.length) else (0, 0) := by
  unfold chkP
  have : (List.range pl.length).find? (fun k => !mayP pl k) = none := by
    rw [List.find?_eq_none]
    intro j hj
    rw [hg j (List.mem_range.1 hj)]
    simp
  rw [this]
/-- A place that is known to be the first at which a module stops standing in order. -/
def StopL (pl : List PI) (n : Nat) : Prop := n ≤ pl.length ∧ GoodL pl n ∧ (n < pl.length → mayP pl n = false) ∧ (n = pl.length → openP pl = true)
theorem StopL.chk {pl : List PI} {n : Nat} (h : StopL pl n) : chkP pl = (if n < pl.length then 50 else 51, n) := by
  obtain ⟨h1, h2, h3, h4⟩ := h
  by_cases e : n < pl.length
  · rw [if_pos e]
    exact chk_bad h2 e (h3 e)
  · have : n = pl.length := by omega
    subst this
    rw [if_neg e, chk_end h2, if_pos (h4 rfl)]
theorem open_nomodel {pl : List PI} (h : mdlP pl pl.length = false) : openP pl = true := by
  unfold openP
  rw [h]
  rfl

/-! ### The parts ahead of the functions -/
structure InvT (pl : List PI) (p n : Nat) : Prop where
  le : n ≤ pl.length
  good : GoodL pl n
  low : ∀ k, k < n → partP (ix pl k) < p
  mdl : 2 ≤ p → mdlP pl n = true
  stuck : n < pl.length → partP (ix pl n) < p → mayP pl n = false
theorem InvT.zero (pl : List PI) : InvT pl 0 0 := ⟨Nat.zero_le _, fun k hk => by omega, fun k hk => by omega, fun h => by omega, fun _ h => by omega⟩
/-- Within a part, from behind its beginning on. -/
structure InvP (pl : List PI) (p from' n : Nat) : Prop where
  le : n ≤ pl.length
  lo : from' ≤ n
  good : GoodL pl n
  own : ∀ k, from' ≤ k → k < n → partP (ix pl k) = p
  one : p = 1 → n = from'
theorem InvT.into {pl : List PI} {p n : Nat} (h : InvT pl p n) : InvP pl p n n := ⟨h.le, Nat.le_refl _, h.good, fun k h1 h2 => by omega, fun _ => rfl⟩
theorem InvP.may {pl : List PI} {p f n : Nat} (h : InvP pl p f n) (hT : InvT pl p f) (hp8 : p < 8) (hpart : partP (ix pl n) = p) : mayP pl n = true := by
  refine may_low (fun k hk => ?_) (fun e => ?_) (fun e => ?_) (by omega)
  · rw [hpart]
    by_cases hkf : k < f
    · exact Nat.le_of_lt (hT.low k hkf)
    · exact Nat.le_of_eq (h.own k (by omega) hk)
  · have hp1 : p = 1 := by omega
    have hnf := h.one hp1
    refine mdlP_none fun k hk => ?_
    have := hT.low k (by omega)
    omega
  · exact mdlP_mono (hT.mdl (by omega)) h.lo
theorem InvP.step {pl : List PI} {p f n : Nat} (h : InvP pl p f n) (hT : InvT pl p f) (hp8 : p < 8) (hn : n < pl.length) (hpart : partP (ix pl n) = p) (h1 : p ≠ 1) : InvP pl p f (n + 1) :=
  ⟨by omega, by have := h.lo; omega, h.good.step (h.may hT hp8 hpart), fun k k1 k2 => by
    by_cases e : k = n
    · subst e; exact hpart
    · exact h.own k k1 (by omega), fun e => absurd e h1⟩
/-- The part ends at n: nothing more of it, or its only one has been taken. -/
theorem InvP.out {pl : List PI} {p f n : Nat} (h : InvP pl p f n) (hT : InvT pl p f) (h1 : p ≠ 1) (hne : n < pl.length → partP (ix pl n) ≠ p) : InvT pl (p + 1) n :=
  ⟨h.le, h.good, fun k hk => by
    by_cases hkf : k < f
    · have := hT.low k hkf; omega
    · have := h.own k (by omega) hk; omega, fun h2 => mdlP_mono (hT.mdl (by omega)) h.lo, fun hn hlt => by
    by_cases e : n = f
    · subst e
      exact hT.stuck hn (by have := hne hn; omega)
    · refine may_over (k := n - 1) (by have := h.lo; omega) ?_
      rw [h.own (n - 1) (by have := h.lo; omega) (by have := h.lo; omega)]
      have := hne hn
      omega⟩
theorem InvT.model {pl : List PI} {n : Nat} (hT : InvT pl 1 n) (hn : n < pl.length) (hpart : partP (ix pl n) = 1) : InvT pl 2 (n + 1) := by
  have hm : mdlP pl (n + 1) = true := mdlP_iff.2 ⟨n, by omega, hpart⟩
  refine ⟨by omega, hT.good.step (hT.into.may hT (by omega) hpart), fun k hk => ?_, fun _ => hm, fun h1 h2 => ?_⟩
  · by_cases e : k = n
    · subst e; omega
    · have := hT.low k (by omega); omega
  · rcases Nat.lt_or_ge (partP (ix pl (n + 1))) 1 with h | h
    · exact may_over (k := n) (by omega) (by omega)
    · exact may_again hm (by omega)
theorem InvT.nomodel {pl : List PI} {n : Nat} (hT : InvT pl 1 n) (hne : n < pl.length → partP (ix pl n) ≠ 1) : StopL pl n := by
  have hm : mdlP pl n = false := mdlP_none fun k hk => by have := hT.low k hk; omega
  refine ⟨hT.le, hT.good, fun hn => ?_, fun e => ?_⟩
  · rcases Nat.lt_or_ge (partP (ix pl n)) 1 with h | h
    · exact hT.stuck hn h
    · exact may_nomodel hm (by have := hne hn; omega)
  · subst e
    exact open_nomodel hm

/-! ### The functions -/
/-- Between functions. -/
structure InvO (pl : List PI) (n : Nat) : Prop where
  le : n ≤ pl.length
  good : GoodL pl n
  mdl : mdlP pl n = true
  ah : aheadP pl n = 0 ∨ aheadP pl n = 56
  stuck : n < pl.length → partP (ix pl n) ≠ 8 → mayP pl n = false
  shut : n = pl.length → openP pl = false
theorem ahead_succ {pl : List PI} {n : Nat} (h : partP (ix pl n) = 8) : aheadP pl (n + 1) = (ix pl n).1 := if_pos h
theorem InvT.fun {pl : List PI} {n : Nat} (h : InvT pl 8 n) : InvO pl n := by
  have h0 : aheadP pl n = 0 := by
    cases n with
    | zero => rfl
    | succ m => exact if_neg (by have := h.low m (by omega); omega)
  refine ⟨h.le, h.good, h.mdl (by omega), .inl h0, fun hn h8 => h.stuck hn (by have := partP_le (ix pl n); omega), fun e => ?_⟩
  subst e
  unfold openP
  rw [h.mdl (by omega)]
  cases hl : pl.length with
  | zero => rfl
  | succ m =>
    have := h.low m (by omega)
    rw [Nat.add_sub_cancel, beq_eq_false_iff_ne.2 (show partP (ix pl m) ≠ 8 by omega)]
    simp
/-- Within functions: the last one's operation is ah. -/
structure InvF (pl : List PI) (n : Nat) (ah : Int) : Prop where
  le : n ≤ pl.length
  good : GoodL pl n
  mdl : mdlP pl n = true
  pos : 0 < n
  part : partP (ix pl (n - 1)) = 8
  op : (ix pl (n - 1)).1 = ah
theorem InvF.ah {pl : List PI} {n : Nat} {ah : Int} (h : InvF pl n ah) : aheadP pl n = ah := by
  obtain ⟨m, rfl⟩ : ∃ m, n = m + 1 := ⟨n - 1, by have := h.pos; omega⟩
  have := ahead_succ (n := m) h.part
  rw [this]
  exact h.op
theorem InvF.step {pl : List PI} {n : Nat} {ah : Int} (h : InvF pl n ah) (hn : n < pl.length) (h8 : partP (ix pl n) = 8) (hm : opMay (ix pl n).1 ah (firstP pl (n - 1)) = true) : InvF pl (n + 1) (ix pl n).1 :=
  ⟨by omega, h.good.step (by rw [may_eight h.mdl h8, h.ah]; exact hm), mdlP_mono h.mdl (by omega), by omega, h8, rfl⟩
theorem InvF.bad {pl : List PI} {n : Nat} {ah : Int} (h : InvF pl n ah) (h56 : ah ≠ 56) (hb : n < pl.length → partP (ix pl n) = 8 → opMay (ix pl n).1 ah (firstP pl (n - 1)) = false) : StopL pl n := by
  refine ⟨h.le, h.good, fun hn => ?_, fun e => ?_⟩
  · by_cases h8 : partP (ix pl n) = 8
    · rw [may_eight h.mdl h8, h.ah]
      exact hb hn h8
    · refine may_over (k := n - 1) (by have := h.pos; omega) ?_
      rw [h.part]
      have := partP_le (ix pl n)
      omega
  · subst e
    unfold openP
    rw [h.part, h.op, h.mdl]
    have := h.pos
    simp [this, h56]
theorem InvF.end {pl : List PI} {n : Nat} (h : InvF pl n 56) : InvO pl n := by
  refine ⟨h.le, h.good, h.mdl, .inr h.ah, fun hn h8 => ?_, fun e => ?_⟩
  · refine may_over (k := n - 1) (by have := h.pos; omega) ?_
    rw [h.part]
    have := partP_le (ix pl n)
    omega
  · subst e
    unfold openP
    rw [h.part, h.op, h.mdl]
    simp
theorem InvO.begin {pl : List PI} {n : Nat} (h : InvO pl n) (hn : n < pl.length) (h8 : partP (ix pl n) = 8) (hop : (ix pl n).1 = 54) : InvF pl (n + 1) 54 := by
  refine ⟨by omega, h.good.step ?_, mdlP_mono h.mdl (by omega), by omega, h8, hop⟩
  rw [may_eight h.mdl h8, hop]
  rcases h.ah with e | e <;> rw [e] <;> rfl
theorem InvO.bad {pl : List PI} {n : Nat} (h : InvO pl n) (hn : n < pl.length) (hk : kdP (ix pl n) ≠ 1) : StopL pl n := by
  refine ⟨h.le, h.good, fun _ => ?_, fun e => by omega⟩
  by_cases h8 : partP (ix pl n) = 8
  · rw [may_eight h.mdl h8]
    have hop : (ix pl n).1 ≠ 54 := fun e => hk (by unfold kdP; rw [if_neg (fun hh => hh h8), if_pos e])
    have : aheadP pl n = 0 ∨ aheadP pl n = 54 ∨ aheadP pl n = 55 ∨ aheadP pl n = 56 ∨ endsP (aheadP pl n) = true := by rcases h.ah with e | e <;> simp [e]
    unfold opMay
    rw [if_neg hop]
    by_cases e1 : (ix pl n).1 = 55
    · rw [if_pos e1]; rcases h.ah with e | e <;> rw [e] <;> rfl
    · rw [if_neg e1]
      by_cases e2 : (ix pl n).1 = 248
      · rw [if_pos e2]; rcases h.ah with e | e <;> rw [e] <;> rfl
      · rw [if_neg e2]
        by_cases e3 : (ix pl n).1 = 56
        · rw [if_pos e3]; rcases h.ah with e | e <;> rw [e] <;> rfl
        · rw [if_neg e3, if_pos this]
  · exact h.stuck hn h8
end Go.Proofs
