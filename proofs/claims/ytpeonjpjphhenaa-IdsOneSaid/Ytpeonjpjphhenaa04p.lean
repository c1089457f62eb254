/-
  The shape of a module, plain: what is wrong with an instruction, how many words it takes.
-/
import Derived.Test.Ytpeonjpjphhenaa03e
namespace Go.Gm
open Go.Gk Go.Proofs

abbrev Fl.ty (f : Fl) : Bool := f.2.1
abbrev Fl.re (f : Fl) : Bool := f.2.2.1
def idP (must : Bool) (n bound e : Int) : Int := if must = (n != 0) then (if must = true ∧ bound ≤ n then 43 else 0) else e
def nul (s : ByteArray) : Bool := s.data.toList.contains 0
/-- What is wrong with an argument where the letter c is. -/
def wrongP (c : Int) (a : Ag) (bound : Int) : Int :=
  if c = 0 ∨ a.1 ≠ kindP c then 42
  else if (a.1 = 3 ∧ a.2.1 ≠ 0) ∨ (a.1 ≠ 3 ∧ a.2.2.size ≠ 0) then 42
  else if a.1 = 1 ∧ (a.2.1 = 0 ∨ bound ≤ a.2.1) then 43
  else if a.1 = 4 ∧ enumP c a.2.1 = false then 31
  else if nul a.2.2 = true then 13 else 0
abbrev ag0 : Ag := (0, 0, bs [])
def werr (g : Fl) (al : List Ag) (bound : Int) (j : Nat) : Int := wrongP (letP g j : Int) (al.getD j ag0) bound
def argK (g : Fl) (al : List Ag) (bound : Int) (k : Nat) : Int := match (List.range k).find? fun j => werr g al bound j != 0 with
  | some j => werr g al bound j
  | none => 0
/-- The first fault of the ids ahead and of the first k arguments. -/
def errK (g : Fl) (ty re : Int) (al : List Ag) (bound : Int) (k : Nat) : Int :=
  if idP g.ty ty bound 40 ≠ 0 then idP g.ty ty bound 40 else if idP g.re re bound 41 ≠ 0 then idP g.re re bound 41 else argK g al bound k
theorem argK_zero (g : Fl) (al : List Ag) (bound : Int) : argK g al bound 0 = 0 := rfl
theorem argK_succ (g : Fl) (al : List Ag) (bound : Int) (k : Nat) : argK g al bound (k + 1) = if argK g al bound k = 0 then werr g al bound k else argK g al bound k := by
  unfold argK
  rw [List.range_succ, List.find?_append]
  cases h : (List.range k).find? fun j => werr g al bound j != 0 with
  | some j =>
    have := List.find?_some h
    simp only [Option.some_or]
    rw [if_neg (by simpa using this)]
  | none =>
    simp only [Option.none_or, if_true]
    by_cases e : werr g al bound k = 0
    · simp [e]
    · simp [e]
theorem errK_succ (g : Fl) (ty re : Int) (al : List Ag) (bound : Int) (k : Nat) : errK g ty re al bound (k + 1) = if errK g ty re al bound k = 0 then werr g al bound k else errK g ty re al bound k := by
  unfold errK
  by_cases h1 : idP g.ty ty bound 40 = 0
  · by_cases h2 : idP g.re re bound 41 = 0
    · simp only [h1, h2, ne_eq, not_true_eq_false, if_false]
      exact argK_succ g al bound k
    · simp [h1, h2]
  · simp [h1]
theorem argK_all {g : Fl} {al : List Ag} {bound : Int} {k : Nat} (h : argK g al bound k = 0) : ∀ j, j < k → werr g al bound j = 0 := by
  intro j hj
  unfold argK at h
  split at h
  · rename_i i hi
    have := List.find?_some hi
    rw [h] at this
    simp at this
  · rename_i hn
    have := List.find?_eq_none.1 hn j (List.mem_range.2 hj)
    simpa using this
theorem errK_all {g : Fl} {ty re : Int} {al : List Ag} {bound : Int} {k : Nat} (h : errK g ty re al bound k = 0) : idP g.ty ty bound 40 = 0 ∧ idP g.re re bound 41 = 0 ∧ argK g al bound k = 0 := by
  unfold errK at h
  split at h
  · rename_i h1; exact absurd h h1
  · rename_i h1
    split at h
    · rename_i h2; exact absurd h h2
    · rename_i h2
      exact ⟨Decidable.not_not.1 h1, Decidable.not_not.1 h2, h⟩
theorem errK_next {g : Fl} {ty re : Int} {al : List Ag} {bound : Int} {k n : Nat} (hk : k ≤ n) (h : errK g ty re al bound k ≠ 0) : errK g ty re al bound n = errK g ty re al bound k := by
  induction n with
  | zero => rw [Nat.le_zero.1 hk]
  | succ n ih =>
    rcases Nat.lt_or_ge k (n + 1) with hlt | hge
    · rw [errK_succ, ih (by omega), if_neg h]
    · rw [Nat.le_antisymm hk hge]
def wholeP (g : Fl) (n : Nat) : Bool := if n < g.fixed.length then false else if g.rest.length = 0 then n == g.fixed.length else (n - g.fixed.length) % g.rest.length == 0
def cost (a : Ag) : Nat := if a.1 = 3 then a.2.2.size / 4 + 1 else 1
def costN (al : List Ag) (k : Nat) : Nat := ((al.take k).map cost).sum
/-- How many words an instruction takes. -/
def roomP (g : Fl) (al : List Ag) : Nat := 1 + (g.ty.toNat + g.re.toNat + costN al al.length)
def faultF (g : Fl) (ty re : Int) (al : List Ag) (bound : Int) : Int :=
  if errK g ty re al bound al.length ≠ 0 then errK g ty re al bound al.length else if wholeP g al.length = false then 42 else if 65535 < roomP g al then 25 else 0
def faultP (op ty re : Int) (al : List Ag) (bound : Int) : Int := match frm op with
  | none => 30
  | some g => faultF g ty re al bound
theorem faultP_none {op ty re : Int} {al : List Ag} {bound : Int} (h : frm op = none) : faultP op ty re al bound = 30 := by unfold faultP; rw [h]
theorem faultP_some {op ty re : Int} {al : List Ag} {bound : Int} {g : Fl} (h : frm op = some g) : faultP op ty re al bound = faultF g ty re al bound := by unfold faultP; rw [h]
theorem costN_succ {al : List Ag} {k : Nat} (hk : k < al.length) : costN al (k + 1) = costN al k + cost al[k] := by
  unfold costN
  rw [List.take_succ_eq_append_getElem hk, List.map_append, List.sum_append]
  simp

/-! ### At most one text -/
def textOk (g : Fl) : Bool := !(g.rest.contains 115) && (List.range g.fixed.length).all fun i => (List.range g.fixed.length).all fun j => !(g.fixed.getD i 0 == 115 && g.fixed.getD j 0 == 115) || i == j
theorem texts_ok : tabR.all (fun p => textOk p.2) = true := by decide +kernel
theorem kindP_three {c : Int} (h : kindP c = 3) : c = 115 := by
  unfold kindP at h
  split at h
  · cases h
  · split at h
    · cases h
    · split at h
      · assumption
      · split at h <;> cases h
theorem letP_text {op : Int} {g : Fl} (hg : frm op = some g) {k : Nat} (h : kindP (letP g k : Int) = 3) : k < g.fixed.length ∧ g.fixed.getD k 0 = 115 := by
  have hc := kindP_three h
  have ht := List.all_eq_true.1 texts_ok _ (look_mem (show Gm.look tabR op = some g from hg))
  simp only [textOk, Bool.and_eq_true, Bool.not_eq_true'] at ht
  unfold letP at hc
  split at hc
  · rename_i hlt
    exact ⟨hlt, UInt8.toNat.inj (show (g.fixed.getD k 0).toNat = 115 by omega)⟩
  · split at hc
    · cases hc
    · split at hc
      · cases hc
      · rename_i h1 h2 h3
        have hlt : (k - g.fixed.length) % g.rest.length < g.rest.length := Nat.mod_lt _ (by omega)
        rw [getD_lt hlt] at hc
        have : g.rest[(k - g.fixed.length) % g.rest.length] = 115 := UInt8.toNat.inj (show _ = 115 by omega)
        have hm := List.getElem_mem hlt
        rw [this] at hm
        have := List.contains_iff_mem.2 hm
        rw [ht.1] at this
        cases this
theorem text_once {op : Int} {g : Fl} (hg : frm op = some g) {i j : Nat} (hi : kindP (letP g i : Int) = 3) (hj : kindP (letP g j : Int) = 3) : i = j := by
  obtain ⟨h1, h2⟩ := letP_text hg hi
  obtain ⟨h3, h4⟩ := letP_text hg hj
  have ht := List.all_eq_true.1 texts_ok _ (look_mem (show Gm.look tabR op = some g from hg))
  simp only [textOk, Bool.and_eq_true] at ht
  have := List.all_eq_true.1 (List.all_eq_true.1 ht.2 i (List.mem_range.2 h1)) j (List.mem_range.2 h3)
  rw [h2, h4] at this
  simpa using this
def tx (al : List Ag) (k : Nat) : Nat := ((al.take k).map fun a => if a.1 = 3 then 1 else 0).sum
theorem tx_succ {al : List Ag} {k : Nat} (hk : k < al.length) : tx al (k + 1) = tx al k + (if al[k].1 = 3 then 1 else 0) := by
  unfold tx
  rw [List.take_succ_eq_append_getElem hk, List.map_append, List.sum_append]
  simp
theorem tx_zero {al : List Ag} : ∀ {k : Nat}, k ≤ al.length → (∀ j (hj : j < al.length), j < k → al[j].1 ≠ 3) → tx al k = 0
  | 0, _, _ => by simp [tx]
  | k + 1, hk, h => by
    rw [tx_succ (by omega), tx_zero (k := k) (by omega) (fun j hj hjk => h j hj (by omega)), if_neg (h k (by omega) (by omega))]
theorem wrong_kind {c : Int} {a : Ag} {bound : Int} (h : wrongP c a bound = 0) : c ≠ 0 ∧ a.1 = kindP c := by
  unfold wrongP at h
  split at h
  · cases h
  · rename_i h1
    constructor
    · intro e; exact h1 (.inl e)
    · exact Classical.byContradiction fun e => h1 (.inr e)
theorem tx_one {op : Int} {g : Fl} (hg : frm op = some g) {al : List Ag} {bound : Int} : ∀ {k : Nat}, k ≤ al.length → (∀ j, j < k → werr g al bound j = 0) → tx al k ≤ 1
  | 0, _, _ => by simp [tx]
  | k + 1, hk, h => by
    rw [tx_succ (by omega)]
    split
    · rename_i h3
      have hz : tx al k = 0 := by
        refine tx_zero (by omega) fun j hj hjk e => ?_
        have a1 := (wrong_kind (h j (by omega))).2
        have a2 := (wrong_kind (h k (by omega))).2
        rw [getD_lt hj] at a1
        rw [getD_lt (by omega)] at a2
        have := text_once hg (a1.symm.trans e) (a2.symm.trans h3)
        omega
      omega
    · have := tx_one hg (k := k) (by omega) fun j hj => h j (by omega)
      omega
theorem costN_le {al : List Ag} (hs : ∀ x ∈ al, x.2.2.size ≤ 9223372036854775807) : ∀ {k : Nat}, k ≤ al.length → costN al k ≤ k + 2305843009213693952 * tx al k
  | 0, _ => by simp [costN]
  | k + 1, hk => by
    have := costN_le hs (k := k) (by omega)
    rw [costN_succ (by omega), tx_succ (by omega)]
    have h1 := hs _ (List.getElem_mem (show k < al.length by omega))
    unfold cost
    split <;> omega
theorem costN_ge {al : List Ag} : ∀ {k : Nat}, k ≤ al.length → k ≤ costN al k
  | 0, _ => Nat.zero_le _
  | k + 1, hk => by
    have := costN_ge (al := al) (k := k) (by omega)
    rw [costN_succ (by omega)]
    unfold cost
    split <;> omega
/-- What fits, where no argument is wrong. -/
theorem fit_whole {op : Int} {g : Fl} (hg : frm op = some g) {al : List Ag} {bound : Int} (h : ∀ j, j < al.length → werr g al bound j = 0) : (fitP op (al.map (·.1))).2 = wholeP g al.length := by
  have hb : ∀ j, j < (al.map (·.1)).length → bad g (al.map (·.1)) j = false := by
    intro j hj
    have hj' : j < al.length := by simpa using hj
    obtain ⟨h1, h2⟩ := wrong_kind (h j hj')
    rw [getD_lt hj'] at h2
    unfold bad
    rw [getD_lt hj, List.getElem_map, h2]
    have := letP_kind hg (k := j) (by omega)
    simp [this]
  rw [fitP_some hg, fit_good hb, List.length_map]
  have hz : g.rest.length = 0 → al.length ≤ g.fixed.length := by
    intro h0
    refine Classical.byContradiction fun hgt => ?_
    have := (wrong_kind (h g.fixed.length (by omega))).1
    apply this
    unfold letP
    rw [if_neg (by omega), if_pos h0]
    rfl
  unfold wholeP wrongLen
  by_cases h1 : al.length < g.fixed.length
  · rw [if_pos h1, decide_eq_true h1, Bool.true_or, if_pos rfl]
  · rw [if_neg h1, decide_eq_false h1, Bool.false_or]
    by_cases h2 : g.rest.length = 0
    · have h3 : al.length = g.fixed.length := by have := hz h2; omega
      rw [if_pos h2, decide_eq_false (by omega), Bool.false_and, h3]
      simp
    · rw [if_neg h2, decide_eq_true h2, Bool.true_and]
      by_cases h3 : (al.length - g.fixed.length) % g.rest.length = 0
      · rw [h3]; rfl
      · rw [decide_eq_true h3, if_pos rfl]
        exact (beq_eq_false_iff_ne.2 h3).symm

/-! ### The whole module -/
def faultI (p : PI) (bound : Int) : Int := faultP p.1 p.2.1 p.2.2.1 p.2.2.2 bound
def roomI (p : PI) : Nat := match frm p.1 with
  | none => 0
  | some g => roomP g p.2.2.2
def totP (pl : List PI) (k : Nat) : Nat := 5 + ((pl.take k).map roomI).sum
theorem totP_succ {pl : List PI} {k : Nat} (hk : k < pl.length) : totP pl (k + 1) = totP pl k + roomI pl[k] := by
  unfold totP
  rw [List.take_succ_eq_append_getElem hk, List.map_append, List.sum_append]
  simp
  omega
abbrev pi0 : PI := (0, 0, 0, [])
def badI (pl : List PI) (bound : Int) (k : Nat) : Bool := faultI (pl.getD k pi0) bound != 0 || decide (1048576 < totP pl (k + 1))
def shapeP (bound : Int) (pl : List PI) : Int × Nat :=
  if bound = 0 ∨ 65536 < bound then (24, 0) else match (List.range pl.length).find? (badI pl bound) with
    | some k => (if faultI (pl.getD k pi0) bound ≠ 0 then faultI (pl.getD k pi0) bound else 4, k)
    | none => (0, 0)
theorem shape_bound {bound : Int} {pl : List PI} (h : bound = 0 ∨ 65536 < bound) : shapeP bound pl = (24, 0) := by unfold shapeP; rw [if_pos h]
theorem shape_fault {bound : Int} {pl : List PI} (h : ¬ (bound = 0 ∨ 65536 < bound)) {k : Nat} (hk : k < pl.length) (hj : ∀ j, j < k → badI pl bound j = false) (hf : faultI pl[k] bound ≠ 0) : shapeP bound pl = (faultI pl[k] bound, k) := by
  unfold shapeP
  rw [if_neg h, find_first hk (by unfold badI; rw [getD_lt hk, bne_iff_ne.2 hf]; rfl) hj]
  simp only [getD_lt hk]
  rw [if_pos hf]
theorem shape_large {bound : Int} {pl : List PI} (h : ¬ (bound = 0 ∨ 65536 < bound)) {k : Nat} (hk : k < pl.length) (hj : ∀ j, j < k → badI pl bound j = false) (hf : faultI pl[k] bound = 0) (ht : 1048576 < totP pl (k + 1)) : shapeP bound pl = (4, k) := by
  unfold shapeP
  rw [if_neg h, find_first hk (by unfold badI; rw [decide_eq_true ht, Bool.or_true]) hj]
  simp only [getD_lt hk]
  rw [if_neg (by rw [hf]; simp)]
theorem shape_good {bound : Int} {pl : List PI} (h : ¬ (bound = 0 ∨ 65536 < bound)) (hj : ∀ j, j < pl.length → badI pl bound j = false) : shapeP bound pl = (0, 0) := by
  unfold shapeP
  rw [if_neg h]
  have : (List.range pl.length).find? (badI pl bound) = none := by
    rw [List.find?_eq_none]
    intro j hj'
    rw [hj j (List.mem_range.1 hj')]
    simp
  rw [this]
theorem badI_false {pl : List PI} {bound : Int} {k : Nat} (hk : k < pl.length) (hf : faultI pl[k] bound = 0) (ht : ¬ 1048576 < totP pl (k + 1)) : badI pl bound k = false := by
  unfold badI
  rw [getD_lt hk, hf, decide_eq_false ht]
  rfl
/-- Of a module of good shape. -/
theorem shape_ok {bound : Int} {pl : List PI} (h : (shapeP bound pl).1 = 0) : ¬ (bound = 0 ∨ 65536 < bound) ∧ ∀ k (hk : k < pl.length), faultI pl[k] bound = 0 := by
  unfold shapeP at h
  split at h
  · cases h
  · rename_i hb
    refine ⟨hb, fun k hk => ?_⟩
    split at h
    · rename_i j hj
      dsimp only at h
      split at h
      · rename_i hf; exact absurd h hf
      · cases h
    · rename_i hn
      have := List.find?_eq_none.1 hn k (List.mem_range.2 hk)
      unfold badI at this
      rw [getD_lt hk] at this
      simp only [Bool.or_eq_true, not_or, bne_iff_ne, ne_eq, Decidable.not_not] at this
      exact this.1
theorem bytes_empty (x : ByteArray) : (x.toList == (ByteArray.mk #[]).toList) = decide (x.size = 0) := by
  obtain ⟨a⟩ := x
  have := toList_nil (a := a.toList)
  unfold bs at this
  rw [Array.toArray_toList] at this
  rw [this]
  simp only [ByteArray.size]
  rw [Bool.eq_iff_iff, List.isEmpty_iff, decide_eq_true_iff]
  constructor
  · intro h; rw [← Array.length_toList, h]; rfl
  · intro h; exact List.eq_nil_of_length_eq_zero (by rw [Array.length_toList]; exact h)
end Go.Gm
