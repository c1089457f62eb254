/-
  Part 3 of what ConstsParts is proved by: functions walked, and what they come to.
-/
import Derived.Test.YtlcgbhhpaebpbaaGreatDoorProg
import Derived.Lib.Bytealg
import Derived.Laws.CopyRow
import Derived.Maps.RangeRun
import Derived.ScopeJumps
import Derived.Test.YtlcgbhhpaebpbaaGreatDoorPConstsParts2
namespace Go.Gm
open Go.Gk Go.Proofs

abbrev Fl.ty (f : Fl) : Bool := f.2.1
abbrev Fl.re (f : Fl) : Bool := f.2.2.1
def idP (must : Bool) (n bound e : Int) : Int := if must = (n != 0) then (if must = true ∧ bound ≤ n then 43 else 0) else e
def nul (s : ByteArray) : Bool := s.data.toList.contains 0
/-- What is wrong with an argument where the letter c is. -/
def wrongP (c : Int) (a : Ag) (bound : Int) : Int :=
  if c = 0 ∨ a.1 ≠ kindP c then 42
  else if (a.1 = 3 ∧ a.2.1 ≠ 0) ∨ (a.1 ≠ 3 ∧ a.2.2.size ≠ 0) then 42
  else if a.1 = 1 ∧ (a.2.1 = 0 ∨ bound ≤ a.2.1) then 43
  else if a.1 = 4 ∧ enumP c a.2.1 = false then 31
  else if nul a.2.2 = true then 13 else 0
abbrev ag0 : Ag := (0, 0, bs [])
def werr (g : Fl) (al : List Ag) (bound : Int) (j : Nat) : Int := wrongP (letP g j : Int) (al.getD j ag0) bound
def argK (g : Fl) (al : List Ag) (bound : Int) (k : Nat) : Int := match (List.range k).find? fun j => werr g al bound j != 0 with
  | some j => werr g al bound j
  | none => 0
/-- The first fault of the ids ahead and of the first k arguments. -/
def errK (g : Fl) (ty re : Int) (al : List Ag) (bound : Int) (k : Nat) : Int :=
  if idP g.ty ty bound 40 ≠ 0 then idP g.ty ty bound 40 else if idP g.re re bound 41 ≠ 0 then idP g.re re bound 41 else argK g al bound k
theorem argK_zero (g : Fl) (al : List Ag) (bound : Int) : argK g al bound 0 = 0 := rfl
theorem argK_succ (g : Fl) (al : List Ag) (bound : Int) (k : Nat) : argK g al bound (k + 1) = if argK g al bound k = 0 then werr g al bound k else argK g al bound k := by
  unfold argK
  rw [List.range_succ, List.find?_append]
  cases h : (List.range k).find? fun j => werr g al bound j != 0 with
  | some j =>
    have := List.find?_some h
    simp only [Option.some_or]
    rw [if_neg (by simpa using this)]
  | none =>
    simp only [Option.none_or, if_true]
    by_cases e : werr g al bound k = 0
    · simp [e]
    · simp [e]
theorem errK_succ (g : Fl) (ty re : Int) (al : List Ag) (bound : Int) (k : Nat) : errK g ty re al bound (k + 1) = if errK g ty re al bound k = 0 then werr g al bound k else errK g ty re al bound k := by
  unfold errK
  by_cases h1 : idP g.ty ty bound 40 = 0
  · by_cases h2 : idP g.re re bound 41 = 0
    · simp only [h1, h2, ne_eq, not_true_eq_false, if_false]
      exact argK_succ g al bound k
    · simp [h1, h2]
  · simp [h1]
theorem argK_all {g : Fl} {al : List Ag} {bound : Int} {k : Nat} (h : argK g al bound k = 0) : ∀ j, j < k → werr g al bound j = 0 := by
  intro j hj
  unfold argK at h
  split at h
  · rename_i i hi
    have := List.find?_some hi
    rw [h] at this
    simp at this
  · rename_i hn
    have := List.find?_eq_none.1 hn j (List.mem_range.2 hj)
    simpa using this
theorem errK_all {g : Fl} {ty re : Int} {al : List Ag} {bound : Int} {k : Nat} (h : errK g ty re al bound k = 0) : idP g.ty ty bound 40 = 0 ∧ idP g.re re bound 41 = 0 ∧ argK g al bound k = 0 := by
  unfold errK at h
  split at h
  · rename_i h1; exact absurd h h1
  · rename_i h1
    split at h
    · rename_i h2; exact absurd h h2
    · rename_i h2
      exact ⟨Decidable.not_not.1 h1, Decidable.not_not.1 h2, h⟩
def wholeP (g : Fl) (n : Nat) : Bool := if n < g.fixed.length then false else if g.rest.length = 0 then n == g.fixed.length else (n - g.fixed.length) % g.rest.length == 0
def cost (a : Ag) : Nat := if a.1 = 3 then a.2.2.size / 4 + 1 else 1
def costN (al : List Ag) (k : Nat) : Nat := ((al.take k).map cost).sum
/-- How many words an instruction takes. -/
def roomP (g : Fl) (al : List Ag) : Nat := 1 + (g.ty.toNat + g.re.toNat + costN al al.length)
def faultF (g : Fl) (ty re : Int) (al : List Ag) (bound : Int) : Int :=
  if errK g ty re al bound al.length ≠ 0 then errK g ty re al bound al.length else if wholeP g al.length = false then 42 else if 65535 < roomP g al then 25 else 0
def faultP (op ty re : Int) (al : List Ag) (bound : Int) : Int := match frm op with
  | none => 30
  | some g => faultF g ty re al bound
theorem faultP_none {op ty re : Int} {al : List Ag} {bound : Int} (h : frm op = none) : faultP op ty re al bound = 30 := by unfold faultP; rw [h]
theorem faultP_some {op ty re : Int} {al : List Ag} {bound : Int} {g : Fl} (h : frm op = some g) : faultP op ty re al bound = faultF g ty re al bound := by unfold faultP; rw [h]
theorem costN_succ {al : List Ag} {k : Nat} (hk : k < al.length) : costN al (k + 1) = costN al k + cost al[k] := by
  unfold costN
  rw [List.take_succ_eq_append_getElem hk, List.map_append, List.sum_append]
  simp

def textOk (g : Fl) : Bool := !(g.rest.contains 115) && (List.range g.fixed.length).all fun i => (List.range g.fixed.length).all fun j => !(g.fixed.getD i 0 == 115 && g.fixed.getD j 0 == 115) || i == j
theorem texts_ok : tabR.all (fun p => textOk p.2) = true := by decide +kernel
theorem kindP_three {c : Int} (h : kindP c = 3) : c = 115 := by
  unfold kindP at h
  split at h
  · cases h
  · split at h
    · cases h
    · split at h
      · assumption
      · split at h <;> cases h
theorem letP_text {op : Int} {g : Fl} (hg : frm op = some g) {k : Nat} (h : kindP (letP g k : Int) = 3) : k < g.fixed.length ∧ g.fixed.getD k 0 = 115 := by
  have hc := kindP_three h
  have ht := List.all_eq_true.1 texts_ok _ (look_mem (show Gm.look tabR op = some g from hg))
  simp only [textOk, Bool.and_eq_true, Bool.not_eq_true'] at ht
  unfold letP at hc
  split at hc
  · rename_i hlt
    exact ⟨hlt, UInt8.toNat.inj (show (g.fixed.getD k 0).toNat = 115 by omega)⟩
  · split at hc
    · cases hc
    · split at hc
      · cases hc
      · rename_i h1 h2 h3
        have hlt : (k - g.fixed.length) % g.rest.length < g.rest.length := Nat.mod_lt _ (by omega)
        rw [getD_lt hlt] at hc
        have : g.rest[(k - g.fixed.length) % g.rest.length] = 115 := UInt8.toNat.inj (show _ = 115 by omega)
        have hm := List.getElem_mem hlt
        rw [this] at hm
        have := List.contains_iff_mem.2 hm
        rw [ht.1] at this
        cases this
theorem text_once {op : Int} {g : Fl} (hg : frm op = some g) {i j : Nat} (hi : kindP (letP g i : Int) = 3) (hj : kindP (letP g j : Int) = 3) : i = j := by
  obtain ⟨h1, h2⟩ := letP_text hg hi
  obtain ⟨h3, h4⟩ := letP_text hg hj
  have ht := List.all_eq_true.1 texts_ok _ (look_mem (show Gm.look tabR op = some g from hg))
  simp only [textOk, Bool.and_eq_true] at ht
  have := List.all_eq_true.1 (List.all_eq_true.1 ht.2 i (List.mem_range.2 h1)) j (List.mem_range.2 h3)
  rw [h2, h4] at this
  simpa using this
def tx (al : List Ag) (k : Nat) : Nat := ((al.take k).map fun a => if a.1 = 3 then 1 else 0).sum
theorem tx_succ {al : List Ag} {k : Nat} (hk : k < al.length) : tx al (k + 1) = tx al k + (if al[k].1 = 3 then 1 else 0) := by
  unfold tx
  rw [List.take_succ_eq_append_getElem hk, List.map_append, List.sum_append]
  simp
theorem tx_zero {al : List Ag} : ∀ {k : Nat}, k ≤ al.length → (∀ j (hj : j < al.length), j < k → al[j].1 ≠ 3) → tx al k = 0
  | 0, _, _ => by simp [tx]
  | k + 1, hk, h => by
    rw [tx_succ (by omega), tx_zero (k := k) (by omega) (fun j hj hjk => h j hj (by omega)), if_neg (h k (by omega) (by omega))]
theorem wrong_kind {c : Int} {a : Ag} {bound : Int} (h : wrongP c a bound = 0) : c ≠ 0 ∧ a.1 = kindP c := by
  unfold wrongP at h
  split at h
  · cases h
  · rename_i h1
    constructor
    · intro e; exact h1 (.inl e)
    · exact Classical.byContradiction fun e => h1 (.inr e)
theorem tx_one {op : Int} {g : Fl} (hg : frm op = some g) {al : List Ag} {bound : Int} : ∀ {k : Nat}, k ≤ al.length → (∀ j, j < k → werr g al bound j = 0) → tx al k ≤ 1
  | 0, _, _ => by simp [tx]
  | k + 1, hk, h => by
    rw [tx_succ (by omega)]
    split
    · rename_i h3
      have hz : tx al k = 0 := by
        refine tx_zero (by omega) fun j hj hjk e => ?_
        have a1 := (wrong_kind (h j (by omega))).2
        have a2 := (wrong_kind (h k (by omega))).2
        rw [getD_lt hj] at a1
        rw [getD_lt (by omega)] at a2
        have := text_once hg (a1.symm.trans e) (a2.symm.trans h3)
        omega
      omega
    · have := tx_one hg (k := k) (by omega) fun j hj => h j (by omega)
      omega
theorem costN_le {al : List Ag} (hs : ∀ x ∈ al, x.2.2.size ≤ 9223372036854775807) : ∀ {k : Nat}, k ≤ al.length → costN al k ≤ k + 2305843009213693952 * tx al k
  | 0, _ => by simp [costN]
  | k + 1, hk => by
    have := costN_le hs (k := k) (by omega)
    rw [costN_succ (by omega), tx_succ (by omega)]
    have h1 := hs _ (List.getElem_mem (show k < al.length by omega))
    unfold cost
    split <;> omega
theorem costN_ge {al : List Ag} : ∀ {k : Nat}, k ≤ al.length → k ≤ costN al k
  | 0, _ => Nat.zero_le _
  | k + 1, hk => by
    have := costN_ge (al := al) (k := k) (by omega)
    rw [costN_succ (by omega)]
    unfold cost
    split <;> omega
/-- What fits, where no argument is wrong. -/
theorem fit_whole {op : Int} {g : Fl} (hg : frm op = some g) {al : List Ag} {bound : Int} (h : ∀ j, j < al.length → werr g al bound j = 0) : (fitP op (al.map (·.1))).2 = wholeP g al.length := by
  have hb : ∀ j, j < (al.map (·.1)).length → bad g (al.map (·.1)) j = false := by
    intro j hj
    have hj' : j < al.length := by simpa using hj
    obtain ⟨h1, h2⟩ := wrong_kind (h j hj')
    rw [getD_lt hj'] at h2
    unfold bad
    rw [getD_lt hj, List.getElem_map, h2]
    have := letP_kind hg (k := j) (by omega)
    simp [this]
  rw [fitP_some hg, fit_good hb, List.length_map]
  have hz : g.rest.length = 0 → al.length ≤ g.fixed.length := by
    intro h0
    refine Classical.byContradiction fun hgt => ?_
    have := (wrong_kind (h g.fixed.length (by omega))).1
    apply this
    unfold letP
    rw [if_neg (by omega), if_pos h0]
    rfl
  unfold wholeP wrongLen
  by_cases h1 : al.length < g.fixed.length
  · rw [if_pos h1, decide_eq_true h1, Bool.true_or, if_pos rfl]
  · rw [if_neg h1, decide_eq_false h1, Bool.false_or]
    by_cases h2 : g.rest.length = 0
    · have h3 : al.length = g.fixed.length := by have := hz h2; omega
      rw [if_pos h2, decide_eq_false (by omega), Bool.false_and, h3]
      simp
    · rw [if_neg h2, decide_eq_true h2, Bool.true_and]
      by_cases h3 : (al.length - g.fixed.length) % g.rest.length = 0
      · rw [h3]; rfl
      · rw [decide_eq_true h3, if_pos rfl]
        exact (beq_eq_false_iff_ne.2 h3).symm

def faultI (p : PI) (bound : Int) : Int := faultP p.1 p.2.1 p.2.2.1 p.2.2.2 bound
def roomI (p : PI) : Nat := match frm p.1 with
  | none => 0
  | some g => roomP g p.2.2.2
def totP (pl : List PI) (k : Nat) : Nat := 5 + ((pl.take k).map roomI).sum
theorem totP_succ {pl : List PI} {k : Nat} (hk : k < pl.length) : totP pl (k + 1) = totP pl k + roomI pl[k] := by
  unfold totP
  rw [List.take_succ_eq_append_getElem hk, List.map_append, List.sum_append]
  simp
  omega
abbrev pi0 : PI := (0, 0, 0, [])
def badI (pl : List PI) (bound : Int) (k : Nat) : Bool := faultI (pl.getD k pi0) bound != 0 || decide (1048576 < totP pl (k + 1))
def shapeP (bound : Int) (pl : List PI) : Int × Nat :=
  if bound = 0 ∨ 65536 < bound then (24, 0) else match (List.range pl.length).find? (badI pl bound) with
    | some k => (if faultI (pl.getD k pi0) bound ≠ 0 then faultI (pl.getD k pi0) bound else 4, k)
    | none => (0, 0)
theorem shape_bound {bound : Int} {pl : List PI} (h : bound = 0 ∨ 65536 < bound) : shapeP bound pl = (24, 0) := by unfold shapeP; rw [if_pos h]
theorem shape_fault {bound : Int} {pl : List PI} (h : ¬ (bound = 0 ∨ 65536 < bound)) {k : Nat} (hk : k < pl.length) (hj : ∀ j, j < k → badI pl bound j = false) (hf : faultI pl[k] bound ≠ 0) : shapeP bound pl = (faultI pl[k] bound, k) := by
  unfold shapeP
  rw [if_neg h, find_first hk (by unfold badI; rw [getD_lt hk, bne_iff_ne.2 hf]; rfl) hj]
  simp only [getD_lt hk]
  rw [if_pos hf]
theorem shape_large {bound : Int} {pl : List PI} (h : ¬ (bound = 0 ∨ 65536 < bound)) {k : Nat} (hk : k < pl.length) (hj : ∀ j, j < k → badI pl bound j = false) (hf : faultI pl[k] bound = 0) (ht : 1048576 < totP pl (k + 1)) : shapeP bound pl = (4, k) := by
  unfold shapeP
  rw [if_neg h, find_first hk (by unfold badI; rw [decide_eq_true ht, Bool.or_true]) hj]
  simp only [getD_lt hk]
  rw [if_neg (by rw [hf]; simp)]
theorem shape_good {bound : Int} {pl : List PI} (h : ¬ (bound = 0 ∨ 65536 < bound)) (hj : ∀ j, j < pl.length → badI pl bound j = false) : shapeP bound pl = (0, 0) := by
  unfold shapeP
  rw [if_neg h]
  have : (List.range pl.length).find? (badI pl bound) = none := by
    rw [List.find?_eq_none]
    intro j hj'
    rw [hj j (List.mem_range.1 hj')]
    simp
  rw [this]
theorem badI_false {pl : List PI} {bound : Int} {k : Nat} (hk : k < pl.length) (hf : faultI pl[k] bound = 0) (ht : ¬ 1048576 < totP pl (k + 1)) : badI pl bound k = false := by
  unfold badI
  rw [getD_lt hk, hf, decide_eq_false ht]
  rfl
/-- Of a module of good shape. -/
theorem shape_ok {bound : Int} {pl : List PI} (h : (shapeP bound pl).1 = 0) : ¬ (bound = 0 ∨ 65536 < bound) ∧ ∀ k (hk : k < pl.length), faultI pl[k] bound = 0 := by
  unfold shapeP at h
  split at h
  · cases h
  · rename_i hb
    refine ⟨hb, fun k hk => ?_⟩
    split at h
    · rename_i j hj
      dsimp only at h
      split at h
      · rename_i hf; exact absurd h hf
      · cases h
    · rename_i hn
      have := List.find?_eq_none.1 hn k (List.mem_range.2 hk)
      unfold badI at this
      rw [getD_lt hk] at this
      simp only [Bool.or_eq_true, not_or, bne_iff_ne, ne_eq, Decidable.not_not] at this
      exact this.1
theorem bytes_empty (x : ByteArray) : (x.toList == (ByteArray.mk #[]).toList) = decide (x.size = 0) := by
  obtain ⟨a⟩ := x
  have := toList_nil (a := a.toList)
  unfold bs at this
  rw [Array.toArray_toList] at this
  rw [this]
  simp only [ByteArray.size]
  rw [Bool.eq_iff_iff, List.isEmpty_iff, decide_eq_true_iff]
  constructor
  · intro h; rw [← Array.length_toList, h]; rfl
  · intro h; exact List.eq_nil_of_length_eq_zero (by rw [Array.length_toList]; exact h)
end Go.Gm
namespace Go.Proofs
open Go.Gk
set_option linter.unusedVariables false
set_option maxRecDepth 100000

/-- intaglio.intagliokit.Words -/
def a_intagliokit_Words : Ann := (.seq none .nil (.seq none (.seq none .nil (.cond (.seq none .nil .nil) .nil)) (.seq none (.seq none .nil (.one (.loop ⟨[0, 1], [(5, (.b (.int .i64)))]⟩ (.seq none (.seq none .nil (.cond .nil .nil)) (.seq none (.one (.seq none .nil (.cond (.seq none .nil .nil) .nil))) .nil))))) (.seq none .nil .nil))))
def L_intagliokit_Words (p0 : Sl) (p1 : Sl) (R : Value → World → Prop) (w : World) : Prop :=
 ifB ((p0.l : Int) != (p1.l : Int))
 (R (.bool false) w)
 (LoopW (S := Int × Unit) (fun s1 w1 n2 =>
 ifB (decide (s1.1 < (p0.l : Int)))
 ((0 ≤ s1.1 ∧ s1.1 < (p0.l : Int)) ∧
 derefP p0.a fun a3 =>
 ldI w1.drew (a3.add (Int.toNat s1.1)) .u32 fun x4 =>
 (0 ≤ s1.1 ∧ s1.1 < (p1.l : Int)) ∧
 derefP p1.a fun a5 =>
 ldI w1.drew (a5.add (Int.toNat s1.1)) .u32 fun x6 =>
 ifB (x4 != x6)
 (R (.bool false) w1.drew)
 (n2 ((IntKind.i64.wrap (s1.1 + (1 : Int))), ()) w1.drew))
 (R (.bool true) w1))
 ((0 : Int), ()) w)
theorem intagliokit_Words_calls (p0 : Sl) (p1 : Sl) (R : Value → World → Prop) (w : World) (h : L_intagliokit_Words p0 p1 R w) : Calls Tryz.prog 19 #[(.slice p0.a p0.l p0.c), (.slice p1.a p1.l p1.c)] w (Ret R) :=
 lw_calls (fs := Tryz.fs) (an := a_intagliokit_Words) (args := [(.slice p0.a p0.l p0.c), (.slice p1.a p1.l p1.c)]) Tryz.fsOK Tryz.mixed Tryz.func19 (by kernel_rfl) (by kernel_rfl)
 (Eq.mpr (by kernel_rfl : lwFn Tryz.prog Tryz.fs Tryz.f19 a_intagliokit_Words [(.slice p0.a p0.l p0.c), (.slice p1.a p1.l p1.c)] w R = L_intagliokit_Words p0 p1 R w) h)

/-- intaglio.intagliokit.CopyInst -/
def a_intagliokit_CopyInst : Ann := (.seq none .nil (.seq none .nil (.seq none (.seq none .nil (.one (.loop ⟨[1, 2, 3], [(4, (.b (.int .i64)))]⟩ (.seq none (.seq none .nil (.cond .nil .nil)) (.seq none (.one .nil) .nil))))) (.seq none .nil (.seq none .nil .nil)))))
def L_intagliokit_CopyInst (p0 : (Int × Int × Int × Sl × Unit)) (R : Value → World → Prop) (w : World) : Prop :=
 Nw (w.alloc (.cells #[(.int .u16 p0.1), (.int .u32 p0.2.1), (.int .u32 p0.2.2.1), (.slice p0.2.2.2.1.a p0.2.2.2.1.l p0.2.2.2.1.c)] 52)) fun w1 =>
 Nw (w1.alloc (.cells #[(.int .u16 (0 : Int)), (.int .u32 (0 : Int)), (.int .u32 (0 : Int)), (.slice none 0 0)] 52)) fun w2 =>
 ldS w2 ((blk w.heap.size).add 3) fun x1 =>
 (0 ≤ (x1.l : Int) ∧ (x1.l : Int) ≤ (x1.l : Int) ∧ (24 : Int) * (x1.l : Int) ≤ 281474976710656 ∧ (x1.l : Int) ≤ 9223372036854775807) ∧
 Nw (w2.alloc (.cells (madeCells #[(.int .u8 (0 : Int)), (.int .u32 (0 : Int)), (.string (ByteArray.mk #[]))] (x1.l * 3)) 55)) fun w3 =>
 LoopW (S := Int × Unit) (fun s2 w4 n3 =>
 ldS w4 ((blk w.heap.size).add 3) fun x4 =>
 ifB (decide (s2.1 < (x4.l : Int)))
 (ldS w4 ((blk w.heap.size).add 3) fun x5 =>
 (0 ≤ s2.1 ∧ s2.1 < (x5.l : Int)) ∧
 derefP x5.a fun a6 =>
 ldI w4 ((a6.add ((Int.toNat s2.1) * 3)).add 0) .u8 fun x7 =>
 ldI w4 ((a6.add ((Int.toNat s2.1) * 3)).add 1) .u32 fun x8 =>
 ldStr w4 ((a6.add ((Int.toNat s2.1) * 3)).add 2) fun x9 =>
 (0 ≤ s2.1 ∧ s2.1 < (x1.l : Int)) ∧
 Wr w4 ((blk w2.heap.size).add ((Int.toNat s2.1) * 3)) ∧
 Nw (w4.setCell ((blk w2.heap.size).add ((Int.toNat s2.1) * 3)) (.int .u8 x7)) fun w5 =>
 Wr w5 (((blk w2.heap.size).add ((Int.toNat s2.1) * 3)).add 1) ∧
 Nw (w5.setCell (((blk w2.heap.size).add ((Int.toNat s2.1) * 3)).add 1) (.int .u32 x8)) fun w6 =>
 Wr w6 (((blk w2.heap.size).add ((Int.toNat s2.1) * 3)).add 2) ∧
 Nw (w6.setCell (((blk w2.heap.size).add ((Int.toNat s2.1) * 3)).add 2) (.string x9)) fun w7 =>
 n3 ((IntKind.i64.wrap (s2.1 + (1 : Int))), ()) w7)
 (Wr w4 ((blk w.heap.size).add 3) ∧
 Nw (w4.setCell ((blk w.heap.size).add 3) (.slice (some (blk w2.heap.size)) x1.l x1.l)) fun w8 =>
 ldI w8 ((blk w.heap.size).add 0) .u16 fun x10 =>
 ldI w8 ((blk w.heap.size).add 1) .u32 fun x11 =>
 ldI w8 ((blk w.heap.size).add 2) .u32 fun x12 =>
 ldS w8 ((blk w.heap.size).add 3) fun x13 =>
 Wr w8 (blk w1.heap.size) ∧
 Nw (w8.setCell (blk w1.heap.size) (.int .u16 x10)) fun w9 =>
 Wr w9 ((blk w1.heap.size).add 1) ∧
 Nw (w9.setCell ((blk w1.heap.size).add 1) (.int .u32 x11)) fun w10 =>
 Wr w10 ((blk w1.heap.size).add 2) ∧
 Nw (w10.setCell ((blk w1.heap.size).add 2) (.int .u32 x12)) fun w11 =>
 Wr w11 ((blk w1.heap.size).add 3) ∧
 Nw (w11.setCell ((blk w1.heap.size).add 3) (.slice x13.a x13.l x13.c)) fun w12 =>
 ldI w12 ((blk w1.heap.size).add 0) .u16 fun x14 =>
 ldI w12 ((blk w1.heap.size).add 1) .u32 fun x15 =>
 ldI w12 ((blk w1.heap.size).add 2) .u32 fun x16 =>
 ldS w12 ((blk w1.heap.size).add 3) fun x17 =>
 R (.agg #[(.int .u16 x14), (.int .u32 x15), (.int .u32 x16), (.slice x17.a x17.l x17.c)]) w12))
 ((0 : Int), ()) w3
theorem intagliokit_CopyInst_calls (p0 : (Int × Int × Int × Sl × Unit)) (R : Value → World → Prop) (w : World) (h : L_intagliokit_CopyInst p0 R w) : Calls Tryz.prog 68 #[(.agg #[(.int .u16 p0.1), (.int .u32 p0.2.1), (.int .u32 p0.2.2.1), (.slice p0.2.2.2.1.a p0.2.2.2.1.l p0.2.2.2.1.c)])] w (Ret R) :=
 lw_calls (fs := Tryz.fs) (an := a_intagliokit_CopyInst) (args := [(.agg #[(.int .u16 p0.1), (.int .u32 p0.2.1), (.int .u32 p0.2.2.1), (.slice p0.2.2.2.1.a p0.2.2.2.1.l p0.2.2.2.1.c)])]) Tryz.fsOK Tryz.mixed Tryz.func68 (by kernel_rfl) (by kernel_rfl)
 (Eq.mpr (by kernel_rfl : lwFn Tryz.prog Tryz.fs Tryz.f68 a_intagliokit_CopyInst [(.agg #[(.int .u16 p0.1), (.int .u32 p0.2.1), (.int .u32 p0.2.2.1), (.slice p0.2.2.2.1.a p0.2.2.2.1.l p0.2.2.2.1.c)])] w R = L_intagliokit_CopyInst p0 R w) h)

end Go.Proofs
namespace Go.Proofs
open Go.Gk Go.RowKit Go.Gm

/-- 'for i := 0; i < n; i++' with a list that grows. -/
theorem LoopW.countSl {body : Sl × Int × Unit → World → (Sl × Int × Unit → World → Prop) → Prop} {w : World} {s0 : Sl} (n : Nat) (hn : n ≤ 9223372036854775807) (I : Nat → Sl → World → Prop) (h0 : I 0 s0 w)
    (h : ∀ k r w, k ≤ n → I k r w → ∀ next : Sl × Int × Unit → World → Prop, (∀ r' w', k < n → I (k + 1) r' w' → next (r', IntKind.i64.wrap ((k : Int) + 1), ()) w') → body (r, (k : Int), ()) w next) : LoopW body (s0, (0 : Int), ()) w := by
  refine LoopW.ghost (fun j s w => ∃ (k : Nat) (r : Sl), k ≤ n ∧ j = n - k ∧ s = (r, (k : Int), ()) ∧ I k r w) n ⟨0, s0, Nat.zero_le _, rfl, rfl, h0⟩ ?_
  rintro _ _ w ⟨k, r, hk, rfl, rfl, hI⟩ next hnext
  refine h k r w hk hI next fun r' w' hlt hI' => ?_
  rw [wrap64_succ (by omega)]
  exact hnext (n - (k + 1)) _ _ (by omega) ⟨k + 1, r', by omega, rfl, rfl, hI'⟩
/-- append of one cell to a list of the code's own, in new memory. -/
theorem push_fresh {P : Program} {t e : TypeId} {bytes : Nat} (he : ElemT P t e 1 bytes) {w0 w : World} {s : Sl} {xs : List Value} (h : Own w e 1 s xs) (hb : Below w0.heap.size w0 w) (hF : Fresh w0.heap.size s) {v : Value} (hv : v.oneCell' = true) {b c : Nat} {T : TypeId}
    (hB : Blk w b T [v]) (h63 : s.l + 1 ≤ 9223372036854775807) (hbytes : (s.l + 1) * bytes ≤ 140737488355328) {k : Sl → World → Prop}
    (hk : ∀ r w', Own w' e 1 r (xs ++ [v]) → Below w0.heap.size w0 w' → Fresh w0.heap.size r → k r w') : appendS P t (.slice s.a s.l s.c) (.slice (some (blk b)) 1 c) w k := by
  refine append_one he h hv hB h63 hbytes fun r w' h1 _ ⟨b', h3, h4, h5⟩ => ?_
  have hbb : w0.heap.size ≤ b' := by
    rcases h4 with h4 | h4
    · exact hF _ h4
    · have := hb.size
      omega
  exact hk r w' h1 (hb.trans (below_grown h5 hbb hb.size)) fun a ha => by rw [h3] at ha; cases ha; exact hbb

theorem eU8 : ElemT Tryz.prog 268 5 1 1 := ⟨by kernel_rfl, Tryz.t5, .int .u8 0, by kernel_rfl, rfl, rfl, rfl, rfl⟩
theorem elemU {w : World} {s : Sl} {l : List Int} (h : IsS (Value.int .u32) w s l) {k : Nat} (hk : k < l.length) {φ : Int → Prop} (hφ : φ l[k]) :
    (0 ≤ (k : Int) ∧ (k : Int) < (s.l : Int)) ∧ derefP s.a fun a => ldI w (a.add (Int.toNat (k : Int))) .u32 φ := h.addr hk fun _ _ hc => ⟨l[k], hc, hφ⟩
theorem eU32 : ElemT Tryz.prog 30 22 1 4 := ⟨by kernel_rfl, Tryz.t22, .int .u32 0, by kernel_rfl, rfl, rfl, rfl, rfl⟩

section
variable {x : Ins} {al : List Ag} {w : World} {R : Value → World → Prop}
/-- An instruction in new memory. -/
theorem CopyInst_spec (hI : IsAg w x.2.2.2.1 al) (h24 : 24 * al.length ≤ 140737488351232)
    (hR : ∀ b w', w.heap.size ≤ b → Blk w' b 55 (flat agV al) → IsAg w' ⟨some (blk b), al.length, al.length⟩ al → Below w.heap.size w w' → R (inA (x.1, x.2.1, x.2.2.1, ⟨some (blk b), al.length, al.length⟩, ())) w') :
    callR Tryz.prog 68 #[inA x] w R := by
  refine callR.of (intagliokit_CopyInst_calls x R w ?_) fun _ _ h => h
  refine lay_of fun w1 hB1 b1 z1 => ?_
  have hB1 : Blk w1 w.heap.size 52 (inV x) := hB1
  refine lay_of fun w2 hC2 b2 z2 => ?_
  have hC2 : Blk w2 w1.heap.size 52 [.int .u16 0, .int .u32 0, .int .u32 0, .slice none 0 0] := hC2
  have hB2 := hB1.below b2
  have hl := hI.len
  refine hB2.rS (n := 3) rfl ⟨⟨by omega, by omega, by omega, by omega⟩, ?_⟩
  refine lay_of fun w3 hD3 b3 z3 => ?_
  have hb3 := (b1.on b2).on b3
  have hB3 := hB2.below b3
  have hC3 := hC2.below b3
  rw [hl]
  refine LoopW.count al.length hI.bound (fun k w' => Below w.heap.size w w' ∧ w'.heap.size = w3.heap.size ∧ Blk w' w.heap.size 52 (inV x) ∧ Blk w' w1.heap.size 52 [.int .u16 0, .int .u32 0, .int .u32 0, .slice none 0 0] ∧
      ∃ r, Blk w' w2.heap.size 55 (flat agV (al.take k) ++ r) ∧ r.length = (al.length - k) * 3) ⟨hb3, rfl, hB3, hC3, _, by simpa [flat] using hD3, by rw [Array.length_toList, size_madeCells, hl]; simp⟩ ?_
  rintro k w4 hk ⟨hb, hz, hB, hC, r, hD, hr⟩ next hnext
  refine hB.rS (n := 3) rfl ?_
  refine ifB_dec (fun hlt => ?_) (fun hge => ?_)
  · have hlt : k < al.length := by dsimp only at hlt; omega
    refine hB.rS (n := 3) rfl ?_
    have hm := hI.below hb
    refine elemA3 hm hlt ⟨⟨by omega, by dsimp only; omega⟩, ?_⟩
    have hfl : (flat agV (al.take k)).length = k * 3 := by rw [flat_length agV_len, List.length_take, Nat.min_eq_left (by omega)]
    obtain ⟨r', hr', e⟩ := set3 (flat agV (al.take k)) (cs := r) (m := al.length - (k + 1)) (by rw [hr]; congr 1; omega) (.int .u8 al[k].1) (.int .u32 al[k].2.1) (.string al[k].2.2)
    rw [hfl] at e
    have hcl : (flat agV (al.take k) ++ r).length = al.length * 3 := by rw [List.length_append, hfl, hr, ← Nat.add_mul]; congr 1; omega
    rw [show Int.toNat (k : Int) = k from rfl]
    simp only [add_add']
    have hD1 := hD.set (k * 3) (.int .u8 al[k].1)
    have hD2 := hD1.set (k * 3 + 1) (.int .u32 al[k].2.1)
    have hD3 := hD2.set (k * 3 + 2) (.string al[k].2.2)
    have c1 := ((Chg.set w2.heap.size (k * 3) w4 (.int .u8 al[k].1)).trans (Chg.set w2.heap.size (k * 3 + 1) _ (.int .u32 al[k].2.1))).trans (Chg.set w2.heap.size (k * 3 + 2) _ (.string al[k].2.2))
    refine ⟨hD.wr (by omega), hD1.wr (by rw [List.length_set]; omega), hD2.wr (by rw [List.length_set, List.length_set]; omega), hnext _ hlt ⟨c1.below hb (by omega), c1.size.trans hz, c1.blk hB (by omega), c1.blk hC (by omega), r', ?_, hr'⟩⟩
    rw [e] at hD3
    have e2 : flat agV (al.take (k + 1)) = flat agV (al.take k) ++ agV al[k] := by
      rw [List.take_succ_eq_append_getElem hlt]
      show (al.take k ++ [al[k]]).flatMap agV = _
      rw [List.flatMap_append]
      rfl
    rw [e2]
    exact hD3
  · have hk' : k = al.length := by dsimp only at hge; omega
    subst hk'
    simp only [Nat.sub_self, Nat.zero_mul] at hr
    have : r = [] := List.eq_nil_of_length_eq_zero hr
    subst this
    rw [List.take_length, List.append_nil] at hD
    refine ⟨hB.wr (n := 3) (by simp), ?_⟩
    have c1 := Chg.set w.heap.size 3 w4 (.slice (some (blk w2.heap.size)) al.length al.length)
    have hB5 : Blk _ w.heap.size 52 (inV (x.1, x.2.1, x.2.2.1, ⟨some (blk w2.heap.size), al.length, al.length⟩, ())) := hB.set 3 (.slice (some (blk w2.heap.size)) al.length al.length)
    have hb5 := c1.below hb (Nat.le_refl _)
    have hC5 := c1.blk hC (by omega)
    have hD5 := c1.blk hD (by omega)
    refine Nw.mk (Ins.load hB5 ?_)
    refine st4 hC5 rfl fun w6 hC6 c6 => ?_
    have hC6 : Blk w6 w1.heap.size 52 (inV (x.1, x.2.1, x.2.2.1, ⟨some (blk w2.heap.size), al.length, al.length⟩, ())) := hC6
    have hD6 := c6.blk hD5 (by omega)
    refine Ins.load hC6 ?_
    exact hR w2.heap.size w6 (by omega) hD6 (Blk.isC agV_len (by omega) hD6 hI.bound) (c6.below hb5 (by omega))

end

theorem Words_spec {s t : Sl} {l m : List Int} {w : World} {R : Value → World → Prop} (hs : IsS (Value.int .u32) w s l) (ht : IsS (Value.int .u32) w t m) (hR : ∀ w', w'.heap = w.heap → Below w.heap.size w w' → R (.bool (decide (l = m))) w') :
    callR Tryz.prog 19 #[.slice s.a s.l s.c, .slice t.a t.l t.c] w R := by
  refine callR.of (intagliokit_Words_calls s t R w ?_) fun _ _ h => h
  have e1 := hs.len
  have e2 := ht.len
  refine ifB_bne (fun hne => ?_) (fun he => ?_)
  · have : decide (l = m) = false := by
      rw [decide_eq_false_iff_not]; intro e; subst e; omega
    have := this ▸ hR w rfl (Below.refl _ _)
    exact this
  · have hlm : l.length = m.length := by omega
    refine LoopW.count l.length hs.bound (fun k w' => w'.heap = w.heap ∧ Below w.heap.size w w' ∧ l.take k = m.take k) ⟨rfl, Below.refl _ _, by simp⟩ ?_
    rintro k w' hk ⟨hh, hb, hI⟩ next hnext
    refine ifB_dec (fun hlt => ?_) (fun hge => ?_)
    · have hlt : k < l.length := by dsimp only at hlt; omega
      refine (hs.heap (w' := w'.drew) hh).addr hlt fun a _ hc => ⟨_, hc, ?_⟩
      refine (ht.heap (w' := w'.drew) hh).addr (by omega) fun a _ hc => ⟨_, hc, ?_⟩
      refine ifB_bne (fun hne => ?_) (fun he => ?_)
      · have : decide (l = m) = false := by
          rw [decide_eq_false_iff_not]; intro e; subst e; exact hne rfl
        have := this ▸ hR w'.drew hh hb.drew
        exact this
      · exact hnext _ hlt ⟨hh, hb.drew, by rw [List.take_succ_eq_append_getElem hlt, List.take_succ_eq_append_getElem (by omega), hI, he]⟩
    · have : l = m := by
        have hk' : k = l.length := by dsimp only at hge; omega
        subst hk'
        rwa [List.take_length, hlm, List.take_length] at hI
      have := (decide_eq_true this) ▸ hR w' hh hb
      exact this
end Go.Proofs
namespace Go.Proofs
open Go.Gk Go.RowKit Go.Gm

theorem index_ge (l : List UInt8) (c : UInt8) : (Lib.indexByte l c = -1 ∨ 0 ≤ Lib.indexByte l c) ∧ (0 ≤ Lib.indexByte l c ↔ l.contains c = true) := by
  induction l with
  | nil => exact ⟨.inl rfl, by simp [Lib.indexByte]⟩
  | cons b l ih =>
    obtain ⟨h1, h2⟩ := ih
    unfold Lib.indexByte
    by_cases e : b = c
    · subst e
      simp
    · rw [if_neg (by simpa using e)]
      have e' : (c == b) = false := beq_eq_false_iff_ne.2 fun h => e h.symm
      rw [List.contains_cons, e', Bool.false_or, ← h2]
      rcases h1 with h1 | h1
      · rw [h1]; simp
      · rw [if_neg (by simp; omega)]
        constructor
        · right; omega
        · constructor <;> intro _ <;> omega
theorem IndexByte_spec {s : ByteArray} {w : World} {R : Value → World → Prop} (hR : ∀ i : Int, (0 ≤ i ↔ nul s = true) → R (.int .i64 i) w) : callR Tryz.prog 283 #[.string s, .int .u8 0] w R := by
  refine callR.of (strings_IndexByte_calls s 0 R w ?_) fun _ _ h => h
  refine callR.of (internal_stringslite_IndexByte_calls s 0 _ w ?_) fun _ _ h => h
  refine ⟨.int .i64 (Lib.indexByte s.data.toList 0), w, ?_, _, rfl, _, rfl, hR _ (index_ge _ _).2⟩
  rw [run_callFunc_extern Tryz.func309 (by kernel_rfl) (by kernel_rfl) (by kernel_rfl) (e := Extern.BytealgIndexByte.indexByte) (by kernel_rfl), Lib.run_indexByteString]
  rfl
theorem byteI_ne {s : ByteArray} (h : nul s = false) {k : Nat} (hk : k < s.size) : byteI s (k : Int) ≠ 0 := by
  intro e
  unfold byteI at e
  rw [Int.toNat_natCast] at e
  have hk' : k < s.data.size := hk
  have e1 : s.data.getD k 0 = s.data[k] := by rw [Array.getD_eq_getD_getElem?, Array.getElem?_eq_getElem hk']; rfl
  rw [e1] at e
  have e2 : s.data[k] = 0 := UInt8.toNat.inj (show (s.data[k]).toNat = 0 by omega)
  have hm : (0 : UInt8) ∈ s.data.toList := by
    rw [← e2, ← Array.getElem_toList]
    exact List.getElem_mem _
  have := List.contains_iff_mem.2 hm
  unfold nul at h
  rw [h] at this
  cases this
theorem Room_val {s : ByteArray} (hs : s.size ≤ 9223372036854775807) : IntKind.i64.wrap (IntKind.i64.wrap (Int.tdiv (s.size : Int) 4) + 1) = ((s.size / 4 + 1 : Nat) : Int) := by
  rw [show Int.tdiv (s.size : Int) 4 = ((s.size / 4 : Nat) : Int) from (Int.ofNat_tdiv s.size 4).symm]
  have : s.size / 4 ≤ 2305843009213693951 := by omega
  generalize s.size / 4 = q at this
  rw [wrap64_in (x := (q : Int)) (by omega) (by omega), wrap64_in (by omega) (by omega)]
  omega
theorem Room_spec {s : ByteArray} (hs : s.size ≤ 9223372036854775807) {w : World} {R : Value → World → Prop} (hR : R (.int .i64 ((s.size / 4 + 1 : Nat) : Int)) w) : callR Tryz.prog 285 #[.string s] w R := by
  refine callR.of (words_Room_calls s R w ?_) fun _ _ h => h
  show R (.int .i64 _) w
  rw [Room_val hs]
  exact hR
theorem setU {w : World} {b : Nat} {T : TypeId} {xs : List Int} (hB : Blk w b T (xs.map (Value.int .u32))) (k : Nat) (v : Int) : ∃ ys : List Int, Blk (w.setCell ((blk b).add k) (.int .u32 v)) b T (ys.map (Value.int .u32)) ∧ ys.length = xs.length :=
  ⟨xs.set k v, by rw [List.map_set]; exact hB.set k _, by simp⟩
/-- A text as words: the block of its words, or that it is too long. -/
theorem OfText_spec {s : ByteArray} (hs : s.size ≤ 9223372036854775807) (hn : nul s = false) {w : World} {R : Value → World → Prop}
    (h1 : 65535 < s.size / 4 + 1 → R (.tuple #[.slice none 0 0, .int .i64 4]) w)
    (h2 : s.size / 4 + 1 ≤ 65535 → ∀ (b : Nat) (xs : List Int) w', w.heap.size ≤ b → Blk w' b 22 (xs.map (Value.int .u32)) → xs.length = s.size / 4 + 1 → Below w.heap.size w w' → R (.tuple #[.slice (some (blk b)) (s.size / 4 + 1) (s.size / 4 + 1), .int .i64 0]) w') :
    callR Tryz.prog 284 #[.string s] w R := by
  refine callR.of (words_OfText_calls s R w ?_) fun _ _ h => h
  refine LoopW.count s.size hs (fun k w' => w' = w) rfl ?_
  rintro k wk hk hw next hnext
  subst hw
  refine ifB_dec (fun h => ?_) (fun h => ?_)
  · have hlt : k < s.size := by dsimp only at h; omega
    exact ⟨⟨by omega, by omega⟩, ifB_beq (fun e => absurd e (byteI_ne hn hlt)) (fun _ => hnext _ hlt rfl)⟩
  · refine Room_spec hs ⟨_, rfl, ?_⟩
    refine ifB_dec (fun hgt => h1 (by omega)) (fun hle => ?_)
    have hle : s.size / 4 + 1 ≤ 65535 := by omega
    refine Room_spec hs ⟨_, rfl, ?_⟩
    rw [Int.toNat_natCast]
    refine ⟨⟨by omega, by omega, by omega, by omega⟩, ?_⟩
    refine Nw.gen fun w4 e4 => ?_
    have hB4 : Blk w4 wk.heap.size 22 (List.replicate (s.size / 4 + 1) (.int .u32 0)) := by rw [e4]; exact Blk.made wk _ _ _
    have z4 : w4.heap.size = wk.heap.size + 1 := by rw [e4]; simp
    have b4 : Below wk.heap.size wk w4 := by rw [e4]; exact (Below.refl _ _).alloc (Nat.le_refl _) _
    clear e4
    refine LoopW.count s.size hs (fun k w' => Below wk.heap.size wk w' ∧ ∃ xs : List Int, Blk w' wk.heap.size 22 (xs.map (Value.int .u32)) ∧ xs.length = s.size / 4 + 1) ⟨b4, List.replicate (s.size / 4 + 1) 0, by simpa using hB4, by simp⟩ ?_
    rintro k w5 hk ⟨hb, xs, hB, hxl⟩ next hnext
    refine ifB_dec (fun h => ?_) (fun h => ?_)
    · have hlt : k < s.size := by dsimp only at h; omega
      have e1 : IntKind.i64.wrap (Int.tdiv (k : Int) 4) = ((k / 4 : Nat) : Int) := by
        rw [show Int.tdiv (k : Int) 4 = ((k / 4 : Nat) : Int) from (Int.ofNat_tdiv k 4).symm]
        exact wrap64_in (by omega) (by omega)
      have e2 : IntKind.i64.wrap (8 * Int.tmod (k : Int) 4) = ((8 * (k % 4) : Nat) : Int) := by
        rw [show Int.tmod (k : Int) 4 = ((k % 4 : Nat) : Int) from (Int.ofNat_tmod k 4).symm, wrap64_in (by omega) (by omega)]
        omega
      have hq : k / 4 < xs.length := by omega
      dsimp only
      rw [e1, e2, Int.toNat_natCast]
      refine ⟨⟨by omega, by omega⟩, hB.drew.rI (n := k / 4) (x := xs[k / 4]) (by simp [hq]) ⟨⟨by omega, by omega⟩, ifB_dec (fun h => absurd h (by omega)) (fun _ => ⟨⟨by omega, by omega⟩, hB.drew.wr (by simpa using hq), ?_⟩)⟩⟩
      refine Nw.mk (hnext _ hlt ⟨(Chg.set _ _ _ _).below hb.drew (Nat.le_refl _), ?_⟩)
      exact (setU hB.drew (k / 4) _).imp fun ys h => ⟨h.1, h.2.trans hxl⟩
    · exact h2 hle _ xs w5 (Nat.le_refl _) hB hxl hb

abbrev wrV (f : Fm) (bd : Int) (s : Sl) (room : Nat) : List Value :=
  [.int .u16 f.1, .string f.2.1, .bool f.2.2.1, .bool f.2.2.2.1, .string f.2.2.2.2.1, .string f.2.2.2.2.2.1, .int .i64 f.2.2.2.2.2.2.1, .int .u8 f.2.2.2.2.2.2.2.1, .int .u32 bd, .slice s.a s.l s.c, .int .i64 (room : Int)]
/-- Blocks of other types than the words' stay, but b. -/
def Oth (b : Nat) (w w' : World) : Prop := ∀ k T cs, Blk w k T cs → k ≠ b → T ≠ 22 → Blk w' k T cs
theorem Oth.refl (b : Nat) (w : World) : Oth b w w := fun _ _ _ h _ _ => h
theorem Oth.trans {b : Nat} {w w' w2 : World} (h : Oth b w w') (h' : Oth b w' w2) : Oth b w w2 := fun k T cs hB h1 h2 => h' k T cs (h k T cs hB h1 h2) h1 h2
theorem Oth.below {b : Nat} {w w' : World} (h : Below w.heap.size w w') : Oth b w w' := fun _ _ _ hB _ _ => hB.below h
structure WtS (w0 w : World) (b : Nat) (f : Fm) (bd : Int) (room n : Nat) : Prop where
  old : w0.heap.size ≤ b
  below : Below w0.heap.size w0 w
  own : ∃ r xs, Blk w b 274 (wrV f bd r room) ∧ Own w 22 1 r xs ∧ Fresh w0.heap.size r ∧ r.l = n
section
variable {w0 w : World} {b : Nat} {f : Fm} {bd : Int} {room n : Nat} {R : Value → World → Prop}
theorem WtS.step {w' : World} (h : WtS w0 w b f bd room n) (hb : Below w.heap.size w w') : WtS w0 w' b f bd room n := by
  obtain ⟨h1, h2, r, xs, h3, h4, h5, h6⟩ := h
  exact ⟨h1, h2.on hb, r, xs, h3.below hb, h4.below hb, h5, h6⟩
theorem WtS.drew (h : WtS w0 w b f bd room n) : WtS w0 w.drew b f bd room n := h.step (Below.refl _ _).drew
/-- What is appended to the words. -/
theorem WtS.app (h : WtS w0 w b f bd room n) {c m k : Nat} {news : List Value} {T : TypeId} (hB : Blk w c T news) (hl : news.length = m) (h1 : ∀ u ∈ news, u.oneCell' = true) (hm : 0 < m) (hn : (n + m) * 4 ≤ 140737488355328) {r : Sl} {xs : List Value}
    (hW : Blk w b 274 (wrV f bd r room)) (hO : Own w 22 1 r xs) (hF : Fresh w0.heap.size r) (hrl : r.l = n) {K : Sl → World → Prop}
    (hK : ∀ r' w2, Blk w2 b 274 (wrV f bd r room) → (∀ room' w4, Chg b w2 w4 → Blk w4 b 274 (wrV f bd r' room') → WtS w0 w4 b f bd room' (n + m) ∧ Oth b w w4) → K r' w2) :
    appendS Tryz.prog 30 (.slice r.a r.l r.c) (.slice (some (blk c)) m k) w K := by
  have hold := h.old
  have hbel := h.below
  refine append_own eU32 hO (news := news) (by omega) (fun j u hj => hB.cell hj) h1 (by omega) (by omega) fun r' w2 hO' hl' hg => ?_
  rcases hg with ⟨_, _, h3⟩ | ⟨b', hb', hab, hg⟩
  · rw [h3] at hl'; omega
  · have hbb : w0.heap.size ≤ b' := by
      rcases hab with h | h
      · exact hF _ h
      · have := hbel.size
        omega
    have hne : ∀ {k T cs}, Blk w k T cs → T ≠ 22 → k ≠ b' := by
      intro k T cs hk hT e
      subst e
      rcases hab with h | h
      · obtain ⟨cs', hc⟩ := hO.type h
        exact hT (hk.type hc)
      · have := hk.lt
        omega
    have hkeep : ∀ {k T cs}, Blk w k T cs → T ≠ 22 → Blk w2 k T cs := fun hk hT => hk.of_block (hg.block _ hk.lt (fun e => hne hk hT (Option.some.inj e)))
    have hb2 : Below w0.heap.size w0 w2 := hbel.trans (below_grown hg hbb hbel.size)
    refine hK r' w2 (hkeep hW (by decide)) fun room' w4 cc hW4 => ?_
    have hO4 : Own w4 22 1 r' (xs ++ news) := hO'.of_block fun a ha => cc.block _ (by
      rw [hb'] at ha
      cases ha
      exact (hne hW (by decide)).symm)
    refine ⟨⟨hold, cc.below hb2 hold, r', _, hW4, hO4, ?_, by omega⟩, ?_⟩
    · intro a ha
      rw [hb'] at ha
      cases ha
      exact hbb
    · intro k T cs hk h1 h2
      exact cc.blk (hkeep hk h2) h1
theorem put_spec (h : WtS w0 w b f bd room n) {x : Int} (hr : room ≤ 4611686018427387904) (hn : (n + 1) * 4 ≤ 140737488355328) (hR : ∀ w', WtS w0 w' b f bd (room + 1) (n + 1) → Oth b w w' → R (.tuple #[]) w') :
    callR Tryz.prog 242 #[.pointer (some (blk b)), .int .u32 x] w R := by
  refine callR.of (code_writer_put_calls (some (blk b)) x R w ?_) fun _ _ h => h
  obtain ⟨r, xs, hW, hO, hF, hrl⟩ := h.own
  refine derefP_some rfl (hW.rS (n := 9) (x := r) rfl ?_)
  refine lay_of fun w1 hB1 b1 z1 => ?_
  refine (h.step b1).app hB1 (m := 1) rfl (by simp [Value.oneCell']) (by omega) hn (hW.below b1) (hO.below b1) hF hrl fun r' w2 hW2 hfin => ?_
  refine derefP_some rfl ⟨hW2.wr (n := 9) (by simp), Nw.gen fun w3 e3 => ?_⟩
  have c3 : Chg b w2 w3 := by rw [e3]; exact Chg.set _ _ _ _
  have hW3 : Blk w3 b 274 (wrV f bd r' room) := by rw [e3]; exact hW2.set 9 _
  clear e3
  refine derefP_some rfl (hW3.rI (n := 10) rfl (derefP_some rfl ⟨hW3.wr (n := 10) (by simp), Nw.mk ?_⟩))
  have e : IntKind.i64.wrap ((room : Int) + 1) = ((room + 1 : Nat) : Int) := by rw [wrap64_in (by omega) (by omega)]; omega
  rw [e]
  obtain ⟨k1, k2⟩ := hfin (room + 1) _ (c3.trans (Chg.set b 10 w3 (.int .i64 ((room + 1 : Nat) : Int)))) (hW3.set 10 _)
  exact hR _ k1 ((Oth.below b1).trans k2)
theorem id_val {x bd : Int} (hR : R (.int .i64 (if x = 0 then 43 else if bd ≤ x then 43 else 0)) w) : callR Tryz.prog 243 #[.int .u32 x, .int .u32 bd] w R := by
  refine callR.of (code_id_calls x bd R w ?_) fun _ _ h => h
  refine ifB_beq (fun e => by rwa [if_pos e] at hR) (fun e => ?_)
  rw [if_neg e] at hR
  exact ifB_dec (fun h => by rwa [if_pos h] at hR) (fun h => by rwa [if_neg h] at hR)
theorem head_spec (h : WtS w0 w b f bd room n) {must : Bool} {x e : Int} (hr : room ≤ 4611686018427387904) (hn : (n + 1) * 4 ≤ 140737488355328)
    (hR : ∀ w' room' n', WtS w0 w' b f bd room' n' → room' ≤ room + 1 → n' ≤ n + 1 → (idP must x bd e = 0 → e ≠ 0 → room' = room + must.toNat ∧ n' = n + must.toNat) → R (.int .i64 (idP must x bd e)) w') :
    callR Tryz.prog 188 #[.pointer (some (blk b)), .bool must, .int .u32 x, .int .i64 e] w R := by
  refine callR.of (code_writer_head_calls (some (blk b)) must x e R w ?_) fun _ _ h => h
  unfold idP at hR
  refine ifB_not (ifB_bool (fun hm => ?_) (fun hm => ?_))
  · have hm : must = (x != 0) := eq_of_beq hm
    rw [if_pos hm] at hR
    refine ifB_not (ifB_bool (fun ht => ?_) (fun hf => ?_))
    · refine put_spec h hr hn fun w1 h1 _ => ⟨rfl, ?_⟩
      obtain ⟨r, xs, hW, _⟩ := h1.own
      refine derefP_some rfl (hW.rI (n := 8) rfl ?_)
      refine id_val ⟨_, rfl, ?_⟩
      have hx : x ≠ 0 := by rw [ht] at hm; exact bne_iff_ne.1 hm.symm
      rw [if_neg hx]
      have := hR w1 (room + 1) (n + 1) h1 (Nat.le_refl _) (Nat.le_refl _) (fun _ _ => by rw [ht]; exact ⟨rfl, rfl⟩)
      simpa [ht] using this
    · have := hR w room n h (by omega) (by omega) (fun _ _ => by rw [hf]; exact ⟨rfl, rfl⟩)
      simpa [hf] using this
  · have hm : ¬ must = (x != 0) := fun h => by rw [h] at hm; simp at hm
    have := hR w room n h (by omega) (by omega) (fun h0 he => by rw [if_neg hm] at h0; exact absurd h0 he)
    rwa [if_neg hm] at this
theorem text_spec (h : WtS w0 w b f bd room n) {s : ByteArray} (hs : s.size ≤ 9223372036854775807) (hr : room ≤ 4611686018427387904) (hn : (n + 65535) * 4 ≤ 140737488355328)
    (hR : ∀ w' room' n', WtS w0 w' b f bd room' n' → Oth b w w' → (nul s = false → room' = room + (s.size / 4 + 1) ∧ (n' = n + (s.size / 4 + 1) ∨ 65535 < s.size / 4 + 1) ∧ n' ≤ n + 65535) → R (.int .i64 (if nul s = true then 13 else 0)) w') :
    callR Tryz.prog 246 #[.pointer (some (blk b)), .string s] w R := by
  refine callR.of (code_writer_text_calls (some (blk b)) s R w ?_) fun _ _ h => h
  refine IndexByte_spec fun i hi => ⟨_, rfl, ?_⟩
  refine ifB_dec (fun h0 => ?_) (fun h0 => ?_)
  · have hnul := hi.1 h0
    have := hR w room n h (Oth.refl _ _) (fun h => by rw [hnul] at h; cases h)
    rwa [if_pos hnul] at this
  · have hnul : nul s = false := by
      rw [← Bool.not_eq_true]
      exact fun hn => h0 (hi.2 hn)
    rw [if_neg (by rw [hnul]; simp)] at hR
    have hdiv : s.size / 4 ≤ 2305843009213693951 := by omega
    refine OfText_spec hs hnul (fun hgt => ⟨⟨none, 0, 0⟩, _, rfl, ?_⟩) (fun hle c ys w2 hc hB2 hyl b2 => ⟨⟨some (blk c), s.size / 4 + 1, s.size / 4 + 1⟩, _, rfl, ?_⟩)
    · refine ifB_true rfl ?_
      obtain ⟨r, xs, hW, hO, hF, hrl⟩ := h.own
      have hW1 := hW.drew
      refine derefP_some rfl (hW1.rI (n := 10) rfl ?_)
      refine Room_spec hs ⟨_, rfl, hW1.cell (n := 10) rfl, derefP_some rfl ⟨hW1.wr (n := 10) (by simp), Nw.mk ?_⟩⟩
      have e : IntKind.i64.wrap ((room : Int) + ((s.size / 4 + 1 : Nat) : Int)) = ((room + (s.size / 4 + 1) : Nat) : Int) := by
        generalize s.size / 4 = q at hdiv
        rw [wrap64_in (by omega) (by omega)]
        omega
      rw [e]
      have cc := Chg.set b 10 w.drew (.int .i64 ((room + (s.size / 4 + 1) : Nat) : Int))
      refine hR _ (room + (s.size / 4 + 1)) n ⟨h.old, cc.below h.below.drew h.old, r, xs, hW1.set 10 _, hO.drew.of_block fun a ha => cc.block _ ?_, hF, hrl⟩ (fun k T cs hk h1 _ => cc.blk hk.drew h1) (fun _ => ⟨rfl, .inr hgt, by omega⟩)
      obtain ⟨cs', hc⟩ := hO.type ha
      exact hc.apart hW (by decide)
    · refine ifB_false rfl ?_
      have h2 := h.step b2
      obtain ⟨r, xs, hW, hO, hF, hrl⟩ := h2.own
      refine derefP_some rfl (hW.rS (n := 9) (x := r) rfl ?_)
      refine h2.app hB2 (m := s.size / 4 + 1) (by rw [List.length_map]; exact hyl) (by simp [Value.oneCell']) (by omega) (by omega) hW hO hF hrl fun r' w3 hW3 hfin => ?_
      refine derefP_some rfl ⟨hW3.wr (n := 9) (by simp), Nw.gen fun w4 e4 => ?_⟩
      have c4 : Chg b w3 w4 := by rw [e4]; exact Chg.set _ _ _ _
      have hW4 : Blk w4 b 274 (wrV f bd r' room) := by rw [e4]; exact hW3.set 9 _
      clear e4
      refine derefP_some rfl (hW4.rI (n := 10) rfl (derefP_some rfl ⟨hW4.wr (n := 10) (by simp), Nw.mk ?_⟩))
      have e : IntKind.i64.wrap ((room : Int) + ((s.size / 4 + 1 : Nat) : Int)) = ((room + (s.size / 4 + 1) : Nat) : Int) := by
        generalize s.size / 4 = q at hdiv
        rw [wrap64_in (by omega) (by omega)]
        omega
      dsimp only
      rw [e]
      obtain ⟨k1, k2⟩ := hfin (room + (s.size / 4 + 1)) _ (c4.trans (Chg.set b 10 w4 (.int .i64 ((room + (s.size / 4 + 1) : Nat) : Int)))) (hW4.set 10 _)
      exact hR _ _ _ k1 ((Oth.below b2).trans k2) (fun _ => ⟨rfl, .inl rfl, by omega⟩)
end

theorem Letter_spec {op : Int} {i : Nat} {w : World} {R : Value → World → Prop} (hi : i ≤ 9223372036854775807) (hR : ∀ w', Below w.heap.size w w' → R (.int .u8 (letP (flOf op) i : Int)) w') :
    callR Tryz.prog 244 #[.int .u16 op, .int .i64 (i : Int)] w R := by
  refine callR.of (grammar_Letter_calls op i R w ?_) fun _ _ h => h
  have hg := lOk (flOf_ok op)
  have hfm := fmIs op
  refine gOf_spec fun w1 b1 => ⟨fmO op (frm op), (frm op).isSome, rfl, ?_⟩
  refine box8 rfl fun w2 hB b2 z2 => ?_
  have hB : Blk w2 w1.heap.size 172 (fmV (fmO op (frm op))) := hB
  refine Fm.load hB ?_
  exact letter_spec hfm hg hi fun w3 b3 => ⟨_, rfl, hR w3 ((b1.on b2).on b3)⟩
theorem named_spec {c n : Int} {w : World} {R : Value → World → Prop} (hR : ∀ w', Below w.heap.size w w' → R (.int .i64 (if enumP c n = false then 31 else 0)) w') :
    callR Tryz.prog 247 #[.int .u8 c, .int .u32 n] w R := by
  refine callR.of (code_named_calls c n R w ?_) fun _ _ h => h
  refine Enum_spec fun s w1 b1 => ⟨s, _, rfl, ?_⟩
  have := hR w1 b1
  refine ifB_not (ifB_bool (fun h => ?_) (fun h => ?_))
  · rwa [if_neg (by rw [h]; simp)] at this
  · rwa [if_pos h] at this
section
variable {w0 w : World} {b : Nat} {f : Fm} {bd : Int} {room n : Nat} {R : Value → World → Prop}
theorem arg_spec (h : WtS w0 w b f bd room n) {k : Nat} (hk : k ≤ 9223372036854775807) {a : Ag} (hs : a.2.2.size ≤ 9223372036854775807) (hr : room ≤ 4611686018427387904) (hn : (n + 65535) * 4 ≤ 140737488355328)
    (hR : ∀ w' room' n', WtS w0 w' b f bd room' n' → (wrongP (letP (flOf f.1) k : Int) a bd = 0 → room' = room + cost a ∧ (n' = n + cost a ∨ 65535 < cost a) ∧ n' ≤ n + (if a.1 = 3 then 65535 else 1)) → R (.int .i64 (wrongP (letP (flOf f.1) k : Int) a bd)) w') :
    callR Tryz.prog 189 #[.pointer (some (blk b)), .int .i64 (k : Int), .agg #[.int .u8 a.1, .int .u32 a.2.1, .string a.2.2]] w R := by
  refine callR.of (code_writer_arg_calls (some (blk b)) k (a.1, a.2.1, a.2.2, ()) R w ?_) fun _ _ h => h
  refine lay_of fun w1 hA1 b1 z1 => ?_
  have hA1 : Blk w1 w.heap.size 55 [.int .u8 a.1, .int .u32 a.2.1, .string a.2.2] := hA1
  have h1 := h.step b1
  obtain ⟨r1, xs1, hW1, _⟩ := h1.own
  refine derefP_some rfl (hW1.rI0 rfl ?_)
  refine Letter_spec hk fun w2 b2 => ⟨_, rfl, ?_⟩
  generalize letP (flOf f.1) k = c at hR
  have hA2 := hA1.below b2
  have h2 := h1.step b2
  refine hA2.rI0 rfl ?_
  have hbne : w.heap.size ≠ b := by
    obtain ⟨r, xs, hW, _⟩ := h.own
    have := hW.lt
    omega
  have key : wrongP (c : Int) a bd = if (c : Int) = 0 ∨ a.1 ≠ kindP c then 42 else if (a.1 = 3 ∧ a.2.1 ≠ 0) ∨ (a.1 ≠ 3 ∧ a.2.2.size ≠ 0) then 42
      else if a.1 = 1 ∧ (a.2.1 = 0 ∨ bd ≤ a.2.1) then 43 else if a.1 = 4 ∧ enumP c a.2.1 = false then 31 else if nul a.2.2 = true then 13 else 0 := rfl
  refine JoinW.cut (fun _ w' => WtS w0 w' b f bd room n ∧ Blk w' w.heap.size 55 [.int .u8 a.1, .int .u32 a.2.1, .string a.2.2] ∧ ¬ ((c : Int) = 0 ∨ a.1 ≠ kindP c) ∧ a.1 ≠ 3 ∧ a.2.2.size = 0) ?_ ?_
  · refine ifB_beq (fun e => ?_) (fun e => ?_)
    · have := hR w2.drew room n h2.drew (fun h => by rw [key, if_pos (.inl e)] at h; cases h)
      rwa [key, if_pos (.inl e)] at this
    · refine hA2.drew.rI0 rfl ?_
      refine Kind_spec ⟨_, rfl, hA2.drew.cell0 rfl, ?_⟩
      refine ifB_bne (fun e2 => ?_) (fun e2 => ?_)
      · have := hR w2.drew room n h2.drew (fun h => by rw [key, if_pos (.inr e2)] at h; cases h)
        rwa [key, if_pos (.inr e2)] at this
      · have hno : ¬ ((c : Int) = 0 ∨ a.1 ≠ kindP c) := fun h => h.elim e (fun h => h e2)
        rw [if_neg hno] at key
        refine ifB_beq (fun e3 => ?_) (fun e3 => ?_)
        · refine hA2.drew.rI (n := 1) rfl (ifB_bne (fun e4 => ?_) (fun e4 => ?_))
          · have := hR w2.drew room n h2.drew (fun h => by rw [key, if_pos (.inl ⟨e3, e4⟩)] at h; cases h)
            rwa [key, if_pos (.inl ⟨e3, e4⟩)] at this
          · refine ifB_not (ifB_beq (fun _ => ifB_beq (fun _ => ?_) (fun h => absurd e3 h)) (fun h => absurd e3 h))
            refine hA2.drew.rT (n := 2) rfl ?_
            have e3' : a.1 = 3 := e3
            rw [if_neg (fun h => h.elim (fun h => h.2 e4) (fun h => h.1 e3)), if_neg (fun h => by have := h.1; omega), if_neg (fun h => by have := h.1; omega)] at key
            refine text_spec h2.drew hs hr hn fun w3 room' n' h3 _ hrn => ⟨_, rfl, ?_⟩
            have := hR w3 room' n' h3 (fun h0 => by
              have hnul : nul a.2.2 = false := by
                rw [key] at h0
                split at h0
                · cases h0
                · rename_i hh; simpa using hh
              obtain ⟨g1, g2, g3⟩ := hrn hnul
              unfold cost
              rw [if_pos e3', if_pos e3']
              exact ⟨g1, g2, g3⟩)
            rwa [key] at this
        · refine ifB_not (ifB_beq (fun h => absurd h e3) (fun _ => ?_))
          refine hA2.drew.rT (n := 2) rfl ?_
          rw [bytes_empty]
          refine ifB_not (ifB_dec (fun e5 => ?_) (fun e5 => ?_))
          · exact ifB_beq (fun h => absurd h e3) (fun _ => ⟨h2.drew, hA2.drew, hno, e3, e5⟩)
          · have := hR w2.drew room n h2.drew (fun h => by rw [key, if_pos (.inr ⟨e3, e5⟩)] at h; cases h)
            rwa [key, if_pos (.inr ⟨e3, e5⟩)] at this
  · rintro _ w3 ⟨h3, hA3, hno, hn3, hsz⟩
    have hnul : nul a.2.2 = false := by
      unfold nul
      have : a.2.2.data.toList = [] := List.eq_nil_of_length_eq_zero (by rw [Array.length_toList]; exact hsz)
      rw [this]
      rfl
    rw [if_neg hno, if_neg (fun h => h.elim (fun h => hn3 h.1) (fun h => h.2 hsz)), hnul] at key
    simp only [Bool.false_eq_true, if_false] at key
    have hcost : cost a = 1 := by unfold cost; rw [if_neg hn3]
    refine hA3.rI (n := 1) rfl ?_
    refine put_spec h3 hr (by omega) fun w4 h4 o4 => ⟨rfl, ?_⟩
    have hA4 := o4 _ _ _ hA3 hbne (by decide)
    have fin : ∀ w', Below w4.heap.size w4 w' → R (.int .i64 (wrongP c a bd)) w' := fun w' hb => hR w' (room + 1) (n + 1) (h4.step hb) (fun _ => by rw [hcost, if_neg hn3]; exact ⟨rfl, .inl rfl, Nat.le_refl _⟩)
    refine hA4.rI0 rfl (ifB_beq (fun e1 => ?_) (fun e1 => ?_))
    · refine hA4.drew.rI (n := 1) rfl ?_
      obtain ⟨r, xs, hW, _⟩ := h4.own
      refine derefP_some rfl (hW.drew.rI (n := 8) rfl ?_)
      refine id_val ⟨_, rfl, ?_⟩
      have := fin w4.drew (Below.refl _ _).drew
      have e1' : a.1 = 1 := e1
      have ev : wrongP c a bd = if a.2.1 = 0 then 43 else if bd ≤ a.2.1 then 43 else 0 := by
        rw [key]
        by_cases x1 : a.2.1 = 0
        · rw [if_pos ⟨e1', .inl x1⟩, if_pos x1]
        · rw [if_neg x1]
          by_cases x2 : bd ≤ a.2.1
          · rw [if_pos ⟨e1', .inr x2⟩, if_pos x2]
          · rw [if_neg (fun h => h.2.elim x1 x2), if_neg (fun h => by have := h.1; omega), if_neg x2]
      rwa [ev] at this
    · rw [if_neg (fun h => e1 h.1)] at key
      refine ifB_beq (fun e4 => ?_) (fun e4 => ?_)
      · refine hA4.rI (n := 1) rfl ?_
        refine named_spec fun w5 b5 => ⟨_, rfl, ?_⟩
        have := fin w5 b5
        have e4' : a.1 = 4 := e4
        have ev : wrongP c a bd = if enumP c a.2.1 = false then 31 else 0 := by
          rw [key]
          by_cases x1 : enumP c a.2.1 = false
          · rw [if_pos ⟨e4', x1⟩, if_pos x1]
          · rw [if_neg (fun h => x1 h.2), if_neg x1]
        rwa [ev] at this
      · have := fin w4 (Below.refl _ _)
        rwa [key, if_neg (fun h => e4 h.1)] at this
end
theorem whole_spec {f : Fm} {s : Sl} {al : List Ag} {w : World} {R : Value → World → Prop} (hI : IsAg w s al) (h24 : 24 * al.length ≤ 140737488351232)
    (hR : ∀ w', Below w.heap.size w w' → R (.int .i64 (if (fitP f.1 (al.map (·.1))).2 = true then 0 else 42)) w') : callR Tryz.prog 190 #[fmA f, .slice s.a s.l s.c] w R := by
  refine callR.of (code_whole_calls f s R w ?_) fun _ _ h => h
  refine lay_of fun w1 hB b1 z1 => ?_
  have hB : Blk w1 w.heap.size 172 (fmV f) := hB
  have hlen := hI.len
  refine LoopW.countSl al.length hI.bound (fun k r w' => Own w' 5 1 r ((al.take k).map fun a => Value.int .u8 a.1) ∧ Fresh w1.heap.size r ∧ Below w1.heap.size w1 w') ⟨Own.nil _ _ _, fun a ha => by (cases ha), Below.refl _ _⟩ ?_
  rintro k r w2 hk ⟨hO, hF, hb⟩ next hnext
  have hb0 := b1.on hb
  have hI2 := hI.below hb0
  refine ifB_dec (fun h => ?_) (fun h => ?_)
  · have hlt : k < al.length := by dsimp only at h; omega
    refine elemA3 hI2 hlt ?_
    refine box3 rfl fun w3 h3 b3 z3 => ?_
    refine h3.rI0 rfl ?_
    refine lay_of fun w4 h4 b4 z4 => ?_
    have hrl : r.l = k := by have := hO.1; simp [Nat.min_eq_left hk] at this; omega
    refine push_fresh eU8 ((hO.below b3).below b4) ((hb.on b3).on b4) hF (v := .int .u8 al[k].1) rfl h4 (by omega) (by omega) fun r' w5 h5 b5 F5 => ?_
    refine hnext r' w5 hlt ⟨?_, F5, b5⟩
    rw [List.take_succ_eq_append_getElem hlt, List.map_append]
    exact h5
  · have hk : k = al.length := by dsimp only at h; omega
    subst hk
    rw [List.take_length] at hO
    have hB2 := hB.below hb
    refine hB2.rI0 rfl ?_
    have hO' : Own w2 5 1 r ((al.map (·.1)).map (Value.int .u8)) := by rw [List.map_map]; exact hO
    refine Fits_spec hO'.isS fun w3 b3 => ⟨_, _, rfl, ?_⟩
    have := hR w3 (hb0.on b3)
    refine ifB_not (ifB_bool (fun h => by rwa [if_pos h] at this) (fun h => by rwa [if_neg (by rw [h]; simp)] at this))

end Go.Proofs
namespace Go.Proofs
open Go.Gk Go.RowKit Go.Gm

theorem faultF_eq (g : Fl) (ty re : Int) (al : List Ag) (bd : Int) : faultF g ty re al bd =
    (let e1 := errK g ty re al bd al.length; let e2 := if e1 = 0 then (if wholeP g al.length = true then 0 else 42) else e1; if e2 = 0 then (if 65535 < roomP g al then 25 else 0) else e2) := by
  unfold faultF
  dsimp only
  by_cases h1 : errK g ty re al bd al.length = 0
  · rw [if_neg (fun h => h h1), if_pos h1]
    cases hw : wholeP g al.length
    · simp
    · simp
  · rw [if_pos h1, if_neg h1, if_neg h1]
theorem bnd3 {n n' k t C : Nat} (h1 : n ≤ 2 + k + C * t) (h2 : n' ≤ n + C) : n' ≤ 2 + (k + 1) + C * (t + 1) := by
  rw [Nat.mul_add, Nat.mul_one]
  generalize C * t = q at h1
  omega
theorem bnd1 {n n' k t C : Nat} (h1 : n ≤ 2 + k + C * t) (h2 : n' ≤ n + 1) : n' ≤ 2 + (k + 1) + C * (t + 0) := by
  rw [Nat.add_zero]
  generalize C * t = q at h1
  omega
theorem Raw_spec {x : Ins} {al : List Ag} {bd : Int} {w : World} {R : Value → World → Prop} (hI : IsAg w x.2.2.2.1 al) (h24 : 24 * al.length ≤ 140737488351232) (hs : ∀ y ∈ al, y.2.2.size ≤ 9223372036854775807)
    (hR : ∀ (r : Sl) (op : Int) w', Below w.heap.size w w' → (faultP x.1 x.2.1 x.2.2.1 al bd = 0 → 1 + r.l = roomI (x.1, x.2.1, x.2.2.1, al) ∧ roomI (x.1, x.2.1, x.2.2.1, al) ≤ 65535) →
      R (.tuple #[.agg #[.int .u16 op, .slice r.a r.l r.c], .int .i64 (faultP x.1 x.2.1 x.2.2.1 al bd)]) w') :
    callR Tryz.prog 153 #[inA x, .int .u32 bd] w R := by
  refine callR.of (code_Raw_calls x bd R w ?_) fun _ _ h => h
  refine lay_of fun w1 hB1 b1 z1 => ?_
  have hB1 : Blk w1 w.heap.size 52 (inV x) := hB1
  refine lay_of fun w2 hC2 b2 z2 => ?_
  have hC2 : Blk w2 w1.heap.size 245 [.int .u16 0, .slice none 0 0] := hC2
  have hB2 := hB1.below b2
  have hb2 := b1.on b2
  refine hB2.rI0 rfl ?_
  refine gOf_spec fun w3 b3 => ⟨fmO x.1 (frm x.1), (frm x.1).isSome, rfl, ?_⟩
  refine box8 rfl fun w4 hF4 b4 z4 => ?_
  have hF4 : Blk w4 w3.heap.size 172 (fmV (fmO x.1 (frm x.1))) := hF4
  have b24 := b3.on b4
  have hb4 := hb2.on b24
  have hB4 := hB2.below b24
  have hC4 := hC2.below b24
  have s1 := b1.size
  have s2 := b2.size
  have s3 := b3.size
  have s4 := b4.size
  have hlen := hI.len
  refine ifB_bool (fun hn => ?_) (fun hn => ?_)
  · have hfr : frm x.1 = none := by
      cases h : frm x.1 with
      | none => rfl
      | some g => rw [h] at hn; cases hn
    have hfp : faultP x.1 x.2.1 x.2.2.1 al bd = 30 := faultP_none hfr
    rw [hfp] at hR
    refine st2 hC4 rfl fun w5 hC5 c5 => ?_
    refine hC5.rI (n := 0) rfl (hC5.rS (n := 1) (x := ⟨none, 0, 0⟩) rfl ?_)
    exact hR ⟨none, 0, 0⟩ 0 w5 (c5.below hb4 (by omega)) (fun h => by cases h)
  · obtain ⟨g, hfr⟩ : ∃ g, frm x.1 = some g := by
      cases h : frm x.1 with
      | none => rw [h] at hn; cases hn
      | some g => exact ⟨g, rfl⟩
    have efl : flOf x.1 = g := by unfold flOf; rw [hfr]; rfl
    rw [hfr] at hF4
    rw [faultP_some hfr, show roomI (x.1, x.2.1, x.2.2.1, al) = roomP g al by unfold roomI; dsimp only; rw [hfr]] at hR
    have hop : (fmO x.1 (some g)).1 = x.1 := rfl
    have hty : (fmO x.1 (some g)).2.2.1 = g.ty := rfl
    have hre : (fmO x.1 (some g)).2.2.2.1 = g.re := rfl
    have hwh := @fit_whole x.1 g hfr al bd
    generalize fmO x.1 (some g) = fm at hF4 hop hty hre
    refine Fm.load hF4 ?_
    refine lay_of fun w5 hW5 b5 z5 => ?_
    have hW5 : Blk w5 w4.heap.size 274 (wrV fm bd ⟨none, 0, 0⟩ 0) := hW5
    have hS5 : WtS w4 w5 w4.heap.size fm bd 0 0 := ⟨Nat.le_refl _, b5, ⟨none, 0, 0⟩, [], hW5, Own.nil _ _ _, (fun a ha => by cases ha), rfl⟩
    have hF5 := hF4.below b5
    have hB5 := hB4.below b5
    refine hF5.rB (n := 2) rfl (hB5.rI (n := 1) rfl ?_)
    refine head_spec hS5 (by omega) (by omega) fun w6 room6 n6 hS6 hr6 hn6 he6 => ⟨_, rfl, ?_⟩
    rw [hty] at he6 ⊢
    have e0 : errK g x.2.1 x.2.2.1 al bd 0 = if idP g.ty x.2.1 bd 40 = 0 then idP g.re x.2.2.1 bd 41 else idP g.ty x.2.1 bd 40 := by
      unfold errK
      rw [argK_zero]
      by_cases h1 : idP g.ty x.2.1 bd 40 = 0
      · rw [if_neg (fun h => h h1), if_pos h1]
        by_cases h2 : idP g.re x.2.2.1 bd 41 = 0
        · rw [if_neg (fun h => h h2), h2]
        · rw [if_pos h2]
      · rw [if_pos h1, if_neg h1]
    refine JoinW.cut (fun st w' => st.1 = errK g x.2.1 x.2.2.1 al bd 0 ∧ ∃ room n, WtS w4 w' w4.heap.size fm bd room n ∧ (errK g x.2.1 x.2.2.1 al bd 0 = 0 → room = g.ty.toNat + g.re.toNat ∧ n = room)) ?_ ?_
    · refine ifB_beq (fun e => ?_) (fun e => ?_)
      · rw [if_pos e] at e0
        obtain ⟨g1, g2⟩ := he6 e (by decide)
        have hF6 := hF4.below hS6.below
        have hB6 := hB4.below hS6.below
        refine hF6.rB (n := 3) rfl (hB6.rI (n := 2) rfl ?_)
        refine head_spec hS6 (by omega) (by omega) fun w7 room7 n7 hS7 hr7 hn7 he7 => ⟨_, rfl, ?_, room7, n7, hS7, fun h0 => ?_⟩
        · rw [e0, hre]
        · rw [e0] at h0
          rw [hre] at he7
          obtain ⟨g3, g4⟩ := he7 h0 (by decide)
          omega
      · rw [if_neg e] at e0
        exact ⟨e0.symm, room6, n6, hS6, fun h0 => absurd (e0.symm.trans h0) e⟩
    · rintro ⟨ev, _⟩ w7 ⟨hev, room7, n7, hS7, hz7⟩
      dsimp only at hev
      subst hev
      have hB7 := hB4.below hS7.below
      refine hB7.rS (n := 3) rfl ?_
      have htn : g.ty.toNat + g.re.toNat ≤ 2 := by cases g.ty <;> cases g.re <;> decide
      refine LoopW.ghost (fun j st w' => ∃ k, k ≤ al.length ∧ j = al.length - k ∧ st = (errK g x.2.1 x.2.2.1 al bd k, (k : Int), ()) ∧ ∃ room n, WtS w4 w' w4.heap.size fm bd room n ∧
        (errK g x.2.1 x.2.2.1 al bd k = 0 → room = g.ty.toNat + g.re.toNat + costN al k ∧ (n = room ∨ 65535 < room) ∧ n ≤ 2 + k + 65535 * tx al k)) al.length
        ⟨0, Nat.zero_le _, rfl, rfl, room7, n7, hS7, fun h => by obtain ⟨g1, g2⟩ := hz7 h; refine ⟨by rw [g1]; simp [costN], .inl g2, ?_⟩; simp [tx]; omega⟩ ?_
      rintro _ _ w8 ⟨k, hk, rfl, rfl, room8, n8, hS8, hz8⟩ next hnext
      refine ifB_dec (fun h => ?_) (fun h => ?_)
      · have hlt : k < al.length := by dsimp only at h; omega
        have hI8 := hI.below (hb4.on hS8.below)
        refine JoinW.cut (fun st w' => st.1 = errK g x.2.1 x.2.2.1 al bd (k + 1) ∧ ∃ room n, WtS w4 w' w4.heap.size fm bd room n ∧
          (errK g x.2.1 x.2.2.1 al bd (k + 1) = 0 → room = g.ty.toNat + g.re.toNat + costN al (k + 1) ∧ (n = room ∨ 65535 < room) ∧ n ≤ 2 + (k + 1) + 65535 * tx al (k + 1))) ?_ ?_
        · refine elemA3 hI8 hlt ?_
          refine box3 rfl fun w9 hA9 b9 z9 => ?_
          have hS9 := hS8.step b9
          refine ifB_beq (fun e => ?_) (fun e => ?_)
          · obtain ⟨g1, g2, g3⟩ := hz8 e
            obtain ⟨_, _, ha⟩ := errK_all e
            have hwe := argK_all ha
            have htx := tx_one hfr (k := k) (by omega) hwe
            have hcn := costN_le hs (k := k) (by omega)
            refine hA9.rI (n := 0) rfl (hA9.rI (n := 1) rfl (hA9.rT (n := 2) rfl ?_))
            refine arg_spec hS9 (k := k) (by omega) (hs _ (List.getElem_mem hlt)) (by omega) (by omega) fun w10 room' n' hS10 hz10 => ⟨_, rfl, ?_, room', n', hS10, fun h0 => ?_⟩
            · rw [errK_succ, if_pos e, hop, efl]
              unfold werr
              rw [getD_lt hlt]
            · rw [errK_succ, if_pos e] at h0
              unfold werr at h0
              rw [getD_lt hlt] at h0
              rw [hop, efl] at hz10
              obtain ⟨q1, q2, q3⟩ := hz10 h0
              rw [costN_succ hlt, tx_succ hlt]
              refine ⟨by omega, by omega, ?_⟩
              split at q3 <;> rename_i h3
              · rw [if_pos h3]; exact bnd3 g3 q3
              · rw [if_neg h3]; exact bnd1 g3 q3
          · refine ⟨?_, room8, n8, hS9, fun h0 => ?_⟩
            · rw [errK_succ, if_neg e]
            · rw [errK_succ, if_neg e] at h0
              exact absurd h0 e
        · rintro ⟨ev, _⟩ w9 ⟨hev, room9, n9, hS9, hz9⟩
          dsimp only at hev
          subst hev
          dsimp only
          rw [wrap64_succ (by omega)]
          exact hnext (al.length - (k + 1)) _ _ (by omega) ⟨k + 1, hlt, rfl, rfl, room9, n9, hS9, hz9⟩
      · have hk' : k = al.length := by dsimp only at h; omega
        subst hk'
        have hff := faultF_eq g x.2.1 x.2.2.1 al bd
        dsimp only at hff
        have hb8 := hS8.below
        have hF8 := hF4.below hb8
        have hB8 := hB4.below hb8
        have hI8 := hI.below (hb4.on hb8)
        refine JoinW.cut (fun st w' => st.1 = (if errK g x.2.1 x.2.2.1 al bd al.length = 0 then (if wholeP g al.length = true then 0 else 42) else errK g x.2.1 x.2.2.1 al bd al.length) ∧ WtS w4 w' w4.heap.size fm bd room8 n8) ?_ ?_
        · refine ifB_beq (fun e => ?_) (fun e => ?_)
          · refine Fm.load hF8 ?_
            refine hB8.rS (n := 3) rfl ?_
            refine whole_spec (f := fm) hI8 h24 fun w9 b9 => ⟨_, rfl, ?_, hS8.step b9⟩
            obtain ⟨_, _, ha⟩ := errK_all e
            rw [if_pos e, hop, hwh (argK_all ha)]
          · exact ⟨by rw [if_neg e], hS8⟩
        · rintro ⟨ev, _⟩ w9 ⟨hev, hS9⟩
          dsimp only at hev
          rw [← hev] at hff
          have hroom : ev = 0 → errK g x.2.1 x.2.2.1 al bd al.length = 0 := by
            intro h
            rw [h] at hev
            refine Classical.byContradiction fun hne => ?_
            rw [if_neg hne] at hev
            exact hne hev.symm
          obtain ⟨r, xs, hW9, hO9, hFr9, hrl9⟩ := hS9.own
          refine JoinW.cut (fun st w' => st.1 = faultF g x.2.1 x.2.2.1 al bd ∧ w' = w9) ?_ ?_
          · refine ifB_beq (fun e => ?_) (fun e => ?_)
            · have e' : ev = 0 := e
              rw [if_pos e'] at hff
              obtain ⟨g1, _, _⟩ := hz8 (hroom e')
              have hrp : roomP g al = 1 + room8 := by unfold roomP; rw [g1]
              refine hW9.rI (n := 10) rfl (ifB_dec (fun hge => ⟨?_, rfl⟩) (fun hlt => ⟨?_, rfl⟩))
              · rw [hff, if_pos (by omega)]
              · rw [hff, if_neg (by omega)]; exact e
            · have e' : ¬ ev = 0 := e
              rw [if_neg e'] at hff
              exact ⟨hff.symm, rfl⟩
          · rintro ⟨ev2, _⟩ w' ⟨hev2, hw'⟩
            dsimp only at hev2
            subst hw'
            have hb9 := hb4.on hS9.below
            have hC9 := hC4.below hS9.below
            have hB9 := hB4.below hS9.below
            refine ifB_bne (fun e => ?_) (fun e => ?_)
            · refine st2 hC9 rfl fun w10 hC10 c10 => ?_
              refine hC10.rI (n := 0) rfl (hC10.rS (n := 1) (x := ⟨none, 0, 0⟩) rfl ?_)
              have := hR ⟨none, 0, 0⟩ 0 w10 (c10.below hb9 (by omega)) (fun h => absurd (hev2.trans h) e)
              rw [← hev2] at this
              exact this
            · have e' : ev2 = 0 := e
              refine hB9.drew.rI0 rfl (hW9.drew.rS (n := 9) (x := r) rfl ?_)
              refine st2 hC9.drew rfl fun w10 hC10 c10 => ?_
              refine hC10.rI (n := 0) rfl (hC10.rS (n := 1) (x := r) rfl ?_)
              have hf0 : faultF g x.2.1 x.2.2.1 al bd = 0 := hev2.symm.trans e'
              have := hR r x.1 w10 (c10.below hb9.drew (by omega)) (fun _ => by
                rw [hf0] at hff
                have h0 : ev = 0 := by
                  refine Classical.byContradiction fun hne => ?_
                  rw [if_neg hne] at hff
                  exact hne hff.symm
                rw [if_pos h0] at hff
                have hle : ¬ 65535 < roomP g al := by
                  intro h
                  rw [if_pos h] at hff
                  cases hff
                obtain ⟨g1, g2, _⟩ := hz8 (hroom h0)
                have hrp : roomP g al = 1 + room8 := by unfold roomP; rw [g1]
                omega)
              rw [hf0] at this
              exact this

theorem counted_nil {w : World} {R : Value → World → Prop} (hR : ∀ w', Below w.heap.size w w' → R (.tuple #[.int .i64 5, .agg #[.int .i64 0, .int .i64 0]]) w') : callR Tryz.prog 186 #[.slice none 0 0] w R := by
  refine callR.of (frame_counted_calls ⟨none, 0, 0⟩ R w ?_) fun _ _ h => h
  refine lay_of fun w1 hB b1 z1 => ?_
  have hB : Blk w1 w.heap.size 44 [.int .i64 0, .int .i64 0] := hB
  refine LoopW.ghost (fun j st w' => j = 0 ∧ st = ((5 : Int), (0 : Int), ()) ∧ w' = w1) 0 ⟨rfl, rfl, rfl⟩ ?_
  rintro _ _ w' ⟨rfl, rfl, hw⟩ next hnext
  subst hw
  refine ifB_dec (fun h => absurd h (by simp)) (fun _ => ?_)
  refine st2 hB rfl fun w2 h2 c2 => ?_
  exact Sp.load h2 (hR w2 (c2.below b1 (Nat.le_refl _)))
theorem Size_nil {w : World} {R : Value → World → Prop} (hR : ∀ w', Below w.heap.size w w' → R (.tuple #[.int .i64 5, .int .i64 0]) w') : callR Tryz.prog 152 #[.slice none 0 0] w R := by
  refine callR.of (frame_Size_calls ⟨none, 0, 0⟩ R w ?_) fun _ _ h => h
  refine counted_nil fun w1 b1 => ⟨5, (0, 0, ()), rfl, ?_⟩
  refine box2 rfl fun w2 h2 b2 z2 => ?_
  exact h2.drew.rI0 rfl (hR w2.drew (b1.on b2).drew)
theorem eRaw : ElemT Tryz.prog 199 245 2 32 := ⟨by kernel_rfl, Tryz.t245, .agg #[.int .u16 0, .slice none 0 0], by kernel_rfl, rfl, rfl, rfl, rfl⟩
/-- append of one element of some cells to a list of the code's own, in new memory. -/
theorem push_cells {P : Program} {t e : TypeId} {sz bytes : Nat} (he : ElemT P t e sz bytes) {w0 w : World} {s : Sl} {xs : List Value} (h : Own w e sz s xs) (hb : Below w0.heap.size w0 w) (hF : Fresh w0.heap.size s) {vs : List Value} (hvs : vs.length = sz) (hv : ∀ u ∈ vs, u.oneCell' = true) {b c : Nat} {T : TypeId}
    (hB : Blk w b T vs) (h63 : s.l + 1 ≤ 9223372036854775807) (hbytes : (s.l + 1) * bytes ≤ 140737488355328) {k : Sl → World → Prop}
    (hk : ∀ r w', Own w' e sz r (xs ++ vs) → r.l = s.l + 1 → Below w0.heap.size w0 w' → Fresh w0.heap.size r → k r w') : appendS P t (.slice s.a s.l s.c) (.slice (some (blk b)) 1 c) w k := by
  refine append_own he h (news := vs) (by omega) (fun j u hj => hB.cell hj) hv h63 hbytes fun r w' h1 hl' hg => ?_
  rcases hg with ⟨_, _, h3⟩ | ⟨b', h3, h4, h5⟩
  · rw [h3] at hl'; omega
  · have hbb : w0.heap.size ≤ b' := by
      rcases h4 with h4 | h4
      · exact hF _ h4
      · have := hb.size
        omega
    exact hk r w' h1 hl' (hb.trans (below_grown h5 hbb hb.size)) fun a ha => by rw [h3] at ha; cases ha; exact hbb
theorem raws_spec {x : Mo} {pl : List PI} {w : World} {R : Value → World → Prop} (hN : IsPl w x.2.2.1 pl) (hp : PlOk pl) (hR : ∀ (r : Sl) w', Below w.heap.size w w' → R (.tuple #[.slice r.a r.l r.c, .agg #[.int .i64 (shapeP x.2.1 pl).1, .int .i64 ((shapeP x.2.1 pl).2 : Int)]]) w') :
    callR Tryz.prog 108 #[moA x] w R := by
  refine callR.of (code_raws_calls x R w ?_) fun _ _ h => h
  refine lay_of fun w1 hB1 b1 z1 => ?_
  have hB1 : Blk w1 w.heap.size 25 (moV x) := hB1
  refine lay_of fun w2 hC2 b2 z2 => ?_
  have hC2 : Blk w2 w1.heap.size 44 [.int .i64 0, .int .i64 0] := hC2
  have hB2 := hB1.below b2
  have hb2 := b1.on b2
  have s1 := b1.size
  have s2 := b2.size
  have hlen := hN.len
  have h40 := hp.len
  have spot : ∀ {w' cs}, Blk w' w1.heap.size 44 cs → cs.length = 2 → Below w.heap.size w w' → ∀ (r : Sl) (e a : Int), (e, a) = ((shapeP x.2.1 pl).1, ((shapeP x.2.1 pl).2 : Int)) →
      Wr w' (blk w1.heap.size) ∧ Nw (w'.setCell (blk w1.heap.size) (.int .i64 e)) fun w3 => Wr w3 ((blk w1.heap.size).add 1) ∧ Nw (w3.setCell ((blk w1.heap.size).add 1) (.int .i64 a)) fun w4 =>
        ldI w4 ((blk w1.heap.size).add 0) .i64 fun x4 => ldI w4 ((blk w1.heap.size).add 1) .i64 fun x5 => R (.tuple #[.slice r.a r.l r.c, .agg #[.int .i64 x4, .int .i64 x5]]) w4 := by
    intro w' cs hC hl hb r e a hea
    refine st2 hC hl fun w3 h3 c3 => Sp.load h3 ?_
    rw [Prod.mk.injEq] at hea
    rw [hea.1, hea.2]
    exact hR r w3 (c3.below hb (by omega))
  refine JoinW.cut (fun _ w' => w' = w2 ∧ ¬ (x.2.1 = 0 ∨ 65536 < x.2.1)) ?_ ?_
  · refine hB2.rI (n := 1) rfl (ifB_beq (fun e => ?_) (fun e => ?_))
    · exact spot hC2 rfl hb2 ⟨none, 0, 0⟩ 24 0 (by rw [shape_bound (.inl e)]; rfl)
    · refine hB2.rI (n := 1) rfl (ifB_dec (fun h => ?_) (fun h => ⟨rfl, fun h' => h'.elim e h⟩))
      exact spot hC2 rfl hb2 ⟨none, 0, 0⟩ 24 0 (by rw [shape_bound (.inr h)]; rfl)
  · rintro _ w' ⟨hw, hbd⟩
    subst hw
    refine Size_nil fun w3 b3 => ⟨_, _, rfl, ?_⟩
    have hB3 := hB2.below b3
    have hC3 := hC2.below b3
    have hb3 := hb2.on b3
    refine hB3.rS (n := 2) rfl ?_
    rw [show IntKind.i64.wrap (1048576 - 5) = 1048571 by decide +kernel]
    refine LoopW.ghost (fun j st w4 => ∃ (k : Nat) (r : Sl) (xs : List Value), k ≤ pl.length ∧ j = pl.length - k ∧ st = ((1048576 : Int) - (totP pl k : Int), r, (k : Int), ()) ∧ totP pl k ≤ 1048576 ∧ (∀ i, i < k → badI pl x.2.1 i = false) ∧ Own w4 245 2 r xs ∧ Fresh w'.heap.size r ∧ r.l = k ∧
      Below w'.heap.size w' w4) pl.length ⟨0, ⟨none, 0, 0⟩, [], Nat.zero_le _, rfl, rfl, (by simp [totP]), fun i hi => by omega, Own.nil _ _ _, fun a ha => by (cases ha), rfl, b3⟩ ?_
    rintro _ _ w4 ⟨k, r, xs, hk, rfl, rfl, htot, hj, hO, hF, hrl, hb4⟩ next hnext
    have hbw4 := hb2.on hb4
    have hB4 := hB2.below hb4
    have hC4 := hC2.below hb4
    refine ifB_dec (fun h => ?_) (fun h => ?_)
    · have hlt : k < pl.length := by dsimp only at h; omega
      have hmem := List.getElem_mem hlt
      refine elemPI (hN.below hbw4) hlt fun t ht => ?_
      refine box4 rfl fun w5 hI5 b5 z5 => ?_
      have hI5 : Blk w5 w4.heap.size 52 (inV (mkIn pl[k] t)) := hI5
      refine Ins.load hI5 ?_
      refine (hB4.below b5).rI (n := 1) rfl ?_
      refine Raw_spec (x := mkIn pl[k] t) (ht.below b5) (hp.args _ hmem) (hp.text _ hmem) fun q op w6 b6 hq => ⟨(op, q, ()), _, rfl, ?_⟩
      refine box2 rfl fun w7 h7 b7 z7 => ?_
      have h7 : Blk w7 w6.heap.size 245 [.int .u16 op, .slice q.a q.l q.c] := h7
      have b57 := (b5.on b6).on b7
      have hb7 := hb4.on b57
      refine h7.rS (n := 1) (x := q) rfl ?_
      change faultI pl[k] x.2.1 = 0 → 1 + q.l = roomI pl[k] ∧ roomI pl[k] ≤ 65535 at hq
      show ifB (faultI pl[k] x.2.1 != 0) _ _
      refine ifB_bne (fun e => ?_) (fun e => ?_)
      · exact spot (hC4.below b57) rfl (hbw4.on b57) ⟨none, 0, 0⟩ _ _ (by rw [shape_fault hbd hlt hj e]; rfl)
      · obtain ⟨q1, q2⟩ := hq e
        have ht1 := totP_succ hlt
        have hleft : IntKind.i64.wrap (((1048576 : Int) - (totP pl k : Int)) - IntKind.i64.wrap (1 + (q.l : Int))) = (1048576 : Int) - (totP pl (k + 1) : Int) := by
          rw [wrap64_in (x := (1 : Int) + (q.l : Int)) (by omega) (by omega), wrap64_in (by omega) (by omega)]
          omega
        dsimp only
        rw [hleft]
        refine ifB_dec (fun hlt0 => ?_) (fun hge0 => ?_)
        · exact spot (hC4.below b57) rfl (hbw4.on b57) ⟨none, 0, 0⟩ _ _ (by rw [shape_large hbd hlt hj e (by omega)])
        · have hbk := badI_false hlt e (show ¬ 1048576 < totP pl (k + 1) by omega)
          refine h7.rI (n := 0) rfl (h7.rS (n := 1) (x := q) rfl ?_)
          refine lay_of fun w8 h8 b8 z8 => ?_
          have h8 : Blk w8 w7.heap.size 245 [.int .u16 op, .slice q.a q.l q.c] := h8
          refine push_cells eRaw ((hO.below b57).below b8) (hb7.on b8) hF rfl (by simp [Value.oneCell']) h8 (by omega) (by omega) fun r' w9 hO9 hl9 b9 F9 => ?_
          rw [wrap64_succ (by omega)]
          refine hnext (pl.length - (k + 1)) _ _ (by omega) ⟨k + 1, r', _, hlt, rfl, rfl, by omega, fun i hi => ?_, hO9, F9, by omega, b9⟩
          by_cases e' : i = k
          · subst e'; exact hbk
          · exact hj i (by omega)
    · have hk' : k = pl.length := by dsimp only at h; omega
      subst hk'
      exact spot hC4 rfl hbw4 r 0 0 (by rw [shape_good hbd hj]; rfl)
theorem Shape_spec {x : Mo} {pl : List PI} {w : World} {R : Value → World → Prop} (hN : IsPl w x.2.2.1 pl) (hp : PlOk pl) (hR : ∀ w', Below w.heap.size w w' → R (.agg #[.int .i64 (shapeP x.2.1 pl).1, .int .i64 ((shapeP x.2.1 pl).2 : Int)]) w') :
    callR Tryz.prog 73 #[moA x] w R := by
  refine callR.of (code_Shape_calls x R w ?_) fun _ _ h => h
  refine lay_of fun w1 hB1 b1 z1 => ?_
  have hB1 : Blk w1 w.heap.size 25 (moV x) := hB1
  refine lay_of fun w2 hC2 b2 z2 => ?_
  have hC2 : Blk w2 w1.heap.size 44 [.int .i64 0, .int .i64 0] := hC2
  have hb2 := b1.on b2
  refine Mo.load (hB1.below b2) ?_
  refine raws_spec (x := x) (hN.below hb2) hp fun r w3 b3 => ⟨r, ((shapeP x.2.1 pl).1, ((shapeP x.2.1 pl).2 : Int), ()), rfl, ?_⟩
  refine box2 rfl fun w4 h4 b4 z4 => ?_
  refine Sp.load h4 ?_
  refine st2 ((hC2.below b3).below b4) rfl fun w5 h5 c5 => ?_
  refine Sp.load h5 (hR w5 (c5.below ((hb2.on b3).on b4) (by have := b1.size; omega)))

end Go.Proofs
namespace Go.Proofs
open Go.Gk Go.RowKit Go.Gm


def idsN (ty : Int) (al : List Ag) (k : Nat) : List Int := (if ty = 0 then [] else [ty]) ++ ((al.take k).filter fun a => a.1 == 1).map (·.2.1)
def idsP (ty : Int) (al : List Ag) : List Int := idsN ty al al.length
theorem idsN_succ {ty : Int} {al : List Ag} {k : Nat} (hk : k < al.length) : idsN ty al (k + 1) = idsN ty al k ++ (if al[k].1 = 1 then [al[k].2.1] else []) := by
  unfold idsN
  rw [List.take_succ_eq_append_getElem hk, List.filter_append, List.map_append, ← List.append_assoc]
  congr 1
  by_cases e : al[k].1 = 1
  · rw [if_pos e]
    have : (al[k].1 == 1) = true := beq_iff_eq.2 e
    simp [this]
  · rw [if_neg e]
    have : (al[k].1 == 1) = false := beq_eq_false_iff_ne.2 e
    simp [this]
theorem idsN_len (ty : Int) (al : List Ag) (k : Nat) : (idsN ty al k).length ≤ k + 1 := by
  unfold idsN
  rw [List.length_append, List.length_map]
  have h1 := List.length_filter_le (fun a : Ag => a.1 == 1) (al.take k)
  rw [List.length_take] at h1
  have h2 : (if ty = 0 then ([] : List Int) else [ty]).length ≤ 1 := by split <;> simp
  omega
section
variable {x : Ins} {al : List Ag} {w : World} {R : Value → World → Prop}
theorem Ids_spec (hI : IsAg w x.2.2.2.1 al) (h24 : 24 * al.length ≤ 140737488351232)
    (hR : ∀ r w', Own w' 22 1 r ((idsP x.2.1 al).map (Value.int .u32)) → Fresh w.heap.size r → Below w.heap.size w w' → R (.slice r.a r.l r.c) w') : callR Tryz.prog 123 #[inA x] w R := by
  refine callR.of (code_Ids_calls x R w ?_) fun _ _ h => h
  refine lay_of fun w1 hB b1 z1 => ?_
  have hB : Blk w1 w.heap.size 52 (inV x) := hB
  have hlen := hI.len
  refine JoinW.cut (fun st w' => Own w' 22 1 st.1 ((idsN x.2.1 al 0).map (Value.int .u32)) ∧ Fresh w1.heap.size st.1 ∧ Below w1.heap.size w1 w') ?_ ?_
  · refine hB.rI (n := 1) rfl (ifB_bne (fun e => ?_) (fun e => ?_))
    · refine hB.rI (n := 1) rfl ?_
      refine lay_of fun w2 h2 b2 z2 => ?_
      refine push_fresh eU32 (Own.nil _ _ _) b2 (fun a ha => by cases ha) (v := .int .u32 x.2.1) rfl h2 (by decide) (by decide) fun r w3 h3 b3 F3 => ⟨?_, F3, b3⟩
      unfold idsN
      rw [if_neg e]
      simpa using h3
    · refine ⟨?_, fun a ha => by (cases ha), Below.refl _ _⟩
      unfold idsN
      rw [if_pos e]
      simpa using Own.nil w1 22 1
  · rintro ⟨r0, _⟩ w2 ⟨hO2, hF2, hb2⟩
    dsimp only at hO2 hF2 ⊢
    refine (hB.below hb2).rS (n := 3) rfl ?_
    refine LoopW.countSl al.length hI.bound (fun k r w' => Own w' 22 1 r ((idsN x.2.1 al k).map (Value.int .u32)) ∧ Fresh w1.heap.size r ∧ Below w1.heap.size w1 w') ⟨hO2, hF2, hb2⟩ ?_
    rintro k r w3 hk ⟨hO, hF, hb⟩ next hnext
    have hb0 := b1.on hb
    have hI3 := hI.below hb0
    refine ifB_dec (fun h => ?_) (fun h => ?_)
    · have hlt : k < al.length := by dsimp only at h; omega
      refine JoinW.cut (fun st w' => Own w' 22 1 st.1 ((idsN x.2.1 al (k + 1)).map (Value.int .u32)) ∧ Fresh w1.heap.size st.1 ∧ Below w1.heap.size w1 w') ?_ ?_
      · refine elemA3 hI3 hlt ?_
        refine box3 rfl fun w4 h4 b4 z4 => ?_
        have hrl : r.l ≤ k + 1 := by have := hO.1; have h2 := idsN_len x.2.1 al k; rw [List.length_map] at this; omega
        refine h4.rI0 rfl (ifB_beq (fun e => ?_) (fun e => ?_))
        · refine h4.rI (n := 1) rfl ?_
          refine lay_of fun w5 h5 b5 z5 => ?_
          refine push_fresh eU32 ((hO.below b4).below b5) ((hb.on b4).on b5) hF (v := .int .u32 al[k].2.1) rfl h5 (by omega) (by omega) fun r' w6 h6 b6 F6 => ⟨?_, F6, b6⟩
          rw [idsN_succ hlt, if_pos e, List.map_append]
          exact h6
        · refine ⟨?_, hF, hb.on b4⟩
          rw [idsN_succ hlt, if_neg e, List.append_nil]
          exact hO.below b4
      · rintro ⟨r', _⟩ w' ⟨h1, h2, h3⟩
        exact hnext r' w' hlt ⟨h1, h2, h3⟩
    · have hk : k = al.length := by dsimp only at h; omega
      subst hk
      exact hR r w3 hO (fun a ha => by have := hF a ha; have := b1.size; omega) hb0
end

end Go.Proofs
namespace Go.Proofs
open Go.Gk Go.RowKit Go.Gm

/-- What CopyModule lays: the instructions at block b, each one's arguments in a block of its own behind. -/
def Cpy (w : World) (b : Nat) (pl : List PI) : Prop :=
  ∃ hs : List Ins, hs.length = pl.length ∧ Blk w b 52 (flat inV hs) ∧ ∀ (j : Nat) (h : j < hs.length) (h' : j < pl.length), ∃ c, b < c ∧ hs[j] = mkIn pl[j] ⟨some (blk c), pl[j].2.2.2.length, pl[j].2.2.2.length⟩ ∧ Blk w c 55 (flat agV pl[j].2.2.2)
theorem Cpy.isPl {w : World} {b : Nat} {pl : List PI} (h : Cpy w b pl) (hm : pl.length ≤ 9223372036854775807) (hm' : ∀ p ∈ pl, p.2.2.2.length ≤ 9223372036854775807) : IsPl w ⟨some (blk b), pl.length, pl.length⟩ pl := by
  obtain ⟨hs, h1, h2, h3⟩ := h
  refine ⟨rfl, Nat.le_refl _, hm, (fun h => by cases h), fun a ha k hk => ?_⟩
  cases ha
  obtain ⟨c, h4, h5, h6⟩ := h3 k (by omega) hk
  refine ⟨⟨some (blk c), pl[k].2.2.2.length, pl[k].2.2.2.length⟩, fun j hj => ?_, Blk.isC agV_len (by omega) h6 (hm' _ (List.getElem_mem hk))⟩
  rw [← h5]
  have hg := flat_get inV_len hs k (by omega) j hj
  have hlt : j < (inV (hs[k]'(by omega))).length := hj
  rw [List.getElem?_eq_getElem hlt] at hg ⊢
  exact h2.cell hg
theorem CopyModule_spec {x : Mo} {pl : List PI} {w : World} {R : Value → World → Prop} (hN : IsPl w x.2.2.1 pl) (hp : PlOk pl)
    (hR : ∀ b w', w.heap.size ≤ b → Cpy w' b pl → IsPl w' ⟨some (blk b), pl.length, pl.length⟩ pl → Below w.heap.size w w' → R (moA (x.1, x.2.1, ⟨some (blk b), pl.length, pl.length⟩, ())) w') :
    callR Tryz.prog 29 #[moA x] w R := by
  refine callR.of (intagliokit_CopyModule_calls x R w ?_) fun _ _ h => h
  refine lay_of fun w1 hB1 b1 z1 => ?_
  have hB1 : Blk w1 w.heap.size 25 (moV x) := hB1
  refine lay_of fun w2 hC2 b2 z2 => ?_
  have hC2 : Blk w2 w1.heap.size 25 [.int .u32 0, .int .u32 0, .slice none 0 0] := hC2
  have hB2 := hB1.below b2
  have hl := hN.len
  have h40 := hp.len
  refine hB2.rS (n := 2) rfl ⟨⟨by omega, by omega, by omega, by omega⟩, ?_⟩
  refine lay_of fun w3 hD3 b3 z3 => ?_
  have hb3 := (b1.on b2).on b3
  have hB3 := hB2.below b3
  have hC3 := hC2.below b3
  have hargs : ∀ p ∈ pl, p.2.2.2.length ≤ 9223372036854775807 := fun p h => by have := hp.args p h; omega
  refine LoopW.count pl.length hN.bound (fun k w' => Below w.heap.size w w' ∧ w3.heap.size ≤ w'.heap.size ∧ Blk w' w.heap.size 25 (moV x) ∧ Blk w' w1.heap.size 25 [.int .u32 0, .int .u32 0, .slice none 0 0] ∧
      ∃ (hs : List Ins) (r : List Value), hs.length = k ∧ Blk w' w2.heap.size 52 (flat inV hs ++ r) ∧ r.length = (pl.length - k) * 4 ∧
        ∀ (j : Nat) (h : j < hs.length) (h' : j < pl.length), ∃ c, w2.heap.size < c ∧ hs[j] = mkIn pl[j] ⟨some (blk c), pl[j].2.2.2.length, pl[j].2.2.2.length⟩ ∧ Blk w' c 55 (flat agV pl[j].2.2.2))
    ⟨hb3, Nat.le_refl _, hB3, hC3, [], _, rfl, by simpa [flat] using hD3, by rw [Array.length_toList, size_madeCells, hl]; simp, fun j h _ => by cases h⟩ ?_
  rintro k w4 hk ⟨hb, hz, hB, hC, hs, r, hhl, hD, hr, hrow⟩ next hnext
  refine hB.rS (n := 2) rfl (ifB_dec (fun hlt => ?_) (fun hge => ?_))
  · have hlt : k < pl.length := by dsimp only at hlt; omega
    refine hB.rS (n := 2) rfl (elemPI (hN.below hb) hlt fun t ht => ?_)
    refine CopyInst_spec (x := mkIn pl[k] t) ht (hp.args _ (List.getElem_mem hlt)) fun c w5 hc hA5 hI5 b5 => ⟨mkIn pl[k] ⟨some (blk c), pl[k].2.2.2.length, pl[k].2.2.2.length⟩, rfl, ?_⟩
    have hb5 := hb.on b5
    have hD5 := hD.below b5
    have hB5 := hB.below b5
    have hC5 := hC.below b5
    have s5 := b5.size
    refine ⟨⟨by omega, by dsimp only; omega⟩, ?_⟩
    have hfl : (flat inV hs).length = k * 4 := by rw [flat_length inV_len, hhl]
    obtain ⟨r', hr', e⟩ := set4 (flat inV hs) (cs := r) (m := pl.length - (k + 1)) (by rw [hr]; congr 1; omega) (.int .u16 pl[k].1) (.int .u32 pl[k].2.1) (.int .u32 pl[k].2.2.1) (.slice (some (blk c)) pl[k].2.2.2.length pl[k].2.2.2.length)
    rw [hfl] at e
    have hcl : (flat inV hs ++ r).length = pl.length * 4 := by rw [List.length_append, hfl, hr, ← Nat.add_mul]; congr 1; omega
    dsimp only
    rw [show Int.toNat (k : Int) = k from rfl]
    simp only [add_add']
    have hD1 := hD5.set (k * 4) (.int .u16 pl[k].1)
    have hD2 := hD1.set (k * 4 + 1) (.int .u32 pl[k].2.1)
    have hD3 := hD2.set (k * 4 + 2) (.int .u32 pl[k].2.2.1)
    have hD4 := hD3.set (k * 4 + 3) (.slice (some (blk c)) pl[k].2.2.2.length pl[k].2.2.2.length)
    have c1 := (((Chg.set w2.heap.size (k * 4) w5 (.int .u16 pl[k].1)).trans (Chg.set w2.heap.size (k * 4 + 1) _ (.int .u32 pl[k].2.1))).trans (Chg.set w2.heap.size (k * 4 + 2) _ (.int .u32 pl[k].2.2.1))).trans
      (Chg.set w2.heap.size (k * 4 + 3) _ (.slice (some (blk c)) pl[k].2.2.2.length pl[k].2.2.2.length))
    refine ⟨hD5.wr (by omega), hD1.wr (by rw [List.length_set]; omega), hD2.wr (by rw [List.length_set, List.length_set]; omega), hD3.wr (by rw [List.length_set, List.length_set, List.length_set]; omega), ?_⟩
    refine hnext _ hlt ⟨c1.below hb5 (by omega), by rw [c1.size]; omega, c1.blk hB5 (by omega), c1.blk hC5 (by omega), hs ++ [mkIn pl[k] ⟨some (blk c), pl[k].2.2.2.length, pl[k].2.2.2.length⟩], r', by simp [hhl], ?_, hr', ?_⟩
    · rw [e] at hD4
      have e2 : flat inV (hs ++ [mkIn pl[k] ⟨some (blk c), pl[k].2.2.2.length, pl[k].2.2.2.length⟩]) = flat inV hs ++ inV (mkIn pl[k] ⟨some (blk c), pl[k].2.2.2.length, pl[k].2.2.2.length⟩) := by
        simp [flat]
      rw [e2]
      exact hD4
    · intro j h h'
      by_cases hj : j < hs.length
      · obtain ⟨c', g1, g2, g3⟩ := hrow j hj h'
        refine ⟨c', g1, ?_, c1.blk (g3.below b5) (by omega)⟩
        rw [List.getElem_append_left hj]
        exact g2
      · have hj' : j = k := by simp at h; omega
        subst hj'
        refine ⟨c, by omega, ?_, c1.blk hA5 (by omega)⟩
        rw [List.getElem_append_right (by omega)]
        simp [hhl]
  · have hk' : k = pl.length := by dsimp only at hge; omega
    subst hk'
    simp only [Nat.sub_self, Nat.zero_mul] at hr
    have : r = [] := List.eq_nil_of_length_eq_zero hr
    subst this
    rw [List.append_nil] at hD
    refine ⟨hB.wr (n := 2) (by simp), ?_⟩
    rw [hl]
    have c1 := Chg.set w.heap.size 2 w4 (.slice (some (blk w2.heap.size)) pl.length pl.length)
    have hB5 : Blk _ w.heap.size 25 (moV (x.1, x.2.1, ⟨some (blk w2.heap.size), pl.length, pl.length⟩, ())) := hB.set 2 (.slice (some (blk w2.heap.size)) pl.length pl.length)
    have hb5 := c1.below hb (Nat.le_refl _)
    have hC5 := c1.blk hC (by omega)
    have hD5 := c1.blk hD (by omega)
    refine Nw.mk (Mo.load hB5 ?_)
    refine st3 hC5 rfl fun w6 hC6 c6 => ?_
    have hC6 : Blk w6 w1.heap.size 25 (moV (x.1, x.2.1, ⟨some (blk w2.heap.size), pl.length, pl.length⟩, ())) := hC6
    have hcp : Cpy w6 w2.heap.size pl := ⟨hs, hhl, c6.blk hD5 (by omega), fun j h h' => by
      obtain ⟨c', g1, g2, g3⟩ := hrow j h h'
      exact ⟨c', g1, g2, c6.blk (c1.blk g3 (by omega)) (by omega)⟩⟩
    refine Mo.load hC6 ?_
    exact hR w2.heap.size w6 (by omega) hcp (hcp.isPl hN.bound hargs) (c6.below hb5 (by omega))


end Go.Proofs
namespace Go.Proofs
open Go.Gk Go.RowKit Go.Gm

abbrev idsA (l : List Ag) : List Int := (l.filter fun a => a.1 == 1).map (·.2.1)
def allI (p : PI) : List Int := p.2.1 :: p.2.2.1 :: idsA p.2.2.2
def allP (pl : List PI) : List Int := pl.flatMap allI
open Classical in
/-- Of an instruction without fault: its ids lie below the bound, what is an id bears no text. -/
theorem fault_ids {p : PI} {bd : Int} (h : faultI p bd = 0) (hb : 0 < bd) (h0 : 0 ≤ p.2.1 ∧ 0 ≤ p.2.2.1 ∧ ∀ x ∈ p.2.2.2, 0 ≤ x.2.1) :
    (∀ n ∈ allI p, 0 ≤ n ∧ n < bd) ∧ ∀ x ∈ p.2.2.2, x.1 = 1 → x.2.2.size = 0 := by
  unfold faultI at h
  cases hfr : frm p.1 with
  | none => rw [faultP_none hfr] at h; cases h
  | some g =>
    rw [faultP_some hfr] at h
    have hek : errK g p.2.1 p.2.2.1 p.2.2.2 bd p.2.2.2.length = 0 := by
      refine Classical.byContradiction fun hne => ?_
      unfold faultF at h
      rw [if_pos hne] at h
      exact hne h
    obtain ⟨e1, e2, e3⟩ := errK_all hek
    have hw := argK_all e3
    have idlt : ∀ {must : Bool} {n e : Int}, idP must n bd e = 0 → e ≠ 0 → n < bd := by
      intro must n e hi he
      unfold idP at hi
      split at hi
      · rename_i hm
        split at hi
        · cases hi
        · rename_i hno
          cases must with
          | true => exact Int.not_le.1 fun hle => hno ⟨rfl, hle⟩
          | false =>
            have : n = 0 := by
              refine Classical.byContradiction fun hn => ?_
              rw [bne_iff_ne.2 hn] at hm
              cases hm
            omega
      · exact absurd hi he
    have hx : ∀ x ∈ p.2.2.2, x.1 = 1 → (x.2.1 < bd) ∧ x.2.2.size = 0 := by
      intro x hx h1
      obtain ⟨j, hj, rfl⟩ := List.mem_iff_getElem.1 hx
      have := hw j hj
      unfold werr at this
      rw [getD_lt hj] at this
      unfold wrongP at this
      split at this
      · cases this
      · split at this
        · cases this
        · rename_i n1
          split at this
          · cases this
          · rename_i n2
            refine ⟨Int.not_le.1 fun hle => n2 ⟨h1, .inr hle⟩, ?_⟩
            refine Classical.byContradiction fun hne => n1 (.inr ⟨by rw [h1]; decide, hne⟩)
    refine ⟨fun n hn => ?_, fun x hx' h1 => (hx x hx' h1).2⟩
    unfold allI at hn
    rcases List.mem_cons.1 hn with rfl | hn
    · exact ⟨h0.1, idlt e1 (by decide)⟩
    · rcases List.mem_cons.1 hn with rfl | hn
      · exact ⟨h0.2.1, idlt e2 (by decide)⟩
      · obtain ⟨x, hx', rfl⟩ := List.mem_map.1 hn
        obtain ⟨hx1, hx2⟩ := List.mem_filter.1 hx'
        exact ⟨h0.2.2 x hx1, (hx x hx1 (by simpa using hx2)).1⟩

end Go.Proofs
namespace Go.Proofs
open Go.Gk Go.RowKit Go.Gm

theorem _root_.Go.Gk.Blk.rM0 {w : World} {b : Nat} {T : TypeId} {cs : List Value} (h : Blk w b T cs) {x : Option Nat} (hn : cs[0]? = some (.map x)) {φ : Option Nat → Prop} (hφ : φ x) : ldM w (blk b) φ := ⟨x, h.cell0 hn, hφ⟩
theorem uU32 : Tryz.prog.underlying 22 = some (.int .u32) := by kernel_rfl
end Go.Proofs
namespace Go.Proofs
open Go.Gk
set_option linter.unusedVariables false
set_option maxRecDepth 100000

end Go.Proofs
namespace Go.Proofs
open Go.Gk Go.RowKit

end Go.Proofs
namespace Go.Proofs
open Go.Gk Go.RowKit Go.Gm

def KeyN (L : List (Int × Int)) : Prop := (L.map (·.1)).Nodup
theorem keys_set (k v : Int) : ∀ L : List (Int × Int), (setL L k v).map (·.1) = L.map (·.1) ∨ ((setL L k v).map (·.1) = L.map (·.1) ++ [k] ∧ k ∉ L.map (·.1))
  | [] => .inr ⟨rfl, by simp⟩
  | p :: r => by
    simp only [setL]
    split
    · rename_i e
      left
      simp [e]
    · rename_i e
      rcases keys_set k v r with h | ⟨h1, h2⟩
      · left
        simp [h]
      · right
        refine ⟨by simp [h1], ?_⟩
        rw [List.map_cons, List.mem_cons, not_or]
        exact ⟨e, h2⟩
theorem KeyN.set {L : List (Int × Int)} (h : KeyN L) (k v : Int) : KeyN (setL L k v) := by
  unfold KeyN at h ⊢
  rcases keys_set k v L with e | ⟨e, hk⟩
  · rw [e]; exact h
  · rw [e]
    refine List.nodup_append.2 ⟨h, by simp, ?_⟩
    intro a ha b hb e'
    rw [List.mem_singleton] at hb
    rw [e', hb] at ha
    exact hk ha

def mk1 (pl : List PI) (id : Int) (k : Nat) : Bool := (pl.getD k pi0).2.2.1 == id && id != 0
def makerI (pl : List PI) (id : Int) (n : Nat) : Int := match (List.range n).find? (mk1 pl id) with
  | some k => (k : Int)
  | none => -1
/-- The map L says who makes an id, of the instructions from k on. -/
def MkOk (L : List (Int × Int)) (pl : List PI) (k : Nat) : Prop := ∀ id, (lookL L id = none → ∀ j, k ≤ j → j < pl.length → mk1 pl id j = false) ∧
  ∀ v, lookL L id = some v → ∃ j : Nat, v = (j : Int) ∧ k ≤ j ∧ j < pl.length ∧ mk1 pl id j = true ∧ ∀ i, k ≤ i → i < j → mk1 pl id i = false
theorem MkOk.end (pl : List PI) : MkOk [] pl pl.length := fun _ => ⟨fun _ j h1 h2 => by omega, fun v h => by cases h⟩
theorem MkOk.step {L : List (Int × Int)} {pl : List PI} {k : Nat} (h : MkOk L pl (k + 1)) (hk : k < pl.length) : MkOk (if pl[k].2.2.1 ≠ 0 then setL L pl[k].2.2.1 k else L) pl k := by
  have hm : ∀ id, mk1 pl id k = (pl[k].2.2.1 == id && id != 0) := fun id => by unfold mk1; rw [getD_lt hk]
  intro id
  obtain ⟨h1, h2⟩ := h id
  by_cases e0 : pl[k].2.2.1 = 0
  · rw [if_neg (fun h => h e0)]
    have hf : mk1 pl id k = false := by
      rw [hm, e0]
      by_cases e : id = 0
      · rw [e]; rfl
      · rw [beq_eq_false_iff_ne.2 (fun h => e h.symm), Bool.false_and]
    refine ⟨fun hn j g1 g2 => ?_, fun v hv => ?_⟩
    · by_cases e : j = k
      · subst e; exact hf
      · exact h1 hn j (by omega) g2
    · obtain ⟨j, q1, q2, q3, q4, q5⟩ := h2 v hv
      refine ⟨j, q1, by omega, q3, q4, fun i g1 g2 => ?_⟩
      by_cases e : i = k
      · subst e; exact hf
      · exact q5 i (by omega) g2
  · rw [if_pos e0, lookL_set]
    by_cases e : id = pl[k].2.2.1
    · rw [if_pos e]
      refine ⟨fun hn => by (cases hn), fun v hv => ⟨k, (Option.some.inj hv).symm, Nat.le_refl _, hk, ?_, fun i g1 g2 => by omega⟩⟩
      rw [hm, e]
      simp [e0]
    · rw [if_neg e]
      have hf : mk1 pl id k = false := by rw [hm, beq_eq_false_iff_ne.2 (fun h => e h.symm), Bool.false_and]
      refine ⟨fun hn j g1 g2 => ?_, fun v hv => ?_⟩
      · by_cases e : j = k
        · subst e; exact hf
        · exact h1 hn j (by omega) g2
      · obtain ⟨j, q1, q2, q3, q4, q5⟩ := h2 v hv
        refine ⟨j, q1, by omega, q3, q4, fun i g1 g2 => ?_⟩
        by_cases e : i = k
        · subst e; exact hf
        · exact q5 i (by omega) g2
theorem uMapI : Tryz.prog.underlying 150 = some (.map 22 3) := by kernel_rfl
theorem Backward1_spec {y : Value} {s : Sl} {pl : List PI} {pb : Nat} {w : World} (Inv : Nat → World → Prop) (S : World → Prop) (h0 : Inv pl.length w)
    (hkeep : ∀ k w', Inv k w' → w'.cell? (blk pb) = some (.slice s.a s.l s.c) ∧ IsPl w' s pl)
    (hround : ∀ k (hk : k < pl.length) t w', Inv (k + 1) w' → callV Tryz.prog Tryz.fs y [.int .i64 (k : Int), inA (mkIn pl[k] t)] w' fun v w'' => (v = .bool true ∧ Inv k w'') ∨ (v = .bool false ∧ S w''))
    (hend : ∀ w', Inv 0 w' → S w') : Calls Tryz.prog 217 #[y, .pointer (some (blk pb))] w (Ret fun _ w' => S w') := by
  refine slices_Backward_sapi_Inst_api_Inst__1_calls y (blk pb) _ w ⟨s, (hkeep _ _ h0).1, ?_⟩
  have hlen := (hkeep _ _ h0).2.len
  have hmax := (hkeep _ _ h0).2.bound
  dsimp only
  rw [hlen, wrap64_in (by omega) (by omega)]
  refine LoopW.ghost (fun j st w' => j ≤ pl.length ∧ st = ((j : Int) - 1, ()) ∧ Inv j w') pl.length ⟨Nat.le_refl _, rfl, h0⟩ ?_
  rintro k _ w1 ⟨hk, rfl, hI⟩ next hnext
  refine ifB_dec (fun h => ?_) (fun h => ?_)
  · obtain ⟨j, rfl⟩ : ∃ j, k = j + 1 := ⟨k - 1, by dsimp only at h; omega⟩
    have hlt : j < pl.length := by omega
    obtain ⟨c1, c2⟩ := hkeep _ _ hI
    have ej : (((j + 1 : Nat) : Int) - 1) = (j : Int) := by omega
    dsimp only
    rw [ej]
    refine ⟨s, c1, elemPI c2 hlt fun t _ => ?_⟩
    refine callV.mono (hround j hlt t w1 hI) fun v w2 hv => ?_
    rcases hv with ⟨rfl, hv⟩ | ⟨rfl, hv⟩
    · refine ⟨true, rfl, ifB_false rfl ?_⟩
      rw [wrap64_in (by omega) (by omega)]
      exact hnext j _ _ (by omega) ⟨by omega, rfl, hv⟩
    · exact ⟨false, rfl, ifB_true rfl hv⟩
  · have hk0 : k = 0 := by dsimp only at h; omega
    subst hk0
    exact hend w1 hI
theorem makers_spec {s : Sl} {pl : List PI} {w : World} {R : Value → World → Prop} (hN : IsPl w s pl)
    (hR : ∀ w' L, IsMp w' w.heap.size .i64 L → MkOk L pl 0 → KeyN L → Below w.heap.size w w' → R (.map (some w.heap.size)) w') : callR Tryz.prog 122 #[.slice s.a s.l s.c] w R := by
  refine callR.of (ids_makers_calls s R w ?_) fun _ _ h => h
  refine Nw.gen fun w1 e1 => ?_
  have m1 : IsMp w1 w.heap.size .i64 [] := by rw [e1]; exact IsMp.new _ _
  have b1 : Below w.heap.size w w1 := by rw [e1]; exact (Below.refl _ _).alloc (Nat.le_refl _) _
  have z1 : w1.heap.size = w.heap.size + 1 := by rw [e1]; simp
  clear e1
  refine Nw.gen fun w2 e2 => ?_
  have hB2 : Blk w2 w1.heap.size 150 [.map none] := by rw [e2]; exact Blk.new _ _ _
  have b2 : Below w1.heap.size w1 w2 := by rw [e2]; exact (Below.refl _ _).alloc (Nat.le_refl _) _
  have z2 : w2.heap.size = w.heap.size + 2 := by rw [e2]; simp [z1]
  clear e2
  refine ⟨hB2.wr0 (by simp), Nw.gen fun w3 e3 => ?_⟩
  have c3 : Chg w1.heap.size w2 w3 := by rw [e3]; exact Chg.set w1.heap.size 0 w2 _
  have hB3 : Blk w3 w1.heap.size 150 [.map (some w.heap.size)] := by rw [e3]; exact hB2.set0 _
  clear e3
  have m3 := (m1.below b2).of_block (c3.block _ (by omega))
  have hb3 : Below w.heap.size w w3 := c3.below (b1.on b2) (by omega)
  have z3 := c3.size
  refine callR.of (slices_Backward_sapi_Inst_api_Inst_calls s _ w3 ?_) fun _ _ h => h
  refine lay_of fun w4 hC4 b4 z4 => ⟨_, rfl, ?_⟩
  have hC4 : Blk w4 w3.heap.size 23 [.slice s.a s.l s.c] := hC4
  intro mk hy
  have hcf : Tryz.fs.contains 217 = true := by kernel_rfl
  unfold callF
  simp only [hcf]
  generalize hw5 : ((w4.alloc (.deferred (some []))).alloc (mk .ready none)) = w5
  have b5 : Below w4.heap.size w4 w5 := by rw [← hw5]; exact laid_below w4 _ _
  have hd5 : w5.heap[w4.heap.size]? = some (.deferred (some [])) := by rw [← hw5]; exact laid_d w4 _ _
  have hl5 : w5.heap[w4.heap.size + 1]? = some (mk .ready none) := by rw [← hw5]; exact laid_l w4 _ _
  clear hw5
  have b35 := b4.on b5
  refine Backward1_spec (y := .func (.yield (w4.heap.size + 1)) #[] #[]) (s := s) (pl := pl)
    (fun k w' => w'.heap[w4.heap.size + 1]? = some (mk .ready none) ∧ w'.heap[w4.heap.size]? = some (.deferred (some [])) ∧ Blk w' w1.heap.size 150 [.map (some w.heap.size)] ∧ Blk w' w3.heap.size 23 [.slice s.a s.l s.c] ∧ Below w.heap.size w w' ∧
      ∃ L, IsMp w' w.heap.size .i64 L ∧ MkOk L pl k ∧ KeyN L) _
    ⟨hl5, hd5, hB3.below b35, hC4.below b5, hb3.on b35, [], m3.below b35, MkOk.end pl, by simp [KeyN]⟩ ?_ ?_ ?_
  · rintro k w' ⟨h1, h2, h3, h4, h5, _⟩
    exact ⟨h4.cell0 rfl, hN.below h5⟩
  · rintro k hk t w' ⟨h1, h2, h3, h4, h5, L, h6, h7, h8⟩
    have hlt' : w4.heap.size + 1 < w'.heap.size := (Array.getElem?_eq_some_iff.1 h1).1
    refine hy ((k : Int), mkIn pl[k] t, ()) w' _ h1 ?_
    refine box4 rfl fun w6 hI6 b6 z6 => ?_
    have hI6 : Blk w6 w'.heap.size 52 (inV (mkIn pl[k] t)) := hI6
    have hl6 : w6.heap[w4.heap.size + 1]? = some (mk .ready none) := (b6.block _ hlt').trans h1
    refine ⟨hl6, Nw.gen fun w7 e7 => ?_⟩
    have s6 := b6.size
    have hlt6 : w4.heap.size + 1 < w6.heap.size := by omega
    have ho7 : ∀ b, b ≠ w4.heap.size + 1 → w7.heap[b]? = w6.heap[b]? := fun b hb => by rw [e7]; exact World.putObj_heap_other hb
    have z7 : w7.heap.size = w6.heap.size := by rw [e7]; simp
    have hl7 : w7.heap[w4.heap.size + 1]? = some (mk .busy none) := by rw [e7]; exact put_self hlt6 _
    have hb7 : Below w.heap.size w w7 := by rw [e7]; exact (h5.on b6).putObj (by omega) _
    clear e7
    have d7 : w7.heap[w4.heap.size]? = some (.deferred (some [])) := by rw [ho7 _ (by omega), b6.block _ (by omega)]; exact h2
    have k3 := (h3.below b6).of_block (ho7 _ (by have := b4.size; omega))
    have k4 := (h4.below b6).of_block (ho7 _ (by omega))
    have k6 := (h6.below b6).of_block (ho7 _ (by omega))
    have kI := hI6.of_block (ho7 _ (by omega))
    have hst := h7.step hk
    have hput : ∀ {w8 : World}, w8.heap[w4.heap.size + 1]? = some (mk .busy none) → w4.heap.size + 1 < w8.heap.size := fun h => (Array.getElem?_eq_some_iff.1 h).1
    refine kI.rI (n := 2) rfl (ifB_bne (fun e => ?_) (fun e => ?_))
    · have e' : pl[k].2.2.1 ≠ 0 := e
      rw [if_pos e'] at hst
      refine k3.rM0 rfl (kI.rI (n := 2) rfl ?_)
      refine updW_of uMapI uU32 k6 fun w8 m8 c8 => ?_
      have hl8 : w8.heap[w4.heap.size + 1]? = some (mk .busy none) := by rw [c8.block _ (by omega)]; exact hl7
      refine ⟨hl8, .inl ⟨rfl, put_self (hput hl8) _, ?_, ?_, ?_, ?_, _, ?_, hst, h8.set _ _⟩⟩
      · rw [World.putObj_heap_other (by omega), c8.block _ (by omega)]; exact d7
      · exact (c8.blk k3 (by omega)).put (by omega) _
      · exact (c8.blk k4 (by omega)).put (by omega) _
      · exact (c8.below hb7 (Nat.le_refl _)).putObj (by omega) _
      · exact m8.of_block (World.putObj_heap_other (by omega))
    · have e' : ¬ pl[k].2.2.1 ≠ 0 := fun h => h e
      rw [if_neg e'] at hst
      refine ⟨hl7, .inl ⟨rfl, put_self (by omega) _, ?_, ?_, ?_, ?_, L, ?_, hst, h8⟩⟩
      · rw [World.putObj_heap_other (by omega)]; exact d7
      · exact k3.put (by omega) _
      · exact k4.put (by omega) _
      · exact hb7.putObj (by omega) _
      · exact k6.of_block (World.putObj_heap_other (by omega))
  · rintro w' ⟨h1, h2, h3, h4, h5, L, h6, h7, h8⟩
    refine ⟨h1, ?_⟩
    have k3 := h3.put (l := w4.heap.size + 1) (by omega) (mk .exhausted none)
    refine k3.rM0 rfl (closeM_one (by rw [World.putObj_heap_other (by omega)]; exact h2) ?_)
    refine hR _ L ?_ h7 h8 ?_
    · exact (h6.of_block (World.putObj_heap_other (by omega))).of_block (World.putObj_heap_other (by omega))
    · exact (h5.putObj (by omega) _).putObj (by omega) _

end Go.Proofs
namespace Go.Proofs
open Go.Gk Go.RowKit Go.Gm


end Go.Proofs
namespace Go.Gk
open Go

def isLabel (l : Nat) : Code → Bool
  | .label l' => Nat.beq l' l
  | _ => false
/-- What stands behind the label. -/
def spineB (l : Nat) : Code → Option Code
  | .seq a b => match isLabel l a with
    | true => some b
    | false => match findLabel a l with
      | none => spineB l b
      | some _ => none
  | _ => none
theorem isLabel_spec {l : Nat} {a : Code} (h : isLabel l a = true) : a = .label l := by
  cases a <;> simp only [isLabel] at h <;> first | cases h | skip
  rename_i l'
  have := Nat.eq_of_beq_eq_true h
  rw [this]
theorem spineB_find {l : Nat} : ∀ {c B : Code}, spineB l c = some B → findLabel c l = some (.seq .skip B)
  | .seq a b, B, h => by
    simp only [spineB] at h
    split at h
    · rename_i hl
      cases h
      rw [isLabel_spec hl]
      simp [findLabel]
    · split at h
      · rename_i hf
        simp only [findLabel, hf]
        exact spineB_find h
      · cases h
  | .skip, _, h | .label _, _, h | .ret, _, h | .exit _, _, h | .goto _, _, h => by cases h
  | .region .., _, h | .cond .., _, h | .block .., _, h | .loop .., _, h | .scope .., _, h => by cases h
  | .rangeFunc .., _, h => by cases h

def jumpK (l : Nat) (next : Env → World → Prop) (K : Exit → Env → World → Prop) : Exit → Env → World → Prop
  | .goto l', e, w => match Nat.beq l' l with
    | true => next e w
    | false => False
  | x, e, w => K x e w
def lwA (P : Program) (fs : List Nat) (l : Nat) : Code → Ann → Env → World → (Exit → Env → World → Prop) → Prop
  | .seq a b, .seq none aa ab, e, w, K => match isLabel l a with
    | true => False
    | false => lw P fs a aa e w (seqK (fun e w => lwA P fs l b ab e w K) K)
  | .seq a b, .seq (some j) aa ab, e, w, K => match isLabel l a with
    | true => False
    | false => match keepOk j.keep (wr a) with
      | true => JoinW (fun M => lw P fs a aa e w (seqK (fun e w => match getSt j.sg e with | some s => M s w | none => False) K))
          (fun s w => lwA P fs l b ab (putSt j.sg s (keepE j.keep e)) w K)
      | false => False
  | .seq a b, .loop j ab, e, w, K => match isLabel l a with
    | true => match keepOk j.keep (wr b) with
      | true => match getSt j.sg e with
        | some s => LoopW (fun s w next => lw P fs b ab (putSt j.sg s (keepE j.keep e)) w (jumpK l (fun e w => match getSt j.sg e with | some s => next s w | none => False) K)) s w
        | none => False
      | false => False
    | false => False
  | _, _, _, _, _ => False
def lwJFn (P : Program) (fs : List Nat) (l : Nat) (fn : Func) (an : Ann) (args : List Value) (w : World) (R : Value → World → Prop) : Prop :=
  match fn.body with
  | some (.seq r (.scope c)) => match an with
    | .seq none ar (.one ac) => match spineB l c with
      | some _ => lw P fs r ar (argsE args 0) w (seqK (fun e w => lwA P fs l c ac e w (scopeK (retK P fn.results.toList R))) (scopeK (retK P fn.results.toList R)))
      | none => False
    | _ => False
  | _ => False

section
variable {P : Program}
/-- With fewer than n jumps. -/
def JB (P : Program) (l : Nat) (B : Code) (Q : Exit → Act → World → Prop) : Nat → Act → World → Prop
  | 0, _, _ => False
  | n + 1, a, w => (Code.seq .skip B).wp P (Exit.jump l (JB P l B Q n) Q) a w
theorem least {p : Nat → Prop} : ∀ n, p n → ∃ n, p n ∧ ∀ m, p m → n ≤ m := by
  intro n
  induction n using Nat.strongRecOn with
  | _ n ih =>
    intro h
    by_cases hm : ∃ m, m < n ∧ p m
    · obtain ⟨m, h1, h2⟩ := hm
      exact ih m h1 h2
    · exact ⟨n, h, fun m hp => Nat.le_of_not_lt fun hlt => hm ⟨m, hlt, hp⟩⟩
theorem jump_mono {l : Nat} {J J' : Act → World → Prop} {Q Q' : Exit → Act → World → Prop} (hJ : ∀ a w, J a w → J' a w) (hQ : ∀ x a w, Q x a w → Q' x a w) : ∀ x a w, Exit.jump l J Q x a w → Exit.jump l J' Q' x a w := by
  intro x a w h
  cases x with
  | goto l' => exact ⟨h.1, hJ _ _ h.2⟩
  | _ => exact hQ _ _ _ h
theorem wp_scope_JB {c B : Code} {l : Nat} {Q : Exit → Act → World → Prop} {a : Act} {w : World} (hf : findLabel c l = some (.seq .skip B))
    (first : c.wp P (Exit.jump l (fun a w => ∃ n, JB P l B Q n a w) Q) a w) : (Code.scope c).wp P Q a w := by
  have hl : ∀ (a : Act) (w : World), (∃ n, JB P l B Q n a w) → ∃ n, JB P l B Q n a w ∧ ∀ m, JB P l B Q m a w → n ≤ m := fun a w ⟨n, h⟩ => least n h
  classical
  refine wp_scope_jumps l (fun a w => ∃ n, JB P l B Q n a w) (fun a w => if h : ∃ n, JB P l B Q n a w then Classical.choose (hl a w h) else 0) hf first ?_
  intro a w hJ
  have hs := Classical.choose_spec (hl a w hJ)
  simp only [dif_pos hJ]
  generalize Classical.choose (hl a w hJ) = n at hs
  cases n with
  | zero => exact hs.1.elim
  | succ k =>
    refine Code.wp_mono (jump_mono ?_ fun _ _ _ h => h) hs.1
    intro a' w' h'
    have hJ' : ∃ n, JB P l B Q n a' w' := ⟨k, h'⟩
    refine ⟨hJ', ?_⟩
    rw [dif_pos hJ']
    have := (Classical.choose_spec (hl a' w' hJ')).2 k h'
    omega
theorem lw_wp {fs : List Nat} (hfs : AllOK P fs) (hm : P.follows .mixedOrders = true) {n : Nat} {c : Code} {an : Ann} {e : Env} {w : World} {K : Exit → Env → World → Prop} {a : Act}
    (hd : ∀ d, d ∈ wr c → d < n) (hr : Rep [] n a e) (h : lw P fs c an e w K) : c.wp P (CQ [] n (wr c) a K) a w :=
  (wpIn_wide (n := 0)).1 (Code.wpIn_mono (F := Wf none) (fun _ _ _ h => h) (lw_sound (ro := none) hfs hm c an e w K a hd hr h))
theorem lwA_sound {fs : List Nat} (hfs : AllOK P fs) (hm : P.follows .mixedOrders = true) {n l : Nat} {ws : List Nat} {a0 : Act} {K : Exit → Env → World → Prop} {B : Code} (hK : ∀ l e w, ¬ K (.goto l) e w) :
    ∀ (c : Code) (an : Ann) (e : Env) (w : World) (a : Act), spineB l c = some B → (∀ d, d ∈ wr c → d < n) → (∀ d, d ∈ wr c → d ∈ ws) → Rep [] n a e → Same ws a0 a → lwA P fs l c an e w K →
      c.wp P (Exit.jump l (fun a w => ∃ k, JB P l B (CQ [] n ws a0 K) k a w) (CQ [] n ws a0 K)) a w := by
  intro c
  induction c with
  | seq x y ihx ihy =>
    intro an e w a hB hd hw hr hs h
    have hdx : ∀ d, d ∈ wr x → d < n := fun d hh => hd d (List.mem_append_left _ hh)
    have hdy : ∀ d, d ∈ wr y → d < n := fun d hh => hd d (List.mem_append_right _ hh)
    have hwx : ∀ d, d ∈ wr x → d ∈ ws := fun d hh => hw d (List.mem_append_left _ hh)
    have hwy : ∀ d, d ∈ wr y → d ∈ ws := fun d hh => hw d (List.mem_append_right _ hh)
    cases an with
    | seq j aa ab =>
      have hnl : isLabel l x = false → spineB l y = some B := by
        intro hx
        simp only [spineB, hx] at hB
        split at hB
        · exact hB
        · cases hB
      have hB' : spineB l y = some B := by
        refine hnl ?_
        cases hx : isLabel l x with
        | false => rfl
        | true =>
          exfalso
          cases j <;> simp only [lwA, hx] at h
      cases j with
      | none =>
        simp only [lwA] at h
        split at h
        · exact h.elim
        refine wp_seq (Code.wp_mono ?_ (lw_wp hfs hm hdx hr h))
        rintro z a' w' ⟨e', hr', hs', h'⟩
        have hs2 := hs.trans (hs'.mono hwx)
        cases z with
        | normal => exact ihy ab e' w' a' hB' hdy hwy hr' hs2 h'
        | goto l' => exact (hK _ _ _ h').elim
        | _ => exact ⟨e', hr', hs2, h'⟩
      | some j =>
        simp only [lwA] at h
        split at h
        · exact h.elim
        split at h
        · rename_i hk
          obtain ⟨M, h1, h2⟩ := h
          refine wp_seq (Code.wp_mono ?_ (lw_wp hfs hm hdx hr h1))
          rintro z a' w' ⟨e', hr', hs', h'⟩
          have hs2 := hs.trans (hs'.mono hwx)
          cases z with
          | normal =>
            simp only [seqK] at h'
            split at h'
            · rename_i s hg
              exact ihy ab _ w' a' hB' hdy hwy (getSt_put hr' hg (hr.keep hs' hr'.1 hr'.2.1 hk)) hs2 (h2 s w' h')
            · exact h'.elim
          | goto l' => exact (hK _ _ _ h').elim
          | _ => exact ⟨e', hr', hs2, h'⟩
        · exact h.elim
    | loop j ab =>
      simp only [lwA] at h
      split at h
      · rename_i hx
        have hB' : y = B := by
          simp only [spineB, hx] at hB
          exact Option.some.inj hB
        subst hB'
        split at h
        · rename_i hk
          split at h
          · rename_i s hg
            obtain ⟨I, μ, h0, hround⟩ := h
            rw [isLabel_spec hx]
            have pass : ∀ (J : Act → World → Prop) s w' a', I s w' → Rep [] n a' (putSt j.sg s (keepE j.keep e)) → Same ws a0 a' → Same (wr y) a a' →
                (∀ s2 w2 a2, I s2 w2 → μ s2 w2 < μ s w' → Rep [] n a2 (putSt j.sg s2 (keepE j.keep e)) → Same ws a0 a2 → Same (wr y) a a2 → J a2 w2) → y.wp P (Exit.jump l J (CQ [] n ws a0 K)) a' w' := by
              intro J s w' a' hI hr' hs' hsy hJ
              refine Code.wp_mono ?_ (lw_wp hfs hm hdy hr' (hround s w' hI))
              rintro z a2 w2 ⟨e2, hr2, hs2, h2⟩
              have hs3 := hs'.trans (hs2.mono hwy)
              cases z with
              | goto l' =>
                simp only [jumpK] at h2
                split at h2
                · rename_i hl
                  split at h2
                  · rename_i s2 hg2
                    exact ⟨Nat.eq_of_beq_eq_true hl, hJ s2 w2 a2 h2.1 h2.2 (getSt_put hr2 hg2 (hr.keep (hsy.trans hs2) hr2.1 hr2.2.1 hk)) hs3 (hsy.trans hs2)⟩
                  · exact h2.elim
                · exact h2.elim
              | _ => exact ⟨e2, hr2, hs3, h2⟩
            have key : ∀ k s w' a', μ s w' < k → I s w' → Rep [] n a' (putSt j.sg s (keepE j.keep e)) → Same ws a0 a' → Same (wr y) a a' → JB P l y (CQ [] n ws a0 K) k a' w' := by
              intro k
              induction k with
              | zero => intro s w' a' hlt; omega
              | succ k ih =>
                intro s w' a' hlt hI hr' hs' hsy
                refine wp_seq (wp_skip ?_)
                exact pass _ s w' a' hI hr' hs' hsy fun s2 w2 a2 i1 i2 i3 i4 i5 => ih s2 w2 a2 (by omega) i1 i3 i4 i5
            refine wp_seq (wp_label ?_)
            exact pass _ s w a h0 (getSt_put hr hg (hr.keep (Same.refl _ _) hr.1 hr.2.1 hk)) hs (Same.refl _ _) fun s2 w2 a2 i1 i2 i3 i4 i5 => ⟨_, key (μ s2 w2 + 1) s2 w2 a2 (by omega) i1 i3 i4 i5⟩
          · exact h.elim
        · exact h.elim
      · exact h.elim
    | _ => exact h.elim
  | _ => intro an e w a hB; cases hB
/-- **From what a function's code comes to, to the call.** -/
theorem lwJ_calls {l : Nat} {fs : List Nat} (hfs : AllOK P fs) (hm : P.follows .mixedOrders = true) {f : Nat} {fn : Func} {an : Ann} {args : List Value} {w : World} {R : Value → World → Prop}
    (hf : P.funcs[f]? = some fn) (hn : (match fn.body with | some c => dstsOk fn.ntmps c | none => false) = true) (hz : Nat.ble args.length fn.ntmps = true) (h : lwJFn P fs l fn an args w R) :
    Calls P f args.toArray w (Ret R) := by
  unfold lwJFn at h
  split at h
  · rename_i r c hb
    split at h
    · rename_i ar ac
      split at h
      · rename_i B hB
        rw [hb] at hn
        simp only at hn
        have hz' := Nat.le_of_ble_eq_true hz
        have hdst : ∀ d, d ∈ wr (.seq r (.scope c)) → d < fn.ntmps := fun d hd => by simp only [dstsOk, List.all_eq_true] at hn; exact Nat.le_of_ble_eq_true (hn d hd)
        refine calls_of_wp hf hb ?_
        have hr : Rep [] fn.ntmps { tmps := args.toArray ++ Array.replicate (fn.ntmps - args.toArray.size) undef, defers := [] } (argsE args 0) := by
          refine ⟨by simp; omega, rfl, fun t v ht => ?_⟩
          obtain ⟨_, h2⟩ := argsE_spec _ _ _ _ ht
          rw [Nat.sub_zero] at h2
          have hlt : t < args.length := by
            rcases Nat.lt_or_ge t args.length with h | h
            · exact h
            · rw [List.getElem?_eq_none h] at h2; cases h2
          have : args[t] = v := by rw [List.getElem?_eq_getElem hlt] at h2; exact Option.some.inj h2
          have hlt2 : t < args.length + (fn.ntmps - args.length) := by omega
          simp [hlt, hlt2, this]
        have fin : ∀ x a w' e', Rep [] fn.ntmps a e' → scopeK (retK P fn.results.toList R) x e' w' → retK P fn.results.toList R x e' w' := by
          intro x a w' e' _ h
          cases x with
          | goto => exact h.elim
          | _ => exact h
        refine wp_seq (Code.wp_mono ?_ (lw_wp hfs hm (fun d hd => hdst d (List.mem_append_left _ hd)) hr h))
        rintro x a w' ⟨e', hr', _, h'⟩
        cases x with
        | normal =>
          refine Code.wp_mono ?_ (wp_scope_JB (spineB_find hB) (lwA_sound hfs hm (ws := wr c) (a0 := a) (K := scopeK (retK P fn.results.toList R)) (fun _ _ _ h => h) c ac e' w' a hB (fun d hd => hdst d (List.mem_append_right _ hd)) (fun _ hd => hd) hr' (Same.refl _ _) h'))
          rintro x a w' ⟨e', hr', _, h'⟩
          have h' := fin _ _ _ _ hr' h'
          cases x with
          | normal => exact ⟨hr'.2.1, run_results hr' h'⟩
          | ret => exact ⟨hr'.2.1, run_results hr' h'⟩
          | _ => exact h'.elim
        | ret => exact ⟨hr'.2.1, run_results hr' h'⟩
        | _ => exact h'.elim
      · exact h.elim
    · exact h.elim
  · exact h.elim
end
end Go.Gk
namespace Go.Proofs
open Go.Gk
set_option linter.unusedVariables false
set_option maxRecDepth 100000

/-- intaglio.layout.Parts -/
def a_layout_Parts : Ann := (.seq none .nil (.seq none .nil (.seq none (.seq none .nil (.cond (.seq none .nil .nil) .nil)) (.seq none .nil .nil))))
def L_layout_Parts (p0 : (Int × Int × Sl × Unit)) (R : Value → World → Prop) (w : World) : Prop :=
 Nw (w.alloc (.cells #[(.int .u32 p0.1), (.int .u32 p0.2.1), (.slice p0.2.2.1.a p0.2.2.1.l p0.2.2.1.c)] 25)) fun w1 =>
 Nw (w1.alloc (.cells (List.toArray (List.replicate 20 (.int .i64 (0 : Int)))) 117)) fun w2 =>
 Nw (w2.alloc (.cells #[(.int .i64 (0 : Int)), (.int .i64 (0 : Int))] 44)) fun w3 =>
 ldI w3 ((blk w.heap.size).add 0) .u32 fun x1 =>
 ldI w3 ((blk w.heap.size).add 1) .u32 fun x2 =>
 ldS w3 ((blk w.heap.size).add 2) fun x3 =>
 callR Tryz.prog 102 #[(.agg #[(.int .u32 x1), (.int .u32 x2), (.slice x3.a x3.l x3.c)])] w3 fun v4 w4 =>
 ∃ x5 : Option Addr, ∃ x6 : (Int × Int × Unit), v4 = (.tuple #[(.pointer x5), (.agg #[(.int .i64 x6.1), (.int .i64 x6.2.1)])]) ∧
 Nw (w4.alloc (.cells #[(.int .i64 (0 : Int)), (.int .i64 (0 : Int))] 44)) fun w5 =>
 Wr w5 (blk w4.heap.size) ∧
 Nw (w5.setCell (blk w4.heap.size) (.int .i64 x6.1)) fun w6 =>
 Wr w6 ((blk w4.heap.size).add 1) ∧
 Nw (w6.setCell ((blk w4.heap.size).add 1) (.int .i64 x6.2.1)) fun w7 =>
 ifB (Option.isNone x5)
 (ldI w7.drew ((blk w4.heap.size).add 0) .i64 fun x7 =>
 ldI w7.drew ((blk w4.heap.size).add 1) .i64 fun x8 =>
 Wr w7.drew (blk w1.heap.size) ∧
 Nw (w7.drew.setCell (blk w1.heap.size) (.int .i64 (0 : Int))) fun w8 =>
 Wr w8 ((blk w1.heap.size).add 1) ∧
 Nw (w8.setCell ((blk w1.heap.size).add 1) (.int .i64 (0 : Int))) fun w9 =>
 Wr w9 ((blk w1.heap.size).add 2) ∧
 Nw (w9.setCell ((blk w1.heap.size).add 2) (.int .i64 (0 : Int))) fun w10 =>
 Wr w10 ((blk w1.heap.size).add 3) ∧
 Nw (w10.setCell ((blk w1.heap.size).add 3) (.int .i64 (0 : Int))) fun w11 =>
 Wr w11 ((blk w1.heap.size).add 4) ∧
 Nw (w11.setCell ((blk w1.heap.size).add 4) (.int .i64 (0 : Int))) fun w12 =>
 Wr w12 ((blk w1.heap.size).add 5) ∧
 Nw (w12.setCell ((blk w1.heap.size).add 5) (.int .i64 (0 : Int))) fun w13 =>
 Wr w13 ((blk w1.heap.size).add 6) ∧
 Nw (w13.setCell ((blk w1.heap.size).add 6) (.int .i64 (0 : Int))) fun w14 =>
 Wr w14 ((blk w1.heap.size).add 7) ∧
 Nw (w14.setCell ((blk w1.heap.size).add 7) (.int .i64 (0 : Int))) fun w15 =>
 Wr w15 ((blk w1.heap.size).add 8) ∧
 Nw (w15.setCell ((blk w1.heap.size).add 8) (.int .i64 (0 : Int))) fun w16 =>
 Wr w16 ((blk w1.heap.size).add 9) ∧
 Nw (w16.setCell ((blk w1.heap.size).add 9) (.int .i64 (0 : Int))) fun w17 =>
 Wr w17 ((blk w1.heap.size).add 10) ∧
 Nw (w17.setCell ((blk w1.heap.size).add 10) (.int .i64 (0 : Int))) fun w18 =>
 Wr w18 ((blk w1.heap.size).add 11) ∧
 Nw (w18.setCell ((blk w1.heap.size).add 11) (.int .i64 (0 : Int))) fun w19 =>
 Wr w19 ((blk w1.heap.size).add 12) ∧
 Nw (w19.setCell ((blk w1.heap.size).add 12) (.int .i64 (0 : Int))) fun w20 =>
 Wr w20 ((blk w1.heap.size).add 13) ∧
 Nw (w20.setCell ((blk w1.heap.size).add 13) (.int .i64 (0 : Int))) fun w21 =>
 Wr w21 ((blk w1.heap.size).add 14) ∧
 Nw (w21.setCell ((blk w1.heap.size).add 14) (.int .i64 (0 : Int))) fun w22 =>
 Wr w22 ((blk w1.heap.size).add 15) ∧
 Nw (w22.setCell ((blk w1.heap.size).add 15) (.int .i64 (0 : Int))) fun w23 =>
 Wr w23 ((blk w1.heap.size).add 16) ∧
 Nw (w23.setCell ((blk w1.heap.size).add 16) (.int .i64 (0 : Int))) fun w24 =>
 Wr w24 ((blk w1.heap.size).add 17) ∧
 Nw (w24.setCell ((blk w1.heap.size).add 17) (.int .i64 (0 : Int))) fun w25 =>
 Wr w25 ((blk w1.heap.size).add 18) ∧
 Nw (w25.setCell ((blk w1.heap.size).add 18) (.int .i64 (0 : Int))) fun w26 =>
 Wr w26 ((blk w1.heap.size).add 19) ∧
 Nw (w26.setCell ((blk w1.heap.size).add 19) (.int .i64 (0 : Int))) fun w27 =>
 w27.cell? ((blk w4.heap.size).add 0) = some (.int .i64 x7) ∧
 w27.cell? ((blk w4.heap.size).add 1) = some (.int .i64 x8) ∧
 Wr w27 (blk w2.heap.size) ∧
 Nw (w27.setCell (blk w2.heap.size) (.int .i64 x7)) fun w28 =>
 Wr w28 ((blk w2.heap.size).add 1) ∧
 Nw (w28.setCell ((blk w2.heap.size).add 1) (.int .i64 x8)) fun w29 =>
 ldI w29 ((blk w1.heap.size).add 0) .i64 fun x9 =>
 ldI w29 ((blk w1.heap.size).add 1) .i64 fun x10 =>
 ldI w29 ((blk w1.heap.size).add 2) .i64 fun x11 =>
 ldI w29 ((blk w1.heap.size).add 3) .i64 fun x12 =>
 ldI w29 ((blk w1.heap.size).add 4) .i64 fun x13 =>
 ldI w29 ((blk w1.heap.size).add 5) .i64 fun x14 =>
 ldI w29 ((blk w1.heap.size).add 6) .i64 fun x15 =>
 ldI w29 ((blk w1.heap.size).add 7) .i64 fun x16 =>
 ldI w29 ((blk w1.heap.size).add 8) .i64 fun x17 =>
 ldI w29 ((blk w1.heap.size).add 9) .i64 fun x18 =>
 ldI w29 ((blk w1.heap.size).add 10) .i64 fun x19 =>
 ldI w29 ((blk w1.heap.size).add 11) .i64 fun x20 =>
 ldI w29 ((blk w1.heap.size).add 12) .i64 fun x21 =>
 ldI w29 ((blk w1.heap.size).add 13) .i64 fun x22 =>
 ldI w29 ((blk w1.heap.size).add 14) .i64 fun x23 =>
 ldI w29 ((blk w1.heap.size).add 15) .i64 fun x24 =>
 ldI w29 ((blk w1.heap.size).add 16) .i64 fun x25 =>
 ldI w29 ((blk w1.heap.size).add 17) .i64 fun x26 =>
 ldI w29 ((blk w1.heap.size).add 18) .i64 fun x27 =>
 ldI w29 ((blk w1.heap.size).add 19) .i64 fun x28 =>
 ldI w29 ((blk w2.heap.size).add 0) .i64 fun x29 =>
 ldI w29 ((blk w2.heap.size).add 1) .i64 fun x30 =>
 R (.tuple #[(.agg #[(.int .i64 x9), (.int .i64 x10), (.int .i64 x11), (.int .i64 x12), (.int .i64 x13), (.int .i64 x14), (.int .i64 x15), (.int .i64 x16), (.int .i64 x17), (.int .i64 x18), (.int .i64 x19), (.int .i64 x20), (.int .i64 x21), (.int .i64 x22), (.int .i64 x23), (.int .i64 x24), (.int .i64 x25), (.int .i64 x26), (.int .i64 x27), (.int .i64 x28)]), (.agg #[(.int .i64 x29), (.int .i64 x30)])]) w29)
 (derefP x5 fun a31 =>
 ldI w7.drew ((a31.add 2).add 0) .i64 fun x32 =>
 ldI w7.drew ((a31.add 2).add 1) .i64 fun x33 =>
 ldI w7.drew ((a31.add 2).add 2) .i64 fun x34 =>
 ldI w7.drew ((a31.add 2).add 3) .i64 fun x35 =>
 ldI w7.drew ((a31.add 2).add 4) .i64 fun x36 =>
 ldI w7.drew ((a31.add 2).add 5) .i64 fun x37 =>
 ldI w7.drew ((a31.add 2).add 6) .i64 fun x38 =>
 ldI w7.drew ((a31.add 2).add 7) .i64 fun x39 =>
 ldI w7.drew ((a31.add 2).add 8) .i64 fun x40 =>
 ldI w7.drew ((a31.add 2).add 9) .i64 fun x41 =>
 ldI w7.drew ((a31.add 2).add 10) .i64 fun x42 =>
 ldI w7.drew ((a31.add 2).add 11) .i64 fun x43 =>
 ldI w7.drew ((a31.add 2).add 12) .i64 fun x44 =>
 ldI w7.drew ((a31.add 2).add 13) .i64 fun x45 =>
 ldI w7.drew ((a31.add 2).add 14) .i64 fun x46 =>
 ldI w7.drew ((a31.add 2).add 15) .i64 fun x47 =>
 ldI w7.drew ((a31.add 2).add 16) .i64 fun x48 =>
 ldI w7.drew ((a31.add 2).add 17) .i64 fun x49 =>
 ldI w7.drew ((a31.add 2).add 18) .i64 fun x50 =>
 ldI w7.drew ((a31.add 2).add 19) .i64 fun x51 =>
 ldI w7.drew ((blk w4.heap.size).add 0) .i64 fun x52 =>
 ldI w7.drew ((blk w4.heap.size).add 1) .i64 fun x53 =>
 Wr w7.drew (blk w1.heap.size) ∧
 Nw (w7.drew.setCell (blk w1.heap.size) (.int .i64 x32)) fun w30 =>
 Wr w30 ((blk w1.heap.size).add 1) ∧
 Nw (w30.setCell ((blk w1.heap.size).add 1) (.int .i64 x33)) fun w31 =>
 Wr w31 ((blk w1.heap.size).add 2) ∧
 Nw (w31.setCell ((blk w1.heap.size).add 2) (.int .i64 x34)) fun w32 =>
 Wr w32 ((blk w1.heap.size).add 3) ∧
 Nw (w32.setCell ((blk w1.heap.size).add 3) (.int .i64 x35)) fun w33 =>
 Wr w33 ((blk w1.heap.size).add 4) ∧
 Nw (w33.setCell ((blk w1.heap.size).add 4) (.int .i64 x36)) fun w34 =>
 Wr w34 ((blk w1.heap.size).add 5) ∧
 Nw (w34.setCell ((blk w1.heap.size).add 5) (.int .i64 x37)) fun w35 =>
 Wr w35 ((blk w1.heap.size).add 6) ∧
 Nw (w35.setCell ((blk w1.heap.size).add 6) (.int .i64 x38)) fun w36 =>
 Wr w36 ((blk w1.heap.size).add 7) ∧
 Nw (w36.setCell ((blk w1.heap.size).add 7) (.int .i64 x39)) fun w37 =>
 Wr w37 ((blk w1.heap.size).add 8) ∧
 Nw (w37.setCell ((blk w1.heap.size).add 8) (.int .i64 x40)) fun w38 =>
 Wr w38 ((blk w1.heap.size).add 9) ∧
 Nw (w38.setCell ((blk w1.heap.size).add 9) (.int .i64 x41)) fun w39 =>
 Wr w39 ((blk w1.heap.size).add 10) ∧
 Nw (w39.setCell ((blk w1.heap.size).add 10) (.int .i64 x42)) fun w40 =>
 Wr w40 ((blk w1.heap.size).add 11) ∧
 Nw (w40.setCell ((blk w1.heap.size).add 11) (.int .i64 x43)) fun w41 =>
 Wr w41 ((blk w1.heap.size).add 12) ∧
 Nw (w41.setCell ((blk w1.heap.size).add 12) (.int .i64 x44)) fun w42 =>
 Wr w42 ((blk w1.heap.size).add 13) ∧
 Nw (w42.setCell ((blk w1.heap.size).add 13) (.int .i64 x45)) fun w43 =>
 Wr w43 ((blk w1.heap.size).add 14) ∧
 Nw (w43.setCell ((blk w1.heap.size).add 14) (.int .i64 x46)) fun w44 =>
 Wr w44 ((blk w1.heap.size).add 15) ∧
 Nw (w44.setCell ((blk w1.heap.size).add 15) (.int .i64 x47)) fun w45 =>
 Wr w45 ((blk w1.heap.size).add 16) ∧
 Nw (w45.setCell ((blk w1.heap.size).add 16) (.int .i64 x48)) fun w46 =>
 Wr w46 ((blk w1.heap.size).add 17) ∧
 Nw (w46.setCell ((blk w1.heap.size).add 17) (.int .i64 x49)) fun w47 =>
 Wr w47 ((blk w1.heap.size).add 18) ∧
 Nw (w47.setCell ((blk w1.heap.size).add 18) (.int .i64 x50)) fun w48 =>
 Wr w48 ((blk w1.heap.size).add 19) ∧
 Nw (w48.setCell ((blk w1.heap.size).add 19) (.int .i64 x51)) fun w49 =>
 w49.cell? ((blk w4.heap.size).add 0) = some (.int .i64 x52) ∧
 w49.cell? ((blk w4.heap.size).add 1) = some (.int .i64 x53) ∧
 Wr w49 (blk w2.heap.size) ∧
 Nw (w49.setCell (blk w2.heap.size) (.int .i64 x52)) fun w50 =>
 Wr w50 ((blk w2.heap.size).add 1) ∧
 Nw (w50.setCell ((blk w2.heap.size).add 1) (.int .i64 x53)) fun w51 =>
 ldI w51 ((blk w1.heap.size).add 0) .i64 fun x54 =>
 ldI w51 ((blk w1.heap.size).add 1) .i64 fun x55 =>
 ldI w51 ((blk w1.heap.size).add 2) .i64 fun x56 =>
 ldI w51 ((blk w1.heap.size).add 3) .i64 fun x57 =>
 ldI w51 ((blk w1.heap.size).add 4) .i64 fun x58 =>
 ldI w51 ((blk w1.heap.size).add 5) .i64 fun x59 =>
 ldI w51 ((blk w1.heap.size).add 6) .i64 fun x60 =>
 ldI w51 ((blk w1.heap.size).add 7) .i64 fun x61 =>
 ldI w51 ((blk w1.heap.size).add 8) .i64 fun x62 =>
 ldI w51 ((blk w1.heap.size).add 9) .i64 fun x63 =>
 ldI w51 ((blk w1.heap.size).add 10) .i64 fun x64 =>
 ldI w51 ((blk w1.heap.size).add 11) .i64 fun x65 =>
 ldI w51 ((blk w1.heap.size).add 12) .i64 fun x66 =>
 ldI w51 ((blk w1.heap.size).add 13) .i64 fun x67 =>
 ldI w51 ((blk w1.heap.size).add 14) .i64 fun x68 =>
 ldI w51 ((blk w1.heap.size).add 15) .i64 fun x69 =>
 ldI w51 ((blk w1.heap.size).add 16) .i64 fun x70 =>
 ldI w51 ((blk w1.heap.size).add 17) .i64 fun x71 =>
 ldI w51 ((blk w1.heap.size).add 18) .i64 fun x72 =>
 ldI w51 ((blk w1.heap.size).add 19) .i64 fun x73 =>
 ldI w51 ((blk w2.heap.size).add 0) .i64 fun x74 =>
 ldI w51 ((blk w2.heap.size).add 1) .i64 fun x75 =>
 R (.tuple #[(.agg #[(.int .i64 x54), (.int .i64 x55), (.int .i64 x56), (.int .i64 x57), (.int .i64 x58), (.int .i64 x59), (.int .i64 x60), (.int .i64 x61), (.int .i64 x62), (.int .i64 x63), (.int .i64 x64), (.int .i64 x65), (.int .i64 x66), (.int .i64 x67), (.int .i64 x68), (.int .i64 x69), (.int .i64 x70), (.int .i64 x71), (.int .i64 x72), (.int .i64 x73)]), (.agg #[(.int .i64 x74), (.int .i64 x75)])]) w51)
theorem layout_Parts_calls (p0 : (Int × Int × Sl × Unit)) (R : Value → World → Prop) (w : World) (h : L_layout_Parts p0 R w) : Calls Tryz.prog 64 #[(.agg #[(.int .u32 p0.1), (.int .u32 p0.2.1), (.slice p0.2.2.1.a p0.2.2.1.l p0.2.2.1.c)])] w (Ret R) :=
 lw_calls (fs := Tryz.fs) (an := a_layout_Parts) (args := [(.agg #[(.int .u32 p0.1), (.int .u32 p0.2.1), (.slice p0.2.2.1.a p0.2.2.1.l p0.2.2.1.c)])]) Tryz.fsOK Tryz.mixed Tryz.func64 (by kernel_rfl) (by kernel_rfl)
 (Eq.mpr (by kernel_rfl : lwFn Tryz.prog Tryz.fs Tryz.f64 a_layout_Parts [(.agg #[(.int .u32 p0.1), (.int .u32 p0.2.1), (.slice p0.2.2.1.a p0.2.2.1.l p0.2.2.1.c)])] w R = L_layout_Parts p0 R w) h)

/-- intaglio.layout.read -/
def a_layout_read : Ann := (.seq none .nil (.seq none (.seq none .nil (.seq none .nil (.cond (.seq none .nil .nil) .nil))) (.seq none .nil (.seq none (.one (.seq none .nil (.cond (.seq none .nil .nil) (.seq none .nil (.cond (.seq none .nil .nil) .nil))))) (.seq none .nil .nil)))))
def L_layout_read (p0 : (Int × Int × Sl × Unit)) (R : Value → World → Prop) (w : World) : Prop :=
 Nw (w.alloc (.cells #[(.int .u32 p0.1), (.int .u32 p0.2.1), (.slice p0.2.2.1.a p0.2.2.1.l p0.2.2.1.c)] 25)) fun w1 =>
 Nw (w1.alloc (.cells #[(.int .i64 (0 : Int)), (.int .i64 (0 : Int))] 44)) fun w2 =>
 ldI w2 ((blk w.heap.size).add 0) .u32 fun x1 =>
 ldI w2 ((blk w.heap.size).add 1) .u32 fun x2 =>
 ldS w2 ((blk w.heap.size).add 2) fun x3 =>
 callR Tryz.prog 73 #[(.agg #[(.int .u32 x1), (.int .u32 x2), (.slice x3.a x3.l x3.c)])] w2 fun v4 w3 =>
 ∃ x5 : (Int × Int × Unit), v4 = (.agg #[(.int .i64 x5.1), (.int .i64 x5.2.1)]) ∧
 Nw (w3.alloc (.cells #[(.int .i64 (0 : Int)), (.int .i64 (0 : Int))] 44)) fun w4 =>
 Wr w4 (blk w3.heap.size) ∧
 Nw (w4.setCell (blk w3.heap.size) (.int .i64 x5.1)) fun w5 =>
 Wr w5 ((blk w3.heap.size).add 1) ∧
 Nw (w5.setCell ((blk w3.heap.size).add 1) (.int .i64 x5.2.1)) fun w6 =>
 ldI w6 (blk w3.heap.size) .i64 fun x6 =>
 ifB (x6 != (0 : Int))
 (ldI w6.drew ((blk w3.heap.size).add 0) .i64 fun x7 =>
 ldI w6.drew ((blk w3.heap.size).add 1) .i64 fun x8 =>
 Wr w6.drew (blk w1.heap.size) ∧
 Nw (w6.drew.setCell (blk w1.heap.size) (.int .i64 x7)) fun w7 =>
 Wr w7 ((blk w1.heap.size).add 1) ∧
 Nw (w7.setCell ((blk w1.heap.size).add 1) (.int .i64 x8)) fun w8 =>
 ldI w8 ((blk w1.heap.size).add 0) .i64 fun x9 =>
 ldI w8 ((blk w1.heap.size).add 1) .i64 fun x10 =>
 R (.tuple #[(.pointer none), (.agg #[(.int .i64 x9), (.int .i64 x10)])]) w8)
 (ldS w6 ((blk w.heap.size).add 2) fun x11 =>
 Nw (w6.alloc (.cells (List.toArray ([(.slice x11.a x11.l x11.c)] ++ List.replicate 21 (.int .i64 (0 : Int)) ++ [(.slice none 0 0)])) 194)) fun w9 =>
 callR Tryz.prog 145 #[(.pointer (some (blk w6.heap.size)))] w9 fun v12 w10 =>
 ∃ x13 : Bool, v12 = (.bool x13) ∧
 ifB x13
 (Wr w10 (blk w1.heap.size) ∧
 Nw (w10.setCell (blk w1.heap.size) (.int .i64 (0 : Int))) fun w11 =>
 Wr w11 ((blk w1.heap.size).add 1) ∧
 Nw (w11.setCell ((blk w1.heap.size).add 1) (.int .i64 (0 : Int))) fun w12 =>
 ldI w12 ((blk w1.heap.size).add 0) .i64 fun x14 =>
 ldI w12 ((blk w1.heap.size).add 1) .i64 fun x15 =>
 R (.tuple #[(.pointer (some (blk w6.heap.size))), (.agg #[(.int .i64 x14), (.int .i64 x15)])]) w12)
 (ldI w10.drew ((blk w6.heap.size).add 1) .i64 fun x16 =>
 ldS w10.drew ((blk w.heap.size).add 2) fun x17 =>
 ifB (decide (x16 < (x17.l : Int)))
 (ldI w10.drew.drew ((blk w6.heap.size).add 1) .i64 fun x18 =>
 Wr w10.drew.drew (blk w1.heap.size) ∧
 Nw (w10.drew.drew.setCell (blk w1.heap.size) (.int .i64 (50 : Int))) fun w13 =>
 Wr w13 ((blk w1.heap.size).add 1) ∧
 Nw (w13.setCell ((blk w1.heap.size).add 1) (.int .i64 x18)) fun w14 =>
 ldI w14 ((blk w1.heap.size).add 0) .i64 fun x19 =>
 ldI w14 ((blk w1.heap.size).add 1) .i64 fun x20 =>
 R (.tuple #[(.pointer none), (.agg #[(.int .i64 x19), (.int .i64 x20)])]) w14)
 (ldI w10.drew.drew ((blk w6.heap.size).add 1) .i64 fun x21 =>
 Wr w10.drew.drew (blk w1.heap.size) ∧
 Nw (w10.drew.drew.setCell (blk w1.heap.size) (.int .i64 (51 : Int))) fun w15 =>
 Wr w15 ((blk w1.heap.size).add 1) ∧
 Nw (w15.setCell ((blk w1.heap.size).add 1) (.int .i64 x21)) fun w16 =>
 ldI w16 ((blk w1.heap.size).add 0) .i64 fun x22 =>
 ldI w16 ((blk w1.heap.size).add 1) .i64 fun x23 =>
 R (.tuple #[(.pointer none), (.agg #[(.int .i64 x22), (.int .i64 x23)])]) w16)))
theorem layout_read_calls (p0 : (Int × Int × Sl × Unit)) (R : Value → World → Prop) (w : World) (h : L_layout_read p0 R w) : Calls Tryz.prog 102 #[(.agg #[(.int .u32 p0.1), (.int .u32 p0.2.1), (.slice p0.2.2.1.a p0.2.2.1.l p0.2.2.1.c)])] w (Ret R) :=
 lw_calls (fs := Tryz.fs) (an := a_layout_read) (args := [(.agg #[(.int .u32 p0.1), (.int .u32 p0.2.1), (.slice p0.2.2.1.a p0.2.2.1.l p0.2.2.1.c)])]) Tryz.fsOK Tryz.mixed Tryz.func102 (by kernel_rfl) (by kernel_rfl)
 (Eq.mpr (by kernel_rfl : lwFn Tryz.prog Tryz.fs Tryz.f102 a_layout_read [(.agg #[(.int .u32 p0.1), (.int .u32 p0.2.1), (.slice p0.2.2.1.a p0.2.2.1.l p0.2.2.1.c)])] w R = L_layout_read p0 R w) h)

/-- (*intaglio.layout.cutter).cut -/
def a_layout_cutter_cut : Ann := (.seq none .nil (.one (.seq none (.seq none .nil (.cond (.seq none .nil .nil) .nil)) (.seq none .nil (.seq none .nil (.loop ⟨[0], []⟩ (.seq none (.seq none .nil (.cond (.seq none .nil .nil) .nil)) (.seq none (.seq none .nil (.cond (.seq none .nil .nil) .nil)) (.seq none .nil (.seq none .nil (.seq none .nil (.seq none .nil (.seq none (.one (.loop ⟨[0, 3], []⟩ (.seq none (.seq none .nil (.cond .nil .nil)) (.one (.seq none (.seq none .nil (.cond (.seq none .nil .nil) .nil)) .nil))))) (.seq (some ⟨[0, 3], []⟩) (.seq none .nil (.cond (.seq none .nil .nil) .nil)) (.seq none .nil (.seq none .nil (.seq none .nil .nil)))))))))))))))))
def L_layout_cutter_cut (p0 : Option Addr) (R : Value → World → Prop) (w : World) : Prop :=
 callR Tryz.prog 180 #[(.pointer p0)] w fun v1 w1 =>
 ∃ x2 : Bool, v1 = (.bool x2) ∧
 ifB (!x2)
 (R (.bool false) w1)
 (derefP p0 fun a3 =>
 ldI w1.drew (a3.add 1) .i64 fun x4 =>
 derefP p0 fun a5 =>
 ldS w1.drew a5 fun x6 =>
 derefP p0 fun a7 =>
 (0 ≤ (8 : Int) ∧ (8 : Int) < (10 : Int)) ∧
 Wr w1.drew ((a7.add 2).add (8 * 2)) ∧
 Nw (w1.drew.setCell ((a7.add 2).add (8 * 2)) (.int .i64 x4)) fun w2 =>
 Wr w2 (((a7.add 2).add (8 * 2)).add 1) ∧
 Nw (w2.setCell (((a7.add 2).add (8 * 2)).add 1) (.int .i64 (x6.l : Int))) fun w3 =>
 derefP p0 fun a8 =>
 ldS w3.drew a8 fun x9 =>
 derefP p0 fun a10 =>
 ldS w3.drew a10 fun x11 =>
 derefP p0 fun a12 =>
 (0 ≤ (9 : Int) ∧ (9 : Int) < (10 : Int)) ∧
 Wr w3.drew ((a12.add 2).add (9 * 2)) ∧
 Nw (w3.drew.setCell ((a12.add 2).add (9 * 2)) (.int .i64 (x9.l : Int))) fun w4 =>
 Wr w4 (((a12.add 2).add (9 * 2)).add 1) ∧
 Nw (w4.setCell (((a12.add 2).add (9 * 2)).add 1) (.int .i64 (x11.l : Int))) fun w5 =>
 LoopW (S := Unit) (fun s13 w6 n14 =>
 callR Tryz.prog 181 #[(.pointer p0)] w6 fun v15 w7 =>
 ∃ x16 : Int, v15 = (.int .i64 x16) ∧
 ifB (decide (x16 < (0 : Int)))
 (R (.bool true) w7)
 (callR Tryz.prog 181 #[(.pointer p0)] w7 fun v17 w8 =>
 ∃ x18 : Int, v17 = (.int .i64 x18) ∧
 ifB (x18 != (1 : Int))
 (R (.bool false) w8)
 (derefP p0 fun a19 =>
 ldS w8.drew a19 fun x20 =>
 derefP p0 fun a21 =>
 ldI w8.drew (a21.add 1) .i64 fun x22 =>
 (0 ≤ x22 ∧ x22 < (x20.l : Int)) ∧
 derefP x20.a fun a23 =>
 ldI w8.drew ((a23.add ((Int.toNat x22) * 4)).add 2) .u32 fun x24 =>
 derefP p0 fun a25 =>
 ldI w8.drew (a25.add 1) .i64 fun x26 =>
 Nw (w8.drew.alloc (.cells #[(.int .u32 (0 : Int)), (.int .i64 (0 : Int)), (.slice none 0 0), (.slice none 0 0), (.int .i64 (0 : Int))] 154)) fun w9 =>
 w9.cell? (a25.add 1) = some (.int .i64 x26) ∧
 w9.cell? ((a23.add ((Int.toNat x22) * 4)).add 2) = some (.int .u32 x24) ∧
 w9.cell? (a21.add 1) = some (.int .i64 x22) ∧
 w9.cell? a19 = some (.slice x20.a x20.l x20.c) ∧
 Wr w9 (blk w8.drew.heap.size) ∧
 Nw (w9.setCell (blk w8.drew.heap.size) (.int .u32 x24)) fun w10 =>
 Wr w10 ((blk w8.drew.heap.size).add 1) ∧
 Nw (w10.setCell ((blk w8.drew.heap.size).add 1) (.int .i64 x26)) fun w11 =>
 Wr w11 ((blk w8.drew.heap.size).add 2) ∧
 Nw (w11.setCell ((blk w8.drew.heap.size).add 2) (.slice none 0 0)) fun w12 =>
 Wr w12 ((blk w8.drew.heap.size).add 3) ∧
 Nw (w12.setCell ((blk w8.drew.heap.size).add 3) (.slice none 0 0)) fun w13 =>
 Wr w13 ((blk w8.drew.heap.size).add 4) ∧
 Nw (w13.setCell ((blk w8.drew.heap.size).add 4) (.int .i64 (0 : Int))) fun w14 =>
 derefP p0 fun a27 =>
 ldI w14 (a27.add 1) .i64 fun x28 =>
 derefP p0 fun a29 =>
 Wr w14 (a29.add 1) ∧
 Nw (w14.setCell (a29.add 1) (.int .i64 (IntKind.i64.wrap (x28 + (1 : Int))))) fun w15 =>
 callR Tryz.prog 182 #[(.pointer p0), (.int .i64 (2 : Int))] w15 fun v30 w16 =>
 ∃ x31 : Sl, v30 = (.slice x31.a x31.l x31.c) ∧
 Wr w16 ((blk w8.drew.heap.size).add 2) ∧
 Nw (w16.setCell ((blk w8.drew.heap.size).add 2) (.slice x31.a x31.l x31.c)) fun w17 =>
 LoopW (S := Unit) (fun s32 w18 n33 =>
 callR Tryz.prog 181 #[(.pointer p0)] w18 fun v34 w19 =>
 ∃ x35 : Int, v34 = (.int .i64 x35) ∧
 ifB (x35 == (3 : Int))
 (callR Tryz.prog 183 #[(.pointer p0), (.pointer (some (blk w8.drew.heap.size)))] w19 fun v36 w20 =>
 ∃ x37 : Bool, v36 = (.bool x37) ∧
 ifB (!x37)
 (R (.bool false) w20)
 (n33 (()) w20))
 (JoinW (S := Unit) (fun m38 =>
 ldS w19 ((blk w8.drew.heap.size).add 3) fun x40 =>
 ifB ((x40.l : Int) == (0 : Int))
 (R (.bool false) w19)
 (callR Tryz.prog 181 #[(.pointer p0)] w19 fun v41 w21 =>
 ∃ x42 : Int, v41 = (.int .i64 x42) ∧
 ifB (x42 != (8 : Int))
 (R (.bool false) w21)
 (m38 (()) w21)))
 (fun s39 w22 =>
 derefP p0 fun a43 =>
 ldI w22 (a43.add 1) .i64 fun x44 =>
 Wr w22 ((blk w8.drew.heap.size).add 4) ∧
 Nw (w22.setCell ((blk w8.drew.heap.size).add 4) (.int .i64 x44)) fun w23 =>
 derefP p0 fun a45 =>
 ldI w23 (a45.add 1) .i64 fun x46 =>
 derefP p0 fun a47 =>
 Wr w23 (a47.add 1) ∧
 Nw (w23.setCell (a47.add 1) (.int .i64 (IntKind.i64.wrap (x46 + (1 : Int))))) fun w24 =>
 derefP p0 fun a48 =>
 ldS w24.drew (a48.add 22) fun x49 =>
 ldI w24.drew ((blk w8.drew.heap.size).add 0) .u32 fun x50 =>
 ldI w24.drew ((blk w8.drew.heap.size).add 1) .i64 fun x51 =>
 ldS w24.drew ((blk w8.drew.heap.size).add 2) fun x52 =>
 ldS w24.drew ((blk w8.drew.heap.size).add 3) fun x53 =>
 ldI w24.drew ((blk w8.drew.heap.size).add 4) .i64 fun x54 =>
 Nw (w24.drew.alloc (.cells #[(.int .u32 x50), (.int .i64 x51), (.slice x52.a x52.l x52.c), (.slice x53.a x53.l x53.c), (.int .i64 x54)] 154)) fun w25 =>
 w25.cell? (a48.add 22) = some (.slice x49.a x49.l x49.c) ∧
 appendS Tryz.prog 147 (.slice x49.a x49.l x49.c) (.slice (some (blk w24.drew.heap.size)) 1 1) w25 fun r55 w26 =>
 derefP p0 fun a56 =>
 Wr w26 (a56.add 22) ∧
 Nw (w26.setCell (a56.add 22) (.slice r55.a r55.l r55.c)) fun w27 =>
 n14 (()) w27)))
 (()) w17)))
 (()) w5)
theorem layout_cutter_cut_calls (p0 : Option Addr) (R : Value → World → Prop) (w : World) (h : L_layout_cutter_cut p0 R w) : Calls Tryz.prog 145 #[(.pointer p0)] w (Ret R) :=
 lwJ_calls (l := 0) (fs := Tryz.fs) (an := a_layout_cutter_cut) (args := [(.pointer p0)]) Tryz.fsOK Tryz.mixed Tryz.func145 (by kernel_rfl) (by kernel_rfl)
 (Eq.mpr (by kernel_rfl : lwJFn Tryz.prog Tryz.fs 0 Tryz.f145 a_layout_cutter_cut [(.pointer p0)] w R = L_layout_cutter_cut p0 R w) h)

/-- (*intaglio.layout.cutter).top -/
def a_layout_cutter_top : Ann := (.seq none .nil (.seq none (.seq none .nil (.one (.loop ⟨[0], [(5, (.b (.int .u8)))]⟩ (.seq none .nil (.seq none (.cond .nil .nil) (.seq (some ⟨[0, 5], []⟩) (.one (.seq none .nil (.seq none .nil (.seq (some ⟨[0, 3, 4, 5], []⟩) (.one (.loop ⟨[0, 3, 4, 5], []⟩ (.seq (some ⟨[0, 3, 4, 5], []⟩) (.seq none .nil (.cond .nil .nil)) (.one (.seq none .nil (.seq none .nil (.cond .nil .nil))))))) (.seq none .nil (.seq none .nil (.cond (.seq none .nil .nil) .nil))))))) .nil)))))) (.seq none .nil .nil)))
def L_layout_cutter_top (p0 : Option Addr) (R : Value → World → Prop) (w : World) : Prop :=
 LoopW (S := Int × Unit) (fun s1 w1 n2 =>
 ifB (decide (s1.1 < (8 : Int)))
 (JoinW (S := Unit) (fun m3 =>
 derefP p0 fun a5 =>
 ldI w1 (a5.add 1) .i64 fun x6 =>
 JoinW (S := Unit) (fun m7 =>
 LoopW (S := Unit) (fun s9 w2 n10 =>
 JoinW (S := Unit) (fun m11 =>
 callR Tryz.prog 181 #[(.pointer p0)] w2.drew fun v13 w3 =>
 ∃ x14 : Int, v13 = (.int .i64 x14) ∧
 ifB (x14 == (9 : Int))
 (derefP p0 fun a15 =>
 ldS w3 a15 fun x16 =>
 derefP p0 fun a17 =>
 ldI w3 (a17.add 1) .i64 fun x18 =>
 (0 ≤ x18 ∧ x18 < (x16.l : Int)) ∧
 derefP x16.a fun a19 =>
 ldI w3 ((a19.add ((Int.toNat x18) * 4)).add 0) .u16 fun x20 =>
 ldI w3 ((a19.add ((Int.toNat x18) * 4)).add 1) .u32 fun x21 =>
 ldI w3 ((a19.add ((Int.toNat x18) * 4)).add 2) .u32 fun x22 =>
 ldS w3 ((a19.add ((Int.toNat x18) * 4)).add 3) fun x23 =>
 callR Tryz.prog 236 #[(.agg #[(.int .u16 x20), (.int .u32 x21), (.int .u32 x22), (.slice x23.a x23.l x23.c)])] w3 fun v24 w4 =>
 ∃ x25 : Int, v24 = (.int .u8 x25) ∧
 ifB (x25 == s1.1)
 (m11 (()) w4)
 (m7 (()) w4))
 (m7 (()) w3))
 (fun s12 w5 =>
 derefP p0 fun a26 =>
 ldI w5 (a26.add 1) .i64 fun x27 =>
 derefP p0 fun a28 =>
 Wr w5 (a28.add 1) ∧
 Nw (w5.setCell (a28.add 1) (.int .i64 (IntKind.i64.wrap (x27 + (1 : Int))))) fun w6 =>
 ifB (s1.1 == (1 : Int))
 (m7 (()) w6)
 (n10 (()) w6)))
 (()) w1)
 (fun s8 w7 =>
 derefP p0 fun a29 =>
 ldI w7.drew (a29.add 1) .i64 fun x30 =>
 derefP p0 fun a31 =>
 (0 ≤ s1.1 ∧ s1.1 < (10 : Int)) ∧
 Wr w7.drew ((a31.add 2).add ((Int.toNat s1.1) * 2)) ∧
 Nw (w7.drew.setCell ((a31.add 2).add ((Int.toNat s1.1) * 2)) (.int .i64 x6)) fun w8 =>
 Wr w8 (((a31.add 2).add ((Int.toNat s1.1) * 2)).add 1) ∧
 Nw (w8.setCell (((a31.add 2).add ((Int.toNat s1.1) * 2)).add 1) (.int .i64 x30)) fun w9 =>
 ifB (s1.1 == (1 : Int))
 (derefP p0 fun a32 =>
 ldI w9 (a32.add 1) .i64 fun x33 =>
 ifB (x33 == x6)
 (R (.bool false) w9)
 (m3 (()) w9))
 (m3 (()) w9)))
 (fun s4 w10 =>
 n2 ((IntKind.u8.wrap (s1.1 + (1 : Int))), ()) w10))
 (R (.bool true) w1))
 ((0 : Int), ()) w
theorem layout_cutter_top_calls (p0 : Option Addr) (R : Value → World → Prop) (w : World) (h : L_layout_cutter_top p0 R w) : Calls Tryz.prog 180 #[(.pointer p0)] w (Ret R) :=
 lw_calls (fs := Tryz.fs) (an := a_layout_cutter_top) (args := [(.pointer p0)]) Tryz.fsOK Tryz.mixed Tryz.func180 (by kernel_rfl) (by kernel_rfl)
 (Eq.mpr (by kernel_rfl : lwFn Tryz.prog Tryz.fs Tryz.f180 a_layout_cutter_top [(.pointer p0)] w R = L_layout_cutter_top p0 R w) h)

/-- (*intaglio.layout.cutter).next -/
def a_layout_cutter_next : Ann := (.seq none .nil (.seq none (.seq none .nil (.cond (.seq none .nil .nil) .nil)) (.seq none .nil .nil)))
def L_layout_cutter_next (p0 : Option Addr) (R : Value → World → Prop) (w : World) : Prop :=
 derefP p0 fun a1 =>
 ldI w.drew (a1.add 1) .i64 fun x2 =>
 derefP p0 fun a3 =>
 ldS w.drew a3 fun x4 =>
 ifB (x2 == (x4.l : Int))
 (R (.int .i64 (-1 : Int)) w.drew)
 (derefP p0 fun a5 =>
 ldS w.drew.drew a5 fun x6 =>
 derefP p0 fun a7 =>
 ldI w.drew.drew (a7.add 1) .i64 fun x8 =>
 (0 ≤ x8 ∧ x8 < (x6.l : Int)) ∧
 derefP x6.a fun a9 =>
 ldI w.drew.drew ((a9.add ((Int.toNat x8) * 4)).add 0) .u16 fun x10 =>
 ldI w.drew.drew ((a9.add ((Int.toNat x8) * 4)).add 1) .u32 fun x11 =>
 ldI w.drew.drew ((a9.add ((Int.toNat x8) * 4)).add 2) .u32 fun x12 =>
 ldS w.drew.drew ((a9.add ((Int.toNat x8) * 4)).add 3) fun x13 =>
 callR Tryz.prog 237 #[(.agg #[(.int .u16 x10), (.int .u32 x11), (.int .u32 x12), (.slice x13.a x13.l x13.c)])] w.drew.drew fun v14 w1 =>
 ∃ x15 : Int, v14 = (.int .i64 x15) ∧
 R (.int .i64 x15) w1)
theorem layout_cutter_next_calls (p0 : Option Addr) (R : Value → World → Prop) (w : World) (h : L_layout_cutter_next p0 R w) : Calls Tryz.prog 181 #[(.pointer p0)] w (Ret R) :=
 lw_calls (fs := Tryz.fs) (an := a_layout_cutter_next) (args := [(.pointer p0)]) Tryz.fsOK Tryz.mixed Tryz.func181 (by kernel_rfl) (by kernel_rfl)
 (Eq.mpr (by kernel_rfl : lwFn Tryz.prog Tryz.fs Tryz.f181 a_layout_cutter_next [(.pointer p0)] w R = L_layout_cutter_next p0 R w) h)

/-- (*intaglio.layout.cutter).row -/
def a_layout_cutter_row : Ann := (.seq none .nil (.seq none .nil (.seq none (.one (.loop ⟨[0, 1], [(5, (.b .slice))]⟩ (.seq none (.seq none .nil (.cond .nil .nil)) (.one (.seq none .nil .nil))))) (.seq none .nil .nil))))
def L_layout_cutter_row (p0 : Option Addr) (p1 : Int) (R : Value → World → Prop) (w : World) : Prop :=
 LoopW (S := Sl × Unit) (fun s1 w1 n2 =>
 callR Tryz.prog 181 #[(.pointer p0)] w1 fun v3 w2 =>
 ∃ x4 : Int, v3 = (.int .i64 x4) ∧
 ifB (x4 == p1)
 (derefP p0 fun a5 =>
 ldI w2 (a5.add 1) .i64 fun x6 =>
 Nw (w2.alloc (.cells #[(.int .i64 x6)] 3)) fun w3 =>
 appendS Tryz.prog 151 (.slice s1.1.a s1.1.l s1.1.c) (.slice (some (blk w2.heap.size)) 1 1) w3 fun r7 w4 =>
 derefP p0 fun a8 =>
 ldI w4 (a8.add 1) .i64 fun x9 =>
 derefP p0 fun a10 =>
 Wr w4 (a10.add 1) ∧
 Nw (w4.setCell (a10.add 1) (.int .i64 (IntKind.i64.wrap (x9 + (1 : Int))))) fun w5 =>
 n2 (r7, ()) w5)
 (R (.slice s1.1.a s1.1.l s1.1.c) w2))
 ((Sl.mk none 0 0), ()) w
theorem layout_cutter_row_calls (p0 : Option Addr) (p1 : Int) (R : Value → World → Prop) (w : World) (h : L_layout_cutter_row p0 p1 R w) : Calls Tryz.prog 182 #[(.pointer p0), (.int .i64 p1)] w (Ret R) :=
 lw_calls (fs := Tryz.fs) (an := a_layout_cutter_row) (args := [(.pointer p0), (.int .i64 p1)]) Tryz.fsOK Tryz.mixed Tryz.func182 (by kernel_rfl) (by kernel_rfl)
 (Eq.mpr (by kernel_rfl : lwFn Tryz.prog Tryz.fs Tryz.f182 a_layout_cutter_row [(.pointer p0), (.int .i64 p1)] w R = L_layout_cutter_row p0 p1 R w) h)

/-- (*intaglio.layout.cutter).block -/
def a_layout_cutter_block : Ann := (.seq none .nil (.seq none .nil (.seq none .nil (.seq (some ⟨[0, 1, 5], []⟩) (.seq none .nil (.cond .nil .nil)) (.seq none .nil (.seq none (.seq none .nil (.one (.seq (some ⟨[0, 1, 5], []⟩) (.one (.seq none (.one (.seq none (.seq none (.seq none .nil (.cond .nil .nil)) (.seq none .nil (.cond .nil .nil))) .nil)) (.seq none .nil (.seq none .nil (.cond (.seq none .nil .nil) .nil))))) (.seq none (.seq none .nil (.seq none .nil (.seq none .nil (.seq none .nil .nil)))) .nil)))) (.seq none .nil .nil)))))))
def L_layout_cutter_block (p0 : Option Addr) (p1 : Option Addr) (R : Value → World → Prop) (w : World) : Prop :=
 derefP p0 fun a1 =>
 ldS w.drew a1 fun x2 =>
 derefP p0 fun a3 =>
 ldI w.drew (a3.add 1) .i64 fun x4 =>
 (0 ≤ x4 ∧ x4 < (x2.l : Int)) ∧
 derefP x2.a fun a5 =>
 ldI w.drew ((a5.add ((Int.toNat x4) * 4)).add 2) .u32 fun x6 =>
 derefP p0 fun a7 =>
 ldI w.drew (a7.add 1) .i64 fun x8 =>
 Nw (w.drew.alloc (.cells #[(.int .u32 (0 : Int)), (.int .i64 (0 : Int)), (.int .i64 (0 : Int))] 316)) fun w1 =>
 w1.cell? (a7.add 1) = some (.int .i64 x8) ∧
 w1.cell? ((a5.add ((Int.toNat x4) * 4)).add 2) = some (.int .u32 x6) ∧
 w1.cell? (a3.add 1) = some (.int .i64 x4) ∧
 w1.cell? a1 = some (.slice x2.a x2.l x2.c) ∧
 Wr w1 (blk w.drew.heap.size) ∧
 Nw (w1.setCell (blk w.drew.heap.size) (.int .u32 x6)) fun w2 =>
 Wr w2 ((blk w.drew.heap.size).add 1) ∧
 Nw (w2.setCell ((blk w.drew.heap.size).add 1) (.int .i64 x8)) fun w3 =>
 Wr w3 ((blk w.drew.heap.size).add 2) ∧
 Nw (w3.setCell ((blk w.drew.heap.size).add 2) (.int .i64 (0 : Int))) fun w4 =>
 derefP p0 fun a9 =>
 ldI w4 (a9.add 1) .i64 fun x10 =>
 derefP p0 fun a11 =>
 Wr w4 (a11.add 1) ∧
 Nw (w4.setCell (a11.add 1) (.int .i64 (IntKind.i64.wrap (x10 + (1 : Int))))) fun w5 =>
 JoinW (S := Unit) (fun m12 =>
 derefP p1 fun a14 =>
 ldS w5 (a14.add 3) fun x15 =>
 ifB ((x15.l : Int) == (0 : Int))
 (callR Tryz.prog 182 #[(.pointer p0), (.int .i64 (5 : Int))] w5 fun v16 w6 =>
 ∃ x17 : Sl, v16 = (.slice x17.a x17.l x17.c) ∧
 m12 (()) w6)
 (callR Tryz.prog 182 #[(.pointer p0), (.int .i64 (4 : Int))] w5 fun v18 w7 =>
 ∃ x19 : Sl, v18 = (.slice x19.a x19.l x19.c) ∧
 m12 (()) w7))
 (fun s13 w8 =>
 callR Tryz.prog 182 #[(.pointer p0), (.int .i64 (0 : Int))] w8 fun v20 w9 =>
 ∃ x21 : Sl, v20 = (.slice x21.a x21.l x21.c) ∧
 callR Tryz.prog 181 #[(.pointer p0)] w9 fun v22 w10 =>
 ∃ x23 : Int, v22 = (.int .i64 x23) ∧
 JoinW (S := Unit) (fun m24 =>
 ifB (x23 == (6 : Int))
 (derefP p0 fun a26 =>
 ldI w10 (a26.add 1) .i64 fun x27 =>
 derefP p0 fun a28 =>
 Wr w10 (a28.add 1) ∧
 Nw (w10.setCell (a28.add 1) (.int .i64 (IntKind.i64.wrap (x27 + (1 : Int))))) fun w11 =>
 callR Tryz.prog 181 #[(.pointer p0)] w11.drew fun v29 w12 =>
 ∃ x30 : Int, v29 = (.int .i64 x30) ∧
 ifB (x30 != (7 : Int))
 (R (.bool false) w12)
 (derefP p0 fun a31 =>
 ldS w12 a31 fun x32 =>
 derefP p0 fun a33 =>
 ldI w12 (a33.add 1) .i64 fun x34 =>
 (0 ≤ (IntKind.i64.wrap (x34 - (1 : Int))) ∧ (IntKind.i64.wrap (x34 - (1 : Int))) < (x32.l : Int)) ∧
 derefP x32.a fun a35 =>
 ldI w12 (a35.add ((Int.toNat (IntKind.i64.wrap (x34 - (1 : Int)))) * 4)) .u16 fun x36 =>
 derefP p0 fun a37 =>
 ldS w12 a37 fun x38 =>
 derefP p0 fun a39 =>
 ldI w12 (a39.add 1) .i64 fun x40 =>
 (0 ≤ x40 ∧ x40 < (x38.l : Int)) ∧
 derefP x38.a fun a41 =>
 ldI w12 (a41.add ((Int.toNat x40) * 4)) .u16 fun x42 =>
 callR Tryz.prog 238 #[(.int .u16 x36), (.int .u16 x42)] w12 fun v43 w13 =>
 ∃ x44 : Bool, v43 = (.bool x44) ∧
 ifB (!x44)
 (R (.bool false) w13)
 (m24 (()) w13)))
 (ifB (x23 == (7 : Int))
 (m24 (()) w10)
 (R (.bool false) w10)))
 (fun s25 w14 =>
 derefP p0 fun a45 =>
 ldI w14 (a45.add 1) .i64 fun x46 =>
 derefP p0 fun a47 =>
 Wr w14 (a47.add 1) ∧
 Nw (w14.setCell (a47.add 1) (.int .i64 (IntKind.i64.wrap (x46 + (1 : Int))))) fun w15 =>
 derefP p0 fun a48 =>
 ldI w15 (a48.add 1) .i64 fun x49 =>
 Wr w15 ((blk w.drew.heap.size).add 2) ∧
 Nw (w15.setCell ((blk w.drew.heap.size).add 2) (.int .i64 x49)) fun w16 =>
 derefP p1 fun a50 =>
 ldS w16.drew (a50.add 3) fun x51 =>
 ldI w16.drew ((blk w.drew.heap.size).add 0) .u32 fun x52 =>
 ldI w16.drew ((blk w.drew.heap.size).add 1) .i64 fun x53 =>
 ldI w16.drew ((blk w.drew.heap.size).add 2) .i64 fun x54 =>
 Nw (w16.drew.alloc (.cells #[(.int .u32 x52), (.int .i64 x53), (.int .i64 x54)] 316)) fun w17 =>
 w17.cell? (a50.add 3) = some (.slice x51.a x51.l x51.c) ∧
 appendS Tryz.prog 152 (.slice x51.a x51.l x51.c) (.slice (some (blk w16.drew.heap.size)) 1 1) w17 fun r55 w18 =>
 derefP p1 fun a56 =>
 Wr w18 (a56.add 3) ∧
 Nw (w18.setCell (a56.add 3) (.slice r55.a r55.l r55.c)) fun w19 =>
 R (.bool true) w19))
theorem layout_cutter_block_calls (p0 : Option Addr) (p1 : Option Addr) (R : Value → World → Prop) (w : World) (h : L_layout_cutter_block p0 p1 R w) : Calls Tryz.prog 183 #[(.pointer p0), (.pointer p1)] w (Ret R) :=
 lw_calls (fs := Tryz.fs) (an := a_layout_cutter_block) (args := [(.pointer p0), (.pointer p1)]) Tryz.fsOK Tryz.mixed Tryz.func183 (by kernel_rfl) (by kernel_rfl)
 (Eq.mpr (by kernel_rfl : lwFn Tryz.prog Tryz.fs Tryz.f183 a_layout_cutter_block [(.pointer p0), (.pointer p1)] w R = L_layout_cutter_block p0 p1 R w) h)

/-- intaglio.layout.part -/
def a_layout_part : Ann := (.seq none .nil (.seq none (.seq none .nil (.cond (.seq none .nil .nil) .nil)) (.seq none .nil (.seq none .nil .nil))))
def L_layout_part (p0 : (Int × Int × Int × Sl × Unit)) (R : Value → World → Prop) (w : World) : Prop :=
 Nw (w.alloc (.cells #[(.int .u16 p0.1), (.int .u32 p0.2.1), (.int .u32 p0.2.2.1), (.slice p0.2.2.2.1.a p0.2.2.2.1.l p0.2.2.2.1.c)] 52)) fun w1 =>
 ldI w1 ((blk w.heap.size).add 0) .u16 fun x1 =>
 ldI w1 ((blk w.heap.size).add 1) .u32 fun x2 =>
 ldI w1 ((blk w.heap.size).add 2) .u32 fun x3 =>
 ldS w1 ((blk w.heap.size).add 3) fun x4 =>
 callR Tryz.prog 276 #[(.agg #[(.int .u16 x1), (.int .u32 x2), (.int .u32 x3), (.slice x4.a x4.l x4.c)])] w1 fun v5 w2 =>
 ∃ x6 : Bool, v5 = (.bool x6) ∧
 ifB x6
 (R (.int .u8 (8 : Int)) w2)
 (ldI w2 (blk w.heap.size) .u16 fun x7 =>
 callR Tryz.prog 187 #[(.int .u16 x7)] w2 fun v8 w3 =>
 ∃ x9 : (Int × ByteArray × Bool × Bool × ByteArray × ByteArray × Int × Int × Unit), ∃ x10 : Bool, v8 = (.tuple #[(.agg #[(.int .u16 x9.1), (.string x9.2.1), (.bool x9.2.2.1), (.bool x9.2.2.2.1), (.string x9.2.2.2.2.1), (.string x9.2.2.2.2.2.1), (.int .i64 x9.2.2.2.2.2.2.1), (.int .u8 x9.2.2.2.2.2.2.2.1)]), (.bool x10)]) ∧
 Nw (w3.alloc (.cells #[(.int .u16 (0 : Int)), (.string (ByteArray.mk #[])), (.bool false), (.bool false), (.string (ByteArray.mk #[])), (.string (ByteArray.mk #[])), (.int .i64 (0 : Int)), (.int .u8 (0 : Int))] 172)) fun w4 =>
 Wr w4 (blk w3.heap.size) ∧
 Nw (w4.setCell (blk w3.heap.size) (.int .u16 x9.1)) fun w5 =>
 Wr w5 ((blk w3.heap.size).add 1) ∧
 Nw (w5.setCell ((blk w3.heap.size).add 1) (.string x9.2.1)) fun w6 =>
 Wr w6 ((blk w3.heap.size).add 2) ∧
 Nw (w6.setCell ((blk w3.heap.size).add 2) (.bool x9.2.2.1)) fun w7 =>
 Wr w7 ((blk w3.heap.size).add 3) ∧
 Nw (w7.setCell ((blk w3.heap.size).add 3) (.bool x9.2.2.2.1)) fun w8 =>
 Wr w8 ((blk w3.heap.size).add 4) ∧
 Nw (w8.setCell ((blk w3.heap.size).add 4) (.string x9.2.2.2.2.1)) fun w9 =>
 Wr w9 ((blk w3.heap.size).add 5) ∧
 Nw (w9.setCell ((blk w3.heap.size).add 5) (.string x9.2.2.2.2.2.1)) fun w10 =>
 Wr w10 ((blk w3.heap.size).add 6) ∧
 Nw (w10.setCell ((blk w3.heap.size).add 6) (.int .i64 x9.2.2.2.2.2.2.1)) fun w11 =>
 Wr w11 ((blk w3.heap.size).add 7) ∧
 Nw (w11.setCell ((blk w3.heap.size).add 7) (.int .u8 x9.2.2.2.2.2.2.2.1)) fun w12 =>
 ldI w12 ((blk w3.heap.size).add 7) .u8 fun x11 =>
 R (.int .u8 x11) w12)
theorem layout_part_calls (p0 : (Int × Int × Int × Sl × Unit)) (R : Value → World → Prop) (w : World) (h : L_layout_part p0 R w) : Calls Tryz.prog 236 #[(.agg #[(.int .u16 p0.1), (.int .u32 p0.2.1), (.int .u32 p0.2.2.1), (.slice p0.2.2.2.1.a p0.2.2.2.1.l p0.2.2.2.1.c)])] w (Ret R) :=
 lw_calls (fs := Tryz.fs) (an := a_layout_part) (args := [(.agg #[(.int .u16 p0.1), (.int .u32 p0.2.1), (.int .u32 p0.2.2.1), (.slice p0.2.2.2.1.a p0.2.2.2.1.l p0.2.2.2.1.c)])]) Tryz.fsOK Tryz.mixed Tryz.func236 (by kernel_rfl) (by kernel_rfl)
 (Eq.mpr (by kernel_rfl : lwFn Tryz.prog Tryz.fs Tryz.f236 a_layout_part [(.agg #[(.int .u16 p0.1), (.int .u32 p0.2.1), (.int .u32 p0.2.2.1), (.slice p0.2.2.2.1.a p0.2.2.2.1.l p0.2.2.2.1.c)])] w R = L_layout_part p0 R w) h)

/-- intaglio.layout.kind -/
def a_layout_kind : Ann := (.seq none .nil (.seq none (.seq none .nil (.cond (.seq none .nil .nil) .nil)) (.seq none (.seq none .nil (.one (.seq none (.one (.one (.seq none (.one (.seq none (.one (.seq none (.one (.seq none (.one (.seq none (.one (.seq none (.one (.seq none (.seq none (.seq none .nil (.cond .nil .nil)) (.seq none (.seq none .nil (.cond .nil .nil)) (.seq none (.seq none .nil (.cond .nil .nil)) (.seq none (.seq none .nil (.cond .nil .nil)) (.seq none (.seq none .nil (.cond .nil .nil)) (.seq none (.seq none .nil (.cond .nil .nil)) (.seq none (.seq none .nil (.cond .nil .nil)) (.seq none .nil (.cond .nil .nil))))))))) .nil)) (.seq none (.seq none .nil .nil) .nil))) (.seq none (.seq none .nil .nil) .nil))) (.seq none (.seq none .nil .nil) .nil))) (.seq none (.seq none .nil .nil) .nil))) (.seq none (.seq none .nil .nil) .nil))) (.seq none (.seq none .nil .nil) .nil)))) (.seq none (.seq none .nil .nil) .nil)))) (.seq none (.seq none .nil (.cond (.seq none .nil .nil) .nil)) (.seq none .nil .nil)))))
def L_layout_kind (p0 : (Int × Int × Int × Sl × Unit)) (R : Value → World → Prop) (w : World) : Prop :=
 Nw (w.alloc (.cells #[(.int .u16 p0.1), (.int .u32 p0.2.1), (.int .u32 p0.2.2.1), (.slice p0.2.2.2.1.a p0.2.2.2.1.l p0.2.2.2.1.c)] 52)) fun w1 =>
 ldI w1 ((blk w.heap.size).add 0) .u16 fun x1 =>
 ldI w1 ((blk w.heap.size).add 1) .u32 fun x2 =>
 ldI w1 ((blk w.heap.size).add 2) .u32 fun x3 =>
 ldS w1 ((blk w.heap.size).add 3) fun x4 =>
 callR Tryz.prog 236 #[(.agg #[(.int .u16 x1), (.int .u32 x2), (.int .u32 x3), (.slice x4.a x4.l x4.c)])] w1 fun v5 w2 =>
 ∃ x6 : Int, v5 = (.int .u8 x6) ∧
 ifB (x6 != (8 : Int))
 (R (.int .i64 (9 : Int)) w2)
 (ldI w2 (blk w.heap.size) .u16 fun x7 =>
 ifB (x7 == (54 : Int))
 (R (.int .i64 (1 : Int)) w2)
 (ifB (x7 == (55 : Int))
 (R (.int .i64 (2 : Int)) w2)
 (ifB (x7 == (56 : Int))
 (R (.int .i64 (8 : Int)) w2)
 (ifB (x7 == (248 : Int))
 (R (.int .i64 (3 : Int)) w2)
 (ifB (x7 == (245 : Int))
 (R (.int .i64 (4 : Int)) w2)
 (ifB (x7 == (59 : Int))
 (R (.int .i64 (5 : Int)) w2)
 (ifB (x7 == (246 : Int))
 (R (.int .i64 (6 : Int)) w2)
 (ifB (x7 == (247 : Int))
 (R (.int .i64 (6 : Int)) w2)
 (ldI w2 (blk w.heap.size) .u16 fun x8 =>
 callR Tryz.prog 277 #[(.int .u16 x8)] w2 fun v9 w3 =>
 ∃ x10 : Bool, v9 = (.bool x10) ∧
 ifB x10
 (R (.int .i64 (7 : Int)) w3)
 (R (.int .i64 (0 : Int)) w3))))))))))
theorem layout_kind_calls (p0 : (Int × Int × Int × Sl × Unit)) (R : Value → World → Prop) (w : World) (h : L_layout_kind p0 R w) : Calls Tryz.prog 237 #[(.agg #[(.int .u16 p0.1), (.int .u32 p0.2.1), (.int .u32 p0.2.2.1), (.slice p0.2.2.2.1.a p0.2.2.2.1.l p0.2.2.2.1.c)])] w (Ret R) :=
 lw_calls (fs := Tryz.fs) (an := a_layout_kind) (args := [(.agg #[(.int .u16 p0.1), (.int .u32 p0.2.1), (.int .u32 p0.2.2.1), (.slice p0.2.2.2.1.a p0.2.2.2.1.l p0.2.2.2.1.c)])]) Tryz.fsOK Tryz.mixed Tryz.func237 (by kernel_rfl) (by kernel_rfl)
 (Eq.mpr (by kernel_rfl : lwFn Tryz.prog Tryz.fs Tryz.f237 a_layout_kind [(.agg #[(.int .u16 p0.1), (.int .u32 p0.2.1), (.int .u32 p0.2.2.1), (.slice p0.2.2.2.1.a p0.2.2.2.1.l p0.2.2.2.1.c)])] w R = L_layout_kind p0 R w) h)

/-- intaglio.layout.may -/
def a_layout_may : Ann := (.seq none .nil (.seq none (.seq none .nil (.one (.seq none .nil (.cond (.seq none .nil .nil) (.seq none .nil (.cond (.seq none .nil .nil) (.seq none .nil (.cond (.seq none .nil .nil) .nil)))))))) (.seq none .nil .nil)))
def L_layout_may (p0 : Int) (p1 : Int) (R : Value → World → Prop) (w : World) : Prop :=
 ifB (p1 == (251 : Int))
 (R (.bool (p0 == (247 : Int))) w)
 (ifB (p1 == (249 : Int))
 (R (.bool (p0 == (246 : Int))) w)
 (ifB (p1 == (250 : Int))
 (R (.bool true) w)
 (R (.bool false) w)))
theorem layout_may_calls (p0 : Int) (p1 : Int) (R : Value → World → Prop) (w : World) (h : L_layout_may p0 p1 R w) : Calls Tryz.prog 238 #[(.int .u16 p0), (.int .u16 p1)] w (Ret R) :=
 lw_calls (fs := Tryz.fs) (an := a_layout_may) (args := [(.int .u16 p0), (.int .u16 p1)]) Tryz.fsOK Tryz.mixed Tryz.func238 (by kernel_rfl) (by kernel_rfl)
 (Eq.mpr (by kernel_rfl : lwFn Tryz.prog Tryz.fs Tryz.f238 a_layout_may [(.int .u16 p0), (.int .u16 p1)] w R = L_layout_may p0 p1 R w) h)

/-- intaglio.layout.variable -/
def a_layout_variable : Ann := (.seq none .nil (.seq none .nil .nil))
def L_layout_variable (p0 : (Int × Int × Int × Sl × Unit)) (R : Value → World → Prop) (w : World) : Prop :=
 Nw (w.alloc (.cells #[(.int .u16 p0.1), (.int .u32 p0.2.1), (.int .u32 p0.2.2.1), (.slice p0.2.2.2.1.a p0.2.2.2.1.l p0.2.2.2.1.c)] 52)) fun w1 =>
 ldI w1 (blk w.heap.size) .u16 fun x1 =>
 ifB (x1 == (59 : Int))
 (ldS w1 ((blk w.heap.size).add 3) fun x2 =>
 ifB (decide ((x2.l : Int) > (0 : Int)))
 (ldS w1 ((blk w.heap.size).add 3) fun x3 =>
 (0 ≤ (0 : Int) ∧ (0 : Int) < (x3.l : Int)) ∧
 derefP x3.a fun a4 =>
 ldI w1 ((a4.add (0 * 3)).add 1) .u32 fun x5 =>
 R (.bool (x5 == (7 : Int))) w1)
 (R (.bool false) w1))
 (R (.bool false) w1)
theorem layout_variable_calls (p0 : (Int × Int × Int × Sl × Unit)) (R : Value → World → Prop) (w : World) (h : L_layout_variable p0 R w) : Calls Tryz.prog 276 #[(.agg #[(.int .u16 p0.1), (.int .u32 p0.2.1), (.int .u32 p0.2.2.1), (.slice p0.2.2.2.1.a p0.2.2.2.1.l p0.2.2.2.1.c)])] w (Ret R) :=
 lw_calls (fs := Tryz.fs) (an := a_layout_variable) (args := [(.agg #[(.int .u16 p0.1), (.int .u32 p0.2.1), (.int .u32 p0.2.2.1), (.slice p0.2.2.2.1.a p0.2.2.2.1.l p0.2.2.2.1.c)])]) Tryz.fsOK Tryz.mixed Tryz.func276 (by kernel_rfl) (by kernel_rfl)
 (Eq.mpr (by kernel_rfl : lwFn Tryz.prog Tryz.fs Tryz.f276 a_layout_variable [(.agg #[(.int .u16 p0.1), (.int .u32 p0.2.1), (.int .u32 p0.2.2.1), (.slice p0.2.2.2.1.a p0.2.2.2.1.l p0.2.2.2.1.c)])] w R = L_layout_variable p0 R w) h)

/-- intaglio.layout.Ends -/
def a_layout_Ends : Ann := (.seq none .nil (.seq none .nil .nil))
def L_layout_Ends (p0 : Int) (R : Value → World → Prop) (w : World) : Prop :=
 ifB (decide (p0 ≥ (249 : Int)))
 (R (.bool (decide (p0 ≤ (255 : Int)))) w)
 (R (.bool false) w)
theorem layout_Ends_calls (p0 : Int) (R : Value → World → Prop) (w : World) (h : L_layout_Ends p0 R w) : Calls Tryz.prog 277 #[(.int .u16 p0)] w (Ret R) :=
 lw_calls (fs := Tryz.fs) (an := a_layout_Ends) (args := [(.int .u16 p0)]) Tryz.fsOK Tryz.mixed Tryz.func277 (by kernel_rfl) (by kernel_rfl)
 (Eq.mpr (by kernel_rfl : lwFn Tryz.prog Tryz.fs Tryz.f277 a_layout_Ends [(.int .u16 p0)] w R = L_layout_Ends p0 R w) h)

end Go.Proofs
namespace Go.Proofs
open Go.Gk Go.RowKit Go.Gm

def isVar (p : PI) : Bool := p.1 == 59 && (match p.2.2.2 with | [] => false | a :: _ => a.2.1 == 7)
def partO (op : Int) : Nat := match frm op with
  | some g => g.2.2.2.2.2.2
  | none => 0
def partP (p : PI) : Nat := if isVar p then 8 else partO p.1
theorem parts_ok : tabR.all (fun p => decide (p.2.2.2.2.2.2.2 ≤ 8)) = true := by decide +kernel
theorem partO_le (op : Int) : partO op ≤ 8 := by
  unfold partO
  cases h : frm op with
  | none => exact Nat.zero_le _
  | some g => exact of_decide_eq_true (List.all_eq_true.1 parts_ok _ (look_mem h))
theorem partP_le (p : PI) : partP p ≤ 8 := by
  unfold partP
  split
  · exact Nat.le_refl _
  · exact partO_le _
def endsP (op : Int) : Bool := decide (249 ≤ op ∧ op ≤ 255)
def kdP (p : PI) : Int :=
  if partP p ≠ 8 then 9 else if p.1 = 54 then 1 else if p.1 = 55 then 2 else if p.1 = 56 then 8 else if p.1 = 248 then 3 else if p.1 = 245 then 4
  else if p.1 = 59 then 5 else if p.1 = 246 then 6 else if p.1 = 247 then 6 else if endsP p.1 = true then 7 else 0
def opMay (op ah : Int) (fi : Bool) : Bool :=
  if op = 54 then ah == 0 || ah == 56
  else if op = 55 then ah == 54 || ah == 55
  else if op = 248 then ah == 54 || ah == 55 || endsP ah
  else if op = 56 then endsP ah
  else if ah = 0 ∨ ah = 54 ∨ ah = 55 ∨ ah = 56 ∨ endsP ah = true then false
  else if op = 245 then (ah == 248 || ah == 245) && !fi
  else if op = 59 then (ah == 248 || ah == 59) && fi
  else if ah = 246 then op == 249 || op == 250
  else if ah = 247 then op == 250 || op == 251
  else true
abbrev ix (pl : List PI) (k : Nat) : PI := pl.getD k pi0
def aheadP (pl : List PI) : Nat → Int
  | 0 => 0
  | n + 1 => if partP (ix pl n) = 8 then (ix pl n).1 else 0
def firstP (pl : List PI) : Nat → Bool
  | 0 => false
  | n + 1 => if (ix pl (n + 1)).1 = 248 then (ix pl n).1 == 54 || (ix pl n).1 == 55 else firstP pl n
def mdlP (pl : List PI) (n : Nat) : Bool := (List.range n).any fun k => partP (ix pl k) == 1
def overP (pl : List PI) (n : Nat) : Bool := (List.range n).any fun k => decide (partP (ix pl n) < partP (ix pl k))
def mayP (pl : List PI) (n : Nat) : Bool :=
  if overP pl n = true then false
  else if partP (ix pl n) = 1 then !mdlP pl n
  else if 1 < partP (ix pl n) ∧ mdlP pl n = false then false
  else if partP (ix pl n) < 8 then true
  else opMay (ix pl n).1 (aheadP pl n) (firstP pl (n - 1))
def openP (pl : List PI) : Bool := !mdlP pl pl.length || (decide (0 < pl.length) && partP (ix pl (pl.length - 1)) == 8 && (ix pl (pl.length - 1)).1 != 56)
def chkP (pl : List PI) : Int × Nat := match (List.range pl.length).find? (fun k => !mayP pl k) with
  | some k => (50, k)
  | none => if openP pl = true then (51, pl.length) else (0, 0)
def layP (bound : Int) (pl : List PI) : Int × Nat := if (shapeP bound pl).1 ≠ 0 then shapeP bound pl else chkP pl
def GoodL (pl : List PI) (n : Nat) : Prop := ∀ k, k < n → mayP pl k = true

theorem mdlP_iff {pl : List PI} {n : Nat} : mdlP pl n = true ↔ ∃ k, k < n ∧ partP (ix pl k) = 1 := by
  unfold mdlP
  simp [List.any_eq_true]
theorem mdlP_mono {pl : List PI} {n m : Nat} (h : mdlP pl n = true) (hnm : n ≤ m) : mdlP pl m = true := by
  obtain ⟨k, h1, h2⟩ := mdlP_iff.1 h
  exact mdlP_iff.2 ⟨k, by omega, h2⟩
theorem mdlP_none {pl : List PI} {n : Nat} (h : ∀ k, k < n → partP (ix pl k) ≠ 1) : mdlP pl n = false := by
  cases e : mdlP pl n
  · rfl
  · obtain ⟨k, h1, h2⟩ := mdlP_iff.1 e
    exact absurd h2 (h k h1)
theorem overP_iff {pl : List PI} {n : Nat} : overP pl n = true ↔ ∃ k, k < n ∧ partP (ix pl n) < partP (ix pl k) := by
  unfold overP
  simp [List.any_eq_true]
theorem may_over {pl : List PI} {n k : Nat} (hk : k < n) (h : partP (ix pl n) < partP (ix pl k)) : mayP pl n = false := by
  unfold mayP
  rw [if_pos (overP_iff.2 ⟨k, hk, h⟩)]
theorem not_over {pl : List PI} {n : Nat} (h : ∀ k, k < n → partP (ix pl k) ≤ partP (ix pl n)) : ¬ overP pl n = true := fun e => by
  obtain ⟨k, h1, h2⟩ := overP_iff.1 e
  have := h k h1
  omega
theorem may_low {pl : List PI} {n : Nat} (h : ∀ k, k < n → partP (ix pl k) ≤ partP (ix pl n)) (h1 : partP (ix pl n) = 1 → mdlP pl n = false) (h2 : 1 < partP (ix pl n) → mdlP pl n = true) (h8 : partP (ix pl n) < 8) :
    mayP pl n = true := by
  unfold mayP
  rw [if_neg (not_over h)]
  by_cases e : partP (ix pl n) = 1
  · rw [if_pos e, h1 e]
    rfl
  · rw [if_neg e, if_neg (fun ⟨g1, g2⟩ => by rw [h2 g1] at g2; cases g2), if_pos h8]
theorem may_nomodel {pl : List PI} {n : Nat} (h : mdlP pl n = false) (h1 : 1 < partP (ix pl n)) : mayP pl n = false := by
  unfold mayP
  by_cases e : overP pl n = true
  · rw [if_pos e]
  · rw [if_neg e, if_neg (by omega), if_pos ⟨h1, h⟩]
theorem may_again {pl : List PI} {n : Nat} (h : mdlP pl n = true) (h1 : partP (ix pl n) = 1) : mayP pl n = false := by
  unfold mayP
  by_cases e : overP pl n = true
  · rw [if_pos e]
  · rw [if_neg e, if_pos h1, h]
    rfl
theorem may_eight {pl : List PI} {n : Nat} (h : mdlP pl n = true) (h8 : partP (ix pl n) = 8) : mayP pl n = opMay (ix pl n).1 (aheadP pl n) (firstP pl (n - 1)) := by
  unfold mayP
  rw [if_neg (not_over fun k hk => by rw [h8]; exact partP_le _), if_neg (by omega), if_neg (fun ⟨_, g⟩ => by rw [h] at g; cases g), if_neg (by omega)]
theorem GoodL.step {pl : List PI} {n : Nat} (h : GoodL pl n) (hn : mayP pl n = true) : GoodL pl (n + 1) := fun k hk => by
  by_cases e : k = n
  · subst e; exact hn
  · exact h k (by omega)
theorem chk_bad {pl : List PI} {n : Nat} (hg : GoodL pl n) (hn : n < pl.length) (hm : mayP pl n = false) : chkP pl = (50, n) := by
  unfold chkP
  rw [find_first hn (by rw [hm]; rfl) fun j hj => by rw [hg j hj]; rfl]
theorem chk_end {pl : List PI} (hg : GoodL pl pl.length) : chkP pl = if openP pl = true then (51, pl.length) else (0, 0) := by
  unfold chkP
  have : (List.range pl.length).find? (fun k => !mayP pl k) = none := by
    rw [List.find?_eq_none]
    intro j hj
    rw [hg j (List.mem_range.1 hj)]
    simp
  rw [this]
/-- A place that is known to be the first at which a module stops standing in order. -/
def StopL (pl : List PI) (n : Nat) : Prop := n ≤ pl.length ∧ GoodL pl n ∧ (n < pl.length → mayP pl n = false) ∧ (n = pl.length → openP pl = true)
theorem StopL.chk {pl : List PI} {n : Nat} (h : StopL pl n) : chkP pl = (if n < pl.length then 50 else 51, n) := by
  obtain ⟨h1, h2, h3, h4⟩ := h
  by_cases e : n < pl.length
  · rw [if_pos e]
    exact chk_bad h2 e (h3 e)
  · have : n = pl.length := by omega
    subst this
    rw [if_neg e, chk_end h2, if_pos (h4 rfl)]
theorem open_nomodel {pl : List PI} (h : mdlP pl pl.length = false) : openP pl = true := by
  unfold openP
  rw [h]
  rfl

structure InvT (pl : List PI) (p n : Nat) : Prop where
  le : n ≤ pl.length
  good : GoodL pl n
  low : ∀ k, k < n → partP (ix pl k) < p
  mdl : 2 ≤ p → mdlP pl n = true
  stuck : n < pl.length → partP (ix pl n) < p → mayP pl n = false
theorem InvT.zero (pl : List PI) : InvT pl 0 0 := ⟨Nat.zero_le _, fun k hk => by omega, fun k hk => by omega, fun h => by omega, fun _ h => by omega⟩
/-- Within a part, from behind its beginning on. -/
structure InvP (pl : List PI) (p from' n : Nat) : Prop where
  le : n ≤ pl.length
  lo : from' ≤ n
  good : GoodL pl n
  own : ∀ k, from' ≤ k → k < n → partP (ix pl k) = p
  one : p = 1 → n = from'
theorem InvT.into {pl : List PI} {p n : Nat} (h : InvT pl p n) : InvP pl p n n := ⟨h.le, Nat.le_refl _, h.good, fun k h1 h2 => by omega, fun _ => rfl⟩
theorem InvP.may {pl : List PI} {p f n : Nat} (h : InvP pl p f n) (hT : InvT pl p f) (hp8 : p < 8) (hpart : partP (ix pl n) = p) : mayP pl n = true := by
  refine may_low (fun k hk => ?_) (fun e => ?_) (fun e => ?_) (by omega)
  · rw [hpart]
    by_cases hkf : k < f
    · exact Nat.le_of_lt (hT.low k hkf)
    · exact Nat.le_of_eq (h.own k (by omega) hk)
  · have hp1 : p = 1 := by omega
    have hnf := h.one hp1
    refine mdlP_none fun k hk => ?_
    have := hT.low k (by omega)
    omega
  · exact mdlP_mono (hT.mdl (by omega)) h.lo
theorem InvP.step {pl : List PI} {p f n : Nat} (h : InvP pl p f n) (hT : InvT pl p f) (hp8 : p < 8) (hn : n < pl.length) (hpart : partP (ix pl n) = p) (h1 : p ≠ 1) : InvP pl p f (n + 1) :=
  ⟨by omega, by have := h.lo; omega, h.good.step (h.may hT hp8 hpart), fun k k1 k2 => by
    by_cases e : k = n
    · subst e; exact hpart
    · exact h.own k k1 (by omega), fun e => absurd e h1⟩
/-- The part ends at n: nothing more of it, or its only one has been taken. -/
theorem InvP.out {pl : List PI} {p f n : Nat} (h : InvP pl p f n) (hT : InvT pl p f) (h1 : p ≠ 1) (hne : n < pl.length → partP (ix pl n) ≠ p) : InvT pl (p + 1) n :=
  ⟨h.le, h.good, fun k hk => by
    by_cases hkf : k < f
    · have := hT.low k hkf; omega
    · have := h.own k (by omega) hk; omega, fun h2 => mdlP_mono (hT.mdl (by omega)) h.lo, fun hn hlt => by
    by_cases e : n = f
    · subst e
      exact hT.stuck hn (by have := hne hn; omega)
    · refine may_over (k := n - 1) (by have := h.lo; omega) ?_
      rw [h.own (n - 1) (by have := h.lo; omega) (by have := h.lo; omega)]
      have := hne hn
      omega⟩
theorem InvT.model {pl : List PI} {n : Nat} (hT : InvT pl 1 n) (hn : n < pl.length) (hpart : partP (ix pl n) = 1) : InvT pl 2 (n + 1) := by
  have hm : mdlP pl (n + 1) = true := mdlP_iff.2 ⟨n, by omega, hpart⟩
  refine ⟨by omega, hT.good.step (hT.into.may hT (by omega) hpart), fun k hk => ?_, fun _ => hm, fun h1 h2 => ?_⟩
  · by_cases e : k = n
    · subst e; omega
    · have := hT.low k (by omega); omega
  · rcases Nat.lt_or_ge (partP (ix pl (n + 1))) 1 with h | h
    · exact may_over (k := n) (by omega) (by omega)
    · exact may_again hm (by omega)
theorem InvT.nomodel {pl : List PI} {n : Nat} (hT : InvT pl 1 n) (hne : n < pl.length → partP (ix pl n) ≠ 1) : StopL pl n := by
  have hm : mdlP pl n = false := mdlP_none fun k hk => by have := hT.low k hk; omega
  refine ⟨hT.le, hT.good, fun hn => ?_, fun e => ?_⟩
  · rcases Nat.lt_or_ge (partP (ix pl n)) 1 with h | h
    · exact hT.stuck hn h
    · exact may_nomodel hm (by have := hne hn; omega)
  · subst e
    exact open_nomodel hm

/-- Between functions. -/
structure InvO (pl : List PI) (n : Nat) : Prop where
  le : n ≤ pl.length
  good : GoodL pl n
  mdl : mdlP pl n = true
  ah : aheadP pl n = 0 ∨ aheadP pl n = 56
  stuck : n < pl.length → partP (ix pl n) ≠ 8 → mayP pl n = false
  shut : n = pl.length → openP pl = false
theorem ahead_succ {pl : List PI} {n : Nat} (h : partP (ix pl n) = 8) : aheadP pl (n + 1) = (ix pl n).1 := if_pos h
theorem InvT.fun {pl : List PI} {n : Nat} (h : InvT pl 8 n) : InvO pl n := by
  have h0 : aheadP pl n = 0 := by
    cases n with
    | zero => rfl
    | succ m => exact if_neg (by have := h.low m (by omega); omega)
  refine ⟨h.le, h.good, h.mdl (by omega), .inl h0, fun hn h8 => h.stuck hn (by have := partP_le (ix pl n); omega), fun e => ?_⟩
  subst e
  unfold openP
  rw [h.mdl (by omega)]
  cases hl : pl.length with
  | zero => rfl
  | succ m =>
    have := h.low m (by omega)
    rw [Nat.add_sub_cancel, beq_eq_false_iff_ne.2 (show partP (ix pl m) ≠ 8 by omega)]
    simp
/-- Within functions: the last one's operation is ah. -/
structure InvF (pl : List PI) (n : Nat) (ah : Int) : Prop where
  le : n ≤ pl.length
  good : GoodL pl n
  mdl : mdlP pl n = true
  pos : 0 < n
  part : partP (ix pl (n - 1)) = 8
  op : (ix pl (n - 1)).1 = ah
theorem InvF.ah {pl : List PI} {n : Nat} {ah : Int} (h : InvF pl n ah) : aheadP pl n = ah := by
  obtain ⟨m, rfl⟩ : ∃ m, n = m + 1 := ⟨n - 1, by have := h.pos; omega⟩
  have := ahead_succ (n := m) h.part
  rw [this]
  exact h.op
theorem InvF.step {pl : List PI} {n : Nat} {ah : Int} (h : InvF pl n ah) (hn : n < pl.length) (h8 : partP (ix pl n) = 8) (hm : opMay (ix pl n).1 ah (firstP pl (n - 1)) = true) : InvF pl (n + 1) (ix pl n).1 :=
  ⟨by omega, h.good.step (by rw [may_eight h.mdl h8, h.ah]; exact hm), mdlP_mono h.mdl (by omega), by omega, h8, rfl⟩
theorem InvF.bad {pl : List PI} {n : Nat} {ah : Int} (h : InvF pl n ah) (h56 : ah ≠ 56) (hb : n < pl.length → partP (ix pl n) = 8 → opMay (ix pl n).1 ah (firstP pl (n - 1)) = false) : StopL pl n := by
  refine ⟨h.le, h.good, fun hn => ?_, fun e => ?_⟩
  · by_cases h8 : partP (ix pl n) = 8
    · rw [may_eight h.mdl h8, h.ah]
      exact hb hn h8
    · refine may_over (k := n - 1) (by have := h.pos; omega) ?_
      rw [h.part]
      have := partP_le (ix pl n)
      omega
  · subst e
    unfold openP
    rw [h.part, h.op, h.mdl]
    have := h.pos
    simp [this, h56]
theorem InvF.end {pl : List PI} {n : Nat} (h : InvF pl n 56) : InvO pl n := by
  refine ⟨h.le, h.good, h.mdl, .inr h.ah, fun hn h8 => ?_, fun e => ?_⟩
  · refine may_over (k := n - 1) (by have := h.pos; omega) ?_
    rw [h.part]
    have := partP_le (ix pl n)
    omega
  · subst e
    unfold openP
    rw [h.part, h.op, h.mdl]
    simp
theorem InvO.begin {pl : List PI} {n : Nat} (h : InvO pl n) (hn : n < pl.length) (h8 : partP (ix pl n) = 8) (hop : (ix pl n).1 = 54) : InvF pl (n + 1) 54 := by
  refine ⟨by omega, h.good.step ?_, mdlP_mono h.mdl (by omega), by omega, h8, hop⟩
  rw [may_eight h.mdl h8, hop]
  rcases h.ah with e | e <;> rw [e] <;> rfl
theorem InvO.bad {pl : List PI} {n : Nat} (h : InvO pl n) (hn : n < pl.length) (hk : kdP (ix pl n) ≠ 1) : StopL pl n := by
  refine ⟨h.le, h.good, fun _ => ?_, fun e => by omega⟩
  by_cases h8 : partP (ix pl n) = 8
  · rw [may_eight h.mdl h8]
    have hop : (ix pl n).1 ≠ 54 := fun e => hk (by unfold kdP; rw [if_neg (fun hh => hh h8), if_pos e])
    have : aheadP pl n = 0 ∨ aheadP pl n = 54 ∨ aheadP pl n = 55 ∨ aheadP pl n = 56 ∨ endsP (aheadP pl n) = true := by rcases h.ah with e | e <;> simp [e]
    unfold opMay
    rw [if_neg hop]
    by_cases e1 : (ix pl n).1 = 55
    · rw [if_pos e1]; rcases h.ah with e | e <;> rw [e] <;> rfl
    · rw [if_neg e1]
      by_cases e2 : (ix pl n).1 = 248
      · rw [if_pos e2]; rcases h.ah with e | e <;> rw [e] <;> rfl
      · rw [if_neg e2]
        by_cases e3 : (ix pl n).1 = 56
        · rw [if_pos e3]; rcases h.ah with e | e <;> rw [e] <;> rfl
        · rw [if_neg e3, if_pos this]
  · exact h.stuck hn h8
end Go.Proofs

namespace Go.Proofs
open Go.Gk Go.RowKit Go.Gm

theorem kd_part {p : PI} (h : kdP p ≠ 9) : partP p = 8 := by
  unfold kdP at h
  by_cases e : partP p = 8
  · exact e
  · rw [if_pos e] at h; exact absurd rfl h
theorem kd_op {p : PI} (h8 : partP p = 8) : kdP p = (if p.1 = 54 then 1 else if p.1 = 55 then 2 else if p.1 = 56 then 8 else if p.1 = 248 then 3 else if p.1 = 245 then 4
  else if p.1 = 59 then 5 else if p.1 = 246 then 6 else if p.1 = 247 then 6 else if endsP p.1 = true then 7 else 0) := by
  unfold kdP
  rw [if_neg (fun g => g h8)]
theorem ends_iff {op : Int} : endsP op = true ↔ 249 ≤ op ∧ op ≤ 255 := by unfold endsP; exact decide_eq_true_iff
theorem ends_false {op : Int} : endsP op = false ↔ ¬ (249 ≤ op ∧ op ≤ 255) := by unfold endsP; exact decide_eq_false_iff_not
/-- The kinds by operations. -/
theorem kd_ops {p : PI} (h8 : partP p = 8) : (kdP p = 1 ↔ p.1 = 54) ∧ (kdP p = 2 ↔ p.1 = 55) ∧ (kdP p = 8 ↔ p.1 = 56) ∧ (kdP p = 3 ↔ p.1 = 248) ∧ (kdP p = 4 ↔ p.1 = 245) ∧ (kdP p = 5 ↔ p.1 = 59) ∧
    (kdP p = 6 ↔ p.1 = 246 ∨ p.1 = 247) ∧ (kdP p = 7 ↔ 249 ≤ p.1 ∧ p.1 ≤ 255) ∧ kdP p ≠ 9 := by
  rw [kd_op h8]
  simp only [ends_iff]
  repeat' split
  all_goals omega
def mayI (mg en : Int) : Bool := if en = 251 then mg == 247 else if en = 249 then mg == 246 else if en = 250 then true else false
structure BlkOp (ah : Int) : Prop where
  ne : ah ≠ 0 ∧ ah ≠ 54 ∧ ah ≠ 55 ∧ ah ≠ 56 ∧ ah ≠ 246 ∧ ah ≠ 247
  en : ¬ (249 ≤ ah ∧ ah ≤ 255)
theorem opMay_blk {op ah : Int} {F : Bool} (h : BlkOp ah) : opMay op ah F = (if op = 54 ∨ op = 55 ∨ op = 248 ∨ op = 56 then false else if op = 245 then (ah == 248 || ah == 245) && !F else if op = 59 then (ah == 248 || ah == 59) && F else true) := by
  obtain ⟨⟨h0, h1, h2, h3, h4, h5⟩, h6⟩ := h
  have h6' := ends_false.2 h6
  have no : ∀ {c : Int}, ah ≠ c → (ah == c) = false := fun h => beq_eq_false_iff_ne.2 h
  unfold opMay
  by_cases e1 : op = 54
  · rw [if_pos e1, if_pos (.inl e1), no h0, no h3]; rfl
  rw [if_neg e1]
  by_cases e2 : op = 55
  · rw [if_pos e2, if_pos (.inr (.inl e2)), no h1, no h2]; rfl
  rw [if_neg e2]
  by_cases e3 : op = 248
  · rw [if_pos e3, if_pos (.inr (.inr (.inl e3))), no h1, no h2, h6']; rfl
  rw [if_neg e3]
  by_cases e4 : op = 56
  · rw [if_pos e4, if_pos (.inr (.inr (.inr e4))), h6']
  rw [if_neg e4, if_neg (by rw [h6']; rintro (e | e | e | e | e) <;> first | exact absurd e (by assumption) | cases e), if_neg (c := op = 54 ∨ op = 55 ∨ op = 248 ∨ op = 56) (by omega), if_neg h4, if_neg h5]
theorem opMay_merge {op ah : Int} {F : Bool} (h : ah = 246 ∨ ah = 247) : opMay op ah F = mayI ah op := by
  have he : endsP ah = false := ends_false.2 (by omega)
  have no : ∀ {c : Int}, ah ≠ c → (ah == c) = false := fun h => beq_eq_false_iff_ne.2 h
  unfold opMay mayI
  by_cases e1 : op = 54
  · rw [if_pos e1, no (by omega), no (by omega)]; subst e1; rfl
  rw [if_neg e1]
  by_cases e2 : op = 55
  · rw [if_pos e2, no (by omega), no (by omega)]; subst e2; rfl
  rw [if_neg e2]
  by_cases e3 : op = 248
  · rw [if_pos e3, no (by omega), no (by omega), he]; subst e3; rfl
  rw [if_neg e3]
  by_cases e4 : op = 56
  · rw [if_pos e4, he]; subst e4; rfl
  rw [if_neg e4, if_neg (by rw [he]; rintro (e | e | e | e | e) <;> first | omega | cases e)]
  by_cases e5 : op = 245
  · rw [if_pos e5, no (by omega), no (by omega)]; subst e5; rfl
  rw [if_neg e5]
  by_cases e6 : op = 59
  · rw [if_pos e6, no (by omega), no (by omega)]; subst e6; rfl
  rw [if_neg e6]
  rcases h with h | h
  · rw [if_pos h]
    by_cases e7 : op = 249
    · subst e7; subst h; rfl
    by_cases e8 : op = 250
    · subst e8; subst h; rfl
    rw [if_neg e7, if_neg e8, beq_eq_false_iff_ne.2 e7, beq_eq_false_iff_ne.2 e8]
    by_cases e9 : op = 251
    · rw [if_pos e9, h]; rfl
    · rw [if_neg e9]; rfl
  · rw [if_neg (by omega), if_pos h]
    by_cases e7 : op = 251
    · subst e7; subst h; rfl
    by_cases e8 : op = 250
    · subst e8; subst h; rfl
    rw [if_neg e7, if_neg e8, beq_eq_false_iff_ne.2 e7, beq_eq_false_iff_ne.2 e8]
    by_cases e9 : op = 249
    · rw [if_pos e9, h]; rfl
    · rw [if_neg e9]; rfl

variable {pl : List PI} {n : Nat} {ah : Int} {F : Bool}
theorem first_step (hn : 0 < n) (h : (ix pl n).1 ≠ 248) : firstP pl n = firstP pl (n - 1) := by
  obtain ⟨m, rfl⟩ : ∃ m, n = m + 1 := ⟨n - 1, by omega⟩
  exact if_neg h
theorem InvF.param (h : InvF pl n ah) (ha : ah = 54 ∨ ah = 55) (hn : n < pl.length) (hk : kdP (ix pl n) = 2) : InvF pl (n + 1) 55 := by
  have h8 := kd_part (p := ix pl n) (by omega)
  have hop := ((kd_ops h8).2.1).1 hk
  have := h.step hn h8 (by rw [hop]; rcases ha with e | e <;> rw [e] <;> rfl)
  rwa [hop] at this
theorem InvF.noblock (h : InvF pl n ah) (ha : ah = 54 ∨ ah = 55) (h2 : n < pl.length → kdP (ix pl n) ≠ 2) (h3 : n < pl.length → kdP (ix pl n) ≠ 3) : StopL pl n := by
  refine h.bad (by omega) fun hn h8 => ?_
  have hk := kd_ops h8
  have h2 := h2 hn
  have h3 := h3 hn
  have e2 : (ix pl n).1 ≠ 55 := fun e => h2 (hk.2.1.2 e)
  have e3 : (ix pl n).1 ≠ 248 := fun e => h3 (hk.2.2.2.1.2 e)
  unfold opMay
  by_cases e1 : (ix pl n).1 = 54
  · rw [if_pos e1]; rcases ha with e | e <;> rw [e] <;> rfl
  rw [if_neg e1, if_neg e2, if_neg e3]
  by_cases e4 : (ix pl n).1 = 56
  · rw [if_pos e4]; rcases ha with e | e <;> rw [e] <;> rfl
  rw [if_neg e4, if_pos (by omega)]
theorem InvF.noend (h : InvF pl n ah) (ha : 249 ≤ ah ∧ ah ≤ 255) (h3 : n < pl.length → kdP (ix pl n) ≠ 3) (h8' : n < pl.length → kdP (ix pl n) ≠ 8) : StopL pl n := by
  refine h.bad (by omega) fun hn h8 => ?_
  have hk := kd_ops h8
  have h3 := h3 hn
  have h8' := h8' hn
  have e3 : (ix pl n).1 ≠ 248 := fun e => h3 (hk.2.2.2.1.2 e)
  have e4 : (ix pl n).1 ≠ 56 := fun e => h8' (hk.2.2.1.2 e)
  have no : ∀ {c : Int}, ah ≠ c → (ah == c) = false := fun h => beq_eq_false_iff_ne.2 h
  unfold opMay
  by_cases e1 : (ix pl n).1 = 54
  · rw [if_pos e1, no (by omega), no (by omega)]; rfl
  rw [if_neg e1]
  by_cases e2 : (ix pl n).1 = 55
  · rw [if_pos e2, no (by omega), no (by omega)]; rfl
  rw [if_neg e2, if_neg e3, if_neg e4, if_pos (.inr (.inr (.inr (.inr (ends_iff.2 ha)))))]
theorem InvF.shut (h : InvF pl n ah) (ha : 249 ≤ ah ∧ ah ≤ 255) (hn : n < pl.length) (hk : kdP (ix pl n) = 8) : InvF pl (n + 1) 56 := by
  have h8 := kd_part (p := ix pl n) (by omega)
  have hop := ((kd_ops h8).2.2.1).1 hk
  have := h.step hn h8 (by rw [hop]; exact ends_iff.2 ha)
  rwa [hop] at this
/-- Within a block, whose being the first says F. -/
structure InvB (pl : List PI) (n : Nat) (F : Bool) (ah : Int) : Prop where
  f : InvF pl n ah
  fi : firstP pl (n - 1) = F
  op : BlkOp ah
theorem InvF.label (h : InvF pl n ah) (ha : (ah = 54 ∨ ah = 55) ∨ (249 ≤ ah ∧ ah ≤ 255)) (hn : n < pl.length) (hk : kdP (ix pl n) = 3) : InvB pl (n + 1) (ah == 54 || ah == 55) 248 := by
  have h8 := kd_part (p := ix pl n) (by omega)
  have hop := ((kd_ops h8).2.2.2.1).1 hk
  have hs := h.step hn h8 (by
    rw [hop]
    rcases ha with (e | e) | e
    · rw [e]; rfl
    · rw [e]; rfl
    · unfold opMay
      rw [if_neg (by omega), if_neg (by omega), if_pos rfl, ends_iff.2 e, Bool.or_true])
  rw [hop] at hs
  refine ⟨hs, ?_, ⟨⟨by decide, by decide, by decide, by decide, by decide, by decide⟩, by decide⟩⟩
  rw [Nat.add_sub_cancel]
  obtain ⟨m, rfl⟩ : ∃ m, n = m + 1 := ⟨n - 1, by have := h.pos; omega⟩
  have : firstP pl (m + 1) = ((ix pl m).1 == 54 || (ix pl m).1 == 55) := if_pos hop
  rw [this]
  have hah : (ix pl m).1 = ah := h.op
  rw [hah]
theorem InvB.go (h : InvB pl n F ah) (hn : n < pl.length) (h8 : partP (ix pl n) = 8) (hm : opMay (ix pl n).1 ah F = true) : InvF pl (n + 1) (ix pl n).1 := h.f.step hn h8 (by rw [h.fi]; exact hm)
theorem InvB.next (h : InvB pl n F ah) (hn : n < pl.length) (h8 : partP (ix pl n) = 8) (hm : opMay (ix pl n).1 ah F = true) (hop : BlkOp (ix pl n).1) (h248 : (ix pl n).1 ≠ 248) : InvB pl (n + 1) F (ix pl n).1 :=
  ⟨h.go hn h8 hm, by rw [Nat.add_sub_cancel, first_step h.f.pos h248]; exact h.fi, hop⟩
theorem InvB.local (h : InvB pl n true ah) (ha : ah = 248 ∨ ah = 59) (hn : n < pl.length) (hk : kdP (ix pl n) = 5) : InvB pl (n + 1) true 59 := by
  have h8 := kd_part (p := ix pl n) (by omega)
  have hop := ((kd_ops h8).2.2.2.2.2.1).1 hk
  have := h.next hn h8 (by rw [opMay_blk h.op, hop]; rcases ha with e | e <;> rw [e] <;> rfl) (by rw [hop]; exact ⟨⟨by decide, by decide, by decide, by decide, by decide, by decide⟩, by decide⟩) (by omega)
  rwa [hop] at this
theorem InvB.phi (h : InvB pl n false ah) (ha : ah = 248 ∨ ah = 245) (hn : n < pl.length) (hk : kdP (ix pl n) = 4) : InvB pl (n + 1) false 245 := by
  have h8 := kd_part (p := ix pl n) (by omega)
  have hop := ((kd_ops h8).2.2.2.2.1).1 hk
  have := h.next hn h8 (by rw [opMay_blk h.op, hop]; rcases ha with e | e <;> rw [e] <;> rfl) (by rw [hop]; exact ⟨⟨by decide, by decide, by decide, by decide, by decide, by decide⟩, by decide⟩) (by omega)
  rwa [hop] at this
theorem op_ne {p : PI} (h8 : partP p = 8) : p.1 ≠ 0 := by
  intro e
  unfold partP at h8
  have hv : isVar p = false := by unfold isVar; rw [e]; rfl
  rw [hv, e] at h8
  exact absurd h8 (by decide +kernel)
theorem InvB.plain (h : InvB pl n F ah) (hn : n < pl.length) (hk : kdP (ix pl n) = 0) : InvB pl (n + 1) F (ix pl n).1 ∧ (ix pl n).1 ≠ 248 ∧ (ix pl n).1 ≠ 245 ∧ (ix pl n).1 ≠ 59 := by
  have h8 := kd_part (p := ix pl n) (by omega)
  have hk' := kd_ops h8
  rw [hk] at hk'
  obtain ⟨k1, k2, k3, k4, k5, k6, k7, k8, _⟩ := hk'
  have h0 := op_ne h8
  refine ⟨h.next hn h8 ?_ ⟨by omega, by omega⟩ (by omega), by omega, by omega, by omega⟩
  rw [opMay_blk h.op, if_neg (by omega), if_neg (by omega), if_neg (by omega)]
theorem InvB.merge (h : InvB pl n F ah) (hn : n < pl.length) (hk : kdP (ix pl n) = 6) : InvF pl (n + 1) (ix pl n).1 ∧ ((ix pl n).1 = 246 ∨ (ix pl n).1 = 247) := by
  have h8 := kd_part (p := ix pl n) (by omega)
  have hop := ((kd_ops h8).2.2.2.2.2.2.1).1 hk
  refine ⟨h.go hn h8 ?_, hop⟩
  rw [opMay_blk h.op, if_neg (by omega), if_neg (by omega), if_neg (by omega)]
theorem InvB.ender (h : InvB pl n F ah) (hn : n < pl.length) (hk : kdP (ix pl n) = 7) : InvF pl (n + 1) (ix pl n).1 ∧ 249 ≤ (ix pl n).1 ∧ (ix pl n).1 ≤ 255 := by
  have h8 := kd_part (p := ix pl n) (by omega)
  have hop := ((kd_ops h8).2.2.2.2.2.2.2.1).1 hk
  refine ⟨h.go hn h8 ?_, hop⟩
  rw [opMay_blk h.op, if_neg (by omega), if_neg (by omega), if_neg (by omega)]
theorem InvF.mender (h : InvF pl n ah) (ha : ah = 246 ∨ ah = 247) (hn : n < pl.length) (hk : kdP (ix pl n) = 7) (hm : mayI ah (ix pl n).1 = true) : InvF pl (n + 1) (ix pl n).1 ∧ 249 ≤ (ix pl n).1 ∧ (ix pl n).1 ≤ 255 := by
  have h8 := kd_part (p := ix pl n) (by omega)
  have hop := ((kd_ops h8).2.2.2.2.2.2.2.1).1 hk
  exact ⟨h.step hn h8 (by rw [opMay_merge ha]; exact hm), hop⟩
theorem InvF.mbad (h : InvF pl n ah) (ha : ah = 246 ∨ ah = 247) (hb : n < pl.length → kdP (ix pl n) = 7 → mayI ah (ix pl n).1 = false) : StopL pl n := by
  refine h.bad (by omega) fun hn h8 => ?_
  rw [opMay_merge ha]
  by_cases hk : kdP (ix pl n) = 7
  · exact hb hn hk
  · have h7 := (kd_ops h8).2.2.2.2.2.2.2.1
    unfold mayI
    rw [if_neg (by omega), if_neg (by omega), if_neg (by omega)]
theorem InvB.bad (h : InvB pl n F ah) (h0 : n < pl.length → kdP (ix pl n) ≠ 0 ∧ kdP (ix pl n) ≠ 6 ∧ kdP (ix pl n) ≠ 7) (h4 : n < pl.length → kdP (ix pl n) = 4 → F = false → ah ≠ 248 ∧ ah ≠ 245)
    (h5 : n < pl.length → kdP (ix pl n) = 5 → F = true → ah ≠ 248 ∧ ah ≠ 59) : StopL pl n := by
  refine h.f.bad (by have := h.op.ne; omega) fun hn h8 => ?_
  obtain ⟨q0, q6, q7⟩ := h0 hn
  have h4 := h4 hn
  have h5 := h5 hn
  have no : ∀ {c : Int}, ah ≠ c → (ah == c) = false := fun h => beq_eq_false_iff_ne.2 h
  rw [h.fi, opMay_blk h.op]
  obtain ⟨k1, k2, k3, k4, k5, k6, k7, k8, k9⟩ := kd_ops h8
  by_cases e : (ix pl n).1 = 54 ∨ (ix pl n).1 = 55 ∨ (ix pl n).1 = 248 ∨ (ix pl n).1 = 56
  · rw [if_pos e]
  rw [if_neg e]
  by_cases e4 : (ix pl n).1 = 245
  · rw [if_pos e4]
    cases F
    · obtain ⟨g1, g2⟩ := h4 (k5.2 e4) rfl
      rw [no g1, no g2]; rfl
    · simp
  rw [if_neg e4]
  by_cases e5 : (ix pl n).1 = 59
  · rw [if_pos e5]
    cases F
    · simp
    · obtain ⟨g1, g2⟩ := h5 (k6.2 e5) rfl
      rw [no g1, no g2]; rfl
  exfalso
  refine q0 ?_
  rw [kd_op h8, if_neg (by omega), if_neg (by omega), if_neg (by omega), if_neg (by omega), if_neg e4, if_neg e5, if_neg (by omega), if_neg (by omega), if_neg (fun g => by have := ends_iff.1 g; omega)]

structure FnL where
  id : Int
  at_ : Int
  en : Int
  ps : List Int
  bk : List (Int × Int × Int)
def modL {α : Type} (f : α → α) : List α → List α
  | [] => []
  | [x] => [f x]
  | x :: y :: r => x :: modL f (y :: r)
theorem modL_append {α : Type} (f : α → α) (x : α) : ∀ l : List α, modL f (l ++ [x]) = l ++ [f x]
  | [] => rfl
  | [y] => rfl
  | y :: z :: r => by
    have := modL_append f x (z :: r)
    simp only [List.cons_append, modL] at this ⊢
    rw [this]
def cutS (l : List FnL) (k : Nat) (p : PI) : List FnL :=
  if p.1 = 54 then l ++ [⟨p.2.2.1, k, 0, [], []⟩]
  else if p.1 = 55 then modL (fun f => { f with ps := f.ps ++ [(k : Int)] }) l
  else if p.1 = 56 then modL (fun f => { f with en := k }) l
  else if p.1 = 248 then modL (fun f => { f with bk := f.bk ++ [(p.2.2.1, (k : Int), 0)] }) l
  else if endsP p.1 = true then modL (fun f => { f with bk := modL (fun b => (b.1, b.2.1, (k : Int) + 1)) f.bk }) l
  else l
def cutF (pl : List PI) : Nat → List FnL
  | 0 => []
  | n + 1 => cutS (cutF pl n) n (ix pl n)
theorem parts8 : partO 54 = 8 ∧ partO 55 = 8 ∧ partO 56 = 8 ∧ partO 248 = 8 ∧ partO 249 = 8 ∧ partO 250 = 8 ∧ partO 251 = 8 ∧ partO 252 = 8 ∧ partO 253 = 8 ∧ partO 254 = 8 ∧ partO 255 = 8 := by decide +kernel
theorem cut_idle {p : PI} (h : partP p ≠ 8 ∨ kdP p = 0 ∨ kdP p = 4 ∨ kdP p = 5 ∨ kdP p = 6) (l : List FnL) (k : Nat) : cutS l k p = l := by
  have hno : ¬ (p.1 = 54 ∨ p.1 = 55 ∨ p.1 = 56 ∨ p.1 = 248 ∨ (249 ≤ p.1 ∧ p.1 ≤ 255)) := by
    intro hop
    have h8 : partP p = 8 := by
      unfold partP
      split
      · rfl
      · obtain ⟨q1, q2, q3, q4, q5, q6, q7, q8, q9, q10, q11⟩ := parts8
        have hc : p.1 = 54 ∨ p.1 = 55 ∨ p.1 = 56 ∨ p.1 = 248 ∨ p.1 = 249 ∨ p.1 = 250 ∨ p.1 = 251 ∨ p.1 = 252 ∨ p.1 = 253 ∨ p.1 = 254 ∨ p.1 = 255 := by omega
        rcases hc with e | e | e | e | e | e | e | e | e | e | e <;> rw [e] <;> assumption
    obtain ⟨k1, k2, k3, k4, k5, k6, k7, k8, k9⟩ := kd_ops h8
    rcases h with h | h | h | h | h
    · exact h h8
    all_goals omega
  unfold cutS
  rw [if_neg (by omega), if_neg (by omega), if_neg (by omega), if_neg (by omega), if_neg (fun e => hno (by have := ends_iff.1 e; omega))]

/-- ps has, by twos, the places of the parts below p, of the instructions below n. -/
def PartsTo (pl : List PI) (p n : Nat) (ps : List Int) : Prop :=
  ∀ q, q < p → 0 ≤ ps.getD (2 * q) 0 ∧ ps.getD (2 * q) 0 ≤ ps.getD (2 * q + 1) 0 ∧ ps.getD (2 * q + 1) 0 ≤ n ∧ ∀ i, i < n → ((ps.getD (2 * q) 0 ≤ (i : Int) ∧ (i : Int) < ps.getD (2 * q + 1) 0) ↔ partP (ix pl i) = q)
theorem getD_set2 {ps : List Int} {i j : Nat} {a b : Int} (hi : i + 1 < ps.length) : ((ps.set i a).set (i + 1) b).getD j 0 = if j = i then a else if j = i + 1 then b else ps.getD j 0 := by
  simp only [List.getD_eq_getElem?_getD]
  by_cases e : j = i + 1
  · subst e
    rw [List.getElem?_set_self (by simpa using hi), if_neg (by omega), if_pos rfl]
    rfl
  · rw [List.getElem?_set_ne (fun h => e h.symm)]
    by_cases e2 : j = i
    · subst e2
      rw [List.getElem?_set_self (by omega), if_pos rfl]
      rfl
    · rw [List.getElem?_set_ne (fun h => e2 h.symm), if_neg e2, if_neg e]
theorem PartsTo.step {p f n' : Nat} {ps : List Int} (h : PartsTo pl p f ps) (hps : ps.length = 20) (hp : p < 10) (hfn : f ≤ n') (hlow : ∀ k, k < f → partP (ix pl k) < p) (hown : ∀ k, f ≤ k → k < n' → partP (ix pl k) = p) :
    PartsTo pl (p + 1) n' ((ps.set (2 * p) f).set (2 * p + 1) n') := by
  intro q hq
  rw [getD_set2 (by omega), getD_set2 (by omega)]
  by_cases e : q = p
  · subst e
    rw [if_pos rfl, if_neg (by omega), if_pos rfl]
    refine ⟨by omega, by omega, by omega, fun i hi => ⟨fun hh => hown i (by omega) hi, fun hh => ⟨?_, by omega⟩⟩⟩
    rcases Nat.lt_or_ge i f with g | g
    · have := hlow i g; omega
    · omega
  · rw [if_neg (by omega), if_neg (by omega), if_neg (by omega), if_neg (by omega)]
    obtain ⟨h1, h2, h3, h4⟩ := h q (by omega)
    refine ⟨h1, h2, by omega, fun i hi => ?_⟩
    rcases Nat.lt_or_ge i f with g | g
    · exact h4 i g
    · have := hown i g hi
      constructor
      · intro hh; omega
      · intro hh; omega
theorem good_mono {n : Nat} (h : GoodL pl n) {i j : Nat} (hij : i < j) (hj : j < n) : partP (ix pl i) ≤ partP (ix pl j) := by
  rcases Nat.lt_or_ge (partP (ix pl j)) (partP (ix pl i)) with g | g
  · have := h j hj
    rw [may_over hij g] at this
    cases this
  · exact g
theorem PartsTo.all {n : Nat} {ps : List Int} (h : PartsTo pl 8 n ps) (hps : ps.length = 20) (hn : n ≤ pl.length) (hlow : ∀ k, k < n → partP (ix pl k) < 8) (hg : GoodL pl pl.length) (h8 : n < pl.length → partP (ix pl n) = 8) :
    PartsTo pl 10 pl.length ((((ps.set 16 n).set 17 pl.length).set 18 pl.length).set 19 pl.length) := by
  have hown : ∀ k, n ≤ k → k < pl.length → partP (ix pl k) = 8 := by
    intro k h1 h2
    by_cases e : k = n
    · subst e; exact h8 h2
    · have := good_mono hg (i := n) (j := k) (by omega) h2
      rw [h8 (by omega)] at this
      have := partP_le (ix pl k)
      omega
  have s8 := h.step (n' := pl.length) hps (by omega) hn hlow hown
  have := s8.step (n' := pl.length) (by simpa using hps) (by omega) (Nat.le_refl _) (fun k hk => by have := partP_le (ix pl k); omega) (fun k h1 h2 => by omega)
  exact this
theorem rows_ind {P : Nat → Int → Prop} {Q : Int → Prop} {k : Int} (step : ∀ m a, P m a → Q a → m < pl.length → kdP (ix pl m) = k → ∃ a', P (m + 1) a' ∧ Q a') {n' : Nat} (hle : n ≤ n') (hn' : n' ≤ pl.length)
    (hk : ∀ j, n ≤ j → j < n' → kdP (ix pl j) = k) {a : Int} (hP : P n a) (hQ : Q a) : ∃ a', P n' a' ∧ Q a' := by
  obtain ⟨d, rfl⟩ : ∃ d, n' = n + d := ⟨n' - n, by omega⟩
  clear hle
  induction d with
  | zero => exact ⟨a, hP, hQ⟩
  | succ d ih =>
    obtain ⟨a', h1, h2⟩ := ih (by omega) (fun j g1 g2 => hk j g1 (by omega))
    exact step (n + d) a' h1 h2 (by omega) (hk (n + d) (by omega) (by omega))
theorem InvF.params (h : InvF pl n ah) (ha : ah = 54 ∨ ah = 55) {n' : Nat} (hle : n ≤ n') (hn' : n' ≤ pl.length) (hk : ∀ j, n ≤ j → j < n' → kdP (ix pl j) = 2) : ∃ ah', InvF pl n' ah' ∧ (ah' = 54 ∨ ah' = 55) :=
  rows_ind (P := fun m a => InvF pl m a) (Q := fun a => a = 54 ∨ a = 55) (fun m a h1 h2 h3 h4 => ⟨55, h1.param h2 h3 h4, .inr rfl⟩) hle hn' hk h ha
theorem InvB.locals (h : InvB pl n true ah) (ha : ah = 248 ∨ ah = 59) {n' : Nat} (hle : n ≤ n') (hn' : n' ≤ pl.length) (hk : ∀ j, n ≤ j → j < n' → kdP (ix pl j) = 5) : ∃ ah', InvB pl n' true ah' ∧ (ah' = 248 ∨ ah' = 59) :=
  rows_ind (P := fun m a => InvB pl m true a) (Q := fun a => a = 248 ∨ a = 59) (fun m a h1 h2 h3 h4 => ⟨59, h1.local h2 h3 h4, .inr rfl⟩) hle hn' hk h ha
theorem InvB.phis (h : InvB pl n false ah) (ha : ah = 248 ∨ ah = 245) {n' : Nat} (hle : n ≤ n') (hn' : n' ≤ pl.length) (hk : ∀ j, n ≤ j → j < n' → kdP (ix pl j) = 4) : ∃ ah', InvB pl n' false ah' ∧ (ah' = 248 ∨ ah' = 245) :=
  rows_ind (P := fun m a => InvB pl m false a) (Q := fun a => a = 248 ∨ a = 245) (fun m a h1 h2 h3 h4 => ⟨245, h1.phi h2 h3 h4, .inr rfl⟩) hle hn' hk h ha
theorem InvB.plains (h : InvB pl n F ah) {n' : Nat} (hle : n ≤ n') (hn' : n' ≤ pl.length) (hk : ∀ j, n ≤ j → j < n' → kdP (ix pl j) = 0) : ∃ ah', InvB pl n' F ah' ∧ (n' = n ∨ (ah' ≠ 248 ∧ ah' ≠ 245 ∧ ah' ≠ 59)) := by
  by_cases e : n' = n
  · subst e
    exact ⟨ah, h, .inl rfl⟩
  · obtain ⟨m, rfl⟩ : ∃ m, n' = m + 1 := ⟨n' - 1, by omega⟩
    obtain ⟨a, h1, _⟩ := rows_ind (P := fun m a => InvB pl m F a) (Q := fun _ => True) (n := n) (n' := m) (fun m a h1 _ h3 h4 => ⟨_, (h1.plain h3 h4).1, trivial⟩) (by omega) (by omega) (fun j g1 g2 => hk j g1 (by omega)) h trivial
    obtain ⟨h2, h3⟩ := h1.plain (by omega) (hk m (by omega) (by omega))
    exact ⟨_, h2, .inr h3⟩
theorem cutF_idle {n' : Nat} (hle : n ≤ n') (hk : ∀ j, n ≤ j → j < n' → partP (ix pl j) ≠ 8 ∨ kdP (ix pl j) = 0 ∨ kdP (ix pl j) = 4 ∨ kdP (ix pl j) = 5 ∨ kdP (ix pl j) = 6) : cutF pl n' = cutF pl n := by
  obtain ⟨d, rfl⟩ : ∃ d, n' = n + d := ⟨n' - n, by omega⟩
  clear hle
  induction d with
  | zero => rfl
  | succ d ih =>
    show cutS (cutF pl (n + d)) (n + d) (ix pl (n + d)) = cutF pl n
    rw [cut_idle (hk (n + d) (by omega) (by omega)), ih fun j g1 g2 => hk j g1 (by omega)]
theorem cutF_fun {l : List FnL} (h : cutF pl n = l) (hk : kdP (ix pl n) = 1) : cutF pl (n + 1) = l ++ [⟨(ix pl n).2.2.1, n, 0, [], []⟩] := by
  have h8 := kd_part (p := ix pl n) (by omega)
  have hop := ((kd_ops h8).1).1 hk
  show cutS (cutF pl n) n (ix pl n) = _
  unfold cutS
  rw [if_pos hop, h]
theorem cutF_end {l : List FnL} {f : FnL} (h : cutF pl n = l ++ [f]) (hk : kdP (ix pl n) = 8) : cutF pl (n + 1) = l ++ [{ f with en := n }] := by
  have h8 := kd_part (p := ix pl n) (by omega)
  have hop := ((kd_ops h8).2.2.1).1 hk
  show cutS (cutF pl n) n (ix pl n) = _
  unfold cutS
  rw [if_neg (by omega), if_neg (by omega), if_pos hop, h, modL_append]
theorem cutF_label {l : List FnL} {f : FnL} (h : cutF pl n = l ++ [f]) (hk : kdP (ix pl n) = 3) : cutF pl (n + 1) = l ++ [{ f with bk := f.bk ++ [((ix pl n).2.2.1, (n : Int), 0)] }] := by
  have h8 := kd_part (p := ix pl n) (by omega)
  have hop := ((kd_ops h8).2.2.2.1).1 hk
  show cutS (cutF pl n) n (ix pl n) = _
  unfold cutS
  rw [if_neg (by omega), if_neg (by omega), if_neg (by omega), if_pos hop, h, modL_append]
theorem cutF_ender {l : List FnL} {f : FnL} {b : List (Int × Int × Int)} {i a t : Int} (h : cutF pl n = l ++ [{ f with bk := b ++ [(i, a, t)] }]) (hk : kdP (ix pl n) = 7) :
    cutF pl (n + 1) = l ++ [{ f with bk := b ++ [(i, a, (n : Int) + 1)] }] := by
  have h8 := kd_part (p := ix pl n) (by omega)
  have hop := ((kd_ops h8).2.2.2.2.2.2.2.1).1 hk
  show cutS (cutF pl n) n (ix pl n) = _
  unfold cutS
  rw [if_neg (by omega), if_neg (by omega), if_neg (by omega), if_neg (by omega), if_pos (ends_iff.2 hop), h, modL_append]
  dsimp only
  rw [modL_append]
theorem cutF_params {l : List FnL} {f : FnL} (h : cutF pl n = l ++ [f]) {n' : Nat} (hle : n ≤ n') (hk : ∀ j, n ≤ j → j < n' → kdP (ix pl j) = 2) :
    cutF pl n' = l ++ [{ f with ps := f.ps ++ (List.range (n' - n)).map fun i => ((n + i : Nat) : Int) }] := by
  obtain ⟨d, rfl⟩ : ∃ d, n' = n + d := ⟨n' - n, by omega⟩
  clear hle
  rw [Nat.add_sub_cancel_left]
  induction d with
  | zero => rw [List.range_zero, List.map_nil, List.append_nil]; exact h
  | succ d ih =>
    have hk2 := hk (n + d) (by omega) (by omega)
    have h8 := kd_part (p := ix pl (n + d)) (by omega)
    have hop := ((kd_ops h8).2.1).1 hk2
    show cutS (cutF pl (n + d)) (n + d) (ix pl (n + d)) = _
    unfold cutS
    rw [if_neg (by omega), if_pos hop, ih fun j g1 g2 => hk j g1 (by omega), modL_append, List.range_succ, List.map_append]
    simp [List.append_assoc]
/-- How a part ends. -/
structure OutP (pl : List PI) (p f n : Nat) : Prop where
  lo : f ≤ n
  le : n ≤ pl.length
  own : ∀ k, f ≤ k → k < n → partP (ix pl k) = p
  out : p ≠ 1 → InvT pl (p + 1) n
  one : p = 1 → (n = f ∧ (f < pl.length → partP (ix pl f) ≠ 1)) ∨ n = f + 1
theorem OutP.go {p f : Nat} (h : OutP pl p f n) (hT : InvT pl p f) (hne : p = 1 → n ≠ f) : InvT pl (p + 1) n := by
  by_cases e : p = 1
  · subst e
    rcases h.one rfl with ⟨g, _⟩ | g
    · exact absurd g (hne rfl)
    · subst g
      exact hT.model (by have := h.le; omega) (h.own f (Nat.le_refl _) (by omega))
  · exact h.out e
theorem OutP.stop {f : Nat} (h : OutP pl 1 f n) (hT : InvT pl 1 f) (he : n = f) : StopL pl n := by
  rcases h.one rfl with ⟨_, g⟩ | g
  · subst he
    exact hT.nomodel g
  · omega
end Go.Proofs
