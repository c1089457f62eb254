/-
  Contracts of slices.Reverse and of the walk in the depth (graph.walked and its closure).
-/
import Derived.Test.Ytjplhoollkeihaa14b
import Derived.Test.Ytjplhoollkeihaa14m
namespace Go.Proofs
open Go.Gk Go.RowKit Go.Gr

/-- The cell of a node's number. -/
abbrev iN (x : Nat) : Value := .int .i64 (x : Int)
abbrev IsN (w : World) (s : Sl) (l : List Nat) : Prop := IsS iN w s l
theorem iN_one (x : Nat) : (iN x).oneCell' = true := rfl
theorem elemN {w : World} {s : Sl} {l : List Nat} (h : IsN w s l) {k : Nat} (hk : k < l.length) {φ : Int → Prop} (hφ : φ (l[k] : Int)) :
    (0 ≤ (k : Int) ∧ (k : Int) < (s.l : Int)) ∧ derefP s.a fun a => ldI w (a.add (Int.toNat (k : Int))) .i64 φ :=
  h.addr hk fun a _ hc => ⟨(l[k] : Int), hc, hφ⟩
/-- Below block B nothing has turned but the blocks X. -/
structure Fr (B : Nat) (X : Nat → Prop) (w w' : World) : Prop where
  os : w'.os = w.os
  tape : w'.tape = w.tape
  output : w'.output = w.output
  size : w.heap.size ≤ w'.heap.size
  block : ∀ k, k < B → ¬ X k → w'.heap[k]? = w.heap[k]?
theorem Fr.refl (B : Nat) (X : Nat → Prop) (w : World) : Fr B X w w := ⟨rfl, rfl, rfl, Nat.le_refl _, fun _ _ _ => rfl⟩
theorem Fr.trans {B : Nat} {X : Nat → Prop} {a b c : World} (h : Fr B X a b) (k : Fr B X b c) : Fr B X a c :=
  ⟨k.os.trans h.os, k.tape.trans h.tape, k.output.trans h.output, Nat.le_trans h.size k.size, fun i hi hx => (k.block i hi hx).trans (h.block i hi hx)⟩
theorem Fr.of_below {B : Nat} {X : Nat → Prop} {w w' : World} (h : Below B w w') : Fr B X w w' := ⟨h.os, h.tape, h.output, h.size, fun k hk _ => h.block k hk⟩
theorem Fr.set {B : Nat} {X : Nat → Prop} {w w' : World} (h : Fr B X w w') {a : Addr} (ha : B ≤ a.block ∨ X a.block) (v : Value) : Fr B X w (w'.setCell a v) :=
  h.trans ⟨rfl, rfl, rfl, by simp [World.setCell], fun k hk hx => Below.heap_setCell _ _ _ _ (fun e => by
    rcases ha with ha | ha
    · omega
    · exact hx (e ▸ ha))⟩
theorem Fr.drew {B : Nat} {X : Nat → Prop} {w w' : World} (h : Fr B X w w') : Fr B X w w'.drew := h.trans ⟨rfl, rfl, rfl, Nat.le_refl _, fun _ _ _ => rfl⟩
theorem Fr.alloc {B : Nat} {X : Nat → Prop} {w w' : World} (h : Fr B X w w') (hB : B ≤ w'.heap.size) (o : Obj) : Fr B X w (w'.alloc o) :=
  h.trans (Fr.of_below ((Below.refl _ _).alloc hB o))
theorem Fr.grown {B : Nat} {X : Nat → Prop} {w w' w'' : World} (h : Fr B X w w') {b : Nat} (hg : w'.grownBy w'' (some b)) (hb : B ≤ b) (hB : B ≤ w'.heap.size) : Fr B X w w'' :=
  h.trans (Fr.of_below (below_grown hg hb hB))
theorem Fr.below {B : Nat} {w w' : World} (h : Fr B (fun _ => False) w w') : Below B w w' := ⟨h.os, h.tape, h.output, h.size, fun k hk => h.block k hk id⟩
theorem Fr.mono {B B' : Nat} {X X' : Nat → Prop} {w w' : World} (h : Fr B X w w') (hB : B' ≤ B) (hX : ∀ k, k < B' → X k → X' k) : Fr B' X' w w' :=
  ⟨h.os, h.tape, h.output, h.size, fun k hk hx => h.block k (by omega) (fun hh => hx (hX k hk hh))⟩

theorem Reverse_spec {s : Sl} {l : List Nat} {w : World} {R : Value → World → Prop} (h : Own w 3 1 s (l.map iN))
    (hR : ∀ w', Own w' 3 1 s (l.reverse.map iN) → Only s w w' → R (.tuple #[]) w') :
    callR Try.prog 148 #[.slice s.a s.l s.c] w R := by
  refine callR.of (slices_Reverse_sint_int_calls s R w ?_) fun _ _ h => h
  have hlen : s.l = l.length := by have := h.1; simp at this; omega
  have hbd := h.isS.bound
  unfold L_slices_Reverse_sint_int
  rw [hlen, wrap64_in (by omega) (by omega)]
  -- behind i rounds the first i and the last i stand turned
  let M : Nat → List Nat := fun i => (List.range l.length).map fun k => if k < i ∨ l.length ≤ k + i then l.getD (l.length - 1 - k) 0 else l.getD k 0
  have hM0 : M 0 = l := by
    apply List.ext_getElem
    · simp [M]
    · intro k h1 h2
      have h2' : ¬ l.length ≤ k := by omega
      simp [M, h2', h2]
  refine LoopW.ghost (fun j st w' => ∃ i : Nat, 2 * i ≤ l.length + 1 ∧ j = l.length + 1 - i ∧ st = ((i : Int), (l.length : Int) - 1 - i, ()) ∧ Only s w w' ∧ Own w' 3 1 s ((M i).map iN)) _ ⟨0, by omega, rfl, by simp, Only.refl _ _, by rw [hM0]; exact h⟩ ?_
  rintro _ _ w' ⟨i, hi, rfl, rfl, hO, hX⟩ next hnext
  refine ifB_dec (fun hlt => ?_) (fun hge => ?_)
  · have hlt : 2 * i + 1 < l.length := by dsimp only at hlt; omega
    have hj : (l.length : Int) - 1 - i = ((l.length - 1 - i : Nat) : Int) := by omega
    have hX' : Own w'.drew 3 1 s ((M i).map iN) := hX
    have hS := hX'.isS
    have hml : (M i).length = l.length := by simp [M]
    dsimp only
    rw [hj]
    have g1 : (M i)[l.length - 1 - i]'(by rw [hml]; omega) = l.getD (l.length - 1 - i) 0 := by
      simp only [M, List.getElem_map, List.getElem_range]
      rw [if_neg (by omega)]
    have g2 : (M i)[i]'(by rw [hml]; omega) = l.getD i 0 := by
      simp only [M, List.getElem_map, List.getElem_range]
      rw [if_neg (by omega)]
    rw [show (l.length : Int) = (s.l : Int) by omega]
    refine elemN hS (by rw [hml]; omega) (elemN hS (by rw [hml]; omega) ?_)
    rcases hX'.2 with e | ⟨b, cs, ha, hB, h1, h2, h3, h4⟩
    · rw [e] at hlen; simp at hlen; omega
    · refine ⟨⟨by omega, by omega⟩, derefP_some ha ⟨hB.wr (n := i) (by omega), Nw.mk ?_⟩⟩
      have hB2 := hB.set i (iN ((M i)[l.length - 1 - i]'(by rw [hml]; omega)))
      refine ⟨⟨by omega, by omega⟩, derefP_some ha ⟨hB2.wr (n := l.length - 1 - i) (by rw [List.length_set]; omega), Nw.mk ?_⟩⟩
      have hB3 := hB2.set (l.length - 1 - i) (iN ((M i)[i]'(by rw [hml]; omega)))
      have e1 : IntKind.i64.wrap ((i : Int) + 1) = ((i + 1 : Nat) : Int) := wrap64_succ (by omega)
      have e2 : IntKind.i64.wrap (((l.length - 1 - i : Nat) : Int) - 1) = (l.length : Int) - 1 - ((i + 1 : Nat) : Int) := by rw [wrap64_in (by omega) (by omega)]; omega
      rw [e1, e2]
      refine hnext (l.length + 1 - (i + 1)) _ _ (by omega) ⟨i + 1, by omega, rfl, rfl, (hO.drew.set ha _ _).set ha _ _, ?_⟩
      refine ⟨by simp [M, hlen], .inr ⟨b, _, ha, hB3, h1, h2, by simpa using h3, ?_⟩⟩
      have hcs : ∀ k, k < l.length → cs[k]? = some (iN (l.getD (if k < i ∨ l.length ≤ k + i then l.length - 1 - k else k) 0)) := by
        intro k hk
        have : (cs.take (s.l * 1))[k]? = cs[k]? := List.getElem?_take_of_lt (by omega)
        rw [← this, h4]
        simp only [M, List.getElem?_map, List.getElem?_range hk, Option.map_some]
        split <;> rfl
      apply List.ext_getElem?
      intro k
      by_cases hk : k < l.length
      · rw [List.getElem?_take_of_lt (by omega)]
        simp only [M, List.getElem?_map, List.getElem?_range hk, Option.map_some]
        by_cases k1 : k = l.length - 1 - i
        · subst k1
          rw [List.getElem?_set_self (by rw [List.length_set]; omega), g2, if_pos (by omega)]
          congr 3
          omega
        · rw [List.getElem?_set_ne (by omega)]
          by_cases k2 : k = i
          · subst k2
            rw [List.getElem?_set_self (by omega), g1, if_pos (by omega)]
          · rw [List.getElem?_set_ne (by omega), hcs k hk]
            by_cases k3 : k < i ∨ l.length ≤ k + i
            · rw [if_pos k3, if_pos (by omega)]
            · rw [if_neg k3, if_neg (by omega)]
      · rw [List.getElem?_eq_none (by simp; omega), List.getElem?_eq_none (by simp [M]; omega)]
  · have hge : l.length ≤ 2 * i + 1 := by dsimp only at hge; omega
    refine hR w' ?_ hO
    have : M i = l.reverse := by
      apply List.ext_getElem
      · simp [M]
      · intro k h1 h2
        have hk : k < l.length := by simpa using h2
        simp only [M, List.getElem_map, List.getElem_range, List.getElem_reverse]
        by_cases k3 : k < i ∨ l.length ≤ k + i
        · rw [if_pos k3]; simp [List.getD, show l.length - 1 - k < l.length by omega]
        · rw [if_neg k3]
          have : k = l.length - 1 - k := by omega
          simp only [List.getD, List.getElem?_eq_getElem hk, Option.getD_some]
          congr 1
    rw [← this]
    exact hX

end Go.Proofs
