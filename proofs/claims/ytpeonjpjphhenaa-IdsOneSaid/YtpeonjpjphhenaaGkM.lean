/-
  Memory, for the layer: what a slice reads as, what a step leaves; the rules for loops, meetings of ways, tests.
-/
import Derived.Test.YtpeonjpjphhenaaGkS
namespace Go.Gk
open Go.RowKit
variable {P : Program}

/-! ### Tests, loops, meetings, calls -/
theorem ifB_bool {b : Bool} {x y : Prop} (h1 : b = true → x) (h2 : b = false → y) : ifB b x y := by
  cases b
  · exact h2 rfl
  · exact h1 rfl
theorem ifB_true {b : Bool} {x y : Prop} (hb : b = true) (h : x) : ifB b x y := by subst hb; exact h
theorem ifB_false {b : Bool} {x y : Prop} (hb : b = false) (h : y) : ifB b x y := by subst hb; exact h
theorem ifB_dec {p : Prop} [Decidable p] {x y : Prop} (h1 : p → x) (h2 : ¬ p → y) : ifB (decide p) x y :=
  ifB_bool (fun h => h1 (of_decide_eq_true h)) (fun h => h2 (of_decide_eq_false h))
theorem ifB_beq {a b : Int} {x y : Prop} (h1 : a = b → x) (h2 : a ≠ b → y) : ifB (a == b) x y :=
  ifB_bool (fun h => h1 (eq_of_beq h)) (fun h => h2 (beq_eq_false_iff_ne.1 h))
theorem ifB_bne {a b : Int} {x y : Prop} (h1 : a ≠ b → x) (h2 : a = b → y) : ifB (a != b) x y :=
  ifB_bool (fun h => h1 (bne_iff_ne.1 h)) (fun h => h2 (by simpa using h))
theorem ifB_not {b : Bool} {x y : Prop} (h : ifB b y x) : ifB (!b) x y := by cases b <;> exact h
theorem derefP_some {p : Option Addr} {a : Addr} {k : Addr → Prop} (hp : p = some a) (h : k a) : derefP p k := by subst hp; exact h
theorem Nw.mk {w : World} {k : World → Prop} (h : k w) : Nw w k := h
theorem Nw.gen {w : World} {k : World → Prop} (h : ∀ w', w' = w → k w') : Nw w k := h w rfl
theorem JoinW.all {S : Type} {f : (S → World → Prop) → Prop} {k : S → World → Prop} (h : f k) : JoinW f k := ⟨k, h, fun _ _ h => h⟩
theorem JoinW.cut {S : Type} {f : (S → World → Prop) → Prop} {k : S → World → Prop} (M : S → World → Prop) (h : f M) (hk : ∀ s w, M s w → k s w) : JoinW f k := ⟨M, h, hk⟩
theorem callR.of {f : Nat} {args : Array Value} {w : World} {S T : Value → World → Prop} (h : Calls P f args w (Ret S)) (hk : ∀ v w', S v w' → T v w') : callR P f args w T :=
  Calls.mono h fun e w' he => by cases e <;> first | exact hk _ _ he | exact he.elim
theorem callR.mono {f : Nat} {args : Array Value} {w : World} {S T : Value → World → Prop} (h : callR P f args w S) (hk : ∀ v w', S v w' → T v w') : callR P f args w T := callR.of h hk
/-- A loop whose invariant bears a number that every round lowers. -/
theorem LoopW.ghost {S : Type} {body : S → World → (S → World → Prop) → Prop} {s : S} {w : World} (I : Nat → S → World → Prop) (n : Nat) (h0 : I n s w)
    (h : ∀ k s w, I k s w → ∀ next : S → World → Prop, (∀ j s' w', j < k → I j s' w' → next s' w') → body s w next) : LoopW body s w := by
  refine ⟨fun s w => ∃ n, I n s w, fun s w => leastOf (fun n => I n s w), ⟨n, h0⟩, fun s w hI => ?_⟩
  refine h _ s w (leastOf_spec (p := fun n => I n s w) hI).1 _ fun j s' w' hj hI' => ⟨⟨j, hI'⟩, ?_⟩
  exact Nat.lt_of_le_of_lt ((leastOf_spec (p := fun n => I n s' w') ⟨j, hI'⟩).2 j hI') hj
theorem wrap64_in {x : Int} (h1 : -9223372036854775808 ≤ x) (h2 : x ≤ 9223372036854775807) : IntKind.i64.wrap x = x := by
  rw [IntKind.wrap_i64]; omega
theorem wrap64_succ {k : Nat} (h : k < 9223372036854775807) : IntKind.i64.wrap ((k : Int) + 1) = ((k + 1 : Nat) : Int) := by
  rw [wrap64_in (by omega) (by omega)]; omega
/-- 'for i := 0; i < n; i++'. -/
theorem LoopW.count {body : Int × Unit → World → (Int × Unit → World → Prop) → Prop} {w : World} (n : Nat) (hn : n ≤ 9223372036854775807) (I : Nat → World → Prop) (h0 : I 0 w)
    (h : ∀ k w, k ≤ n → I k w → ∀ next : Int × Unit → World → Prop, (∀ w', k < n → I (k + 1) w' → next (IntKind.i64.wrap ((k : Int) + 1), ()) w') → body ((k : Int), ()) w next) : LoopW body ((0 : Int), ()) w := by
  refine LoopW.ghost (fun j s w => ∃ k : Nat, k ≤ n ∧ j = n - k ∧ s = ((k : Int), ()) ∧ I k w) n ⟨0, Nat.zero_le _, rfl, rfl, h0⟩ ?_
  rintro _ _ w ⟨k, hk, rfl, rfl, hI⟩ next hnext
  refine h k w hk hI next fun w' hlt hI' => ?_
  rw [wrap64_succ (by omega)]
  exact hnext (n - (k + 1)) _ _ (by omega) ⟨k + 1, by omega, rfl, rfl, hI'⟩

/-! ### What a slice reads as -/
/-- The slice s holds the cells f x, x from l. -/
structure IsS {α : Type} (f : α → Value) (w : World) (s : Sl) (l : List α) : Prop where
  len : s.l = l.length
  cap : s.l ≤ s.c
  max : s.c ≤ 9223372036854775807
  nil : s.a = none → s.c = 0
  cell : ∀ (a : Addr), s.a = some a → ∀ (i : Nat) (h : i < l.length), w.cell? (a.add i) = some (f l[i])
abbrev IsI (w : World) (s : Sl) (l : List Int) : Prop := IsS (Value.int .i64) w s l
def Sl.val (s : Sl) : Value := .slice s.a s.l s.c
/-- A slice of slices of ints: the rows' headers, and what each reads as. -/
structure IsII (w : World) (s : Sl) (hs : List Sl) (ll : List (List Int)) : Prop where
  top : IsS Sl.val w s hs
  len : hs.length = ll.length
  row : ∀ (i : Nat) (h : i < hs.length) (h' : i < ll.length), IsI w hs[i] ll[i]

theorem IsS.base {α : Type} {f : α → Value} {w : World} {s : Sl} {l : List α} (h : IsS f w s l) {i : Nat} (hi : i < l.length) : ∃ a, s.a = some a := by
  cases ha : s.a with
  | none => have := h.nil ha; have := h.len; have := h.cap; omega
  | some a => exact ⟨a, rfl⟩
theorem add_block (a : Addr) (i : Nat) : (a.add i).block = a.block := by unfold Addr.add; split <;> rfl
theorem IsS.lt {α : Type} {f : α → Value} {w : World} {s : Sl} {l : List α} (h : IsS f w s l) {i : Nat} (hi : i < l.length) {a : Addr} (ha : s.a = some a) : a.block < w.heap.size := by
  have := World.block_lt_of_cell? w _ (h.cell a ha i hi)
  rwa [add_block] at this
/-- What is there stays while older blocks are left alone. -/
theorem IsS.of_block {α : Type} {f : α → Value} {w w' : World} {s : Sl} {l : List α} (h : IsS f w s l) (hb : ∀ a, s.a = some a → a.block < w.heap.size → w'.heap[a.block]? = w.heap[a.block]?) : IsS f w' s l := by
  refine ⟨h.len, h.cap, h.max, h.nil, fun a ha i hi => ?_⟩
  have e := hb a ha (h.lt hi ha)
  rw [World.cell?_of_block (w := w) (by rw [add_block]; exact e)]
  exact h.cell a ha i hi
theorem IsS.below {α : Type} {f : α → Value} {w w' : World} {s : Sl} {l : List α} (h : IsS f w s l) (hb : Below w.heap.size w w') : IsS f w' s l :=
  h.of_block fun _ _ hlt => hb.block _ hlt
theorem IsS.heap {α : Type} {f : α → Value} {w w' : World} {s : Sl} {l : List α} (h : IsS f w s l) (hb : w'.heap = w.heap) : IsS f w' s l :=
  h.of_block fun _ _ _ => by rw [hb]
theorem IsII.below {w w' : World} {s : Sl} {hs : List Sl} {ll : List (List Int)} (h : IsII w s hs ll) (hb : Below w.heap.size w w') : IsII w' s hs ll :=
  ⟨h.top.below hb, h.len, fun i h1 h2 => (h.row i h1 h2).below hb⟩
theorem IsII.heap {w w' : World} {s : Sl} {hs : List Sl} {ll : List (List Int)} (h : IsII w s hs ll) (hb : w'.heap = w.heap) : IsII w' s hs ll :=
  ⟨h.top.heap hb, h.len, fun i h1 h2 => (h.row i h1 h2).heap hb⟩

/-! a cell by its index -/
theorem IsS.addr {α : Type} {f : α → Value} {w : World} {s : Sl} {l : List α} (h : IsS f w s l) {k : Nat} (hk : k < l.length) {φ : Addr → Prop} (hφ : ∀ a, s.a = some a → w.cell? (a.add k) = some (f l[k]) → φ a) :
    (0 ≤ (k : Int) ∧ (k : Int) < (s.l : Int)) ∧ derefP s.a φ := by
  obtain ⟨a, ha⟩ := h.base hk
  exact ⟨⟨by omega, by have := h.len; omega⟩, derefP_some ha (hφ a ha (h.cell a ha k hk))⟩
theorem elemI {w : World} {s : Sl} {l : List Int} (h : IsI w s l) {k : Nat} (hk : k < l.length) {φ : Int → Prop} (hφ : φ l[k]) :
    (0 ≤ (k : Int) ∧ (k : Int) < (s.l : Int)) ∧ derefP s.a fun a => ldI w (a.add (Int.toNat (k : Int))) .i64 φ :=
  h.addr hk fun a _ hc => ⟨l[k], by simpa using hc, hφ⟩
theorem elemS {w : World} {s : Sl} {hs : List Sl} (h : IsS Sl.val w s hs) {k : Nat} (hk : k < hs.length) {φ : Sl → Prop} (hφ : φ hs[k]) :
    (0 ≤ (k : Int) ∧ (k : Int) < (s.l : Int)) ∧ derefP s.a fun a => ldS w (a.add (Int.toNat (k : Int))) φ :=
  h.addr hk fun a _ hc => ⟨hs[k], by rw [show Int.toNat (k : Int) = k from rfl]; exact hc, hφ⟩
theorem elemB {w : World} {s : Sl} {l : List Bool} (h : IsS Value.bool w s l) {k : Nat} (hk : k < l.length) {φ : Bool → Prop} (hφ : φ l[k]) :
    (0 ≤ (k : Int) ∧ (k : Int) < (s.l : Int)) ∧ derefP s.a fun a => ldB w (a.add (Int.toNat (k : Int))) φ :=
  h.addr hk fun a _ hc => ⟨l[k], by simpa using hc, hφ⟩

end Go.Gk
