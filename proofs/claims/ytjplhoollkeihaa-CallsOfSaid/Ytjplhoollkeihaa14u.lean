/-
  The statement GraphOf: a graph, or none, on both sides.
-/
import Derived.Test.Ytjplhoollkeihaa14s
namespace Go.Gk
/-- 'for i := -1; i <= n; i++'. -/
theorem LoopW.countM {body : Int × Unit → World → (Int × Unit → World → Prop) → Prop} {w : World} (n : Nat) (hn : n ≤ 1099511627776) (I : World → Prop) (h0 : I w)
    (h : ∀ k w, k ≤ n + 2 → I w → ∀ next : Int × Unit → World → Prop, (∀ w', k < n + 2 → I w' → next (IntKind.i64.wrap ((k : Int) - 1 + 1), ()) w') → body ((k : Int) - 1, ()) w next) : LoopW body ((-1 : Int), ()) w := by
  refine LoopW.ghost (fun j s w => ∃ k : Nat, k ≤ n + 2 ∧ j = n + 2 - k ∧ s = ((k : Int) - 1, ()) ∧ I w) (n + 2) ⟨0, Nat.zero_le _, rfl, rfl, h0⟩ ?_
  rintro _ _ w ⟨k, hk, rfl, rfl, hI⟩ next hnext
  refine h k w hk hI next fun w' hlt hI' => ?_
  rw [wrap64_in (by omega) (by omega)]
  exact hnext (n + 2 - (k + 1)) _ _ (by omega) ⟨k + 1, by omega, rfl, by congr 1; omega, hI'⟩
end Go.Gk
namespace Go.Proofs
open Go.Gk Go.RowKit Go.Gr

/-- A pointer to a graph with rows nx, or nil, with none. -/
def GP (w : World) (p : Option Addr) (nx : List (List Nat)) : Prop := (p = none ∧ nx = []) ∨ ∃ gb, p = some (blk gb) ∧ NxOk nx ∧ IsG w gb nx
def GPB (w : World) (B : Nat) (p : Option Addr) (nx : List (List Nat)) : Prop := (p = none ∧ nx = []) ∨ ∃ gb, p = some (blk gb) ∧ NxOk nx ∧ IsGB w B gb nx
def RP (w : World) (p : Option Addr) (nx : List (List Nat)) : Prop := (p = none ∧ nx = []) ∨ ∃ rb, p = some (blk rb) ∧ NxOk nx ∧ IsR w rb nx
theorem GP.below {w w' : World} {p : Option Addr} {nx : List (List Nat)} (h : GP w p nx) (hb : Below w.heap.size w w') : GP w' p nx := h.imp id fun ⟨gb, h1, h2, h3⟩ => ⟨gb, h1, h2, h3.below hb⟩
theorem RP.below {w w' : World} {p : Option Addr} {nx : List (List Nat)} (h : RP w p nx) (hb : Below w.heap.size w w') : RP w' p nx := h.imp id fun ⟨gb, h1, h2, h3⟩ => ⟨gb, h1, h2, h3.below hb⟩
theorem GPB.gp {w : World} {B : Nat} {p : Option Addr} {nx : List (List Nat)} (h : GPB w B p nx) : GP w p nx := h.imp id fun ⟨gb, h1, h2, h3⟩ => ⟨gb, h1, h2, h3.isG⟩
theorem GPB.keep {w w' : World} {B : Nat} {p : Option Addr} {nx : List (List Nat)} (h : GPB w B p nx) (hk : ∀ k, B ≤ k → k < w.heap.size → w'.heap[k]? = w.heap[k]?) : GPB w' B p nx := h.imp id fun ⟨gb, h1, h2, h3⟩ => ⟨gb, h1, h2, h3.keep hk⟩
theorem GP.isNone {w w' : World} {p q : Option Addr} {nx : List (List Nat)} (h : GP w p nx) (k : RP w' q nx) : p.isNone = q.isNone := by
  rcases h with ⟨rfl, rfl⟩ | ⟨gb, rfl, hx, _⟩ <;> rcases k with ⟨rfl, e⟩ | ⟨rb, rfl, hx', _⟩
  · rfl
  · have := hx'.pos; simp at this
  · subst e; have := hx.pos; simp at this
  · rfl

variable {w : World} {R : Value → World → Prop} {p : Option Addr} {nx : List (List Nat)} {i : Int}
theorem GP.len (h : GP w p nx) (hR : R (.int .i64 (nx.length : Int)) w) : callR Try.prog 33 #[.pointer p] w R := by
  rcases h with ⟨rfl, rfl⟩ | ⟨gb, rfl, hx, hg⟩
  · exact callR.of (graph_Graph_Len_calls none R w (ifB_true rfl hR)) fun _ _ h => h
  · exact gLen_spec hg hR
theorem is_nil (hR : R (.bool false) w) : callR Try.prog 103 #[.pointer none, .int .i64 i] w R := by
  refine callR.of (graph_Graph_is_calls none i R w ?_) fun _ _ h => h
  refine ifB_dec (fun h0 => GP.len (nx := []) (.inl ⟨rfl, rfl⟩) ⟨_, rfl, ?_⟩) (fun h0 => hR)
  have : decide (i < (([] : List (List Nat)).length : Int)) = false := by rw [decide_eq_false_iff_not]; simp; omega
  rw [this]; exact hR
theorem rowAt_nil (i : Int) : rowAt [] i = [] := by unfold rowAt; split <;> simp
theorem GP.next (h : GP w p nx) (hR : ∀ r w', Own w' 3 1 r ((rowAt nx i).map iN) → Fresh w.heap.size r → Below w.heap.size w w' → R (.slice r.a r.l r.c) w') :
    callR Try.prog 34 #[.pointer p, .int .i64 i] w R := by
  rcases h with ⟨rfl, rfl⟩ | ⟨gb, rfl, hx, hg⟩
  · refine callR.of (graph_Graph_Next_calls none i R w (is_nil ⟨_, rfl, ifB_true rfl ?_⟩)) fun _ _ h => h
    exact hR ⟨none, 0, 0⟩ w (by rw [rowAt_nil]; exact Own.nil _ _ _) (fun a ha => by cases ha) (Below.refl _ _)
  · exact Next_spec hx hg hR
theorem GP.ahead (h : GP w p nx) (hR : ∀ r w', Own w' 3 1 r ((rowAt (aheadOf nx) i).map iN) → Fresh w.heap.size r → Below w.heap.size w w' → R (.slice r.a r.l r.c) w') :
    callR Try.prog 36 #[.pointer p, .int .i64 i] w R := by
  rcases h with ⟨rfl, rfl⟩ | ⟨gb, rfl, hx, hg⟩
  · refine callR.of (graph_Graph_Ahead_calls none i R w (is_nil ⟨_, rfl, ifB_true rfl ?_⟩)) fun _ _ h => h
    exact hR ⟨none, 0, 0⟩ w (by rw [show aheadOf [] = [] from rfl, rowAt_nil]; exact Own.nil _ _ _) (fun a ha => by cases ha) (Below.refl _ _)
  · exact Ahead_spec hx hg hR
theorem GP.order (h : GP w p nx) (hR : ∀ r w', Own w' 3 1 r ((orderOf nx).map iN) → Fresh w.heap.size r → Below w.heap.size w w' → R (.slice r.a r.l r.c) w') :
    callR Try.prog 37 #[.pointer p] w R := by
  rcases h with ⟨rfl, rfl⟩ | ⟨gb, rfl, hx, hg⟩
  · exact callR.of (graph_Graph_Order_calls none R w (ifB_true rfl (hR ⟨none, 0, 0⟩ w (Own.nil _ _ _) (fun a ha => by cases ha) (Below.refl _ _)))) fun _ _ h => h
  · exact Order_spec hx hg hR
theorem reached_nil (i : Int) : reachedOf [] i = false := by simp [reachedOf, walkOf, visit]
theorem GP.reached (h : GP w p nx) (hR : R (.bool (reachedOf nx i)) w) : callR Try.prog 38 #[.pointer p, .int .i64 i] w R := by
  rcases h with ⟨rfl, rfl⟩ | ⟨gb, rfl, hx, hg⟩
  · rw [reached_nil] at hR
    exact callR.of (graph_Graph_Reached_calls none i R w (is_nil ⟨_, rfl, ifB_false rfl hR⟩)) fun _ _ h => h
  · exact Reached_spec hx hg hR

theorem RP.len (h : RP w p nx) (hR : R (.int .i64 (nx.length : Int)) w) : callR Try.prog 97 #[.pointer p] w R := by
  rcases h with ⟨rfl, rfl⟩ | ⟨gb, rfl, hx, hg⟩
  · exact callR.of (intaglioref14_Graph_Len_calls none R w (ifB_true rfl hR)) fun _ _ h => h
  · exact rLen_spec hg hR
theorem RP.next (h : RP w p nx) (hR : ∀ r w', Own w' 3 1 r ((rowAt nx i).map iN) → Below w.heap.size w w' → R (.slice r.a r.l r.c) w') :
    callR Try.prog 98 #[.pointer p, .int .i64 i] w R := by
  rcases h with ⟨rfl, rfl⟩ | ⟨gb, rfl, hx, hg⟩
  · have hN : R (.slice none 0 0) w := hR ⟨none, 0, 0⟩ w (by rw [rowAt_nil]; exact Own.nil _ _ _) (Below.refl _ _)
    refine callR.of (intaglioref14_Graph_Next_calls none i R w ?_) fun _ _ h => h
    refine JoinW.cut (fun _ _ => False) (ifB_dec (fun _ => hN) fun h0 => RP.len (nx := []) (.inl ⟨rfl, rfl⟩) ⟨_, rfl, ifB_true ?_ hN⟩) fun _ _ h => h.elim
    rw [decide_eq_true_iff]; simp; omega
  · exact rNext_spec hx hg hR
theorem RP.ahead (h : RP w p nx) (hR : ∀ r w', Own w' 3 1 r ((rowAt (aheadOf nx) i).map iN) → Below w.heap.size w w' → R (.slice r.a r.l r.c) w') :
    callR Try.prog 99 #[.pointer p, .int .i64 i] w R := by
  rcases h with ⟨rfl, rfl⟩ | ⟨gb, rfl, hx, hg⟩
  · have hN : R (.slice none 0 0) w := hR ⟨none, 0, 0⟩ w (by rw [show aheadOf [] = [] from rfl, rowAt_nil]; exact Own.nil _ _ _) (Below.refl _ _)
    refine callR.of (intaglioref14_Graph_Ahead_calls none i R w ?_) fun _ _ h => h
    refine LoopW.countS 0 (by omega) (fun _ l w' => l = ⟨none, 0, 0⟩ ∧ w' = w) ⟨rfl, rfl⟩ ?_
    rintro k l w' hk ⟨rfl, rfl⟩ next _
    exact RP.len (nx := []) (.inl ⟨rfl, rfl⟩) ⟨_, rfl, ifB_false (by rw [decide_eq_false_iff_not]; dsimp only; simp) hN⟩
  · exact rAhead_spec hx hg hR
theorem RP.order (h : RP w p nx) (hR : ∀ r w', Own w' 3 1 r ((orderOf nx).map iN) → Below w.heap.size w w' → R (.slice r.a r.l r.c) w') :
    callR Try.prog 101 #[.pointer p] w R := by
  rcases h with ⟨rfl, rfl⟩ | ⟨gb, rfl, hx, hg⟩
  · refine callR.of (intaglioref14_Graph_Order_calls none R w ?_) fun _ _ h => h
    refine Nw.gen fun w1 hw1 => ?_
    have hG1 : Blk w1 w.heap.size 124 [(⟨none, 0, 0⟩ : Sl).val, (⟨none, 0, 0⟩ : Sl).val] := by rw [hw1]; exact Blk.new w _ #[_, _]
    have hb1 : Below w.heap.size w w1 := by rw [hw1]; exact (Below.refl _ _).alloc (Nat.le_refl _) _
    refine JoinW.cut (fun _ w' => w' = w1) (RP.len (nx := []) (.inl ⟨rfl, rfl⟩) ⟨_, rfl, ifB_false rfl rfl⟩) ?_
    rintro _ wx ewx
    subst wx
    refine ⟨⟨none, 0, 0⟩, hG1.cell (n := 1) rfl, ?_⟩
    refine LoopW.ghost (fun _ s w' => s = (⟨none, 0, 0⟩, -1, ()) ∧ w' = w1) 0 ⟨rfl, rfl⟩ ?_
    rintro k _ w' ⟨rfl, rfl⟩ next _
    exact ifB_false rfl (hR ⟨none, 0, 0⟩ _ (Own.nil _ _ _) hb1)
  · exact rOrder_spec hx hg hR
theorem RP.reached (h : RP w p nx) (hR : ∀ w', Below w.heap.size w w' → R (.bool (reachedOf nx i)) w') : callR Try.prog 100 #[.pointer p, .int .i64 i] w R := by
  rcases h with ⟨rfl, rfl⟩ | ⟨gb, rfl, hx, hg⟩
  · have hN : R (.bool false) w := by rw [← reached_nil i]; exact hR w (Below.refl _ _)
    refine callR.of (intaglioref14_Graph_Reached_calls none i R w ?_) fun _ _ h => h
    refine JoinW.cut (fun _ _ => False) (ifB_dec (fun _ => hN) fun h0 => RP.len (nx := []) (.inl ⟨rfl, rfl⟩) ⟨_, rfl, ifB_true ?_ hN⟩) fun _ _ h => h.elim
    rw [decide_eq_true_iff]; simp; omega
  · exact rReached_spec hx hg hR

/-- The same twice: 'Ints' says so. -/
theorem same_spec {s t : Sl} {l : List Nat} (hs : IsN w s l) (ht : IsN w t l) (hR : ∀ w', Below w.heap.size w w' → R (.bool true) w') : callR Try.prog 29 #[.slice s.a s.l s.c, .slice t.a t.l t.c] w R :=
  Ints_spec hs.toI ht.toI fun w' _ hb => by rw [decide_eq_true rfl]; exact hR w' hb

end Go.Proofs
