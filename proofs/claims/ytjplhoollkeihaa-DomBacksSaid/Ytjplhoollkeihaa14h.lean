/-
  Contracts of a graph's functions.
-/
import Derived.Test.Ytjplhoollkeihaa14g
namespace Go.Proofs
open Go.Gk Go.RowKit Go.Gr

/-- A graph's rows: what Of lets through. -/
structure NxOk (nx : List (List Nat)) : Prop where
  pos : 0 < nx.length
  max : nx.length ≤ 4096
  rows : ∀ i, ∀ t ∈ nx.getD i [], t < nx.length
  nodup : ∀ i, (nx.getD i []).Nodup
theorem NxOk.row_le {nx : List (List Nat)} (h : NxOk nx) (i : Nat) : (nx.getD i []).length ≤ nx.length := nodup_le (h.nodup i) (h.rows i)
theorem NxOk.came {nx : List (List Nat)} (h : NxOk nx) : Came nx.length ([], []) (visit nx nx.length 0 ([], [])) :=
  visit_came h.rows nx.length 0 ([], []) h.pos (by simp) (by simp) (by simp)
theorem order_len (nx : List (List Nat)) : (orderOf nx).length = (walkOf nx).length := by
  have := visit_len nx nx.length 0 ([], [])
  simp [orderOf, walkOf] at this ⊢
  omega
theorem NxOk.walk_le {nx : List (List Nat)} (h : NxOk nx) : (walkOf nx).length ≤ nx.length := nodup_le h.came.nodup h.came.lt
theorem edges_getD {ll : List (List Int)} {j : Nat} (hj : j < ll.length) : (edges ll).getD j [] = dedup (ll[j].map Int.toNat) := by simp [edges, natRows, List.getD, hj]
theorem edges_length (ll : List (List Int)) : (edges ll).length = ll.length := by simp [edges, natRows]
theorem edges_ok {ll : List (List Int)} (h0 : 0 < ll.length) (h1 : ll.length ≤ 4096) (hG : Good ll) : NxOk (edges ll) := by
  refine ⟨by rw [edges_length]; exact h0, by rw [edges_length]; exact h1, fun j t ht => ?_, fun j => ?_⟩
  · by_cases hj : j < ll.length
    · rw [edges_getD hj, mem_dedup] at ht
      obtain ⟨y, hy, rfl⟩ := List.mem_map.1 ht
      have := hG _ (List.getElem_mem hj) y hy
      rw [edges_length]
      omega
    · simp [edges, natRows, List.getD, hj] at ht
  · by_cases hj : j < ll.length
    · rw [edges_getD hj]; exact dedup_nodup _
    · simp [edges, natRows, List.getD, hj]

theorem _root_.Go.Gk.IsS.toI {w : World} {s : Sl} {l : List Nat} (h : IsS iN w s l) : IsI w s (l.map fun (x : Nat) => (x : Int)) :=
  ⟨by rw [List.length_map]; exact h.len, h.cap, h.max, h.nil, fun a ha i hi => by rw [List.getElem_map]; exact h.cell a ha i (by simpa using hi)⟩

theorem gLen_spec {gb : Nat} {nx : List (List Nat)} {w : World} {R : Value → World → Prop} (h : IsG w gb nx) (hR : R (.int .i64 (nx.length : Int)) w) :
    callR Try.prog 33 #[.pointer (some (blk gb))] w R := by
  refine callR.of (graph_Graph_Len_calls _ R w ?_) fun _ _ h => h
  obtain ⟨sn, sa, wk, od, bs, hn, ha, h1, h2, h3, h4, h5, h6⟩ := h
  refine ⟨sn, h1.cell0 rfl, ?_⟩
  have e : sn.l = nx.length := by have := h2.top.len; have := h2.len; omega
  show R (.int .i64 (sn.l : Int)) w
  rw [e]; exact hR

theorem is_spec {gb : Nat} {nx : List (List Nat)} {i : Int} {w : World} {R : Value → World → Prop} (h : IsG w gb nx) (hR : R (.bool (decide (0 ≤ i ∧ i < nx.length))) w) :
    callR Try.prog 103 #[.pointer (some (blk gb)), .int .i64 i] w R := by
  refine callR.of (graph_Graph_is_calls _ i R w ?_) fun _ _ h => h
  refine ifB_dec (fun h0 => gLen_spec h ⟨_, rfl, ?_⟩) (fun h0 => ?_)
  · have : decide (i < (nx.length : Int)) = decide (0 ≤ i ∧ i < nx.length) := by
      rw [decide_eq_decide]; exact ⟨fun h => ⟨h0, h⟩, fun h => h.2⟩
    rw [this]; exact hR
  · have : decide (0 ≤ i ∧ i < (nx.length : Int)) = false := by rw [decide_eq_false_iff_not]; omega
    rw [this] at hR; exact hR

/-- Row i; none where i is no node. -/
def rowAt (ll : List (List Nat)) (i : Int) : List Nat := if 0 ≤ i then ll.getD i.toNat [] else []
theorem rowAt_nat (ll : List (List Nat)) (i : Nat) : rowAt ll (i : Int) = ll.getD i [] := by simp [rowAt]
theorem rowAt_out {ll : List (List Nat)} {i : Int} (h : ¬ (0 ≤ i ∧ i < ll.length)) : rowAt ll i = [] := by
  unfold rowAt
  split
  · rw [List.getD_eq_getElem?_getD, List.getElem?_eq_none (by omega)]; rfl
  · rfl

theorem Next_spec {gb : Nat} {nx : List (List Nat)} (hx : NxOk nx) {i : Int} {w : World} {R : Value → World → Prop} (h : IsG w gb nx)
    (hR : ∀ r w', Own w' 3 1 r ((rowAt nx i).map iN) → Fresh w.heap.size r → Below w.heap.size w w' → R (.slice r.a r.l r.c) w') :
    callR Try.prog 34 #[.pointer (some (blk gb)), .int .i64 i] w R := by
  refine callR.of (graph_Graph_Next_calls _ i R w ?_) fun _ _ h => h
  refine is_spec h ⟨_, rfl, ifB_not (ifB_dec (fun hi => ?_) (fun hi => ?_))⟩
  · obtain ⟨sn, sa, wk, od, bs, hn, ha, h1, h2, h3, h4, h5, h6⟩ := h
    obtain ⟨k, rfl⟩ := Int.eq_ofNat_of_zero_le hi.1
    have hk : k < nx.length := by have := hi.2; omega
    have hnl := h2.len
    have hrl := hx.row_le k
    have hrm := hx.max
    have hsz : nx[k].length * 8 ≤ 140737488355328 := by
      have e : nx[k] = nx.getD k [] := by simp [List.getD, hk]
      rw [e]; omega
    refine ⟨sn, h1.cell0 rfl, elemS h2.top (by omega) ?_⟩
    refine Clone_spec iN_one (h2.row k (by omega) hk) hsz fun r w' g1 g2 g3 => ⟨r, rfl, hR r w' ?_ g2 g3⟩
    rw [rowAt_nat]
    simpa [List.getD, hk] using g1
  · refine hR ⟨none, 0, 0⟩ w ?_ (fun a ha => by cases ha) (Below.refl _ _)
    rw [rowAt_out (by omega)]; exact Own.nil _ _ _

theorem Ahead_spec {gb : Nat} {nx : List (List Nat)} (hx : NxOk nx) {i : Int} {w : World} {R : Value → World → Prop} (h : IsG w gb nx)
    (hR : ∀ r w', Own w' 3 1 r ((rowAt (aheadOf nx) i).map iN) → Fresh w.heap.size r → Below w.heap.size w w' → R (.slice r.a r.l r.c) w') :
    callR Try.prog 36 #[.pointer (some (blk gb)), .int .i64 i] w R := by
  refine callR.of (graph_Graph_Ahead_calls _ i R w ?_) fun _ _ h => h
  refine is_spec h ⟨_, rfl, ifB_not (ifB_dec (fun hi => ?_) (fun hi => ?_))⟩
  · obtain ⟨sn, sa, wk, od, bs, hn, ha, h1, h2, h3, h4, h5, h6⟩ := h
    obtain ⟨k, rfl⟩ := Int.eq_ofNat_of_zero_le hi.1
    have hk : k < (aheadOf nx).length := by rw [ahead_length]; have := hi.2; omega
    have hnl := h3.len
    have hrl := ahead_le nx k
    have hrm := hx.max
    have hsz : (aheadOf nx)[k].length * 8 ≤ 140737488355328 := by
      have e : (aheadOf nx)[k] = (aheadOf nx).getD k [] := by simp [List.getD, hk]
      rw [e]; omega
    refine ⟨sa, h1.cell (n := 1) rfl, elemS h3.top (by omega) ?_⟩
    refine Clone_spec iN_one (h3.row k (by omega) hk) hsz fun r w' g1 g2 g3 => ⟨r, rfl, hR r w' ?_ g2 g3⟩
    rw [rowAt_nat]
    simpa [List.getD, hk] using g1
  · refine hR ⟨none, 0, 0⟩ w ?_ (fun a ha => by cases ha) (Below.refl _ _)
    rw [rowAt_out (by rw [ahead_length]; omega)]; exact Own.nil _ _ _

theorem Order_spec {gb : Nat} {nx : List (List Nat)} (hx : NxOk nx) {w : World} {R : Value → World → Prop} (h : IsG w gb nx)
    (hR : ∀ r w', Own w' 3 1 r ((orderOf nx).map iN) → Fresh w.heap.size r → Below w.heap.size w w' → R (.slice r.a r.l r.c) w') :
    callR Try.prog 37 #[.pointer (some (blk gb))] w R := by
  refine callR.of (graph_Graph_Order_calls _ R w ?_) fun _ _ h => h
  obtain ⟨sn, sa, wk, od, bs, hn, ha, h1, h2, h3, h4, h5, h6⟩ := h
  refine ⟨od, h1.cell (n := 3) rfl, Clone_spec iN_one h5 (by have := order_len nx; have := hx.walk_le; have := hx.max; omega) fun r w' g1 g2 g3 => ⟨r, rfl, hR r w' g1 g2 g3⟩⟩

/-- Is i a node that is reached? -/
def reachedOf (nx : List (List Nat)) (i : Int) : Bool := decide (0 ≤ i) && (walkOf nx).contains i.toNat
theorem Reached_spec {gb : Nat} {nx : List (List Nat)} (hx : NxOk nx) {i : Int} {w : World} {R : Value → World → Prop} (h : IsG w gb nx) (hR : R (.bool (reachedOf nx i)) w) :
    callR Try.prog 38 #[.pointer (some (blk gb)), .int .i64 i] w R := by
  refine callR.of (graph_Graph_Reached_calls _ i R w ?_) fun _ _ h => h
  refine is_spec h ⟨_, rfl, ifB_dec (fun hi => ?_) (fun hi => ?_)⟩
  · obtain ⟨sn, sa, wk, od, bs, hn, ha, h1, h2, h3, h4, h5, h6⟩ := h
    obtain ⟨k, rfl⟩ := Int.eq_ofNat_of_zero_le hi.1
    have hm := hx.max
    have hk : k < 4096 := by have := hi.2; omega
    refine has_spec hk (BitsL.bits h1 h6) ⟨_, rfl, ?_⟩
    simpa [reachedOf] using hR
  · have : reachedOf nx i = false := by
      unfold reachedOf
      by_cases h0 : 0 ≤ i
      · have : (walkOf nx).contains i.toNat = false := by
          rw [← Bool.not_eq_true, List.contains_iff_mem]
          intro hm
          have := hx.came.lt _ hm
          omega
        rw [this, Bool.and_false]
      · simp [h0]
    rw [this] at hR
    exact hR

end Go.Proofs
