/-
  The statement GraphOrders.
-/
import Derived.Test.Ytjplhoollkeihaa14k
import Derived.Test.Ytjplhoollkeihaa14n
namespace Go.Proofs
open Go.Gk Go.RowKit Go.Gr

theorem Cop.el {w : World} {B n m : Nat} {row : Nat → List Int} (h : Cop w B n m row) {i k : Nat} (hi : i < m) (hk : k < (row i).length) : w.cell? ((blk (B + 1 + i)).add k) = some (.int .i64 (row i)[k]) :=
  (h.rows i hi).cell (by rw [List.getElem?_map, List.getElem?_eq_getElem hk]; rfl)
/-- The last header is made nil. -/
theorem Cop.cut {w : World} {B n : Nat} {row : Nat → List Int} (h : Cop w B n n row) {i : Nat} (hi : i + 1 = n) : Cop (w.setCell ((blk B).add i) (.slice none 0 0)) B n i row := by
  refine ⟨by omega, ?_, fun j hj => (h.rows j (by omega)).other (by rw [add_block]; show B + 1 + j ≠ B; omega) _⟩
  have := h.head.set i (.slice none 0 0)
  have e : (((List.range n).map fun i => if i < n then Value.slice (some (blk (B + 1 + i))) (row i).length (row i).length else .slice none 0 0).set i (.slice none 0 0)) =
      (List.range n).map fun j => if j < i then Value.slice (some (blk (B + 1 + j))) (row j).length (row j).length else .slice none 0 0 := by
    apply List.ext_getElem
    · simp
    · intro j g1 g2
      have hj : j < n := by simpa using g2
      rw [List.getElem_set]
      simp only [List.getElem_map, List.getElem_range]
      by_cases e : i = j
      · subst e; rw [if_pos rfl, if_neg (by omega)]
      · rw [if_neg e, if_pos hj, if_pos (by omega)]
  rw [e] at this
  exact this

theorem map_take_set {α : Type} (f : α → α) (l : List α) {k : Nat} (hk : k < l.length) {v : α} (hv : v = f l[k]) : ((l.take k).map f ++ l.drop k).set k v = (l.take (k + 1)).map f ++ l.drop (k + 1) := by
  subst hv
  apply List.ext_getElem
  · simp; omega
  · intro p g1 g2
    have hp : p < l.length := by simp at g1; omega
    rw [List.getElem_set]
    by_cases e : k = p
    · subst e
      rw [if_pos rfl, List.getElem_append_left (by simp; omega)]
      simp
    · rw [if_neg e]
      by_cases h : p < k
      · rw [List.getElem_append_left (by simp; omega), List.getElem_append_left (by simp; omega)]
        simp
      · rw [List.getElem_append_right (by simp; omega), List.getElem_append_right (by simp; omega)]
        simp only [List.length_map, List.length_take, List.getElem_drop]
        congr 1
        omega
theorem map_take_keep {α : Type} (f : α → α) (l : List α) {k : Nat} (hk : k < l.length) (hv : f l[k] = l[k]) : (l.take k).map f ++ l.drop k = (l.take (k + 1)).map f ++ l.drop (k + 1) := by
  rw [← map_take_set f l hk rfl, hv]
  apply List.ext_getElem
  · simp
  · intro p g1 g2
    rw [List.getElem_set]
    by_cases e : k = p
    · subst e
      rw [if_pos rfl, List.getElem_append_right (by simp; omega)]
      simp
      congr 1
      omega
    · rw [if_neg e]

/-- What GraphOrders makes of an edge of node i. -/
def fx (n i : Nat) (x : Int) : Int := if x ≤ (i : Int) then (n : Int) - 1 else x

set_option maxHeartbeats 2000000 in
theorem GraphOrders_spec {s : Sl} {hs : List Sl} {ll : List (List Int)} {w : World} {R : Value → World → Prop} (h : IsII w s hs ll) (h24 : 24 * ll.length ≤ 281474976710656) (h8 : ∀ l ∈ ll, 8 * l.length ≤ 281474976710656)
    (hR : ∀ w', Below w.heap.size w w' → R (.bool true) w') :
    callR Try.prog 5 #[.slice s.a s.l s.c] w R := by
  refine callR.of (intagliolaw14_GraphOrders_calls s R w ?_) fun _ _ h => h
  unfold L_intagliolaw14_GraphOrders
  refine copied_spec h h24 h8 fun w1 b1 c1 => ⟨⟨_, ll.length, ll.length⟩, rfl, ?_⟩
  obtain ⟨n, hn⟩ : ∃ n, n = ll.length := ⟨_, rfl⟩
  obtain ⟨B, hB⟩ : ∃ B, B = w.heap.size := ⟨_, rfl⟩
  obtain ⟨row, hrow⟩ : ∃ row : Nat → List Int, row = fun i => ll.getD i [] := ⟨_, rfl⟩
  have h8r : ∀ i, (row i).length ≤ 35184372088832 := by
    intro i
    rw [hrow]
    by_cases hi : i < ll.length
    · have := h8 (ll.getD i []) (by simp [List.getD, hi]); dsimp only; omega
    · simp [List.getD, hi]
  rw [← hn] at h24 c1 ⊢
  rw [← hB] at c1 ⊢
  rw [← hrow] at c1
  have b1 : Below B w w1 := by rw [hB]; exact b1
  replace hR : ∀ w', Below B w w' → R (.bool true) w' := fun w' hb => hR w' (by rw [← hB]; exact hb)
  have hBw : B = w.heap.size := hB
  clear h hB hrow h8 hn
  refine LoopW.count n (by omega) (fun i w' => Below B w w' ∧ ∃ m, (i < n → m = n) ∧ (i = n → m = n - 1) ∧ Cop w' B n m fun j => if j < i then (row j).map (fx n j) else row j)
    ⟨b1, n, fun _ => rfl, fun h => by omega, by simpa using c1⟩ ?_
  rintro i w2 hi ⟨b2, m, hm1, hm2, c2⟩ next hnext
  refine ifB_dec (fun hlt => ?_) (fun hge => ?_)
  · -- the rows are turned
    have hlt : i < n := by dsimp only at hlt; omega
    have hm := hm1 hlt
    subst hm
    refine JoinW.cut (fun _ w' => Below B w w' ∧ ∃ m', (i + 1 < m → m' = m) ∧ (i + 1 = m → m' = m - 1) ∧ Cop w' B m m' fun j => if j < i + 1 then (row j).map (fx m j) else row j) ?_ fun _ w' hh => hnext w' hlt hh
    obtain ⟨rk, hrk⟩ : ∃ rk : Nat → Nat → List Int, rk = fun k j => if j < i then (row j).map (fx m j) else if j = i then ((row i).take k).map (fx m i) ++ (row i).drop k else row j := ⟨_, rfl⟩
    have hlen : ∀ k, k ≤ (row i).length → (rk k i).length = (row i).length := by
      intro k hk
      simp only [hrk, Nat.lt_irrefl, if_false, if_true, List.length_append, List.length_map, List.length_take, List.length_drop]
      omega
    have hel : ∀ k (hk : k < (row i).length) (hk' : k < (rk k i).length), (rk k i)[k] = (row i)[k] := by
      intro k hk hk'
      have : rk k i = ((row i).take k).map (fx m i) ++ (row i).drop k := by simp [hrk]
      rw [List.getElem_of_eq this, List.getElem_append_right (by simp; omega)]
      simp only [List.length_map, List.length_take, List.getElem_drop]
      congr 1
      omega
    have hri := h8r i
    refine LoopW.count (row i).length (by omega) (fun k w' => Below B w w' ∧ Cop w' B m m (rk k)) ⟨b2, c2.congr fun j _ => ?_⟩ ?_
    · rw [hrk]
      by_cases e : j < i
      · simp [e]
      · by_cases e' : j = i
        · subst e'; simp
        · simp [e, e']
    rintro k w3 hk ⟨b3, c3⟩ nxt hnxt
    have e3 := hlen k hk
    refine ⟨⟨by omega, by dsimp only; omega⟩, c3.hd hlt ?_⟩
    refine ifB_dec (fun hltk => ?_) (fun hgek => ?_)
    · have hltk : k < (row i).length := by dsimp only at hltk; omega
      refine JoinW.cut (fun _ w' => Below B w w' ∧ Cop w' B m m (rk (k + 1))) ?_ fun _ w' hh => hnxt w' hltk hh
      have cel := c3.el hlt (k := k) (by rw [e3]; exact hltk)
      rw [hel k hltk] at cel
      refine ⟨⟨by omega, by dsimp only; omega⟩, c3.hd hlt ⟨⟨by omega, by dsimp only; rw [e3]; omega⟩, ⟨(row i)[k], cel, ifB_dec (fun hle => ?_) (fun hgt => ?_)⟩⟩⟩
      · refine ⟨⟨by omega, by dsimp only; omega⟩, c3.hd hlt ⟨⟨by omega, by dsimp only; rw [e3]; omega⟩, c3.wr hlt (by rw [e3]; exact hltk), Nw.mk ⟨b3.setCell (by rw [add_block]; show B ≤ B + 1 + i; omega) _, ?_⟩⟩⟩
        refine (c3.store hlt (k := k) _).congr fun j _ => ?_
        rw [show IntKind.i64.wrap ((m : Int) - 1) = (m : Int) - 1 from wrap64_in (by omega) (by omega)]
        by_cases e : j = i
        · subst e
          simp only [hrk, Nat.lt_irrefl, if_false, if_true]
          exact map_take_set _ _ hltk (by unfold fx; rw [if_pos hle])
        · simp [hrk, e]
      · refine ⟨b3, c3.congr fun j _ => ?_⟩
        by_cases e : j = i
        · subst e
          simp only [hrk, Nat.lt_irrefl, if_false, if_true]
          exact map_take_keep _ _ hltk (by unfold fx; rw [if_neg hgt])
        · simp [hrk, e]
    · have hkk : k = (row i).length := by dsimp only at hgek; omega
      subst hkk
      have cR : Cop w3 B m m fun j => if j < i + 1 then (row j).map (fx m j) else row j := c3.congr fun j _ => by
        by_cases e : j = i
        · subst e; simp only [hrk, Nat.lt_irrefl, if_false, if_true, Nat.lt_succ_self, List.take_length, List.drop_length, List.append_nil]
        · simp only [hrk, if_neg e]
          by_cases e' : j < i
          · rw [if_pos e', if_pos (by omega)]
          · rw [if_neg e', if_neg (by omega)]
      refine ifB_beq (fun he => ?_) (fun hne => ?_)
      · dsimp only at he
        rw [wrap64_in (by omega) (by omega)] at he
        refine ⟨⟨by omega, by dsimp only; omega⟩, derefP_some rfl ⟨?_, Nw.mk ⟨b3.setCell (by rw [add_block]; exact Nat.le_refl _) _, m - 1, fun h => by omega, fun _ => rfl, ?_⟩⟩⟩
        · exact c3.head.wr (by simpa using hlt)
        · have := cR.cut (i := i) (by omega)
          rw [show m - 1 = i by omega]
          exact this
      · dsimp only at hne
        rw [wrap64_in (by omega) (by omega)] at hne
        exact ⟨b3, m, fun _ => rfl, fun h => absurd h (by omega), cR⟩
  · -- the graph
    have hi' : i = n := by dsimp only at hge; omega
    subst hi'
    have hm := hm2 rfl
    subst hm
    have hbw2 : B ≤ w2.heap.size := by have := b2.size; omega
    have i2 := c2.isII (by omega) (fun j hj => by
      have := h8r j
      by_cases e : j < i
      · rw [if_pos e, List.length_map]; omega
      · rw [if_neg e]; omega)
    generalize hLL : copL i (i - 1) (fun j => if j < i then (row j).map (fx i j) else row j) = LL at i2
    have hLn : LL.length = i := by rw [← hLL]; simp
    have aw : ∀ w3, Below B w w3 → callR Try.prog 32 #[] w3 fun v6 w4 => ∃ x7 : Bool, v6 = (.bool x7) ∧ R (.bool x7) w4 := fun w3 b3 =>
      awake_spec fun w4 b4 => ⟨true, rfl, hR w4 (b3.trans (b4.mono (by have := b3.size; omega)))⟩
    refine graph_Of_spec (s := ⟨some (blk B), i, i⟩) i2 (fun _ => ⟨none, 2, rfl, ifB_true rfl (ifB_true rfl (aw w2 b2))⟩) (fun _ => ⟨none, 4, rfl, ifB_true rfl (ifB_true rfl (aw w2 b2))⟩)
      (fun _ _ _ w3 b3 => ⟨none, 141, rfl, ifB_true rfl (ifB_true rfl (aw w3 (b2.trans (b3.mono hbw2))))⟩) fun h0 hmax hG w3 gb b3' _ hg => ?_
    have b3 : Below B w w3 := b2.trans (b3'.mono hbw2)
    have hx : NxOk (edges LL) := edges_ok h0 hmax hG
    have hfwd : Fwd (edges LL) := by
      intro a t ht
      refine ⟨?_, hx.rows a t ht⟩
      by_cases ha : a < LL.length
      · rw [edges_getD ha, mem_dedup, List.mem_map] at ht
        obtain ⟨y, hy, rfl⟩ := ht
        have e : LL[a] = if a < i - 1 then (row a).map (fx i a) else [] := by
          rw [List.getElem_of_eq hLL.symm]
          simp only [List.getElem_map, List.getElem_range]
          by_cases e : a < i - 1
          · rw [if_pos e, if_pos e, if_pos (by omega)]
          · rw [if_neg e, if_neg e]
        rw [e] at hy
        by_cases e : a < i - 1
        · rw [if_pos e] at hy
          obtain ⟨z, _, rfl⟩ := List.mem_map.1 hy
          unfold fx
          split <;> omega
        · rw [if_neg e] at hy; cases hy
      · simp [edges, natRows, List.getD, ha] at ht
    have hnl := edges_length LL
    generalize edges LL = nx at hx hg hfwd hnl
    refine ⟨_, _, rfl, ifB_false rfl ?_⟩
    refine Order_spec hx hg fun r4 w4 o4 f4 b4 => ⟨r4, rfl, ?_⟩
    have hb4 : Below B w w4 := b3.trans (b4.mono (by have := b3.size; omega))
    have hg4 := hg.below b4
    refine LoopW.count i (by omega) (fun k w' => Below w4.heap.size w4 w') (Below.refl _ _) ?_
    rintro a w5 ha b5 nxa hnxa
    refine gLen_spec (hg4.below b5) ⟨_, rfl, ifB_dec (fun hlta => ?_) (fun hgea => aw w5 (hb4.trans (b5.mono (by have := hb4.size; omega))))⟩
    have hlta : a < nx.length := by dsimp only at hlta; omega
    refine Next_spec hx (hg4.below b5) fun r6 w6 o6 f6 b6 => ⟨r6, rfl, ?_⟩
    rw [show (a : Int) = ((a : Nat) : Int) from rfl, rowAt_nat] at o6
    have hl6 := own_len o6
    have hb6 : Below w4.heap.size w4 w6 := b5.trans (b6.mono b5.size)
    have hrl := hx.row_le a
    refine LoopW.count (nx.getD a []).length (by omega) (fun k w' => Below w6.heap.size w6 w') (Below.refl _ _) ?_
    rintro k w7 hk b7 nxk hnxk
    refine ifB_dec (fun hltk => ?_) (fun hgek => hnxa w7 (by omega) (hb6.trans (b7.mono hb6.size)))
    have hltk : k < (nx.getD a []).length := by dsimp only at hltk; omega
    refine JoinW.cut (fun _ w' => Below w6.heap.size w6 w') ?_ fun _ w' hh => hnxk w' hltk hh
    have hb7 : Below w4.heap.size w4 w7.drew := hb6.trans (b7.drew.mono hb6.size)
    have o4' := o4.below hb7
    have o6' := o6.below b7.drew
    refine Reached_spec hx (hg4.below hb7) ⟨_, rfl, ifB_bool (fun hr => ?_) (fun _ => b7.drew)⟩
    have hwalk : a ∈ walkOf nx := by simpa [reachedOf] using hr
    obtain ⟨pa, pb, h1, h2, h3⟩ := order_fwd hfwd hx.pos hwalk (List.getElem_mem hltk)
    have p1 : placeOf ((orderOf nx).map fun (x : Nat) => (x : Int)) (a : Int) = pa := by unfold placeOf; rw [h1]
    have p2 : placeOf ((orderOf nx).map fun (x : Nat) => (x : Int)) ((nx.getD a [])[k] : Nat) = pb := by unfold placeOf; rw [h2]
    refine o6'.isS.toI.addr (k := k) (by simpa using hltk) fun ad _ hc => ⟨((nx.getD a [])[k] : Nat), by simpa using hc, ?_⟩
    refine place_spec o4'.isS.toI ⟨_, rfl, by simpa using hc, place_spec o4'.isS.toI ⟨_, rfl, ifB_false ?_ b7.drew⟩⟩
    rw [p1, p2, decide_eq_false_iff_not]
    omega

end Go.Proofs
