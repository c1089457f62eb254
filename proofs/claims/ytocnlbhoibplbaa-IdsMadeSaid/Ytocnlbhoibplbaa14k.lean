/-
  Contract of graph.Of; Contracts of a graph's functions; Contracts of what the statements make: pair, awake, copied; Contract of copied; The statement GraphEdges.
-/
import Derived.Test.Ytocnlbhoibplbaa14f
/-!
  Contract of graph.Of.
-/
namespace Go.Proofs
open Go.Gk Go.RowKit Go.Gr

theorem makeOk {n : Nat} {b : Int} (hb : b = 24 ∨ b = 8 ∨ b = 1) (h : n ≤ 4096) : (0 ≤ (n : Int) ∧ (n : Int) ≤ (n : Int) ∧ b * (n : Int) ≤ 281474976710656 ∧ (n : Int) ≤ 9223372036854775807) := by
  rcases hb with rfl | rfl | rfl <;> omega

theorem elemS_n {w : World} {s : Sl} {hs : List Sl} (h : IsS Sl.val w s hs) {n : Nat} (hn : s.l = n) {k : Nat} (hk : k < hs.length) {φ : Sl → Prop} (hφ : φ hs[k]) :
    (0 ≤ (k : Int) ∧ (k : Int) < (n : Int)) ∧ derefP s.a fun a => ldS w (a.add (Int.toNat (k : Int))) φ := by
  subst hn; exact elemS h hk hφ
/-- The input's rows as nodes. -/
abbrev natRows (ll : List (List Int)) : List (List Nat) := ll.map fun l => l.map Int.toNat
theorem natRows_getD (ll : List (List Int)) (i : Nat) (hi : i < ll.length) : (natRows ll).getD i [] = (ll[i]).map Int.toNat := by simp [natRows, List.getD, hi]
/-- All edges lead to nodes. -/
def Good (ll : List (List Int)) : Prop := ∀ l ∈ ll, ∀ x ∈ l, 0 ≤ x ∧ x < (ll.length : Int)
/-- The edges that the graph has. -/
abbrev edges (ll : List (List Int)) : List (List Nat) := (natRows ll).map dedup

theorem ahead_replicate (n : Nat) : aheadOf (List.replicate n ([] : List Nat)) = List.replicate n [] := by
  apply List.ext_getElem
  · simp [aheadOf]
  · intro j g1 g2
    simp only [aheadOf, List.getElem_map, List.getElem_range, List.getElem_replicate]
    rw [List.filter_eq_nil_iff]
    intro a ha
    have ha := List.mem_range.1 ha
    simp only [List.length_replicate] at ha
    simp [List.getD, ha]
theorem nxP_zero' (ll : List (List Int)) : nxP (natRows ll) 0 0 = List.replicate ll.length [] := by
  rw [nxP_zero]; simp [natRows]

set_option maxHeartbeats 1000000 in
theorem graph_Of_spec {s : Sl} {hs : List Sl} {ll : List (List Int)} {w : World} {R : Value → World → Prop} (h : IsII w s hs ll)
    (h2 : ll.length = 0 → R (.tuple #[.pointer none, .int .i64 2]) w)
    (h4 : 4096 < ll.length → R (.tuple #[.pointer none, .int .i64 4]) w)
    (hbad : 0 < ll.length → ll.length ≤ 4096 → ¬ Good ll → ∀ w', Below w.heap.size w w' → R (.tuple #[.pointer none, .int .i64 141]) w')
    (hok : 0 < ll.length → ll.length ≤ 4096 → Good ll → ∀ w' gb, Below w.heap.size w w' → IsGB w' w.heap.size gb (edges ll) → IsG w' gb (edges ll) → R (.tuple #[.pointer (some (blk gb)), .int .i64 0]) w') :
    callR Try.prog 35 #[.slice s.a s.l s.c] w R := by
  refine callR.of (graph_Of_calls s R w ?_) fun _ _ h => h
  have hsl : s.l = hs.length := h.top.len
  have hhl : hs.length = ll.length := h.len
  have hn : s.l = ll.length := by omega
  unfold L_graph_Of
  rw [hn]
  refine ifB_beq (fun he => h2 (by omega)) (fun hne => ifB_dec (fun hgt => h4 (by omega)) (fun hle => ?_))
  have hn0 : 0 < ll.length := by omega
  have hn1 : ll.length ≤ 4096 := by omega
  -- the memory is made, in either order
  refine JoinW.cut (fun st w7 => ∃ gb bn ba, st = (some (blk gb), ()) ∧ OS w gb bn ba ll.length w7 (nxP (natRows ll) 0 0)) ⟨?_, ?_⟩ ?_
  · refine ⟨makeOk (.inl rfl) hn1, Nw.gen fun w1 hw1 => ⟨makeOk (.inl rfl) hn1, Nw.gen fun w2 hw2 => Nw.gen fun w3 hw3 => ⟨w2.heap.size, w.heap.size, w1.heap.size, rfl, ?_⟩⟩⟩
    have hz1 : w1.heap.size = w.heap.size + 1 := by rw [hw1]; simp
    have hz2 : w2.heap.size = w.heap.size + 2 := by rw [hw2]; simp; omega
    have b1 : Blk w1 w.heap.size 40 (List.replicate ll.length (.slice none 0 0)) := by rw [hw1]; exact Blk.made w.drew _ _ _
    have b2 : Blk w2 w1.heap.size 40 (List.replicate ll.length (.slice none 0 0)) := by rw [hw2]; exact Blk.made w1 _ _ _
    have b1' : Blk w3 w.heap.size 40 (List.replicate ll.length (.slice none 0 0)) := by rw [hw3, hw2]; exact (b1.alloc _).alloc _
    have b2' : Blk w3 w1.heap.size 40 (List.replicate ll.length (.slice none 0 0)) := by rw [hw3]; exact b2.alloc _
    have hg : Blk w3 w2.heap.size 102 (gCells ⟨some (blk w.heap.size), ll.length, ll.length⟩ ⟨some (blk w1.heap.size), ll.length, ll.length⟩ ⟨none, 0, 0⟩ ⟨none, 0, 0⟩ (List.replicate 64 (.int .u64 (0 : Int)))) := by
      rw [hw3]; exact Blk.new w2 _ _
    refine ⟨?_, by rw [nxP_zero']; simp, hg, by omega, Nat.le_refl _, by omega, by omega, List.replicate ll.length ⟨none, 0, 0⟩, List.replicate ll.length ⟨none, 0, 0⟩, fun _ => 0, by rw [nxP_zero']; exact Fam.new _ w3 _ _ _ _ b1', by rw [nxP_zero', ahead_replicate]; exact Fam.new _ w3 _ _ _ _ b2'⟩
    · rw [hw3, hw2, hw1]; exact (((Below.refl _ _).drew.alloc (by simp) _).alloc (by simp) _).alloc (by simp; omega) _
  · refine ⟨makeOk (.inl rfl) hn1, Nw.gen fun w1 hw1 => ⟨makeOk (.inl rfl) hn1, Nw.gen fun w2 hw2 => Nw.gen fun w3 hw3 => ⟨w2.heap.size, w1.heap.size, w.heap.size, rfl, ?_⟩⟩⟩
    have hz1 : w1.heap.size = w.heap.size + 1 := by rw [hw1]; simp
    have hz2 : w2.heap.size = w.heap.size + 2 := by rw [hw2]; simp; omega
    have b1 : Blk w1 w.heap.size 40 (List.replicate ll.length (.slice none 0 0)) := by rw [hw1]; exact Blk.made w.drew _ _ _
    have b2 : Blk w2 w1.heap.size 40 (List.replicate ll.length (.slice none 0 0)) := by rw [hw2]; exact Blk.made w1 _ _ _
    have b1' : Blk w3 w.heap.size 40 (List.replicate ll.length (.slice none 0 0)) := by rw [hw3, hw2]; exact (b1.alloc _).alloc _
    have b2' : Blk w3 w1.heap.size 40 (List.replicate ll.length (.slice none 0 0)) := by rw [hw3]; exact b2.alloc _
    have hg : Blk w3 w2.heap.size 102 (gCells ⟨some (blk w1.heap.size), ll.length, ll.length⟩ ⟨some (blk w.heap.size), ll.length, ll.length⟩ ⟨none, 0, 0⟩ ⟨none, 0, 0⟩ (List.replicate 64 (.int .u64 (0 : Int)))) := by
      rw [hw3]; exact Blk.new w2 _ _
    refine ⟨?_, by rw [nxP_zero']; simp, hg, by omega, by omega, Nat.le_refl _, by omega, List.replicate ll.length ⟨none, 0, 0⟩, List.replicate ll.length ⟨none, 0, 0⟩, fun _ => 0, by rw [nxP_zero']; exact Fam.new _ w3 _ _ _ _ b2', by rw [nxP_zero', ahead_replicate]; exact Fam.new _ w3 _ _ _ _ b1'⟩
    · rw [hw3, hw2, hw1]; exact (((Below.refl _ _).drew.alloc (by simp) _).alloc (by simp) _).alloc (by simp; omega) _
  rintro _ w7 ⟨gb, bn, ba, rfl, hos⟩
  have hrl : (natRows ll).length = ll.length := by simp [natRows]
  -- row by row
  refine LoopW.count ll.length (by omega) (fun i w' => OS w gb bn ba ll.length w' (nxP (natRows ll) i 0) ∧ ∀ j, j < i → ∀ (hj : j < ll.length), ∀ x ∈ ll[j], 0 ≤ x ∧ x < (ll.length : Int)) ⟨hos, fun j hj => by omega⟩ ?_
  rintro i w8 hi ⟨hos8, hgood⟩ next hnext
  refine ifB_dec (fun hlt => ?_) (fun hge => ?_)
  · have hlt : i < ll.length := by dsimp only at hlt; omega
    have hin := h.below (w' := w8) (hos8.below.mono (Nat.le_refl _))
    refine elemS_n hin.top hn (k := i) (by omega) ?_
    refine Nw.gen fun w9 hw9 => ?_
    have hb9 : Below w8.heap.size w8 w9 := by rw [hw9]; exact (Below.refl _ _).alloc (Nat.le_refl _) _
    have hbits9 : Bits w9 (blk w8.heap.size) fun _ => false := by rw [hw9]; exact Bits.new w8 _
    have hB9 : Blk w9 w8.heap.size 100 (List.replicate 64 (.int .u64 (0 : Int))) := by rw [hw9]; exact Blk.new w8 _ _
    have hos9 := hos8.grown hb9
    have hsbB : w.heap.size ≤ w8.heap.size := hos8.below.size
    have hrow : ∀ {w' : World}, Below w.heap.size w w' → IsI w' (hs[i]'(by omega)) ll[i] := fun hb => (h.below hb).row i (by omega) hlt
    have hrn : (hs[i]'(by omega)).l = (ll[i]).length := (hrow hos9.below).len
    have hgd := natRows_getD ll i hlt
    clear hw9 hin
    -- edge by edge
    refine LoopW.count (ll[i]).length (hrow hos9.below).bound (fun k w' => OS w gb bn ba ll.length w' (nxP (natRows ll) i k) ∧ (∃ cs, Blk w' w8.heap.size 100 cs) ∧ Bits w' (blk w8.heap.size) (fun j => ((nxP (natRows ll) i k).getD i []).contains j) ∧
      ∀ j, j < k → ∀ (hj : j < (ll[i]).length), 0 ≤ ll[i][j] ∧ ll[i][j] < (ll.length : Int)) ⟨hos9, ⟨_, hB9⟩, ?_, fun j hj => by omega⟩ ?_
    · have e : (nxP (natRows ll) i 0).getD i [] = [] := by rw [nxP_getD (by omega)]; simp [dedup]
      rw [e]; simpa using hbits9
    rintro k w10 hk ⟨hos10, ⟨cs10, hB10⟩, hbits10, hgood10⟩ nxt hnxt
    refine ifB_dec (fun hltk => ?_) (fun hgek => ?_)
    · have hltk : k < (ll[i]).length := by dsimp only at hltk; omega
      refine JoinW.cut (fun _ w' => OS w gb bn ba ll.length w' (nxP (natRows ll) i (k + 1)) ∧ (∃ cs, Blk w' w8.heap.size 100 cs) ∧ Bits w' (blk w8.heap.size) (fun j => ((nxP (natRows ll) i (k + 1)).getD i []).contains j) ∧
        0 ≤ ll[i][k] ∧ ll[i][k] < (ll.length : Int)) ?_ fun _ w' hh => hnxt w' hltk ⟨hh.1, hh.2.1, hh.2.2.1, fun j hj hjl => by
          by_cases e : j = k
          · subst e; exact hh.2.2.2
          · exact hgood10 j (by omega) hjl⟩
      refine elemI (hrow hos10.below) hltk ?_
      have bad : ¬ (0 ≤ ll[i][k] ∧ ll[i][k] < (ll.length : Int)) → R (.tuple #[.pointer none, .int .i64 141]) w10 := fun hx =>
        hbad hn0 hn1 (fun hG => hx (hG _ (List.getElem_mem hlt) _ (List.getElem_mem hltk))) w10 hos10.below
      refine JoinW.cut (fun _ w' => w' = w10 ∧ 0 ≤ ll[i][k] ∧ ll[i][k] < (ll.length : Int)) (ifB_dec (fun hx => bad (by omega)) (fun hx => ifB_dec (fun hx' => bad (by omega)) (fun hx' => ⟨rfl, by omega, by omega⟩))) ?_
      rintro _ wx ⟨ewx, hx0, hx1⟩
      subst wx
      obtain ⟨x, hx⟩ := Int.eq_ofNat_of_zero_le hx0
      have hxn : x < ll.length := by omega
      have hrk : k < ((natRows ll).getD i []).length := by rw [hgd]; simpa using hltk
      have hrx : ((natRows ll).getD i [])[k] = x := by
        have : ((natRows ll).getD i [])[k] = (ll[i][k]).toNat := (List.getElem_of_eq hgd hrk).trans (List.getElem_map _)
        rw [this, hx]; rfl
      rw [hx]
      refine has_spec (i := x) (by omega) hbits10 ⟨_, rfl, ifB_not ?_⟩
      refine ifB_bool (fun hc => ?_) (fun hc => ?_)
      · have hskip := nxP_skip (rows := natRows ll) (i := i) (k := k) (by omega) hrk (by rw [hrx]; exact hc)
        rw [hskip]
        exact ⟨hos10, ⟨_, hB10⟩, hbits10, by omega, by omega⟩
      · have hpush := nxP_push (rows := natRows ll) (i := i) (k := k) (by omega) hrk (by rw [hrx]; exact hc)
        rw [hrx] at hpush
        refine add_spec (i := x) (by omega) hbits10 fun v hbits11 => ⟨rfl, ?_⟩
        generalize hw11 : w10.drew.setCell ((blk w8.heap.size).add (x / 64)) (.int .u64 (v : Int)) = w11 at hbits11 ⊢
        obtain ⟨cs11, hB11⟩ : ∃ cs, Blk w11 w8.heap.size 100 cs := by rw [← hw11]; exact ⟨_, hB10.drew.set _ _⟩
        have hos11 : OS w gb bn ba ll.length w11 (nxP (natRows ll) i k) := by
          obtain ⟨o1, o2, o3, o4, o5, o6, o7, hn', ha', ow, f1, f2⟩ := hos10
          have hne3 : gb ≠ w8.heap.size := o3.apart hB10 (by decide)
          have hne1 : w8.heap.size ≠ bn := hB10.apart f1.head (by decide)
          have hne2 : w8.heap.size ≠ ba := hB10.apart f2.head (by decide)
          rw [← hw11]
          exact ⟨o1.drew.setCell (by rw [add_block]; exact hsbB) _, o2, o3.drew.other (by rw [add_block]; exact hne3) _, o4, o5, o6, o7, hn', ha', ow,
            (f1.grown (w' := _) (Below.refl _ _).drew).set_other (hB10.drew) hne1 (by decide) _ _, (f2.grown (w' := _) (Below.refl _ _).drew).set_other (hB10.drew) hne2 (by decide) _ _⟩
        have hlen : ((nxP (natRows ll) i k).getD i []).length ≤ ll.length := by
          rw [nxP_getD (by omega), if_neg (by omega), if_pos rfl, hgd]
          refine dedup_le fun y hy => ?_
          obtain ⟨j, hj, rfl⟩ := List.mem_iff_getElem.1 hy
          have hj' : j < k ∧ j < (ll[i]).length := by simp at hj; omega
          have := hgood10 j hj'.1 hj'.2
          simp only [List.getElem_take, List.getElem_map]
          omega
        have hgt : ∀ j, i < j → (nxP (natRows ll) i k).getD j [] = [] := fun j hj => by
          by_cases hjn : j < (natRows ll).length
          · rw [nxP_getD hjn, if_neg (by omega), if_neg (by omega)]
          · rw [List.getD_eq_getElem?_getD, List.getElem?_eq_none (by rw [nxP_length]; omega)]; rfl
        refine push_step hos11 hlt hxn hn1 (by omega) (by have := ahead_le (nxP (natRows ll) i k) x; rw [nxP_length] at this; omega) hc hgt (by decide) (by decide) hB11 fun w' hos' hB' => ?_
        rw [hpush]
        refine ⟨hos', ⟨_, hB'⟩, ?_, by omega, by omega⟩
        have e : ∀ j, (((nxP (natRows ll) i k).set i ((nxP (natRows ll) i k).getD i [] ++ [x])).getD i []).contains j = (((nxP (natRows ll) i k).getD i []).contains j || j == x) := by
          intro j
          have : ((nxP (natRows ll) i k).set i ((nxP (natRows ll) i k).getD i [] ++ [x])).getD i [] = (nxP (natRows ll) i k).getD i [] ++ [x] := by simp [List.getD, nxP_length, hlt]
          rw [this, Bool.eq_iff_iff]
          simp
        have hbits' : Bits w' (blk w8.heap.size) (fun j => ((nxP (natRows ll) i k).getD i []).contains j || j == x) :=
          hbits11.of_block ((show w'.heap[w8.heap.size]? = _ from hB').trans (show w11.heap[w8.heap.size]? = _ from hB11).symm)
        simpa only [e] using hbits'
    · have hkk : k = (ll[i]).length := by dsimp only at hgek; omega
      subst hkk
      refine hnext w10 hlt ⟨?_, fun j hj hjl x hx => ?_⟩
      · have := nxP_next (natRows ll) i
        rw [hgd, List.length_map] at this
        rw [← this]
        exact hos10
      · by_cases e : j = i
        · subst e
          obtain ⟨m, hm, rfl⟩ := List.mem_iff_getElem.1 hx
          exact hgood10 m hm hm
        · exact hgood j (by omega) hjl x hx
  · -- the walk
    have hi' : i = ll.length := by dsimp only at hge; omega
    subst hi'
    have hG : Good ll := fun l hl x hx => by
      obtain ⟨j, hj, rfl⟩ := List.mem_iff_getElem.1 hl
      exact hgood j hj hj x hx
    have hnx : nxP (natRows ll) ll.length 0 = edges ll := by have := nxP_all (natRows ll); rwa [hrl] at this
    rw [hnx] at hos8
    obtain ⟨o1, o2, o3, o4, o5, o6, o7, hn', ha', ow, f1, f2⟩ := hos8
    have hl1 : hn'.length = ll.length := by rw [f1.len, o2]
    have hl2 : ha'.length = ll.length := by rw [f2.len, ahead_length, o2]
    have hrows : ∀ j, ∀ t ∈ (edges ll).getD j [], t < (edges ll).length := by
      intro j t ht
      by_cases hj : j < ll.length
      · have : (edges ll).getD j [] = dedup (ll[j].map Int.toNat) := by simp [edges, natRows, List.getD, hj]
        rw [this, mem_dedup] at ht
        obtain ⟨y, hy, rfl⟩ := List.mem_map.1 ht
        have := hG _ (List.getElem_mem hj) y hy
        simp [edges, natRows]
        omega
      · simp [edges, natRows, List.getD, hj] at ht
    refine walked_spec o3 (f1.isSS hl1 (by omega)) (f1.avoids o3 (by decide) (by decide)) (by rw [o2]; exact hn0) (by rw [o2]; exact hn1) hrows fun w' wk od bs hfr hGw hbits hwk hod hfw hfo => ⟨rfl, ?_⟩
    have hz := o1.size
    have gB : IsGB w' w.heap.size gb (edges ll) := by
      refine ⟨o4, _, _, wk, od, bs, hn', ha', hGw, ?_, ?_, hwk.isS, hod.isS, hbits, (fun a ha => by cases ha; exact o5), (fun a ha => by cases ha; exact o6), (fun a ha => by have := hfw a ha; omega), (fun a ha => by have := hfo a ha; omega), (fun i hi a ha => (f1.own i hi a ha).2), fun i hi a ha => (f2.own i hi a ha).2⟩
      · exact (f1.isSS hl1 (by omega)).fr hfr (Nat.le_refl _) (f1.avoids o3 (by decide) (by decide))
      · exact (f2.isSS hl2 (by omega)).fr hfr (Nat.le_refl _) (f2.avoids o3 (by decide) (by decide))
    refine hok hn0 hn1 hG w' gb ?_ gB gB.isG
    exact o1.trans ((hfr.mono (B' := w.heap.size) (X' := fun _ => False) o1.size (fun k hk e => by omega)).below)

end Go.Proofs

/-!
  Contracts of a graph's functions.
-/
namespace Go.Proofs
open Go.Gk Go.RowKit Go.Gr

/-- A graph's rows: what Of lets through. -/
structure NxOk (nx : List (List Nat)) : Prop where
  pos : 0 < nx.length
  max : nx.length ≤ 4096
  rows : ∀ i, ∀ t ∈ nx.getD i [], t < nx.length
  nodup : ∀ i, (nx.getD i []).Nodup
theorem NxOk.row_le {nx : List (List Nat)} (h : NxOk nx) (i : Nat) : (nx.getD i []).length ≤ nx.length := nodup_le (h.nodup i) (h.rows i)
theorem NxOk.came {nx : List (List Nat)} (h : NxOk nx) : Came nx.length ([], []) (visit nx nx.length 0 ([], [])) :=
  visit_came h.rows nx.length 0 ([], []) h.pos (by simp) (by simp) (by simp)
theorem order_len (nx : List (List Nat)) : (orderOf nx).length = (walkOf nx).length := by
  have := visit_len nx nx.length 0 ([], [])
  simp [orderOf, walkOf] at this ⊢
  omega
theorem NxOk.walk_le {nx : List (List Nat)} (h : NxOk nx) : (walkOf nx).length ≤ nx.length := nodup_le h.came.nodup h.came.lt
theorem edges_getD {ll : List (List Int)} {j : Nat} (hj : j < ll.length) : (edges ll).getD j [] = dedup (ll[j].map Int.toNat) := by simp [edges, natRows, List.getD, hj]
theorem edges_length (ll : List (List Int)) : (edges ll).length = ll.length := by simp [edges, natRows]
theorem edges_ok {ll : List (List Int)} (h0 : 0 < ll.length) (h1 : ll.length ≤ 4096) (hG : Good ll) : NxOk (edges ll) := by
  refine ⟨by rw [edges_length]; exact h0, by rw [edges_length]; exact h1, fun j t ht => ?_, fun j => ?_⟩
  · by_cases hj : j < ll.length
    · rw [edges_getD hj, mem_dedup] at ht
      obtain ⟨y, hy, rfl⟩ := List.mem_map.1 ht
      have := hG _ (List.getElem_mem hj) y hy
      rw [edges_length]
      omega
    · simp [edges, natRows, List.getD, hj] at ht
  · by_cases hj : j < ll.length
    · rw [edges_getD hj]; exact dedup_nodup _
    · simp [edges, natRows, List.getD, hj]

theorem _root_.Go.Gk.IsS.toI {w : World} {s : Sl} {l : List Nat} (h : IsS iN w s l) : IsI w s (l.map fun (x : Nat) => (x : Int)) :=
  ⟨by rw [List.length_map]; exact h.len, h.cap, h.max, h.nil, fun a ha i hi => by rw [List.getElem_map]; exact h.cell a ha i (by simpa using hi)⟩

theorem gLen_spec {gb : Nat} {nx : List (List Nat)} {w : World} {R : Value → World → Prop} (h : IsG w gb nx) (hR : R (.int .i64 (nx.length : Int)) w) :
    callR Try.prog 36 #[.pointer (some (blk gb))] w R := by
  refine callR.of (graph_Graph_Len_calls _ R w ?_) fun _ _ h => h
  obtain ⟨sn, sa, wk, od, bs, hn, ha, h1, h2, h3, h4, h5, h6⟩ := h
  refine ⟨sn, h1.cell0 rfl, ?_⟩
  have e : sn.l = nx.length := by have := h2.top.len; have := h2.len; omega
  show R (.int .i64 (sn.l : Int)) w
  rw [e]; exact hR

theorem is_spec {gb : Nat} {nx : List (List Nat)} {i : Int} {w : World} {R : Value → World → Prop} (h : IsG w gb nx) (hR : R (.bool (decide (0 ≤ i ∧ i < nx.length))) w) :
    callR Try.prog 66 #[.pointer (some (blk gb)), .int .i64 i] w R := by
  refine callR.of (graph_Graph_is_calls _ i R w ?_) fun _ _ h => h
  refine ifB_dec (fun h0 => gLen_spec h ⟨_, rfl, ?_⟩) (fun h0 => ?_)
  · have : decide (i < (nx.length : Int)) = decide (0 ≤ i ∧ i < nx.length) := by
      rw [decide_eq_decide]; exact ⟨fun h => ⟨h0, h⟩, fun h => h.2⟩
    rw [this]; exact hR
  · have : decide (0 ≤ i ∧ i < (nx.length : Int)) = false := by rw [decide_eq_false_iff_not]; omega
    rw [this] at hR; exact hR

/-- Row i; none where i is no node. -/
def rowAt (ll : List (List Nat)) (i : Int) : List Nat := if 0 ≤ i then ll.getD i.toNat [] else []
theorem rowAt_nat (ll : List (List Nat)) (i : Nat) : rowAt ll (i : Int) = ll.getD i [] := by simp [rowAt]
theorem rowAt_out {ll : List (List Nat)} {i : Int} (h : ¬ (0 ≤ i ∧ i < ll.length)) : rowAt ll i = [] := by
  unfold rowAt
  split
  · rw [List.getD_eq_getElem?_getD, List.getElem?_eq_none (by omega)]; rfl
  · rfl

theorem Next_spec {gb : Nat} {nx : List (List Nat)} (hx : NxOk nx) {i : Int} {w : World} {R : Value → World → Prop} (h : IsG w gb nx)
    (hR : ∀ r w', Own w' 3 1 r ((rowAt nx i).map iN) → Fresh w.heap.size r → Below w.heap.size w w' → R (.slice r.a r.l r.c) w') :
    callR Try.prog 37 #[.pointer (some (blk gb)), .int .i64 i] w R := by
  refine callR.of (graph_Graph_Next_calls _ i R w ?_) fun _ _ h => h
  refine is_spec h ⟨_, rfl, ifB_not (ifB_dec (fun hi => ?_) (fun hi => ?_))⟩
  · obtain ⟨sn, sa, wk, od, bs, hn, ha, h1, h2, h3, h4, h5, h6⟩ := h
    obtain ⟨k, rfl⟩ := Int.eq_ofNat_of_zero_le hi.1
    have hk : k < nx.length := by have := hi.2; omega
    have hnl := h2.len
    have hrl := hx.row_le k
    have hrm := hx.max
    have hsz : nx[k].length * 8 ≤ 140737488355328 := by
      have e : nx[k] = nx.getD k [] := by simp [List.getD, hk]
      rw [e]; omega
    refine ⟨sn, h1.cell0 rfl, elemS h2.top (by omega) ?_⟩
    refine Clone_spec iN_one (h2.row k (by omega) hk) hsz fun r w' g1 g2 g3 => ⟨r, rfl, hR r w' ?_ g2 g3⟩
    rw [rowAt_nat]
    simpa [List.getD, hk] using g1
  · refine hR ⟨none, 0, 0⟩ w ?_ (fun a ha => by cases ha) (Below.refl _ _)
    rw [rowAt_out (by omega)]; exact Own.nil _ _ _

theorem Ahead_spec {gb : Nat} {nx : List (List Nat)} (hx : NxOk nx) {i : Int} {w : World} {R : Value → World → Prop} (h : IsG w gb nx)
    (hR : ∀ r w', Own w' 3 1 r ((rowAt (aheadOf nx) i).map iN) → Fresh w.heap.size r → Below w.heap.size w w' → R (.slice r.a r.l r.c) w') :
    callR Try.prog 38 #[.pointer (some (blk gb)), .int .i64 i] w R := by
  refine callR.of (graph_Graph_Ahead_calls _ i R w ?_) fun _ _ h => h
  refine is_spec h ⟨_, rfl, ifB_not (ifB_dec (fun hi => ?_) (fun hi => ?_))⟩
  · obtain ⟨sn, sa, wk, od, bs, hn, ha, h1, h2, h3, h4, h5, h6⟩ := h
    obtain ⟨k, rfl⟩ := Int.eq_ofNat_of_zero_le hi.1
    have hk : k < (aheadOf nx).length := by rw [ahead_length]; have := hi.2; omega
    have hnl := h3.len
    have hrl := ahead_le nx k
    have hrm := hx.max
    have hsz : (aheadOf nx)[k].length * 8 ≤ 140737488355328 := by
      have e : (aheadOf nx)[k] = (aheadOf nx).getD k [] := by simp [List.getD, hk]
      rw [e]; omega
    refine ⟨sa, h1.cell (n := 1) rfl, elemS h3.top (by omega) ?_⟩
    refine Clone_spec iN_one (h3.row k (by omega) hk) hsz fun r w' g1 g2 g3 => ⟨r, rfl, hR r w' ?_ g2 g3⟩
    rw [rowAt_nat]
    simpa [List.getD, hk] using g1
  · refine hR ⟨none, 0, 0⟩ w ?_ (fun a ha => by cases ha) (Below.refl _ _)
    rw [rowAt_out (by rw [ahead_length]; omega)]; exact Own.nil _ _ _

theorem Order_spec {gb : Nat} {nx : List (List Nat)} (hx : NxOk nx) {w : World} {R : Value → World → Prop} (h : IsG w gb nx)
    (hR : ∀ r w', Own w' 3 1 r ((orderOf nx).map iN) → Fresh w.heap.size r → Below w.heap.size w w' → R (.slice r.a r.l r.c) w') :
    callR Try.prog 40 #[.pointer (some (blk gb))] w R := by
  refine callR.of (graph_Graph_Order_calls _ R w ?_) fun _ _ h => h
  obtain ⟨sn, sa, wk, od, bs, hn, ha, h1, h2, h3, h4, h5, h6⟩ := h
  refine ⟨od, h1.cell (n := 3) rfl, Clone_spec iN_one h5 (by have := order_len nx; have := hx.walk_le; have := hx.max; omega) fun r w' g1 g2 g3 => ⟨r, rfl, hR r w' g1 g2 g3⟩⟩

/-- Is i a node that is reached? -/
def reachedOf (nx : List (List Nat)) (i : Int) : Bool := decide (0 ≤ i) && (walkOf nx).contains i.toNat
theorem Reached_spec {gb : Nat} {nx : List (List Nat)} (hx : NxOk nx) {i : Int} {w : World} {R : Value → World → Prop} (h : IsG w gb nx) (hR : R (.bool (reachedOf nx i)) w) :
    callR Try.prog 39 #[.pointer (some (blk gb)), .int .i64 i] w R := by
  refine callR.of (graph_Graph_Reached_calls _ i R w ?_) fun _ _ h => h
  refine is_spec h ⟨_, rfl, ifB_dec (fun hi => ?_) (fun hi => ?_)⟩
  · obtain ⟨sn, sa, wk, od, bs, hn, ha, h1, h2, h3, h4, h5, h6⟩ := h
    obtain ⟨k, rfl⟩ := Int.eq_ofNat_of_zero_le hi.1
    have hm := hx.max
    have hk : k < 4096 := by have := hi.2; omega
    refine has_spec hk (BitsL.bits h1 h6) ⟨_, rfl, ?_⟩
    simpa [reachedOf] using hR
  · have : reachedOf nx i = false := by
      unfold reachedOf
      by_cases h0 : 0 ≤ i
      · have : (walkOf nx).contains i.toNat = false := by
          rw [← Bool.not_eq_true, List.contains_iff_mem]
          intro hm
          have := hx.came.lt _ hm
          omega
        rw [this, Bool.and_false]
      · simp [h0]
    rw [this] at hR
    exact hR

end Go.Proofs

/-!
  Contracts of what the statements make: pair, awake, copied.
-/
namespace Go.Proofs
open Go.Gk Go.RowKit Go.Gr

theorem pair_spec {a b : Int} {w : World} {R : Value → World → Prop}
    (hR : ∀ w', Below w.heap.size w w' → w'.heap.size = w.heap.size + 1 → Blk w' w.heap.size 3 [.int .i64 a, .int .i64 b] → IsI w' ⟨some (blk w.heap.size), 2, 2⟩ [a, b] → R (.slice (some (blk w.heap.size)) 2 2) w') :
    callR Try.prog 34 #[.int .i64 a, .int .i64 b] w R := by
  refine callR.of (intagliolaw14_pair_calls a b R w ?_) fun _ _ h => h
  refine ⟨by decide, Nw.gen fun w1 hw1 => ?_⟩
  have h1 : Blk w1 w.heap.size 3 [.int .i64 (0 : Int), .int .i64 (0 : Int)] := by rw [hw1]; exact Blk.made w _ _ 2
  have b1 : Below w.heap.size w w1 := by rw [hw1]; exact (Below.refl _ _).alloc (Nat.le_refl _) _
  have z1 : w1.heap.size = w.heap.size + 1 := by rw [hw1]; simp
  refine ⟨by decide, h1.wr (n := 0) (by simp), Nw.mk ?_⟩
  refine ⟨by decide, (h1.set 0 _).wr (n := 1) (by simp), Nw.mk ?_⟩
  have h3 := (h1.set 0 (.int .i64 a)).set 1 (.int .i64 b)
  refine hR _ ((b1.setCell (by rw [add_block]; exact Nat.le_refl _) _).setCell (by rw [add_block]; exact Nat.le_refl _) _) (by simpa [World.setCell] using z1) h3 ?_
  exact Blk.isS (f := Value.int .i64) (l := [a, b]) h3 rfl rfl (Nat.le_refl _) (show 2 ≤ 9223372036854775807 by decide)

/-- A slice of slices whose cells are numbers as of nodes. -/
theorem awake_spec {w : World} {R : Value → World → Prop} (hR : ∀ w', Below w.heap.size w w' → R (.bool true) w') : callR Try.prog 15 #[] w R := by
  refine callR.of (intagliolaw14_awake_calls R w ?_) fun _ _ h => h
  refine ⟨by decide, Nw.gen fun w1 hw1 => ?_⟩
  have h1 : Blk w1 w.heap.size 40 [.slice none 0 0, .slice none 0 0, .slice none 0 0] := by rw [hw1]; exact Blk.made w _ _ 3
  have b1 : Below w.heap.size w w1 := by rw [hw1]; exact (Below.refl _ _).alloc (Nat.le_refl _) _
  have z1 : w1.heap.size = w.heap.size + 1 := by rw [hw1]; simp
  refine pair_spec fun w2 b2 z2 p2 i2 => ⟨⟨_, 2, 2⟩, rfl, by decide, ?_⟩
  have h2 := h1.below b2
  refine ⟨h2.wr (n := 0) (by simp), Nw.gen fun w3 hw3 => ?_⟩
  have h3 : Blk w3 w.heap.size 40 [.slice (some (blk w1.heap.size)) 2 2, .slice none 0 0, .slice none 0 0] := by rw [hw3]; exact h2.set 0 _
  have p3 : Blk w3 w1.heap.size 3 [.int .i64 2, .int .i64 1] := by rw [hw3]; exact p2.other (by rw [add_block]; simp; omega) _
  have b3 : Below w.heap.size w w3 := by rw [hw3]; exact (b1.trans (b2.mono (by omega))).setCell (by rw [add_block]; exact Nat.le_refl _) _
  have z3 : w3.heap.size = w.heap.size + 2 := by rw [hw3]; simp [World.setCell]; omega
  refine pair_spec fun w4 b4 z4 p4 i4 => ⟨⟨_, 2, 2⟩, rfl, by decide, ?_⟩
  have h4 := h3.below b4
  refine ⟨h4.wr (n := 2) (by simp), Nw.gen fun w5 hw5 => ?_⟩
  have h5 : Blk w5 w.heap.size 40 [.slice (some (blk w1.heap.size)) 2 2, .slice none 0 0, .slice (some (blk w3.heap.size)) 2 2] := by rw [hw5]; exact h4.set 2 _
  have p5 : Blk w5 w1.heap.size 3 [.int .i64 2, .int .i64 1] := by rw [hw5]; exact (p3.below b4).other (by rw [add_block]; simp; omega) _
  have q5 : Blk w5 w3.heap.size 3 [.int .i64 0, .int .i64 2] := by rw [hw5]; exact p4.other (by rw [add_block]; simp; omega) _
  have b5 : Below w.heap.size w w5 := by rw [hw5]; exact (b3.trans (b4.mono (by omega))).setCell (by rw [add_block]; exact Nat.le_refl _) _
  have hin : IsII w5 ⟨some (blk w.heap.size), 3, 3⟩ [⟨some (blk w1.heap.size), 2, 2⟩, ⟨none, 0, 0⟩, ⟨some (blk w3.heap.size), 2, 2⟩] [[2, 1], [], [0, 2]] := by
    refine ⟨Blk.isS (f := Sl.val) h5 rfl rfl (Nat.le_refl _) (show 3 ≤ 9223372036854775807 by decide), rfl, fun i hi _ => ?_⟩
    match i, hi with
    | 0, _ => exact Blk.isS (f := Value.int .i64) (l := [2, 1]) p5 rfl rfl (Nat.le_refl _) (show 2 ≤ 9223372036854775807 by decide)
    | 1, _ => exact ⟨rfl, Nat.le_refl _, show 0 ≤ 9223372036854775807 by decide, fun _ => rfl, fun _ h => by cases h⟩
    | 2, _ => exact Blk.isS (f := Value.int .i64) (l := [0, 2]) q5 rfl rfl (Nat.le_refl _) (show 2 ≤ 9223372036854775807 by decide)
  have hGood : Good [[2, 1], [], [0, 2]] := by unfold Good; decide +kernel
  refine graph_Of_spec (s := ⟨some (blk w.heap.size), 3, 3⟩) hin (fun h => absurd h (by simp)) (fun h => absurd h (by simp)) (fun _ _ h => absurd hGood h) fun _ _ hG w6 gb b6 _ hg => ?_
  have hx : NxOk (edges [[2, 1], [], [0, 2]]) := edges_ok (by decide) (by decide) hG
  have hb6 : Below w.heap.size w w6 := b5.trans (b6.mono b5.size)
  refine ⟨_, _, rfl, ifB_true rfl ?_⟩
  refine gLen_spec hg ⟨_, rfl, ifB_true (by decide +kernel) ?_⟩
  refine Next_spec hx hg fun r8 w8 o8 f8 b8 => ⟨r8, rfl, ?_⟩
  refine pair_spec fun w9 b9 _ _ i9 => ⟨⟨_, 2, 2⟩, rfl, ?_⟩
  have e8 : (rowAt (edges [[2, 1], [], [0, 2]]) 0) = [2, 1] := by decide +kernel
  rw [e8] at o8
  refine Ints_spec (IsS.toI (Own.isS (o8.below b9))) i9 fun w10 _ b10 => ⟨_, rfl, ifB_true (by decide +kernel) ?_⟩
  have hb10 : Below w6.heap.size w6 w10 := b8.trans ((b9.mono b8.size).trans (b10.mono (by have := b8.size; have := b9.size; omega)))
  have hg10 := hg.below hb10
  refine Ahead_spec hx hg10 fun r11 w11 o11 f11 b11 => ⟨r11, rfl, ?_⟩
  refine pair_spec fun w12 b12 _ _ i12 => ⟨⟨_, 2, 2⟩, rfl, ?_⟩
  have e11 : (rowAt (aheadOf (edges [[2, 1], [], [0, 2]])) 2) = [0, 2] := by decide +kernel
  rw [e11] at o11
  refine Ints_spec (IsS.toI (Own.isS (o11.below b12))) i12 fun w13 _ b13 => ⟨_, rfl, ifB_true (by decide +kernel) ?_⟩
  have hb13 : Below w10.heap.size w10 w13 := b11.trans ((b12.mono b11.size).trans (b13.mono (by have := b11.size; have := b12.size; omega)))
  have hg13 := hg10.below hb13
  refine Reached_spec hx hg13 ⟨_, rfl, ifB_true (by decide +kernel) ?_⟩
  refine Order_spec hx hg13 fun r15 w15 o15 f15 b15 => ⟨r15, rfl, ?_⟩
  have e15 : orderOf (edges [[2, 1], [], [0, 2]]) = [0, 1, 2] := by decide +kernel
  have hl := own_len o15
  rw [e15] at hl
  rw [hl]
  refine hR w15 (hb6.trans ((hb10.mono hb6.size).trans ((hb13.mono ?_).trans (b15.mono ?_))))
  · have := hb6.size; have := hb10.size; omega
  · have := hb6.size; have := hb10.size; have := hb13.size; omega

/-- What copied makes: the headers' block B, behind it a block for each of the first m rows. -/
structure Cop (w : World) (B n m : Nat) (row : Nat → List Int) : Prop where
  le : m ≤ n
  head : Blk w B 40 ((List.range n).map fun i => if i < m then .slice (some (blk (B + 1 + i))) (row i).length (row i).length else .slice none 0 0)
  rows : ∀ i, i < m → Blk w (B + 1 + i) 3 ((row i).map (Value.int .i64))
theorem Cop.below {w w' : World} {B n m : Nat} {row : Nat → List Int} (h : Cop w B n m row) (hb : Below w.heap.size w w') : Cop w' B n m row :=
  ⟨h.le, h.head.below hb, fun i hi => (h.rows i hi).below hb⟩
/-- Its slices. -/
abbrev copS (B n m : Nat) (row : Nat → List Int) : List Sl := (List.range n).map fun i => if i < m then ⟨some (blk (B + 1 + i)), (row i).length, (row i).length⟩ else ⟨none, 0, 0⟩
abbrev copL (n m : Nat) (row : Nat → List Int) : List (List Int) := (List.range n).map fun i => if i < m then row i else []
theorem Cop.isII {w : World} {B n m : Nat} {row : Nat → List Int} (h : Cop w B n m row) (hn : n ≤ 9223372036854775807) (hr : ∀ i, i < m → (row i).length ≤ 9223372036854775807) :
    IsII w ⟨some (blk B), n, n⟩ (copS B n m row) (copL n m row) := by
  have hh : Blk w B 40 ((copS B n m row).map Sl.val) := by
    have e : (copS B n m row).map Sl.val = (List.range n).map fun i => if i < m then .slice (some (blk (B + 1 + i))) (row i).length (row i).length else .slice none 0 0 := by
      rw [List.map_map]
      refine List.map_congr_left fun i _ => ?_
      simp only [Function.comp_apply, Sl.val]
      split <;> rfl
    rw [e]; exact h.head
  refine ⟨Blk.isS (f := Sl.val) hh rfl (by simp) (Nat.le_refl _) hn, by simp, fun i hi hi' => ?_⟩
  simp only [List.getElem_map, List.getElem_range]
  by_cases him : i < m
  · rw [if_pos him, if_pos him]
    exact Blk.isS (f := Value.int .i64) (h.rows i him) rfl rfl (Nat.le_refl _) (hr i him)
  · rw [if_neg him, if_neg him]
    exact ⟨rfl, Nat.le_refl _, by decide, fun _ => rfl, fun _ h => by cases h⟩

end Go.Proofs

/-!
  Contract of copied.
-/
namespace Go.Proofs
open Go.Gk Go.RowKit Go.Gr

theorem Cop.congr {w : World} {B n m : Nat} {row row' : Nat → List Int} (h : Cop w B n m row) (e : ∀ i, i < m → row i = row' i) : Cop w B n m row' := by
  refine ⟨h.le, ?_, fun i hi => by rw [← e i hi]; exact h.rows i hi⟩
  have : ((List.range n).map fun i => if i < m then Value.slice (some (blk (B + 1 + i))) (row' i).length (row' i).length else .slice none 0 0) = (List.range n).map fun i => if i < m then Value.slice (some (blk (B + 1 + i))) (row i).length (row i).length else .slice none 0 0 := by
    refine List.map_congr_left fun i _ => ?_
    split
    · rename_i hi; rw [e i hi]
    · rfl
  rw [this]; exact h.head
theorem Cop.hd {w : World} {B n m : Nat} {row : Nat → List Int} (h : Cop w B n m row) {i : Nat} (hi : i < m) {φ : Sl → Prop} (hφ : φ ⟨some (blk (B + 1 + i)), (row i).length, (row i).length⟩) : ldS w ((blk B).add i) φ := by
  refine ⟨⟨some (blk (B + 1 + i)), (row i).length, (row i).length⟩, h.head.cell ?_, hφ⟩
  have := h.le
  rw [List.getElem?_map, List.getElem?_range (by omega)]
  simp [hi]
theorem Cop.store {w : World} {B n m : Nat} {row : Nat → List Int} (h : Cop w B n m row) {i k : Nat} (hi : i < m) (x : Int) :
    Cop (w.setCell ((blk (B + 1 + i)).add k) (.int .i64 x)) B n m fun j => if j = i then (row i).set k x else row j := by
  refine ⟨h.le, ?_, fun j hj => ?_⟩
  · have : ((List.range n).map fun j => if j < m then Value.slice (some (blk (B + 1 + j))) (if j = i then (row i).set k x else row j).length (if j = i then (row i).set k x else row j).length else .slice none 0 0) = (List.range n).map fun i => if i < m then Value.slice (some (blk (B + 1 + i))) (row i).length (row i).length else .slice none 0 0 := by
      refine List.map_congr_left fun j _ => ?_
      by_cases hj : j = i
      · subst hj; simp
      · simp [hj]
    rw [this]
    exact h.head.other (by rw [add_block]; show B ≠ B + 1 + i; omega) _
  · by_cases e : j = i
    · subst e
      rw [if_pos rfl, List.map_set]
      exact (h.rows j hj).set k _
    · rw [if_neg e]
      exact (h.rows j hj).other (by rw [add_block]; show B + 1 + j ≠ B + 1 + i; omega) _
theorem Cop.wr {w : World} {B n m : Nat} {row : Nat → List Int} (h : Cop w B n m row) {i k : Nat} (hi : i < m) (hk : k < (row i).length) : Wr w ((blk (B + 1 + i)).add k) := (h.rows i hi).wr (by rw [List.length_map]; exact hk)
theorem Cop.grow {w : World} {B n m : Nat} {row : Nat → List Int} (h : Cop w B n m row) (hm : m < n) (hz : w.heap.size = B + 1 + m) (c : Nat) :
    Cop ((w.alloc (.cells (madeCells #[(.int .i64 (0 : Int))] (c * 1)) 3)).setCell ((blk B).add m) (.slice (some (blk w.heap.size)) c c)) B n (m + 1) fun j => if j = m then List.replicate c 0 else row j := by
  have hnew := Blk.made w 3 (.int .i64 (0 : Int)) c
  refine ⟨hm, ?_, fun j hj => ?_⟩
  · have := (h.head.alloc (.cells (madeCells #[(.int .i64 (0 : Int))] (c * 1)) 3)).set m (.slice (some (blk w.heap.size)) c c)
    have e : (((List.range n).map fun i => if i < m then Value.slice (some (blk (B + 1 + i))) (row i).length (row i).length else .slice none 0 0).set m (.slice (some (blk w.heap.size)) c c)) =
        (List.range n).map fun j => if j < m + 1 then Value.slice (some (blk (B + 1 + j))) (if j = m then List.replicate c (0 : Int) else row j).length (if j = m then List.replicate c (0 : Int) else row j).length else .slice none 0 0 := by
      apply List.ext_getElem
      · simp
      · intro j g1 g2
        have hj : j < n := by simpa using g2
        by_cases e : j = m
        · subst e
          rw [List.getElem_set_self]
          simp only [List.getElem_map, List.getElem_range]
          rw [if_pos (Nat.lt_succ_self j), if_pos trivial, List.length_replicate, hz]
        · rw [List.getElem_set_ne (by omega)]
          simp only [List.getElem_map, List.getElem_range]
          by_cases hj : j < m
          · rw [if_pos hj, if_pos (by omega), if_neg e]
          · rw [if_neg hj, if_neg (by omega)]
    rw [e] at this
    exact this
  · by_cases e : j = m
    · subst e
      rw [if_pos rfl, List.map_replicate, ← hz]
      exact hnew.other (by rw [add_block]; show w.heap.size ≠ B; omega) _
    · rw [if_neg e]
      exact ((h.rows j (by omega)).alloc _).other (by rw [add_block]; show B + 1 + j ≠ B; omega) _

end Go.Proofs

/-!
  The statement GraphEdges.
-/
namespace Go.Proofs
open Go.Gk Go.RowKit Go.Gr

theorem own_take {α : Type} {f : α → Value} {w : World} {T : TypeId} {s : Sl} {l : List α} (h : Own w T 1 s (l.map f)) {k : Nat} (hk : k ≤ l.length) :
    IsS f w ⟨if s.c = 0 then s.a else Option.map (fun a => a.add 0) s.a, k - 0, s.c - 0⟩ (l.take k) := by
  have hS := h.isS
  have e : (if s.c = 0 then s.a else Option.map (fun a => a.add 0) s.a) = s.a := by
    split
    · rfl
    · cases hs : s.a with
      | none => rfl
      | some a => rw [Option.map_some, (h.lt hs).1, add_blk]
  rw [e]
  refine ⟨?_, ?_, ?_, hS.nil, fun a ha i hi => ?_⟩
  · show k - 0 = _; rw [List.length_take]; omega
  · show k - 0 ≤ s.c - 0; have := hS.cap; have := hS.len; omega
  · show s.c - 0 ≤ _; have := hS.max; omega
  · have hi' : i < l.length := by rw [List.length_take] at hi; omega
    rw [List.getElem_take]
    exact hS.cell a ha i hi'
theorem containsN (l : List Nat) (x : Nat) : (l.map fun (x : Nat) => (x : Int)).contains (x : Int) = l.contains x := by
  rw [Bool.eq_iff_iff]
  simp only [List.contains_iff_mem, List.mem_map]
  exact ⟨fun ⟨y, hy, e⟩ => by rw [show x = y by omega]; exact hy, fun h => ⟨x, h, rfl⟩⟩
theorem copL_all (ll : List (List Int)) : copL ll.length ll.length (fun i => ll.getD i []) = ll := by
  apply List.ext_getElem
  · simp
  · intro i g1 g2
    simp only [List.getElem_map, List.getElem_range]
    rw [if_pos g2]
    simp [List.getD, g2]
theorem edge_iff {nx : List (List Nat)} (hx : NxOk nx) {i j : Nat} : i ∈ (aheadOf nx).getD j [] ↔ j ∈ nx.getD i [] := by
  by_cases hj : j < nx.length
  · rw [ahead_getD hj, List.mem_filter, List.mem_range, List.contains_iff_mem]
    refine ⟨fun h => h.2, fun h => ⟨?_, h⟩⟩
    by_cases hi : i < nx.length
    · exact hi
    · simp [List.getD, hi] at h
  · constructor
    · intro h; simp [List.getD, ahead_length, hj] at h
    · intro h; exact absurd (hx.rows i j h) hj
theorem ahead_rise {nx : List (List Nat)} {j k : Nat} (h : k + 1 < ((aheadOf nx).getD j []).length) : ((aheadOf nx).getD j [])[k]'(by omega) < ((aheadOf nx).getD j [])[k + 1] := by
  have hp : ((aheadOf nx).getD j []).Pairwise (· < ·) := by
    by_cases hj : j < nx.length
    · rw [ahead_getD hj]; exact List.Pairwise.filter _ List.pairwise_lt_range
    · simp [List.getD, ahead_length, hj]
  exact List.pairwise_iff_getElem.1 hp k (k + 1) (by omega) h (by omega)
theorem nodup_take {l : List Nat} (h : l.Nodup) {k : Nat} (hk : k < l.length) : (l.take k).contains l[k] = false := by
  rw [← Bool.not_eq_true, List.contains_iff_mem]
  intro hm
  obtain ⟨j, hj, e⟩ := List.mem_iff_getElem.1 hm
  rw [List.getElem_take] at e
  have hj' : j < k := by rw [List.length_take] at hj; omega
  have := List.pairwise_iff_getElem.1 h j k (by omega) hk hj'
  exact this e

end Go.Proofs
