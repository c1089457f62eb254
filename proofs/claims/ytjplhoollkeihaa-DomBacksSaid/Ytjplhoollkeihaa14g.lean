/-
  Contract of graph.Of.
-/
import Derived.Test.Ytjplhoollkeihaa14f
namespace Go.Proofs
open Go.Gk Go.RowKit Go.Gr

theorem makeOk {n : Nat} {b : Int} (hb : b = 24 ∨ b = 8 ∨ b = 1) (h : n ≤ 4096) : (0 ≤ (n : Int) ∧ (n : Int) ≤ (n : Int) ∧ b * (n : Int) ≤ 281474976710656 ∧ (n : Int) ≤ 9223372036854775807) := by
  rcases hb with rfl | rfl | rfl <;> omega

theorem elemS_n {w : World} {s : Sl} {hs : List Sl} (h : IsS Sl.val w s hs) {n : Nat} (hn : s.l = n) {k : Nat} (hk : k < hs.length) {φ : Sl → Prop} (hφ : φ hs[k]) :
    (0 ≤ (k : Int) ∧ (k : Int) < (n : Int)) ∧ derefP s.a fun a => ldS w (a.add (Int.toNat (k : Int))) φ := by
  subst hn; exact elemS h hk hφ
/-- The input's rows as nodes. -/
abbrev natRows (ll : List (List Int)) : List (List Nat) := ll.map fun l => l.map Int.toNat
theorem natRows_getD (ll : List (List Int)) (i : Nat) (hi : i < ll.length) : (natRows ll).getD i [] = (ll[i]).map Int.toNat := by simp [natRows, List.getD, hi]
/-- All edges lead to nodes. -/
def Good (ll : List (List Int)) : Prop := ∀ l ∈ ll, ∀ x ∈ l, 0 ≤ x ∧ x < (ll.length : Int)
/-- The edges that the graph has. -/
abbrev edges (ll : List (List Int)) : List (List Nat) := (natRows ll).map dedup

theorem ahead_replicate (n : Nat) : aheadOf (List.replicate n ([] : List Nat)) = List.replicate n [] := by
  apply List.ext_getElem
  · simp [aheadOf]
  · intro j g1 g2
    simp only [aheadOf, List.getElem_map, List.getElem_range, List.getElem_replicate]
    rw [List.filter_eq_nil_iff]
    intro a ha
    have ha := List.mem_range.1 ha
    simp only [List.length_replicate] at ha
    simp [List.getD, ha]
theorem nxP_zero' (ll : List (List Int)) : nxP (natRows ll) 0 0 = List.replicate ll.length [] := by
  rw [nxP_zero]; simp [natRows]

set_option maxHeartbeats 1000000 in
theorem graph_Of_spec {s : Sl} {hs : List Sl} {ll : List (List Int)} {w : World} {R : Value → World → Prop} (h : IsII w s hs ll)
    (h2 : ll.length = 0 → R (.tuple #[.pointer none, .int .i64 2]) w)
    (h4 : 4096 < ll.length → R (.tuple #[.pointer none, .int .i64 4]) w)
    (hbad : 0 < ll.length → ll.length ≤ 4096 → ¬ Good ll → ∀ w', Below w.heap.size w w' → R (.tuple #[.pointer none, .int .i64 141]) w')
    (hok : 0 < ll.length → ll.length ≤ 4096 → Good ll → ∀ w' gb, Below w.heap.size w w' → IsGB w' w.heap.size gb (edges ll) → IsG w' gb (edges ll) → R (.tuple #[.pointer (some (blk gb)), .int .i64 0]) w') :
    callR Try.prog 28 #[.slice s.a s.l s.c] w R := by
  refine callR.of (graph_Of_calls s R w ?_) fun _ _ h => h
  have hsl : s.l = hs.length := h.top.len
  have hhl : hs.length = ll.length := h.len
  have hn : s.l = ll.length := by omega
  unfold L_graph_Of
  rw [hn]
  refine ifB_beq (fun he => h2 (by omega)) (fun hne => ifB_dec (fun hgt => h4 (by omega)) (fun hle => ?_))
  have hn0 : 0 < ll.length := by omega
  have hn1 : ll.length ≤ 4096 := by omega
  -- the memory is made, in either order
  refine JoinW.cut (fun st w7 => ∃ gb bn ba, st = (some (blk gb), ()) ∧ OS w gb bn ba ll.length w7 (nxP (natRows ll) 0 0)) ⟨?_, ?_⟩ ?_
  · refine ⟨makeOk (.inl rfl) hn1, Nw.gen fun w1 hw1 => ⟨makeOk (.inl rfl) hn1, Nw.gen fun w2 hw2 => Nw.gen fun w3 hw3 => ⟨w2.heap.size, w.heap.size, w1.heap.size, rfl, ?_⟩⟩⟩
    have hz1 : w1.heap.size = w.heap.size + 1 := by rw [hw1]; simp
    have hz2 : w2.heap.size = w.heap.size + 2 := by rw [hw2]; simp; omega
    have b1 : Blk w1 w.heap.size 32 (List.replicate ll.length (.slice none 0 0)) := by rw [hw1]; exact Blk.made w.drew _ _ _
    have b2 : Blk w2 w1.heap.size 32 (List.replicate ll.length (.slice none 0 0)) := by rw [hw2]; exact Blk.made w1 _ _ _
    have b1' : Blk w3 w.heap.size 32 (List.replicate ll.length (.slice none 0 0)) := by rw [hw3, hw2]; exact (b1.alloc _).alloc _
    have b2' : Blk w3 w1.heap.size 32 (List.replicate ll.length (.slice none 0 0)) := by rw [hw3]; exact b2.alloc _
    have hg : Blk w3 w2.heap.size 118 (gCells ⟨some (blk w.heap.size), ll.length, ll.length⟩ ⟨some (blk w1.heap.size), ll.length, ll.length⟩ ⟨none, 0, 0⟩ ⟨none, 0, 0⟩ (List.replicate 64 (.int .u64 (0 : Int)))) := by
      rw [hw3]; exact Blk.new w2 _ _
    refine ⟨?_, by rw [nxP_zero']; simp, hg, by omega, Nat.le_refl _, by omega, by omega, List.replicate ll.length ⟨none, 0, 0⟩, List.replicate ll.length ⟨none, 0, 0⟩, fun _ => 0, by rw [nxP_zero']; exact Fam.new _ w3 _ _ _ _ b1', by rw [nxP_zero', ahead_replicate]; exact Fam.new _ w3 _ _ _ _ b2'⟩
    · rw [hw3, hw2, hw1]; exact (((Below.refl _ _).drew.alloc (by simp) _).alloc (by simp) _).alloc (by simp; omega) _
  · refine ⟨makeOk (.inl rfl) hn1, Nw.gen fun w1 hw1 => ⟨makeOk (.inl rfl) hn1, Nw.gen fun w2 hw2 => Nw.gen fun w3 hw3 => ⟨w2.heap.size, w1.heap.size, w.heap.size, rfl, ?_⟩⟩⟩
    have hz1 : w1.heap.size = w.heap.size + 1 := by rw [hw1]; simp
    have hz2 : w2.heap.size = w.heap.size + 2 := by rw [hw2]; simp; omega
    have b1 : Blk w1 w.heap.size 32 (List.replicate ll.length (.slice none 0 0)) := by rw [hw1]; exact Blk.made w.drew _ _ _
    have b2 : Blk w2 w1.heap.size 32 (List.replicate ll.length (.slice none 0 0)) := by rw [hw2]; exact Blk.made w1 _ _ _
    have b1' : Blk w3 w.heap.size 32 (List.replicate ll.length (.slice none 0 0)) := by rw [hw3, hw2]; exact (b1.alloc _).alloc _
    have b2' : Blk w3 w1.heap.size 32 (List.replicate ll.length (.slice none 0 0)) := by rw [hw3]; exact b2.alloc _
    have hg : Blk w3 w2.heap.size 118 (gCells ⟨some (blk w1.heap.size), ll.length, ll.length⟩ ⟨some (blk w.heap.size), ll.length, ll.length⟩ ⟨none, 0, 0⟩ ⟨none, 0, 0⟩ (List.replicate 64 (.int .u64 (0 : Int)))) := by
      rw [hw3]; exact Blk.new w2 _ _
    refine ⟨?_, by rw [nxP_zero']; simp, hg, by omega, by omega, Nat.le_refl _, by omega, List.replicate ll.length ⟨none, 0, 0⟩, List.replicate ll.length ⟨none, 0, 0⟩, fun _ => 0, by rw [nxP_zero']; exact Fam.new _ w3 _ _ _ _ b2', by rw [nxP_zero', ahead_replicate]; exact Fam.new _ w3 _ _ _ _ b1'⟩
    · rw [hw3, hw2, hw1]; exact (((Below.refl _ _).drew.alloc (by simp) _).alloc (by simp) _).alloc (by simp; omega) _
  rintro _ w7 ⟨gb, bn, ba, rfl, hos⟩
  have hrl : (natRows ll).length = ll.length := by simp [natRows]
  -- row by row
  refine LoopW.count ll.length (by omega) (fun i w' => OS w gb bn ba ll.length w' (nxP (natRows ll) i 0) ∧ ∀ j, j < i → ∀ (hj : j < ll.length), ∀ x ∈ ll[j], 0 ≤ x ∧ x < (ll.length : Int)) ⟨hos, fun j hj => by omega⟩ ?_
  rintro i w8 hi ⟨hos8, hgood⟩ next hnext
  refine ifB_dec (fun hlt => ?_) (fun hge => ?_)
  · have hlt : i < ll.length := by dsimp only at hlt; omega
    have hin := h.below (w' := w8) (hos8.below.mono (Nat.le_refl _))
    refine elemS_n hin.top hn (k := i) (by omega) ?_
    refine Nw.gen fun w9 hw9 => ?_
    have hb9 : Below w8.heap.size w8 w9 := by rw [hw9]; exact (Below.refl _ _).alloc (Nat.le_refl _) _
    have hbits9 : Bits w9 (blk w8.heap.size) fun _ => false := by rw [hw9]; exact Bits.new w8 _
    have hB9 : Blk w9 w8.heap.size 116 (List.replicate 64 (.int .u64 (0 : Int))) := by rw [hw9]; exact Blk.new w8 _ _
    have hos9 := hos8.grown hb9
    have hsbB : w.heap.size ≤ w8.heap.size := hos8.below.size
    have hrow : ∀ {w' : World}, Below w.heap.size w w' → IsI w' (hs[i]'(by omega)) ll[i] := fun hb => (h.below hb).row i (by omega) hlt
    have hrn : (hs[i]'(by omega)).l = (ll[i]).length := (hrow hos9.below).len
    have hgd := natRows_getD ll i hlt
    clear hw9 hin
    -- edge by edge
    refine LoopW.count (ll[i]).length (hrow hos9.below).bound (fun k w' => OS w gb bn ba ll.length w' (nxP (natRows ll) i k) ∧ (∃ cs, Blk w' w8.heap.size 116 cs) ∧ Bits w' (blk w8.heap.size) (fun j => ((nxP (natRows ll) i k).getD i []).contains j) ∧
      ∀ j, j < k → ∀ (hj : j < (ll[i]).length), 0 ≤ ll[i][j] ∧ ll[i][j] < (ll.length : Int)) ⟨hos9, ⟨_, hB9⟩, ?_, fun j hj => by omega⟩ ?_
    · have e : (nxP (natRows ll) i 0).getD i [] = [] := by rw [nxP_getD (by omega)]; simp [dedup]
      rw [e]; simpa using hbits9
    rintro k w10 hk ⟨hos10, ⟨cs10, hB10⟩, hbits10, hgood10⟩ nxt hnxt
    refine ifB_dec (fun hltk => ?_) (fun hgek => ?_)
    · have hltk : k < (ll[i]).length := by dsimp only at hltk; omega
      refine JoinW.cut (fun _ w' => OS w gb bn ba ll.length w' (nxP (natRows ll) i (k + 1)) ∧ (∃ cs, Blk w' w8.heap.size 116 cs) ∧ Bits w' (blk w8.heap.size) (fun j => ((nxP (natRows ll) i (k + 1)).getD i []).contains j) ∧
        0 ≤ ll[i][k] ∧ ll[i][k] < (ll.length : Int)) ?_ fun _ w' hh => hnxt w' hltk ⟨hh.1, hh.2.1, hh.2.2.1, fun j hj hjl => by
          by_cases e : j = k
          · subst e; exact hh.2.2.2
          · exact hgood10 j (by omega) hjl⟩
      refine elemI (hrow hos10.below) hltk ?_
      have bad : ¬ (0 ≤ ll[i][k] ∧ ll[i][k] < (ll.length : Int)) → R (.tuple #[.pointer none, .int .i64 141]) w10 := fun hx =>
        hbad hn0 hn1 (fun hG => hx (hG _ (List.getElem_mem hlt) _ (List.getElem_mem hltk))) w10 hos10.below
      refine JoinW.cut (fun _ w' => w' = w10 ∧ 0 ≤ ll[i][k] ∧ ll[i][k] < (ll.length : Int)) (ifB_dec (fun hx => bad (by omega)) (fun hx => ifB_dec (fun hx' => bad (by omega)) (fun hx' => ⟨rfl, by omega, by omega⟩))) ?_
      rintro _ wx ⟨ewx, hx0, hx1⟩
      subst wx
      obtain ⟨x, hx⟩ := Int.eq_ofNat_of_zero_le hx0
      have hxn : x < ll.length := by omega
      have hrk : k < ((natRows ll).getD i []).length := by rw [hgd]; simpa using hltk
      have hrx : ((natRows ll).getD i [])[k] = x := by
        have : ((natRows ll).getD i [])[k] = (ll[i][k]).toNat := (List.getElem_of_eq hgd hrk).trans (List.getElem_map _)
        rw [this, hx]; rfl
      rw [hx]
      refine has_spec (i := x) (by omega) hbits10 ⟨_, rfl, ifB_not ?_⟩
      refine ifB_bool (fun hc => ?_) (fun hc => ?_)
      · have hskip := nxP_skip (rows := natRows ll) (i := i) (k := k) (by omega) hrk (by rw [hrx]; exact hc)
        rw [hskip]
        exact ⟨hos10, ⟨_, hB10⟩, hbits10, by omega, by omega⟩
      · have hpush := nxP_push (rows := natRows ll) (i := i) (k := k) (by omega) hrk (by rw [hrx]; exact hc)
        rw [hrx] at hpush
        refine add_spec (i := x) (by omega) hbits10 fun v hbits11 => ⟨rfl, ?_⟩
        generalize hw11 : w10.drew.setCell ((blk w8.heap.size).add (x / 64)) (.int .u64 (v : Int)) = w11 at hbits11 ⊢
        obtain ⟨cs11, hB11⟩ : ∃ cs, Blk w11 w8.heap.size 116 cs := by rw [← hw11]; exact ⟨_, hB10.drew.set _ _⟩
        have hos11 : OS w gb bn ba ll.length w11 (nxP (natRows ll) i k) := by
          obtain ⟨o1, o2, o3, o4, o5, o6, o7, hn', ha', ow, f1, f2⟩ := hos10
          have hne3 : gb ≠ w8.heap.size := o3.apart hB10 (by decide)
          have hne1 : w8.heap.size ≠ bn := hB10.apart f1.head (by decide)
          have hne2 : w8.heap.size ≠ ba := hB10.apart f2.head (by decide)
          rw [← hw11]
          exact ⟨o1.drew.setCell (by rw [add_block]; exact hsbB) _, o2, o3.drew.other (by rw [add_block]; exact hne3) _, o4, o5, o6, o7, hn', ha', ow,
            (f1.grown (w' := _) (Below.refl _ _).drew).set_other (hB10.drew) hne1 (by decide) _ _, (f2.grown (w' := _) (Below.refl _ _).drew).set_other (hB10.drew) hne2 (by decide) _ _⟩
        have hlen : ((nxP (natRows ll) i k).getD i []).length ≤ ll.length := by
          rw [nxP_getD (by omega), if_neg (by omega), if_pos rfl, hgd]
          refine dedup_le fun y hy => ?_
          obtain ⟨j, hj, rfl⟩ := List.mem_iff_getElem.1 hy
          have hj' : j < k ∧ j < (ll[i]).length := by simp at hj; omega
          have := hgood10 j hj'.1 hj'.2
          simp only [List.getElem_take, List.getElem_map]
          omega
        have hgt : ∀ j, i < j → (nxP (natRows ll) i k).getD j [] = [] := fun j hj => by
          by_cases hjn : j < (natRows ll).length
          · rw [nxP_getD hjn, if_neg (by omega), if_neg (by omega)]
          · rw [List.getD_eq_getElem?_getD, List.getElem?_eq_none (by rw [nxP_length]; omega)]; rfl
        refine push_step hos11 hlt hxn hn1 (by omega) (by have := ahead_le (nxP (natRows ll) i k) x; rw [nxP_length] at this; omega) hc hgt (by decide) (by decide) hB11 fun w' hos' hB' => ?_
        rw [hpush]
        refine ⟨hos', ⟨_, hB'⟩, ?_, by omega, by omega⟩
        have e : ∀ j, (((nxP (natRows ll) i k).set i ((nxP (natRows ll) i k).getD i [] ++ [x])).getD i []).contains j = (((nxP (natRows ll) i k).getD i []).contains j || j == x) := by
          intro j
          have : ((nxP (natRows ll) i k).set i ((nxP (natRows ll) i k).getD i [] ++ [x])).getD i [] = (nxP (natRows ll) i k).getD i [] ++ [x] := by simp [List.getD, nxP_length, hlt]
          rw [this, Bool.eq_iff_iff]
          simp
        have hbits' : Bits w' (blk w8.heap.size) (fun j => ((nxP (natRows ll) i k).getD i []).contains j || j == x) :=
          hbits11.of_block ((show w'.heap[w8.heap.size]? = _ from hB').trans (show w11.heap[w8.heap.size]? = _ from hB11).symm)
        simpa only [e] using hbits'
    · have hkk : k = (ll[i]).length := by dsimp only at hgek; omega
      subst hkk
      refine hnext w10 hlt ⟨?_, fun j hj hjl x hx => ?_⟩
      · have := nxP_next (natRows ll) i
        rw [hgd, List.length_map] at this
        rw [← this]
        exact hos10
      · by_cases e : j = i
        · subst e
          obtain ⟨m, hm, rfl⟩ := List.mem_iff_getElem.1 hx
          exact hgood10 m hm hm
        · exact hgood j (by omega) hjl x hx
  · -- the walk
    have hi' : i = ll.length := by dsimp only at hge; omega
    subst hi'
    have hG : Good ll := fun l hl x hx => by
      obtain ⟨j, hj, rfl⟩ := List.mem_iff_getElem.1 hl
      exact hgood j hj hj x hx
    have hnx : nxP (natRows ll) ll.length 0 = edges ll := by have := nxP_all (natRows ll); rwa [hrl] at this
    rw [hnx] at hos8
    obtain ⟨o1, o2, o3, o4, o5, o6, o7, hn', ha', ow, f1, f2⟩ := hos8
    have hl1 : hn'.length = ll.length := by rw [f1.len, o2]
    have hl2 : ha'.length = ll.length := by rw [f2.len, ahead_length, o2]
    have hrows : ∀ j, ∀ t ∈ (edges ll).getD j [], t < (edges ll).length := by
      intro j t ht
      by_cases hj : j < ll.length
      · have : (edges ll).getD j [] = dedup (ll[j].map Int.toNat) := by simp [edges, natRows, List.getD, hj]
        rw [this, mem_dedup] at ht
        obtain ⟨y, hy, rfl⟩ := List.mem_map.1 ht
        have := hG _ (List.getElem_mem hj) y hy
        simp [edges, natRows]
        omega
      · simp [edges, natRows, List.getD, hj] at ht
    refine walked_spec o3 (f1.isSS hl1 (by omega)) (f1.avoids o3 (by decide) (by decide)) (by rw [o2]; exact hn0) (by rw [o2]; exact hn1) hrows fun w' wk od bs hfr hGw hbits hwk hod hfw hfo => ⟨rfl, ?_⟩
    have hz := o1.size
    have gB : IsGB w' w.heap.size gb (edges ll) := by
      refine ⟨o4, _, _, wk, od, bs, hn', ha', hGw, ?_, ?_, hwk.isS, hod.isS, hbits, (fun a ha => by cases ha; exact o5), (fun a ha => by cases ha; exact o6), (fun a ha => by have := hfw a ha; omega), (fun a ha => by have := hfo a ha; omega), (fun i hi a ha => (f1.own i hi a ha).2), fun i hi a ha => (f2.own i hi a ha).2⟩
      · exact (f1.isSS hl1 (by omega)).fr hfr (Nat.le_refl _) (f1.avoids o3 (by decide) (by decide))
      · exact (f2.isSS hl2 (by omega)).fr hfr (Nat.le_refl _) (f2.avoids o3 (by decide) (by decide))
    refine hok hn0 hn1 hG w' gb ?_ gB gB.isG
    exact o1.trans ((hfr.mono (B' := w.heap.size) (X' := fun _ => False) o1.size (fun k hk e => by omega)).below)

end Go.Proofs
