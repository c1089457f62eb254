/-
  slices.Sort and slices.Compact at numbers of a graph.
-/
import Derived.Test.Ytjplhoollkeihaa15l
import Derived.Test.YtjplhoollkeihaaL15d
import Derived.Test.YtjplhoollkeihaaSo
import Derived.Shelf.Sort.Plain
import Derived.Shelf.Slices.In.SortNone
import Derived.Sort.OwnSortedInts
namespace Go.Proofs
open Go.Gk Go.RowKit Go.Gr Go.Dm

/-- A row, sorted. -/
def srt (n : Nat) (l : List Nat) : List Nat := (List.range n).filter fun k => l.contains k
theorem mem_srt {n : Nat} {l : List Nat} (hl : ∀ x ∈ l, x < n) {x : Nat} : x ∈ srt n l ↔ x ∈ l := by
  unfold srt
  rw [List.mem_filter, List.mem_range, List.contains_iff_mem]
  exact ⟨fun h => h.2, fun h => ⟨hl x h, h⟩⟩
theorem srt_lt (n : Nat) (l : List Nat) : (srt n l).Pairwise (· < ·) := List.Pairwise.filter _ List.pairwise_lt_range
theorem srt_sorted {n : Nat} {l : List Nat} (hnd : l.Nodup) (hl : ∀ x ∈ l, x < n) : ((l.map fun (x : Nat) => (x : Int)).mergeSort fun x y => decide (x ≤ y)) = (srt n l).map fun (x : Nat) => (x : Int) := by
  refine List.Perm.eq_of_pairwise (le := fun (x y : Int) => x ≤ y) (fun a b _ _ h1 h2 => Int.le_antisymm h1 h2) ?_ ?_ ?_
  · have := List.pairwise_mergeSort (le := fun (x y : Int) => decide (x ≤ y)) (fun a b c h1 h2 => by simp at *; omega) (fun a b => by simp; omega) (l.map fun (x : Nat) => (x : Int))
    exact this.imp fun h => by simpa using h
  · rw [List.pairwise_map]
    exact (srt_lt n l).imp fun h => by omega
  · refine (List.mergeSort_perm _ _).trans (List.Perm.map _ ?_)
    have h2 : (srt n l).Nodup := (srt_lt n l).imp fun h => Nat.ne_of_lt h
    exact (List.perm_ext_iff_of_nodup hnd h2).2 fun a => (mem_srt hl).symm

theorem Sort_spec {n : Nat} {l : List Nat} (hnd : l.Nodup) (hl : ∀ x ∈ l, x < n) (hn : l.length ≤ 4096) {r : Sl} {w : World} {R : Value → World → Prop} (h : Own w 3 1 r (l.map iN))
    (hR : ∀ w', Own w' 3 1 r ((srt n l).map iN) → (∀ B w0, Below B w0 w → B ≤ w.heap.size → Fresh B r → Below B w0 w') → R (.tuple #[]) w') : callR Try.prog 132 #[.slice r.a r.l r.c] w R := by
  have hrl := own_len h
  have hsl : (srt n l).length = l.length := by
    have := congrArg List.length (srt_sorted hnd hl)
    simpa using this.symm
  rcases Nat.eq_zero_or_pos l.length with e | e
  · have hl0 : l = [] := List.eq_nil_of_length_eq_zero e
    have hs0 : srt n l = [] := List.eq_nil_of_length_eq_zero (by omega)
    rw [show r.l = 0 by omega]
    refine Calls.mono (Any.slices_Sort_int_none Try.lays189 r.a r.c w) fun x w' hx => ?_
    obtain ⟨rfl, rfl⟩ := hx
    exact hR w' (by rw [hs0, ← hl0]; exact h) fun B w0 hb _ _ => hb
  · obtain ⟨hlen, hr⟩ := h
    rcases hr with rfl | ⟨g, cs, ha, hB, h1, h2, h3, h4⟩
    · simp at hrl; omega
    · obtain ⟨ra, rl, rc⟩ := r
      simp only at ha hrl h1 h2 h3 h4
      subst ha
      have hcs : cs.toArray.toList.take (l.map fun (x : Nat) => (x : Int)).length = (l.map fun (x : Nat) => (x : Int)).map (Value.int .i64) := by
        rw [List.length_map, List.map_map, ← hrl]
        have : cs.take (rl * 1) = l.map iN := h4
        rw [Nat.mul_one] at this
        exact this
      have hH := holds_of_blockI hB hcs
      have hc := Any.slices_Sort_int Try.lays189 g 0 rc (l.map fun (x : Nat) => (x : Int)) w hH hB.lt (by rw [List.length_map]; omega)
      rw [List.length_map, ← hrl] at hc
      refine Calls.mono hc fun x w' hx => ?_
      obtain ⟨rfl, m, os, rfl⟩ := hx
      rw [srt_sorted hnd hl]
      have hg := grownBy_sortedI (w := w) (g := g) (n := m) (os := os) ((srt n l).map fun (x : Nat) => (x : Int)).toArray
      have hh := heap_sortedI (n := m) (os := os) ((srt n l).map fun (x : Nat) => (x : Int)).toArray hB
      have htk := take_putCellsI cs.toArray ((srt n l).map fun (x : Nat) => (x : Int)) (by rw [List.length_map, hsl]; simp; omega)
      refine hR _ ?_ fun B w0 hb hBw hf => hb.trans (below_grown hg (hf _ rfl) hBw)
      refine ⟨by rw [List.length_map, hsl]; show l.length = rl * 1; omega, .inr ⟨g, (Sort.putCells (Value.int .i64) 0 ((srt n l).map fun (x : Nat) => (x : Int)).toArray cs.toArray).toList, rfl, ?_, h1, h2, ?_, ?_⟩⟩
      · show _ = some (Obj.cells (Sort.putCells (Value.int .i64) 0 ((srt n l).map fun (x : Nat) => (x : Int)).toArray cs.toArray).toList.toArray 3 (0, 0))
        rw [Array.toArray_toList]
        exact hh
      · simp [Sort.putCells]; omega
      · rw [List.length_map, hsl] at htk
        show List.take (rl * 1) _ = _
        rw [Nat.mul_one, hrl, htk, List.map_map]
        rfl

/-- slices.Compact, where nothing stands twice. -/
theorem Compact_spec {l : List Nat} (hl : l.Pairwise (· < ·)) (hn : l.length ≤ 4096) {r : Sl} {w : World} {R : Value → World → Prop} (h : Own w 3 1 r (l.map iN)) (hR : ∀ w', Below w.heap.size w w' → R (.slice r.a r.l r.c) w') :
    callR Try.prog 133 #[.slice r.a r.l r.c] w R := by
  refine callR.of (slices_Compact_sint_int_calls r R w ?_) fun _ _ h => h
  have hrl := own_len h
  refine ifB_dec (fun _ => hR w (Below.refl _ _)) fun h2 => ?_
  refine LoopW.ghost (fun j s w' => ∃ k : Nat, 1 ≤ k ∧ k ≤ l.length ∧ j = l.length - k ∧ s = ((k : Int), ()) ∧ Below w.heap.size w w') (l.length - 1) ⟨1, Nat.le_refl _, by omega, rfl, rfl, Below.refl _ _⟩ ?_
  rintro _ _ w1 ⟨k, hk1, hk, rfl, rfl, hb⟩ next hnext
  refine ifB_dec (fun hlt => ?_) (fun hge => hR w1 hb)
  have hlt : k < l.length := by dsimp only at hlt; omega
  have hd := (h.below hb).drew
  refine elemI hd.isS.toI (k := k) (by simpa using hlt) ?_
  rw [List.getElem_map]
  dsimp only
  rw [show IntKind.i64.wrap ((k : Int) - 1) = ((k - 1 : Nat) : Int) by rw [wrap64_in (by omega) (by omega)]; omega]
  refine elemI hd.isS.toI (k := k - 1) (by simp; omega) ?_
  rw [List.getElem_map]
  have := List.pairwise_iff_getElem.1 hl (k - 1) k (by omega) hlt (by omega)
  refine ifB_beq (fun he => absurd he (by omega)) fun _ => ?_
  rw [wrap64_succ (by omega)]
  exact hnext (l.length - (k + 1)) _ _ (by omega) ⟨k + 1, by omega, by omega, rfl, rfl, hb.drew⟩

end Go.Proofs
