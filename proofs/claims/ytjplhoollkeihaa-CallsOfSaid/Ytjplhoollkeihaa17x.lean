/-
  slices.Sort at whatever numbers; calls.sorted.
-/
import Derived.Test.Ytjplhoollkeihaa17w
import Derived.Test.YtjplhoollkeihaaSo
import Derived.Shelf.Sort.Plain
import Derived.Shelf.Slices.In.SortNone
import Derived.Sort.OwnSortedInts
namespace Go.Proofs
open Go.Gk Go.RowKit Go.Gr

theorem SortD_spec {l : List Nat} (hn : l.length < 4611686018427387904) {r : Sl} {w : World} {R : Value → World → Prop} (h : Own w 3 1 r (l.map iN))
    (hR : ∀ w', Own w' 3 1 r ((sortL l).map iN) → (∀ B w0, Below B w0 w → B ≤ w.heap.size → Fresh B r → Below B w0 w' ∧ B ≤ w'.heap.size) → R (.tuple #[]) w') : callR Try.prog 132 #[.slice r.a r.l r.c] w R := by
  have hrl := own_len h
  have hsl : (sortL l).length = l.length := (sortL_perm l).length_eq
  rcases Nat.eq_zero_or_pos l.length with e | e
  · have hl0 : l = [] := List.eq_nil_of_length_eq_zero e
    have hs0 : sortL l = [] := List.eq_nil_of_length_eq_zero (by omega)
    rw [show r.l = 0 by omega]
    refine Calls.mono (Any.slices_Sort_int_none Try.lays189 r.a r.c w) fun x w' hx => ?_
    obtain ⟨rfl, rfl⟩ := hx
    exact hR w' (by rw [hs0, ← hl0]; exact h) fun B w0 hb h1 _ => ⟨hb, h1⟩
  · obtain ⟨hlen, hr⟩ := h
    rcases hr with rfl | ⟨g, cs, ha, hB, h1, h2, h3, h4⟩
    · simp at hrl; omega
    · obtain ⟨ra, rl, rc⟩ := r
      simp only at ha hrl h1 h2 h3 h4
      subst ha
      have hcs : cs.toArray.toList.take (l.map fun (x : Nat) => (x : Int)).length = (l.map fun (x : Nat) => (x : Int)).map (Value.int .i64) := by
        rw [List.length_map, List.map_map, ← hrl]
        have : cs.take (rl * 1) = l.map iN := h4
        rw [Nat.mul_one] at this
        exact this
      have hH := holds_of_blockI hB hcs
      have hc := Any.slices_Sort_int Try.lays189 g 0 rc (l.map fun (x : Nat) => (x : Int)) w hH hB.lt (by rw [List.length_map]; omega)
      rw [List.length_map, ← hrl] at hc
      refine Calls.mono hc fun x w' hx => ?_
      obtain ⟨rfl, m, os, rfl⟩ := hx
      rw [sortL_int]
      have hg := grownBy_sortedI (w := w) (g := g) (n := m) (os := os) ((sortL l).map fun (x : Nat) => (x : Int)).toArray
      have hh := heap_sortedI (n := m) (os := os) ((sortL l).map fun (x : Nat) => (x : Int)).toArray hB
      have htk := take_putCellsI cs.toArray ((sortL l).map fun (x : Nat) => (x : Int)) (by rw [List.length_map, hsl]; simp; omega)
      refine hR _ ?_ fun B w0 hb hBw hf => ⟨hb.trans (below_grown hg (hf _ rfl) hBw), by have := hg.size; omega⟩
      refine ⟨by rw [List.length_map, hsl]; show l.length = rl * 1; omega, .inr ⟨g, (Sort.putCells (Value.int .i64) 0 ((sortL l).map fun (x : Nat) => (x : Int)).toArray cs.toArray).toList, rfl, ?_, h1, h2, ?_, ?_⟩⟩
      · show _ = some (Obj.cells (Sort.putCells (Value.int .i64) 0 ((sortL l).map fun (x : Nat) => (x : Int)).toArray cs.toArray).toList.toArray 3 (0, 0))
        rw [Array.toArray_toList]
        exact hh
      · simp [Sort.putCells]; omega
      · rw [List.length_map, hsl] at htk
        show List.take (rl * 1) _ = _
        rw [Nat.mul_one, hrl, htk, List.map_map]
        rfl


/-! calls.sorted. -/
/-- Rows that the code has made (headers in a slice of its own). -/
structure OwnR (B T : Nat) (w : World) (C : Sl) (rows : List (List Nat)) : Prop where
  size : T ≤ w.heap.size
  bT : B ≤ T
  fr : ∀ a, C.a = some a → B ≤ a.block ∧ a.block < T
  ex : ∃ hs : List Sl, hs.length = rows.length ∧ Own w 32 1 C (hs.map Sl.val) ∧ ∀ (i : Nat) (h : i < hs.length), Own w 3 1 hs[i] ((rows.getD i []).map iN) ∧ ∀ a, hs[i].a = some a → B ≤ a.block ∧ a.block < T
section
variable {B T : Nat} {w w' : World} {C : Sl} {rows : List (List Nat)}
theorem OwnR.grow (h : OwnR B T w C rows) (hb : Below T w w') : OwnR B T w' C rows := by
  obtain ⟨hs, h1, h2, h3⟩ := h.ex
  have := hb.size
  have := h.size
  exact ⟨by omega, h.bT, h.fr, hs, h1, h2.of_block fun a ha => hb.block _ (h.fr a ha).2, fun i hi => ⟨(h3 i hi).1.of_block fun a ha => hb.block _ ((h3 i hi).2 a ha).2, (h3 i hi).2⟩⟩
theorem OwnR.up (h : OwnR B T w C rows) : OwnR B w.heap.size w C rows := by
  obtain ⟨hs, h1, h2, h3⟩ := h.ex
  have := h.size
  have := h.bT
  exact ⟨Nat.le_refl _, by omega, fun a ha => by have := h.fr a ha; omega, hs, h1, h2, fun i hi => ⟨(h3 i hi).1, fun a ha => by have := (h3 i hi).2 a ha; omega⟩⟩
theorem OwnR.len (h : OwnR B T w C rows) : C.l = rows.length := by
  obtain ⟨hs, h1, h2, _⟩ := h.ex
  have := h2.1
  rw [List.length_map] at this
  omega
theorem OwnR.isNN (h : OwnR B w.heap.size w C rows) : ∃ hs, IsNN w C hs rows ∧ ∀ w', (∀ k, B ≤ k → k < w.heap.size → w'.heap[k]? = w.heap[k]?) → IsNN w' C hs rows := by
  obtain ⟨hs, h1, h2, h3⟩ := h.ex
  have go : ∀ w', (∀ k, B ≤ k → k < w.heap.size → w'.heap[k]? = w.heap[k]?) → IsNN w' C hs rows := fun w' hb => by
    refine ⟨Own.isS (h2.of_block fun a ha => hb _ (h.fr a ha).1 (h.fr a ha).2), h1, fun i hi hi' => ?_⟩
    have := Own.isS ((h3 i hi).1.of_block fun a ha => hb _ ((h3 i hi).2 a ha).1 ((h3 i hi).2 a ha).2)
    rw [show rows.getD i [] = rows[i] by simp [List.getD, hi']] at this
    exact this
  exact ⟨hs, go w fun _ _ _ => rfl, go⟩
theorem OwnR.push (h : OwnR B w.heap.size w C rows) {r : Sl} {l : List Nat} (ho : Own w 3 1 r (l.map iN)) (hfr : Fresh B r) (hlen : rows.length < 1048576) {k : Sl → World → Prop}
    (hk : ∀ C' w', Below B w w' → OwnR B w'.heap.size w' C' (rows ++ [l]) → k C' w') :
    Nw (w.alloc (.cells #[(.slice r.a r.l r.c)] 32)) fun w1 => appendS Try.prog 22 (.slice C.a C.l C.c) (.slice (some (blk w.heap.size)) 1 1) w1 k := by
  obtain ⟨hs, h1, h2, h3⟩ := h.ex
  have hCl := h.len
  refine Nw.gen fun w1 hw1 => ?_
  have hB1 : Blk w1 w.heap.size 32 [r.val] := by rw [hw1]; exact Blk.new w _ #[_]
  have h21 : Own w1 32 1 C (hs.map Sl.val) := by rw [hw1]; exact h2.alloc _
  have b1 : Below w.heap.size w w1 := by rw [hw1]; exact (Below.refl _ _).alloc (Nat.le_refl _) _
  have z1 : w1.heap.size = w.heap.size + 1 := by rw [hw1]; simp
  refine append_one eII h21 rfl hB1 (by omega) (by omega) fun C' w' hC' hCl' ⟨b, hrb, hbo, hg⟩ => ?_
  have hbB : B ≤ b := by
    rcases hbo with hb | rfl
    · exact (h.fr _ hb).1
    · have := h.bT; omega
  have hbT := h.bT
  have zg := hg.size
  obtain ⟨cb, hcb⟩ := hC'.type hrb
  have keep : ∀ {r' : Sl} {xs : List Value}, Own w 3 1 r' xs → Own w' 3 1 r' xs := fun {r' xs} ho' => (ho'.below b1).of_block fun a ha => hg.block _ ((ho'.below b1).lt ha).2 fun e => by
    have e : b = a.block := (Option.some.inj e).symm
    have hlt := (ho'.lt ha).2
    rcases hbo with hb | hb
    · obtain ⟨cs, hcs⟩ := h2.type hb
      exact own_ne ho' hcs (by decide) ha e.symm
    · omega
  have b2 : Below B w w' := (b1.mono hbT).trans (below_grown hg hbB (by omega))
  refine hk C' w' b2 ⟨Nat.le_refl _, by omega, fun a ha => ?_, hs ++ [r], by simp [h1], by simpa using hC', fun i hi => ?_⟩
  · rw [hrb] at ha
    cases ha
    exact ⟨hbB, hcb.lt⟩
  · by_cases e : i < hs.length
    · rw [List.getElem_append_left e, show (rows ++ [l]).getD i [] = rows.getD i [] by simp [List.getD, List.getElem?_append_left (show i < rows.length by omega)]]
      exact ⟨keep (h3 i e).1, fun a ha => by have := (h3 i e).2 a ha; omega⟩
    · have e' : i = hs.length := by have : i < hs.length + 1 := by simpa using hi
                                    omega
      subst e'
      rw [List.getElem_concat_length rfl, show (rows ++ [l]).getD hs.length [] = l by simp [List.getD, h1]]
      exact ⟨keep ho, fun a ha => ⟨hfr a ha, by have := (ho.lt ha).2; omega⟩⟩
end
/-- The rows as numbers, rising, each once. -/
abbrev riseLL (ll : List (List Int)) : List (List Nat) := ll.map fun l => riseL ll.length (l.map Int.toNat)
theorem sorted_spec {s : Sl} {hs : List Sl} {ll : List (List Int)} {w : World} {R : Value → World → Prop} (h : IsII w s hs ll) (h8 : ∀ l ∈ ll, 8 * l.length ≤ 140737488351232) (hmax : ll.length ≤ 4096) (hG : Good ll)
    (hR : ∀ r w' hs', Below w.heap.size w w' → IsNN w' r hs' (riseLL ll) → (∀ w'', (∀ k, w.heap.size ≤ k → k < w'.heap.size → w''.heap[k]? = w'.heap[k]?) → IsNN w'' r hs' (riseLL ll)) → R (.slice r.a r.l r.c) w') : callR Try.prog 137 #[.slice s.a s.l s.c] w R := by
  refine callR.of (calls_sorted_calls s R w ?_) fun _ _ h => h
  have hsl : s.l = ll.length := by have := h.top.len; have := h.len; omega
  refine ⟨⟨by omega, by omega, by omega, by omega⟩, Nw.gen fun w1 hw1 => ?_⟩
  have hB1 : Blk w1 w.heap.size 32 (List.replicate ll.length (.slice none 0 0)) := by rw [hw1, hsl]; exact Blk.made w _ _ ll.length
  have b1 : Below w.heap.size w w1 := by rw [hw1]; exact (Below.refl _ _).alloc (Nat.le_refl _) _
  have z1 : w1.heap.size = w.heap.size + 1 := by rw [hw1]; simp
  clear hw1
  refine LoopW.countS ll.length (by omega) (fun k (C : Sl) w' => Below w.heap.size w w' ∧ OwnR w.heap.size w'.heap.size w' C ((ll.take k).map fun l => riseL ll.length (l.map Int.toNat))) ⟨b1, ⟨Nat.le_refl _, by omega, fun a ha => by cases ha; exact ⟨Nat.le_refl _, hB1.lt⟩, [], by simp, ⟨by simp, .inr ⟨w.heap.size, _, rfl, hB1, by show 0 ≤ s.l; omega, by show s.l ≤ _; omega, by simp [hsl], by simp⟩⟩, fun i hi => by cases hi⟩⟩ ?_
  rintro k C w2 hk ⟨b2, hC⟩ next hnext
  have z2 := b2.size
  refine ifB_dec (fun hlt => ?_) (fun hge => ?_)
  · have hlt : k < ll.length := by dsimp only at hlt; omega
    have hkh : k < hs.length := by have := h.len; omega
    have h2 := h.below b2
    have hlen := h8 _ (List.getElem_mem hlt)
    refine elemS h2.top (k := k) hkh ?_
    have hrow := h2.row k hkh hlt
    -- the row's numbers
    obtain ⟨l, hl⟩ : ∃ l, l = (ll[k]).map Int.toNat := ⟨_, rfl⟩
    have hnat : ll[k] = l.map fun (x : Nat) => (x : Int) := by
      rw [hl, List.map_map]
      refine (List.map_id _).symm.trans (List.map_congr_left fun x hx => ?_)
      have := hG _ (List.getElem_mem hlt) x hx
      simp only [id, Function.comp]
      omega
    have hll : l.length = (ll[k]).length := by rw [hl, List.length_map]
    have hlt2 : ∀ x ∈ l, x < ll.length := fun x hx => by
      rw [hl] at hx
      obtain ⟨y, hy, rfl⟩ := List.mem_map.1 hx
      have := hG _ (List.getElem_mem hlt) y hy
      omega
    refine Clone_spec (f := Value.int .i64) (l := ll[k]) (fun _ => rfl) hrow (by omega) fun r3 w3 o3 f3 b3 => ⟨r3, rfl, ?_⟩
    have z3 := b3.size
    have o3' : Own w3 3 1 r3 (l.map iN) := by
      have e : (ll[k]).map (Value.int .i64) = l.map iN := by rw [hnat, List.map_map]; rfl
      rw [← e]; exact o3
    refine SortD_spec (by omega) o3' fun w4 o4 k4 => ⟨rfl, ?_⟩
    obtain ⟨b4, z4⟩ := k4 _ _ b3 z3 f3
    refine CompactD_spec (by have := (sortL_perm l).length_eq; omega) o4 fun r5 w5 o5 k5 => ⟨r5, rfl, ?_⟩
    obtain ⟨b5, z5, f5⟩ := k5 _ _ b4 z4 f3
    rw [cpk_sort hlt2] at o5
    refine (hC.grow b5).up.push o5 (fun a ha => by have := f5 a ha; omega) (by simp; omega) fun C' w7 b7 hC7 => hnext _ _ hlt ⟨(b2.trans (b5.mono z2)).trans b7, ?_⟩
    rw [List.take_succ_eq_append_getElem hlt, List.map_append]
    rw [hl] at hC7
    exact hC7
  · have : k = ll.length := by dsimp only at hge; omega
    subst this
    rw [List.take_length] at hC
    obtain ⟨hs', hN, hK⟩ := hC.isNN
    exact hR C w2 hs' b2 hN hK

end Go.Proofs
