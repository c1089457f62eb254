/-
  Contract of copied.
-/
import Derived.Test.Ytjplhoollkeihaa14i
namespace Go.Proofs
open Go.Gk Go.RowKit Go.Gr

theorem Cop.congr {w : World} {B n m : Nat} {row row' : Nat → List Int} (h : Cop w B n m row) (e : ∀ i, i < m → row i = row' i) : Cop w B n m row' := by
  refine ⟨h.le, ?_, fun i hi => by rw [← e i hi]; exact h.rows i hi⟩
  have : ((List.range n).map fun i => if i < m then Value.slice (some (blk (B + 1 + i))) (row' i).length (row' i).length else .slice none 0 0) = (List.range n).map fun i => if i < m then Value.slice (some (blk (B + 1 + i))) (row i).length (row i).length else .slice none 0 0 := by
    refine List.map_congr_left fun i _ => ?_
    split
    · rename_i hi; rw [e i hi]
    · rfl
  rw [this]; exact h.head
theorem Cop.hd {w : World} {B n m : Nat} {row : Nat → List Int} (h : Cop w B n m row) {i : Nat} (hi : i < m) {φ : Sl → Prop} (hφ : φ ⟨some (blk (B + 1 + i)), (row i).length, (row i).length⟩) : ldS w ((blk B).add i) φ := by
  refine ⟨⟨some (blk (B + 1 + i)), (row i).length, (row i).length⟩, h.head.cell ?_, hφ⟩
  have := h.le
  rw [List.getElem?_map, List.getElem?_range (by omega)]
  simp [hi]
theorem Cop.store {w : World} {B n m : Nat} {row : Nat → List Int} (h : Cop w B n m row) {i k : Nat} (hi : i < m) (x : Int) :
    Cop (w.setCell ((blk (B + 1 + i)).add k) (.int .i64 x)) B n m fun j => if j = i then (row i).set k x else row j := by
  refine ⟨h.le, ?_, fun j hj => ?_⟩
  · have : ((List.range n).map fun j => if j < m then Value.slice (some (blk (B + 1 + j))) (if j = i then (row i).set k x else row j).length (if j = i then (row i).set k x else row j).length else .slice none 0 0) = (List.range n).map fun i => if i < m then Value.slice (some (blk (B + 1 + i))) (row i).length (row i).length else .slice none 0 0 := by
      refine List.map_congr_left fun j _ => ?_
      by_cases hj : j = i
      · subst hj; simp
      · simp [hj]
    rw [this]
    exact h.head.other (by rw [add_block]; show B ≠ B + 1 + i; omega) _
  · by_cases e : j = i
    · subst e
      rw [if_pos rfl, List.map_set]
      exact (h.rows j hj).set k _
    · rw [if_neg e]
      exact (h.rows j hj).other (by rw [add_block]; show B + 1 + j ≠ B + 1 + i; omega) _
theorem Cop.wr {w : World} {B n m : Nat} {row : Nat → List Int} (h : Cop w B n m row) {i k : Nat} (hi : i < m) (hk : k < (row i).length) : Wr w ((blk (B + 1 + i)).add k) := (h.rows i hi).wr (by rw [List.length_map]; exact hk)
theorem Cop.grow {w : World} {B n m : Nat} {row : Nat → List Int} (h : Cop w B n m row) (hm : m < n) (hz : w.heap.size = B + 1 + m) (c : Nat) :
    Cop ((w.alloc (.cells (madeCells #[(.int .i64 (0 : Int))] (c * 1)) 3)).setCell ((blk B).add m) (.slice (some (blk w.heap.size)) c c)) B n (m + 1) fun j => if j = m then List.replicate c 0 else row j := by
  have hnew := Blk.made w 3 (.int .i64 (0 : Int)) c
  refine ⟨hm, ?_, fun j hj => ?_⟩
  · have := (h.head.alloc (.cells (madeCells #[(.int .i64 (0 : Int))] (c * 1)) 3)).set m (.slice (some (blk w.heap.size)) c c)
    have e : (((List.range n).map fun i => if i < m then Value.slice (some (blk (B + 1 + i))) (row i).length (row i).length else .slice none 0 0).set m (.slice (some (blk w.heap.size)) c c)) =
        (List.range n).map fun j => if j < m + 1 then Value.slice (some (blk (B + 1 + j))) (if j = m then List.replicate c (0 : Int) else row j).length (if j = m then List.replicate c (0 : Int) else row j).length else .slice none 0 0 := by
      apply List.ext_getElem
      · simp
      · intro j g1 g2
        have hj : j < n := by simpa using g2
        by_cases e : j = m
        · subst e
          rw [List.getElem_set_self]
          simp only [List.getElem_map, List.getElem_range]
          rw [if_pos (Nat.lt_succ_self j), if_pos trivial, List.length_replicate, hz]
        · rw [List.getElem_set_ne (by omega)]
          simp only [List.getElem_map, List.getElem_range]
          by_cases hj : j < m
          · rw [if_pos hj, if_pos (by omega), if_neg e]
          · rw [if_neg hj, if_neg (by omega)]
    rw [e] at this
    exact this
  · by_cases e : j = m
    · subst e
      rw [if_pos rfl, List.map_replicate, ← hz]
      exact hnew.other (by rw [add_block]; show w.heap.size ≠ B; omega) _
    · rw [if_neg e]
      exact ((h.rows j (by omega)).alloc _).other (by rw [add_block]; show B + 1 + j ≠ B; omega) _

set_option maxHeartbeats 1000000 in
theorem copied_spec {s : Sl} {hs : List Sl} {ll : List (List Int)} {w : World} {R : Value → World → Prop} (h : IsII w s hs ll) (h24 : 24 * ll.length ≤ 281474976710656) (h8 : ∀ l ∈ ll, 8 * l.length ≤ 281474976710656)
    (hR : ∀ w', Below w.heap.size w w' → Cop w' w.heap.size ll.length ll.length (fun i => ll.getD i []) → R (.slice (some (blk w.heap.size)) ll.length ll.length) w') :
    callR Try.prog 27 #[.slice s.a s.l s.c] w R := by
  refine callR.of (intagliolaw14_copied_calls s R w ?_) fun _ _ h => h
  have hsl : s.l = hs.length := h.top.len
  have hhl : hs.length = ll.length := h.len
  have hn : s.l = ll.length := by omega
  unfold L_intagliolaw14_copied
  rw [hn]
  refine ⟨⟨by omega, by omega, by omega, by omega⟩, Nw.gen fun w1 hw1 => ?_⟩
  have b1 : Below w.heap.size w w1 := by rw [hw1]; exact (Below.refl _ _).alloc (Nat.le_refl _) _
  have c1 : Cop w1 w.heap.size ll.length 0 fun i => ll.getD i [] := by
    refine ⟨Nat.zero_le _, ?_, fun i hi => by omega⟩
    have : ((List.range ll.length).map fun i => if i < 0 then Value.slice (some (blk (w.heap.size + 1 + i))) (ll.getD i []).length (ll.getD i []).length else .slice none 0 0) = List.replicate ll.length (.slice none 0 0) := by
      apply List.ext_getElem
      · simp
      · intro j _ _; simp
    rw [this, hw1]
    exact Blk.made w _ _ _
  have z1 : w1.heap.size = w.heap.size + 1 + 0 := by rw [hw1]; simp
  clear hw1
  refine LoopW.count ll.length (by omega) (fun i w' => Below w.heap.size w w' ∧ w'.heap.size = w.heap.size + 1 + i ∧ Cop w' w.heap.size ll.length i fun i => ll.getD i []) ⟨b1, z1, c1⟩ ?_
  rintro i w2 hi ⟨b2, z2, c2⟩ next hnext
  refine ifB_dec (fun hlt => ?_) (fun hge => ?_)
  · have hlt : i < ll.length := by dsimp only at hlt; omega
    have hrow : ∀ {w' : World}, Below w.heap.size w w' → IsI w' (hs[i]'(by omega)) ll[i] := fun hb => (h.below hb).row i (by omega) hlt
    have hrn : (hs[i]'(by omega)).l = (ll[i]).length := (hrow b2).len
    have hgd : ll.getD i [] = ll[i] := by simp [List.getD, hlt]
    have hb8 := h8 _ (List.getElem_mem hlt)
    refine elemS_n (h.below b2).top hn (k := i) (by omega) ?_
    rw [hrn]
    refine ⟨⟨by omega, by omega, by omega, by omega⟩, Nw.gen fun w3 hw3 => ⟨⟨by omega, by dsimp only; omega⟩, ?_, Nw.gen fun w4 hw4 => ?_⟩⟩
    · rw [hw3]
      exact (c2.head.alloc _).wr (by simpa using hlt)
    have c4 := c2.grow hlt z2 (ll[i]).length
    rw [← hw3] at c4
    replace c4 : Cop w4 w.heap.size ll.length (i + 1) fun j => if j = i then List.replicate ll[i].length 0 else ll.getD j [] := by rw [hw4]; exact c4
    have b4 : Below w.heap.size w w4 := by rw [hw4, hw3]; exact (b2.alloc b2.size _).setCell (by rw [add_block]; exact Nat.le_refl _) _
    have z4 : w4.heap.size = w.heap.size + 1 + (i + 1) := by rw [hw4, hw3]; simp [World.setCell]; omega
    clear hw3 hw4
    refine LoopW.count (ll[i]).length (hrow b4).bound (fun k w' => Below w.heap.size w w' ∧ w'.heap.size = w.heap.size + 1 + (i + 1) ∧ Cop w' w.heap.size ll.length (i + 1) fun j => if j = i then ll[i].take k ++ List.replicate (ll[i].length - k) 0 else ll.getD j []) ⟨b4, z4, by simpa using c4⟩ ?_
    rintro k w5 hk ⟨b5, z5, c5⟩ nxt hnxt
    refine elemS_n (h.below b5).top hn (k := i) (by omega) ?_
    refine ifB_dec (fun hltk => ?_) (fun hgek => ?_)
    · have hltk : k < (ll[i]).length := by dsimp only at hltk; omega
      have c5d : Cop w5.drew w.heap.size ll.length (i + 1) fun j => if j = i then ll[i].take k ++ List.replicate (ll[i].length - k) 0 else ll.getD j [] := ⟨c5.le, c5.head, c5.rows⟩
      have e5 : (if i = i then ll[i].take k ++ List.replicate (ll[i].length - k) (0 : Int) else ll.getD i []).length = ll[i].length := by rw [if_pos rfl]; simp; omega
      refine ⟨⟨by omega, by dsimp only; omega⟩, c5d.hd (Nat.lt_succ_self i) ?_⟩
      refine elemS_n (h.below b5.drew).top hn (k := i) (by omega) ?_
      refine elemI (hrow b5.drew) hltk ?_
      dsimp only
      refine ⟨⟨by omega, by rw [e5]; omega⟩, c5d.wr (Nat.lt_succ_self i) (by rw [e5]; exact hltk), Nw.mk ?_⟩
      refine hnxt _ hltk ⟨b5.drew.setCell (by rw [add_block]; show w.heap.size ≤ w.heap.size + 1 + i; omega) _, by simpa [World.setCell] using z5, ?_⟩
      refine (c5d.store (Nat.lt_succ_self i) (k := k) ll[i][k]).congr fun j _ => ?_
      by_cases e : j = i
      · subst e
        simp only [if_true]
        apply List.ext_getElem
        · simp; omega
        · intro p g1 g2
          rw [List.getElem_set]
          by_cases e : k = p
          · subst e
            rw [if_pos rfl, List.getElem_append_left (by simp; omega)]
            simp
          · rw [if_neg e]
            by_cases hp : p < k
            · rw [List.getElem_append_left (by simp; omega), List.getElem_append_left (by simp; omega)]
              simp
            · rw [List.getElem_append_right (by simp; omega), List.getElem_append_right (by simp; omega)]
              simp
      · simp [e]
    · have hkk : k = (ll[i]).length := by dsimp only at hgek; omega
      subst hkk
      refine hnext w5 hlt ⟨b5, z5, c5.congr fun j _ => ?_⟩
      by_cases e : j = i
      · subst e; simp [List.getD, hlt]
      · simp [e]
  · have hi' : i = ll.length := by dsimp only at hge; omega
    subst hi'
    exact hR w2 b2 c2

end Go.Proofs
