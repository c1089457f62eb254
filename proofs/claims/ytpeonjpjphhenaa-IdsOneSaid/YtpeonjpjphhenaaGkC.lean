/-
  Elements of more than one cell in memory.
-/
import Derived.Test.YtpeonjpjphhenaaGkN
import Derived.Test.YtpeonjpjphhenaaLb
namespace Go.Proofs
open Go.Gk Go.RowKit

theorem add_add' (a : Addr) (n m : Nat) : (a.add n).add m = a.add (n + m) := by
  unfold Addr.add
  by_cases hn : n = 0
  · subst hn; simp
  · by_cases hm : m = 0
    · subst hm; simp [hn]
    · rw [if_neg hn, if_neg hm, if_neg (by omega)]
      simp [Nat.add_assoc]

section
variable {α : Type} {sz : Nat} {f : α → List Value}
abbrev flat (f : α → List Value) (l : List α) : List Value := l.flatMap f
theorem flat_length (hf : ∀ x, (f x).length = sz) : ∀ l : List α, (flat f l).length = l.length * sz
  | [] => by simp [flat]
  | x :: l => by
    have := flat_length hf l
    simp only [flat] at this
    simp only [flat, List.flatMap_cons, List.length_append, List.length_cons, hf, this, Nat.add_mul, Nat.one_mul]
    omega
theorem flat_get (hf : ∀ x, (f x).length = sz) : ∀ (l : List α) (k : Nat) (h : k < l.length) (j : Nat), j < sz → (flat f l)[k * sz + j]? = (f l[k])[j]?
  | x :: l, 0, _, j, hj => by
    simp only [flat, List.flatMap_cons, Nat.zero_mul, Nat.zero_add, List.getElem_cons_zero]
    rw [List.getElem?_append_left (by rw [hf]; exact hj)]
  | x :: l, k + 1, h, j, hj => by
    have := flat_get hf l k (by simpa using h) j hj
    simp only [flat, List.flatMap_cons, List.getElem_cons_succ] at this ⊢
    rw [List.getElem?_append_right (by rw [hf, Nat.add_mul]; omega), hf, ← this]
    congr 1
    rw [Nat.add_mul]
    omega
/-- The slice s holds the elements l, each of the cells f x, sz of them. -/
structure IsC (sz : Nat) (f : α → List Value) (w : World) (s : Sl) (l : List α) : Prop where
  len : s.l = l.length
  cap : s.l ≤ s.c
  max : s.c ≤ 9223372036854775807
  nil : s.a = none → s.c = 0
  cell : ∀ a, s.a = some a → ∀ (k : Nat) (h : k < l.length) (j : Nat), j < sz → w.cell? (a.add (k * sz + j)) = (f l[k])[j]?
variable {w w' : World} {s : Sl} {l : List α}
theorem IsC.base (h : IsC sz f w s l) {i : Nat} (hi : i < l.length) : ∃ a, s.a = some a := by
  cases ha : s.a with
  | none => have := h.nil ha; have := h.len; have := h.cap; omega
  | some a => exact ⟨a, rfl⟩
theorem IsC.of_block (hf : ∀ x, (f x).length = sz) (h : IsC sz f w s l) (hb : ∀ a, s.a = some a → a.block < w.heap.size → w'.heap[a.block]? = w.heap[a.block]?) : IsC sz f w' s l := by
  refine ⟨h.len, h.cap, h.max, h.nil, fun a ha k hk j hj => ?_⟩
  have hc := h.cell a ha k hk j hj
  have hlt : j < (f l[k]).length := by rw [hf]; exact hj
  have hc' := hc
  rw [List.getElem?_eq_getElem hlt] at hc'
  have := World.block_lt_of_cell? w _ hc'
  rw [add_block] at this
  rw [World.cell?_of_block (w := w) (by rw [add_block]; exact hb a ha this)]
  exact hc
theorem IsC.below (hf : ∀ x, (f x).length = sz) (h : IsC sz f w s l) (hb : Below w.heap.size w w') : IsC sz f w' s l := h.of_block hf fun _ _ hlt => hb.block _ hlt
theorem IsC.bound (h : IsC sz f w s l) : l.length ≤ 9223372036854775807 := by have := h.len; have := h.cap; have := h.max; omega
theorem Own.isC {T : TypeId} (hf : ∀ x, (f x).length = sz) (h0 : 0 < sz) (h : Own w T sz s (flat f l)) : IsC sz f w s l := by
  obtain ⟨h1, h2⟩ := h
  rw [flat_length hf] at h1
  have hl : s.l = l.length := (Nat.mul_right_cancel h0 h1).symm
  rcases h2 with rfl | ⟨b, cs, ha, hB, hc, hm, hcs, ht⟩
  · have : l = [] := List.eq_nil_of_length_eq_zero hl.symm
    subst this
    exact ⟨rfl, Nat.le_refl _, Nat.zero_le _, fun _ => rfl, (fun a ha => by cases ha)⟩
  · refine ⟨hl, hc, hm, (fun h => by rw [h] at ha; cases ha), fun a ha' k hk j hj => ?_⟩
    rw [ha] at ha'
    cases ha'
    have hlt : k * sz + j < s.l * sz := by
      have : (k + 1) * sz ≤ s.l * sz := Nat.mul_le_mul_right _ (by omega)
      rw [Nat.add_mul] at this
      omega
    have hg := flat_get hf l k hk j hj
    have hjl : j < (f l[k]).length := by rw [hf]; exact hj
    rw [← ht, List.getElem?_take_of_lt hlt] at hg
    rw [List.getElem?_eq_getElem hjl] at hg ⊢
    exact hB.cell hg
theorem Blk.isC {T : TypeId} {b : Nat} (hf : ∀ x, (f x).length = sz) (h0 : 0 < sz) (h : Blk w b T (flat f l)) (hm : l.length ≤ 9223372036854775807) : IsC sz f w ⟨some (Gk.blk b), l.length, l.length⟩ l :=
  Own.isC (T := T) hf h0 ⟨flat_length hf l, .inr ⟨b, _, rfl, h, Nat.le_refl _, hm, flat_length hf l, by rw [← flat_length hf l, List.take_length]⟩⟩
end


/-! ### A block that is written cell by cell -/
/-- Nothing has turned but the block b. -/
structure Chg (b : Nat) (w w' : World) : Prop where
  os : w'.os = w.os
  tape : w'.tape = w.tape
  output : w'.output = w.output
  size : w'.heap.size = w.heap.size
  block : ∀ k, k ≠ b → w'.heap[k]? = w.heap[k]?
theorem Chg.refl (b : Nat) (w : World) : Chg b w w := ⟨rfl, rfl, rfl, rfl, fun _ _ => rfl⟩
theorem Chg.trans {b : Nat} {w w' w2 : World} (h : Chg b w w') (k : Chg b w' w2) : Chg b w w2 :=
  ⟨k.os.trans h.os, k.tape.trans h.tape, k.output.trans h.output, k.size.trans h.size, fun i hi => (k.block i hi).trans (h.block i hi)⟩
theorem Chg.set (b n : Nat) (w : World) (v : Value) : Chg b w (w.setCell ((blk b).add n) v) :=
  ⟨rfl, rfl, rfl, by simp [World.setCell], fun k hk => Below.heap_setCell _ _ _ _ (by rw [add_block]; exact fun e => hk e)⟩
theorem Chg.iter (b : Nat) (w : World) (s : ByteArray) (p : Nat) : Chg b w (setIter w b s p) :=
  ⟨rfl, rfl, rfl, by simp [setIter], fun k hk => by simp [setIter, Array.getElem?_setIfInBounds_ne (Ne.symm hk)]⟩
theorem Chg.drew {b : Nat} {w w' : World} (h : Chg b w w') : Chg b w w'.drew := h.trans ⟨rfl, rfl, rfl, rfl, fun _ _ => rfl⟩
theorem Chg.below {b B : Nat} {w0 w w' : World} (h : Chg b w w') (hb : Below B w0 w) (hB : B ≤ b) : Below B w0 w' :=
  hb.trans ⟨h.os, h.tape, h.output, by rw [h.size]; exact Nat.le_refl _, fun k hk => h.block k (by omega)⟩
theorem Chg.blk {b c : Nat} {w w' : World} {T : TypeId} {cs : List Value} (h : Chg b w w') (hB : Blk w c T cs) (hne : c ≠ b) : Blk w' c T cs := hB.of_block (h.block _ hne)

theorem _root_.Go.Gk.Blk.rT {w : World} {b : Nat} {T : TypeId} {cs : List Value} (h : Blk w b T cs) {n : Nat} {x : ByteArray} (hn : cs[n]? = some (.string x)) {φ : ByteArray → Prop} (hφ : φ x) : ldStr w ((blk b).add n) φ := ⟨x, h.cell hn, hφ⟩
theorem _root_.Go.Gk.Blk.rI {w : World} {b : Nat} {T : TypeId} {cs : List Value} (h : Blk w b T cs) {n : Nat} {κ : IntKind} {x : Int} (hn : cs[n]? = some (.int κ x)) {φ : Int → Prop} (hφ : φ x) : ldI w ((blk b).add n) κ φ := ⟨x, h.cell hn, hφ⟩
theorem _root_.Go.Gk.Blk.rB {w : World} {b : Nat} {T : TypeId} {cs : List Value} (h : Blk w b T cs) {n : Nat} {x : Bool} (hn : cs[n]? = some (.bool x)) {φ : Bool → Prop} (hφ : φ x) : ldB w ((blk b).add n) φ := ⟨x, h.cell hn, hφ⟩
theorem _root_.Go.Gk.Blk.rS {w : World} {b : Nat} {T : TypeId} {cs : List Value} (h : Blk w b T cs) {n : Nat} {x : Sl} (hn : cs[n]? = some (.slice x.a x.l x.c)) {φ : Sl → Prop} (hφ : φ x) : ldS w ((blk b).add n) φ := ⟨x, h.cell hn, hφ⟩
theorem lay_of {T : TypeId} {k : World → Prop} {w : World} {cs : Array Value} (hK : ∀ w', Blk w' w.heap.size T cs.toList → Below w.heap.size w w' → w'.heap.size = w.heap.size + 1 → k w') : Nw (w.alloc (.cells cs T)) k :=
  hK _ (Blk.new w T cs) ((Below.refl _ _).alloc (Nat.le_refl _) _) (by simp)
/-- Further on, from an older bound. -/
theorem _root_.Go.RowKit.Below.on {w0 w w' : World} (h : Below w0.heap.size w0 w) (k : Below w.heap.size w w') : Below w0.heap.size w0 w' := h.trans (k.mono h.size)
def stC (a : Addr) : Nat → List Value → World → (World → Prop) → Prop
  | _, [], w, k => k w
  | i, v :: r, w, k => Wr w (a.add i) ∧ Nw (w.setCell (a.add i) v) fun w' => stC a (i + 1) r w' k
theorem stC_of {b : Nat} {T : TypeId} {K : World → Prop} : ∀ (vs : List Value) (i : Nat) {w : World} {cs : List Value}, Blk w b T cs → i + vs.length ≤ cs.length →
    (∀ w', Blk w' b T (cs.take i ++ (vs ++ cs.drop (i + vs.length))) → Chg b w w' → K w') → stC (blk b) i vs w K
  | [], i, w, cs, hB, _, hK => hK w (by simpa using hB) (Chg.refl _ _)
  | v :: r, i, w, cs, hB, hl, hK => by
    simp only [List.length_cons] at hl
    refine ⟨hB.wr (by omega), stC_of r (i + 1) (hB.set i v) (by rw [List.length_set]; omega) fun w' h1 h2 => hK w' ?_ ((Chg.set b i w v).trans h2)⟩
    have e1 : (cs.set i v).take (i + 1) = cs.take i ++ [v] := by
      rw [List.take_succ_eq_append_getElem (by rw [List.length_set]; omega), List.take_set_of_le (Nat.le_refl _), List.getElem_set_self]
    have e2 : (cs.set i v).drop (i + 1 + r.length) = cs.drop (i + (r.length + 1)) := by
      rw [List.drop_set_of_lt (by omega)]
      congr 1
      omega
    rw [e1, e2] at h1
    simpa using h1
theorem stC_all {b : Nat} {T : TypeId} {K : World → Prop} {vs : List Value} {w : World} {cs : List Value} (hB : Blk w b T cs) (hl : cs.length = vs.length)
    (hK : ∀ w', Blk w' b T vs → Chg b w w' → K w') : stC (blk b) 0 vs w K :=
  stC_of vs 0 hB (by omega) fun w' h1 h2 => hK w' (by rw [Nat.zero_add, ← hl, List.drop_length] at h1; simpa using h1) h2
/-- A box, laid and written. -/
theorem box_of {T : TypeId} {K : World → Prop} {vs : List Value} {w : World} {cs : Array Value} (hl : cs.size = vs.length)
    (hK : ∀ w', Blk w' w.heap.size T vs → Below w.heap.size w w' → w'.heap.size = w.heap.size + 1 → K w') : Nw (w.alloc (.cells cs T)) fun w1 => stC (blk w.heap.size) 0 vs w1 K := by
  refine stC_all (Blk.new w T cs) (by simpa using hl) fun w' h1 h2 => hK w' h1 (h2.below ((Below.refl _ _).alloc (Nat.le_refl _) _) (Nat.le_refl _)) ?_
  rw [h2.size]
  simp

theorem st2 {b : Nat} {T : TypeId} {cs : List Value} {v0 v1 : Value} {K : World → Prop} {w : World} (hB : Blk w b T cs) (hl : cs.length = 2) (hK : ∀ w', Blk w' b T [v0, v1] → Chg b w w' → K w') :
    Wr w (blk b) ∧ Nw (w.setCell (blk b) v0) fun w1 => Wr w1 ((blk b).add 1) ∧ Nw (w1.setCell ((blk b).add 1) v1) fun w2 => K w2 :=
  stC_all (vs := [v0, v1]) hB hl hK
theorem box2 {T : TypeId} {cs : Array Value} {v0 v1 : Value} {K : World → Prop} {w : World} (hl : cs.size = 2) (hK : ∀ w', Blk w' w.heap.size T [v0, v1] → Below w.heap.size w w' → w'.heap.size = w.heap.size + 1 → K w') :
    Nw (w.alloc (.cells cs T)) fun w0 => Wr w0 (blk w.heap.size) ∧ Nw (w0.setCell (blk w.heap.size) v0) fun w1 => Wr w1 ((blk w.heap.size).add 1) ∧ Nw (w1.setCell ((blk w.heap.size).add 1) v1) fun w2 => K w2 :=
  box_of (vs := [v0, v1]) hl hK
theorem st3 {b : Nat} {T : TypeId} {cs : List Value} {v0 v1 v2 : Value} {K : World → Prop} {w : World} (hB : Blk w b T cs) (hl : cs.length = 3) (hK : ∀ w', Blk w' b T [v0, v1, v2] → Chg b w w' → K w') :
    Wr w (blk b) ∧ Nw (w.setCell (blk b) v0) fun w1 => Wr w1 ((blk b).add 1) ∧ Nw (w1.setCell ((blk b).add 1) v1) fun w2 => Wr w2 ((blk b).add 2) ∧ Nw (w2.setCell ((blk b).add 2) v2) fun w3 => K w3 :=
  stC_all (vs := [v0, v1, v2]) hB hl hK
theorem box3 {T : TypeId} {cs : Array Value} {v0 v1 v2 : Value} {K : World → Prop} {w : World} (hl : cs.size = 3) (hK : ∀ w', Blk w' w.heap.size T [v0, v1, v2] → Below w.heap.size w w' → w'.heap.size = w.heap.size + 1 → K w') :
    Nw (w.alloc (.cells cs T)) fun w0 => Wr w0 (blk w.heap.size) ∧ Nw (w0.setCell (blk w.heap.size) v0) fun w1 => Wr w1 ((blk w.heap.size).add 1) ∧ Nw (w1.setCell ((blk w.heap.size).add 1) v1) fun w2 => Wr w2 ((blk w.heap.size).add 2) ∧ Nw (w2.setCell ((blk w.heap.size).add 2) v2) fun w3 => K w3 :=
  box_of (vs := [v0, v1, v2]) hl hK
theorem st4 {b : Nat} {T : TypeId} {cs : List Value} {v0 v1 v2 v3 : Value} {K : World → Prop} {w : World} (hB : Blk w b T cs) (hl : cs.length = 4) (hK : ∀ w', Blk w' b T [v0, v1, v2, v3] → Chg b w w' → K w') :
    Wr w (blk b) ∧ Nw (w.setCell (blk b) v0) fun w1 => Wr w1 ((blk b).add 1) ∧ Nw (w1.setCell ((blk b).add 1) v1) fun w2 => Wr w2 ((blk b).add 2) ∧ Nw (w2.setCell ((blk b).add 2) v2) fun w3 => Wr w3 ((blk b).add 3) ∧ Nw (w3.setCell ((blk b).add 3) v3) fun w4 => K w4 :=
  stC_all (vs := [v0, v1, v2, v3]) hB hl hK
theorem box4 {T : TypeId} {cs : Array Value} {v0 v1 v2 v3 : Value} {K : World → Prop} {w : World} (hl : cs.size = 4) (hK : ∀ w', Blk w' w.heap.size T [v0, v1, v2, v3] → Below w.heap.size w w' → w'.heap.size = w.heap.size + 1 → K w') :
    Nw (w.alloc (.cells cs T)) fun w0 => Wr w0 (blk w.heap.size) ∧ Nw (w0.setCell (blk w.heap.size) v0) fun w1 => Wr w1 ((blk w.heap.size).add 1) ∧ Nw (w1.setCell ((blk w.heap.size).add 1) v1) fun w2 => Wr w2 ((blk w.heap.size).add 2) ∧ Nw (w2.setCell ((blk w.heap.size).add 2) v2) fun w3 => Wr w3 ((blk w.heap.size).add 3) ∧ Nw (w3.setCell ((blk w.heap.size).add 3) v3) fun w4 => K w4 :=
  box_of (vs := [v0, v1, v2, v3]) hl hK
theorem st6 {b : Nat} {T : TypeId} {cs : List Value} {v0 v1 v2 v3 v4 v5 : Value} {K : World → Prop} {w : World} (hB : Blk w b T cs) (hl : cs.length = 6) (hK : ∀ w', Blk w' b T [v0, v1, v2, v3, v4, v5] → Chg b w w' → K w') :
    Wr w (blk b) ∧ Nw (w.setCell (blk b) v0) fun w1 => Wr w1 ((blk b).add 1) ∧ Nw (w1.setCell ((blk b).add 1) v1) fun w2 => Wr w2 ((blk b).add 2) ∧ Nw (w2.setCell ((blk b).add 2) v2) fun w3 => Wr w3 ((blk b).add 3) ∧ Nw (w3.setCell ((blk b).add 3) v3) fun w4 => Wr w4 ((blk b).add 4) ∧ Nw (w4.setCell ((blk b).add 4) v4) fun w5 => Wr w5 ((blk b).add 5) ∧ Nw (w5.setCell ((blk b).add 5) v5) fun w6 => K w6 :=
  stC_all (vs := [v0, v1, v2, v3, v4, v5]) hB hl hK
theorem box6 {T : TypeId} {cs : Array Value} {v0 v1 v2 v3 v4 v5 : Value} {K : World → Prop} {w : World} (hl : cs.size = 6) (hK : ∀ w', Blk w' w.heap.size T [v0, v1, v2, v3, v4, v5] → Below w.heap.size w w' → w'.heap.size = w.heap.size + 1 → K w') :
    Nw (w.alloc (.cells cs T)) fun w0 => Wr w0 (blk w.heap.size) ∧ Nw (w0.setCell (blk w.heap.size) v0) fun w1 => Wr w1 ((blk w.heap.size).add 1) ∧ Nw (w1.setCell ((blk w.heap.size).add 1) v1) fun w2 => Wr w2 ((blk w.heap.size).add 2) ∧ Nw (w2.setCell ((blk w.heap.size).add 2) v2) fun w3 => Wr w3 ((blk w.heap.size).add 3) ∧ Nw (w3.setCell ((blk w.heap.size).add 3) v3) fun w4 => Wr w4 ((blk w.heap.size).add 4) ∧ Nw (w4.setCell ((blk w.heap.size).add 4) v4) fun w5 => Wr w5 ((blk w.heap.size).add 5) ∧ Nw (w5.setCell ((blk w.heap.size).add 5) v5) fun w6 => K w6 :=
  box_of (vs := [v0, v1, v2, v3, v4, v5]) hl hK
theorem st8 {b : Nat} {T : TypeId} {cs : List Value} {v0 v1 v2 v3 v4 v5 v6 v7 : Value} {K : World → Prop} {w : World} (hB : Blk w b T cs) (hl : cs.length = 8) (hK : ∀ w', Blk w' b T [v0, v1, v2, v3, v4, v5, v6, v7] → Chg b w w' → K w') :
    Wr w (blk b) ∧ Nw (w.setCell (blk b) v0) fun w1 => Wr w1 ((blk b).add 1) ∧ Nw (w1.setCell ((blk b).add 1) v1) fun w2 => Wr w2 ((blk b).add 2) ∧ Nw (w2.setCell ((blk b).add 2) v2) fun w3 => Wr w3 ((blk b).add 3) ∧ Nw (w3.setCell ((blk b).add 3) v3) fun w4 => Wr w4 ((blk b).add 4) ∧ Nw (w4.setCell ((blk b).add 4) v4) fun w5 => Wr w5 ((blk b).add 5) ∧ Nw (w5.setCell ((blk b).add 5) v5) fun w6 => Wr w6 ((blk b).add 6) ∧ Nw (w6.setCell ((blk b).add 6) v6) fun w7 => Wr w7 ((blk b).add 7) ∧ Nw (w7.setCell ((blk b).add 7) v7) fun w8 => K w8 :=
  stC_all (vs := [v0, v1, v2, v3, v4, v5, v6, v7]) hB hl hK
theorem box8 {T : TypeId} {cs : Array Value} {v0 v1 v2 v3 v4 v5 v6 v7 : Value} {K : World → Prop} {w : World} (hl : cs.size = 8) (hK : ∀ w', Blk w' w.heap.size T [v0, v1, v2, v3, v4, v5, v6, v7] → Below w.heap.size w w' → w'.heap.size = w.heap.size + 1 → K w') :
    Nw (w.alloc (.cells cs T)) fun w0 => Wr w0 (blk w.heap.size) ∧ Nw (w0.setCell (blk w.heap.size) v0) fun w1 => Wr w1 ((blk w.heap.size).add 1) ∧ Nw (w1.setCell ((blk w.heap.size).add 1) v1) fun w2 => Wr w2 ((blk w.heap.size).add 2) ∧ Nw (w2.setCell ((blk w.heap.size).add 2) v2) fun w3 => Wr w3 ((blk w.heap.size).add 3) ∧ Nw (w3.setCell ((blk w.heap.size).add 3) v3) fun w4 => Wr w4 ((blk w.heap.size).add 4) ∧ Nw (w4.setCell ((blk w.heap.size).add 4) v4) fun w5 => Wr w5 ((blk w.heap.size).add 5) ∧ Nw (w5.setCell ((blk w.heap.size).add 5) v5) fun w6 => Wr w6 ((blk w.heap.size).add 6) ∧ Nw (w6.setCell ((blk w.heap.size).add 6) v6) fun w7 => Wr w7 ((blk w.heap.size).add 7) ∧ Nw (w7.setCell ((blk w.heap.size).add 7) v7) fun w8 => K w8 :=
  box_of (vs := [v0, v1, v2, v3, v4, v5, v6, v7]) hl hK

/-! ### An instruction's arguments: kind, number, text -/
abbrev Ag := Int × Int × ByteArray
abbrev agV (x : Ag) : List Value := [.int .u8 x.1, .int .u32 x.2.1, .string x.2.2]
theorem agV_len (x : Ag) : (agV x).length = 3 := rfl
abbrev IsAg (w : World) (s : Sl) (l : List Ag) : Prop := IsC 3 agV w s l
section
variable {w w' : World} {s : Sl} {l : List Ag}
theorem IsAg.below (h : IsAg w s l) (hb : Below w.heap.size w w') : IsAg w' s l := IsC.below agV_len h hb
theorem IsAg.drew (h : IsAg w s l) : IsAg w.drew s l := IsC.below agV_len h (Below.refl _ _).drew
theorem IsAg.heap (h : IsAg w s l) (hb : w'.heap = w.heap) : IsAg w' s l := IsC.of_block agV_len h fun _ _ _ => by rw [hb]
/-- An argument, whole. -/
theorem elemA3 (h : IsAg w s l) {k : Nat} (hk : k < l.length) {φ : Int → Int → ByteArray → Prop} (hφ : φ l[k].1 l[k].2.1 l[k].2.2) :
    (0 ≤ (k : Int) ∧ (k : Int) < (s.l : Int)) ∧ derefP s.a fun a => ldI w ((a.add (Int.toNat (k : Int) * 3)).add 0) .u8 fun x => ldI w ((a.add (Int.toNat (k : Int) * 3)).add 1) .u32 fun y => ldStr w ((a.add (Int.toNat (k : Int) * 3)).add 2) fun z => φ x y z := by
  obtain ⟨a, ha⟩ := h.base hk
  have hc := fun j hj => h.cell a ha k hk j hj
  refine ⟨⟨by omega, by have := h.len; omega⟩, derefP_some ha ⟨_, ?_, _, ?_, _, ?_, hφ⟩⟩
  · rw [add_add']; exact hc 0 (by omega)
  · rw [add_add']; exact hc 1 (by omega)
  · rw [add_add']; exact hc 2 (by omega)
/-- Its kind. -/
theorem elemAk (h : IsAg w s l) {k : Nat} (hk : k < l.length) {φ : Int → Prop} (hφ : φ l[k].1) :
    (0 ≤ (k : Int) ∧ (k : Int) < (s.l : Int)) ∧ derefP s.a fun a => ldI w (a.add (Int.toNat (k : Int) * 3)) .u8 φ := by
  obtain ⟨a, ha⟩ := h.base hk
  exact ⟨⟨by omega, by have := h.len; omega⟩, derefP_some ha ⟨_, h.cell a ha k hk 0 (by omega), hφ⟩⟩
/-- Its number. -/
theorem elemAn (h : IsAg w s l) {k : Nat} (hk : k < l.length) {φ : Int → Prop} (hφ : φ l[k].2.1) :
    (0 ≤ (k : Int) ∧ (k : Int) < (s.l : Int)) ∧ derefP s.a fun a => ldI w ((a.add (Int.toNat (k : Int) * 3)).add 1) .u32 φ := by
  obtain ⟨a, ha⟩ := h.base hk
  exact ⟨⟨by omega, by have := h.len; omega⟩, derefP_some ha ⟨_, by rw [add_add']; exact h.cell a ha k hk 1 (by omega), hφ⟩⟩
/-- Its text. -/
theorem elemAs (h : IsAg w s l) {k : Nat} (hk : k < l.length) {φ : ByteArray → Prop} (hφ : φ l[k].2.2) :
    (0 ≤ (k : Int) ∧ (k : Int) < (s.l : Int)) ∧ derefP s.a fun a => ldStr w ((a.add (Int.toNat (k : Int) * 3)).add 2) φ := by
  obtain ⟨a, ha⟩ := h.base hk
  exact ⟨⟨by omega, by have := h.len; omega⟩, derefP_some ha ⟨_, by rw [add_add']; exact h.cell a ha k hk 2 (by omega), hφ⟩⟩
theorem set3 (xs : List Value) {cs : List Value} {m : Nat} (hc : cs.length = (m + 1) * 3) (x y z : Value) :
    ∃ r, r.length = m * 3 ∧ (((xs ++ cs).set xs.length x).set (xs.length + 1) y).set (xs.length + 2) z = (xs ++ [x, y, z]) ++ r := by
  match cs, hc with
  | [], hc => simp at hc
  | [_], hc => simp at hc; omega
  | [_, _], hc => simp at hc; omega
  | a :: b :: c :: r, hc =>
    refine ⟨r, by simp at hc; omega, ?_⟩
    rw [List.set_append_right _ _ (Nat.le_refl _), List.set_append_right _ _ (by omega), List.set_append_right _ _ (by omega)]
    simp [show xs.length + 1 - xs.length = 1 by omega, show xs.length + 2 - xs.length = 2 by omega]
end
/-! ### A module: instructions, each with its arguments -/
abbrev Ins := Int × Int × Int × Sl × Unit
abbrev inV (x : Ins) : List Value := [.int .u16 x.1, .int .u32 x.2.1, .int .u32 x.2.2.1, .slice x.2.2.2.1.a x.2.2.2.1.l x.2.2.2.1.c]
abbrev inA (x : Ins) : Value := .agg #[.int .u16 x.1, .int .u32 x.2.1, .int .u32 x.2.2.1, .slice x.2.2.2.1.a x.2.2.2.1.l x.2.2.2.1.c]
theorem inV_len (x : Ins) : (inV x).length = 4 := rfl
theorem Ins.load {w : World} {b : Nat} {T : TypeId} {x : Ins} (h : Blk w b T (inV x)) {φ : Int → Int → Int → Sl → Prop} (hφ : φ x.1 x.2.1 x.2.2.1 x.2.2.2.1) :
    ldI w ((blk b).add 0) .u16 fun x1 => ldI w ((blk b).add 1) .u32 fun x2 => ldI w ((blk b).add 2) .u32 fun x3 => ldS w ((blk b).add 3) fun x4 => φ x1 x2 x3 x4 :=
  h.rI (n := 0) rfl (h.rI (n := 1) rfl (h.rI (n := 2) rfl (h.rS (n := 3) rfl hφ)))
theorem _root_.Go.Gk.Blk.rI0 {w : World} {b : Nat} {T : TypeId} {cs : List Value} (h : Blk w b T cs) {κ : IntKind} {x : Int} (hn : cs[0]? = some (.int κ x)) {φ : Int → Prop} (hφ : φ x) : ldI w (blk b) κ φ := ⟨x, h.cell0 hn, hφ⟩
/-- An instruction: operation, type, result, arguments. -/
abbrev PI := Int × Int × Int × List Ag
abbrev mkIn (p : PI) (t : Sl) : Ins := (p.1, p.2.1, p.2.2.1, t, ())
/-- The slice s holds the instructions pl. -/
structure IsPl (w : World) (s : Sl) (pl : List PI) : Prop where
  len : s.l = pl.length
  cap : s.l ≤ s.c
  max : s.c ≤ 9223372036854775807
  nil : s.a = none → s.c = 0
  elem : ∀ a, s.a = some a → ∀ (k : Nat) (h : k < pl.length), ∃ t : Sl, (∀ j, j < 4 → w.cell? (a.add (k * 4 + j)) = (inV (mkIn pl[k] t))[j]?) ∧ IsAg w t pl[k].2.2.2
section
variable {w w' : World} {s : Sl} {pl : List PI}
theorem IsPl.below (h : IsPl w s pl) (hb : Below w.heap.size w w') : IsPl w' s pl := by
  refine ⟨h.len, h.cap, h.max, h.nil, fun a ha k hk => ?_⟩
  obtain ⟨t, h1, h2⟩ := h.elem a ha k hk
  refine ⟨t, fun j hj => ?_, h2.below hb⟩
  have hc := h1 j hj
  have hlt : j < (inV (mkIn pl[k] t)).length := hj
  rw [List.getElem?_eq_getElem hlt] at hc ⊢
  have hb1 := World.block_lt_of_cell? w _ hc
  rw [World.cell?_of_block (w := w) (hb.block _ hb1)]
  exact hc
theorem IsPl.bound (h : IsPl w s pl) : pl.length ≤ 9223372036854775807 := by have := h.len; have := h.cap; have := h.max; omega
theorem IsPl.base (h : IsPl w s pl) {i : Nat} (hi : i < pl.length) : ∃ a, s.a = some a := by
  cases ha : s.a with
  | none => have := h.nil ha; have := h.len; have := h.cap; omega
  | some a => exact ⟨a, rfl⟩
/-- An instruction, whole. -/
theorem elemPI (h : IsPl w s pl) {k : Nat} (hk : k < pl.length) {φ : Int → Int → Int → Sl → Prop} (hφ : ∀ t, IsAg w t pl[k].2.2.2 → φ pl[k].1 pl[k].2.1 pl[k].2.2.1 t) :
    (0 ≤ (k : Int) ∧ (k : Int) < (s.l : Int)) ∧ derefP s.a fun a => ldI w ((a.add (Int.toNat (k : Int) * 4)).add 0) .u16 fun x => ldI w ((a.add (Int.toNat (k : Int) * 4)).add 1) .u32 fun y => ldI w ((a.add (Int.toNat (k : Int) * 4)).add 2) .u32 fun z => ldS w ((a.add (Int.toNat (k : Int) * 4)).add 3) fun t => φ x y z t := by
  obtain ⟨a, ha⟩ := h.base hk
  obtain ⟨t, h1, h2⟩ := h.elem a ha k hk
  refine ⟨⟨by omega, by have := h.len; omega⟩, derefP_some ha ⟨_, ?_, _, ?_, _, ?_, t, ?_, hφ t h2⟩⟩
  · rw [add_add']; exact h1 0 (by omega)
  · rw [add_add']; exact h1 1 (by omega)
  · rw [add_add']; exact h1 2 (by omega)
  · rw [add_add']; exact h1 3 (by omega)
/-- Its operation. -/
theorem elemPo (h : IsPl w s pl) {k : Nat} (hk : k < pl.length) {φ : Int → Prop} (hφ : φ pl[k].1) :
    (0 ≤ (k : Int) ∧ (k : Int) < (s.l : Int)) ∧ derefP s.a fun a => ldI w (a.add (Int.toNat (k : Int) * 4)) .u16 φ := by
  obtain ⟨a, ha⟩ := h.base hk
  obtain ⟨t, h1, h2⟩ := h.elem a ha k hk
  exact ⟨⟨by omega, by have := h.len; omega⟩, derefP_some ha ⟨_, h1 0 (by omega), hφ⟩⟩
/-- Its result. -/
theorem elemPr (h : IsPl w s pl) {k : Nat} (hk : k < pl.length) {φ : Int → Prop} (hφ : φ pl[k].2.2.1) :
    (0 ≤ (k : Int) ∧ (k : Int) < (s.l : Int)) ∧ derefP s.a fun a => ldI w ((a.add (Int.toNat (k : Int) * 4)).add 2) .u32 φ := by
  obtain ⟨a, ha⟩ := h.base hk
  obtain ⟨t, h1, h2⟩ := h.elem a ha k hk
  exact ⟨⟨by omega, by have := h.len; omega⟩, derefP_some ha ⟨_, by rw [add_add']; exact h1 2 (by omega), hφ⟩⟩
/-- Its arguments. -/
theorem elemPs (h : IsPl w s pl) {k : Nat} (hk : k < pl.length) {φ : Sl → Prop} (hφ : ∀ t, IsAg w t pl[k].2.2.2 → φ t) :
    (0 ≤ (k : Int) ∧ (k : Int) < (s.l : Int)) ∧ derefP s.a fun a => ldS w ((a.add (Int.toNat (k : Int) * 4)).add 3) φ := by
  obtain ⟨a, ha⟩ := h.base hk
  obtain ⟨t, h1, h2⟩ := h.elem a ha k hk
  exact ⟨⟨by omega, by have := h.len; omega⟩, derefP_some ha ⟨t, by rw [add_add']; exact h1 3 (by omega), hφ t h2⟩⟩
end
/-- What is known of a module that is handed in: sizes. -/
structure PlOk (pl : List PI) : Prop where
  len : 40 * pl.length ≤ 140737488351232
  args : ∀ p ∈ pl, 24 * p.2.2.2.length ≤ 140737488351232
  text : ∀ p ∈ pl, ∀ x ∈ p.2.2.2, x.2.2.size ≤ 9223372036854775807
  nums : ∀ p ∈ pl, (0 ≤ p.2.1 ∧ p.2.1 ≤ 4294967295) ∧ (0 ≤ p.2.2.1 ∧ p.2.2.1 ≤ 4294967295) ∧ ∀ x ∈ p.2.2.2, 0 ≤ x.2.1 ∧ x.2.1 ≤ 4294967295
/-- A module's box. -/
abbrev Mo := Int × Int × Sl × Unit
abbrev moV (x : Mo) : List Value := [.int .u32 x.1, .int .u32 x.2.1, .slice x.2.2.1.a x.2.2.1.l x.2.2.1.c]
abbrev moA (x : Mo) : Value := .agg #[.int .u32 x.1, .int .u32 x.2.1, .slice x.2.2.1.a x.2.2.1.l x.2.2.1.c]
theorem Mo.load {w : World} {b : Nat} {T : TypeId} {x : Mo} (h : Blk w b T (moV x)) {φ : Int → Int → Sl → Prop} (hφ : φ x.1 x.2.1 x.2.2.1) :
    ldI w ((blk b).add 0) .u32 fun x1 => ldI w ((blk b).add 1) .u32 fun x2 => ldS w ((blk b).add 2) fun x3 => φ x1 x2 x3 :=
  h.rI (n := 0) rfl (h.rI (n := 1) rfl (h.rS (n := 2) rfl hφ))
/-- A pair of numbers in a box. -/
theorem Sp.load {w : World} {b : Nat} {T : TypeId} {x y : Int} (h : Blk w b T [.int .i64 x, .int .i64 y]) {φ : Int → Int → Prop} (hφ : φ x y) :
    ldI w ((blk b).add 0) .i64 fun x1 => ldI w ((blk b).add 1) .i64 fun x2 => φ x1 x2 := h.rI (n := 0) rfl (h.rI (n := 1) rfl hφ)
theorem set4 (xs : List Value) {cs : List Value} {m : Nat} (hc : cs.length = (m + 1) * 4) (x y z t : Value) :
    ∃ r, r.length = m * 4 ∧ ((((xs ++ cs).set xs.length x).set (xs.length + 1) y).set (xs.length + 2) z).set (xs.length + 3) t = (xs ++ [x, y, z, t]) ++ r := by
  match cs, hc with
  | [], hc => simp at hc
  | [_], hc => simp at hc; omega
  | [_, _], hc => simp at hc; omega
  | [_, _, _], hc => simp at hc; omega
  | a :: b :: c :: d :: r, hc =>
    refine ⟨r, by simp at hc; omega, ?_⟩
    rw [List.set_append_right _ _ (Nat.le_refl _), List.set_append_right _ _ (by omega), List.set_append_right _ _ (by omega), List.set_append_right _ _ (by omega)]
    simp [show xs.length + 1 - xs.length = 1 by omega, show xs.length + 2 - xs.length = 2 by omega, show xs.length + 3 - xs.length = 3 by omega]

/-- Below block B nothing has turned but the blocks X. -/
structure Fr (B : Nat) (X : Nat → Prop) (w w' : World) : Prop where
  os : w'.os = w.os
  tape : w'.tape = w.tape
  output : w'.output = w.output
  size : w.heap.size ≤ w'.heap.size
  block : ∀ k, k < B → ¬ X k → w'.heap[k]? = w.heap[k]?
theorem Fr.refl (B : Nat) (X : Nat → Prop) (w : World) : Fr B X w w := ⟨rfl, rfl, rfl, Nat.le_refl _, fun _ _ _ => rfl⟩
theorem Fr.trans {B : Nat} {X : Nat → Prop} {a b c : World} (h : Fr B X a b) (k : Fr B X b c) : Fr B X a c :=
  ⟨k.os.trans h.os, k.tape.trans h.tape, k.output.trans h.output, Nat.le_trans h.size k.size, fun i hi hx => (k.block i hi hx).trans (h.block i hi hx)⟩
theorem Fr.of_below {B : Nat} {X : Nat → Prop} {w w' : World} (h : Below B w w') : Fr B X w w' := ⟨h.os, h.tape, h.output, h.size, fun k hk _ => h.block k hk⟩
theorem Fr.set {B : Nat} {X : Nat → Prop} {w w' : World} (h : Fr B X w w') {a : Addr} (ha : B ≤ a.block ∨ X a.block) (v : Value) : Fr B X w (w'.setCell a v) :=
  h.trans ⟨rfl, rfl, rfl, by simp [World.setCell], fun k hk hx => Below.heap_setCell _ _ _ _ (fun e => by
    rcases ha with ha | ha
    · omega
    · exact hx (e ▸ ha))⟩
theorem Fr.drew {B : Nat} {X : Nat → Prop} {w w' : World} (h : Fr B X w w') : Fr B X w w'.drew := h.trans ⟨rfl, rfl, rfl, Nat.le_refl _, fun _ _ _ => rfl⟩
theorem Fr.alloc {B : Nat} {X : Nat → Prop} {w w' : World} (h : Fr B X w w') (hB : B ≤ w'.heap.size) (o : Obj) : Fr B X w (w'.alloc o) :=
  h.trans (Fr.of_below ((Below.refl _ _).alloc hB o))
theorem Fr.grown {B : Nat} {X : Nat → Prop} {w w' w'' : World} (h : Fr B X w w') {b : Nat} (hg : w'.grownBy w'' (some b)) (hb : B ≤ b) (hB : B ≤ w'.heap.size) : Fr B X w w'' :=
  h.trans (Fr.of_below (below_grown hg hb hB))
theorem Fr.below {B : Nat} {w w' : World} (h : Fr B (fun _ => False) w w') : Below B w w' := ⟨h.os, h.tape, h.output, h.size, fun k hk => h.block k hk id⟩
theorem Fr.mono {B B' : Nat} {X X' : Nat → Prop} {w w' : World} (h : Fr B X w w') (hB : B' ≤ B) (hX : ∀ k, k < B' → X k → X' k) : Fr B' X' w w' :=
  ⟨h.os, h.tape, h.output, h.size, fun k hk hx => h.block k (by omega) (fun hh => hx (hX k hk hh))⟩

theorem eInt : ElemT Try.prog 46 3 1 8 := ⟨by kernel_rfl, Try.t3, .int .i64 0, by kernel_rfl, rfl, rfl, rfl, rfl⟩

end Go.Proofs
