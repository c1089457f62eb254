/-
  Memory, more: blocks that are known whole, rows that the code itself grows, sets of bits.
-/
import Derived.Test.YtpeonjpjphhenaaGkM
namespace Go.Gk
open Go.RowKit
variable {P : Program}

/-! ### A block that is known whole -/
/-- Block b is the cells cs of the type T, none of them frozen. -/
def Blk (w : World) (b : Nat) (T : TypeId) (cs : List Value) : Prop := w.heap[b]? = some (.cells cs.toArray T (0, 0))
theorem Blk.lt {w : World} {b : Nat} {T : TypeId} {cs : List Value} (h : Blk w b T cs) : b < w.heap.size := (Array.getElem?_eq_some_iff.1 h).1
theorem add_blk (b n : Nat) : (blk b).add n = ⟨b, n, none⟩ := by unfold Addr.add; split <;> simp_all
theorem add_add (a : Addr) (n m : Nat) (ha : a.spot = none) : (a.add n).add m = a.add (n + m) := by
  unfold Addr.add
  obtain ⟨b, o, s⟩ := a
  simp only at ha
  subst ha
  by_cases h1 : n = 0 <;> by_cases h2 : m = 0 <;> simp [h1, h2, Nat.add_assoc]
theorem Blk.cell {w : World} {b : Nat} {T : TypeId} {cs : List Value} (h : Blk w b T cs) {n : Nat} {v : Value} (hn : cs[n]? = some v) : w.cell? ((blk b).add n) = some v := by
  rw [add_blk]
  simp only [World.cell?]
  rw [show w.heap[b]? = _ from h]
  simpa using hn
theorem Blk.cell0 {w : World} {b : Nat} {T : TypeId} {cs : List Value} (h : Blk w b T cs) {v : Value} (hn : cs[0]? = some v) : w.cell? (blk b) = some v := h.cell (n := 0) hn
theorem Blk.frozen {w : World} {b : Nat} {T : TypeId} {cs : List Value} (h : Blk w b T cs) (n : Nat) : w.frozen? ((blk b).add n) = false := by
  rw [add_blk]
  simp only [World.frozen?]
  rw [show w.heap[b]? = _ from h]
  simp
theorem Blk.wr {w : World} {b : Nat} {T : TypeId} {cs : List Value} (h : Blk w b T cs) {n : Nat} (hn : n < cs.length) : Wr w ((blk b).add n) :=
  ⟨⟨cs[n], h.cell (List.getElem?_eq_getElem hn)⟩, h.frozen n⟩
theorem Blk.wr0 {w : World} {b : Nat} {T : TypeId} {cs : List Value} (h : Blk w b T cs) (hn : 0 < cs.length) : Wr w (blk b) := h.wr (n := 0) hn
theorem Blk.set {w : World} {b : Nat} {T : TypeId} {cs : List Value} (h : Blk w b T cs) (n : Nat) (v : Value) : Blk (w.setCell ((blk b).add n) v) b T (cs.set n v) := by
  rw [add_blk]
  have hlt := h.lt
  have hv : w.heap[b] = .cells cs.toArray T (0, 0) := (Array.getElem?_eq_some_iff.1 h).2
  unfold Blk World.setCell
  simp only
  rw [Array.getElem?_eq_getElem (by simpa using hlt), Array.getElem_modify]
  simp [hv]
theorem Blk.set0 {w : World} {b : Nat} {T : TypeId} {cs : List Value} (h : Blk w b T cs) (v : Value) : Blk (w.setCell (blk b) v) b T (cs.set 0 v) := h.set 0 v
theorem Blk.new (w : World) (T : TypeId) (cs : Array Value) : Blk (w.alloc (.cells cs T)) w.heap.size T cs.toList := by
  show (w.heap.push _)[w.heap.size]? = _
  simp
theorem Blk.of_block {w w' : World} {b : Nat} {T : TypeId} {cs : List Value} (h : Blk w b T cs) (hb : w'.heap[b]? = w.heap[b]?) : Blk w' b T cs := hb.trans h
theorem Blk.below {w w' : World} {b : Nat} {T : TypeId} {cs : List Value} (h : Blk w b T cs) (hb : Below w.heap.size w w') : Blk w' b T cs := h.of_block (hb.block b h.lt)
theorem Blk.drew {w : World} {b : Nat} {T : TypeId} {cs : List Value} (h : Blk w b T cs) : Blk w.drew b T cs := h
theorem Blk.type {w : World} {b : Nat} {T T' : TypeId} {cs cs' : List Value} (h : Blk w b T cs) (h' : Blk w b T' cs') : T = T' := by
  have := (show w.heap[b]? = _ from h).symm.trans h'
  simp at this
  exact this.2
theorem Blk.apart {w : World} {b b' : Nat} {T T' : TypeId} {cs cs' : List Value} (h : Blk w b T cs) (h' : Blk w b' T' cs') (hT : T ≠ T') : b ≠ b' := fun e => hT (h.type (e ▸ h'))
theorem Blk.uniq {w : World} {b : Nat} {T T' : TypeId} {cs cs' : List Value} (h : Blk w b T cs) (h' : Blk w b T' cs') : cs = cs' := by
  have := (show w.heap[b]? = _ from h).symm.trans h'
  simp at this
  exact this.1
theorem alloc_old (w : World) (o : Obj) {k : Nat} (h : k < w.heap.size) : (w.alloc o).heap[k]? = w.heap[k]? := Below.heap_alloc w o k h
theorem Blk.alloc {w : World} {b : Nat} {T : TypeId} {cs : List Value} (h : Blk w b T cs) (o : Obj) : Blk (w.alloc o) b T cs := h.of_block (alloc_old w o h.lt)
theorem Blk.other {w : World} {b : Nat} {T : TypeId} {cs : List Value} (h : Blk w b T cs) {a : Addr} (hne : b ≠ a.block) (v : Value) : Blk (w.setCell a v) b T cs := h.of_block (Below.heap_setCell w a v b hne)
/-- A slice over a whole block. -/
theorem Blk.isS {α : Type} {f : α → Value} {w : World} {b : Nat} {T : TypeId} {l : List α} {s : Sl} (h : Blk w b T (l.map f)) (ha : s.a = some (blk b)) (hl : s.l = l.length) (hc : s.l ≤ s.c) (hm : s.c ≤ 9223372036854775807) : IsS f w s l := by
  refine ⟨hl, hc, hm, (fun hn => by rw [hn] at ha; cases ha), fun a ha' i hi => ?_⟩
  rw [ha] at ha'
  cases ha'
  exact h.cell (by simp [hi])

/-! ### A row that the code itself grows -/
/-- s is nil, or the head of a block of the type T whose first cells are xs. -/
def Own (w : World) (T : TypeId) (sz : Nat) (s : Sl) (xs : List Value) : Prop :=
  xs.length = s.l * sz ∧ (s = ⟨none, 0, 0⟩ ∨ ∃ b cs, s.a = some (blk b) ∧ Blk w b T cs ∧ s.l ≤ s.c ∧ s.c ≤ 9223372036854775807 ∧ cs.length = s.c * sz ∧ cs.take (s.l * sz) = xs)
theorem Own.nil (w : World) (T : TypeId) (sz : Nat) : Own w T sz ⟨none, 0, 0⟩ [] := ⟨by simp, .inl rfl⟩
theorem Own.lt {w : World} {T : TypeId} {sz : Nat} {s : Sl} {xs : List Value} (h : Own w T sz s xs) {a : Addr} (ha : s.a = some a) : a = blk a.block ∧ a.block < w.heap.size := by
  rcases h.2 with rfl | ⟨b, cs, hb, hB, _⟩
  · cases ha
  · rw [hb] at ha; cases ha; exact ⟨rfl, hB.lt⟩
theorem Own.type {w : World} {T : TypeId} {sz : Nat} {s : Sl} {xs : List Value} (h : Own w T sz s xs) {a : Addr} (ha : s.a = some a) : ∃ cs, Blk w a.block T cs := by
  rcases h.2 with rfl | ⟨b, cs, hb, hB, _⟩
  · cases ha
  · rw [hb] at ha; cases ha; exact ⟨cs, hB⟩
theorem Own.of_block {w w' : World} {T : TypeId} {sz : Nat} {s : Sl} {xs : List Value} (h : Own w T sz s xs) (hb : ∀ a, s.a = some a → w'.heap[a.block]? = w.heap[a.block]?) : Own w' T sz s xs := by
  refine ⟨h.1, ?_⟩
  rcases h.2 with rfl | ⟨b, cs, ha, hB, r⟩
  · exact .inl rfl
  · exact .inr ⟨b, cs, ha, hB.of_block (hb _ ha), r⟩
theorem Own.below {w w' : World} {T : TypeId} {sz : Nat} {s : Sl} {xs : List Value} (h : Own w T sz s xs) (hb : Below w.heap.size w w') : Own w' T sz s xs :=
  h.of_block fun _ ha => hb.block _ (h.lt ha).2
theorem Own.alloc {w : World} {T : TypeId} {sz : Nat} {s : Sl} {xs : List Value} (h : Own w T sz s xs) (o : Obj) : Own (w.alloc o) T sz s xs := h.of_block fun _ ha => alloc_old w o (h.lt ha).2
theorem Own.drew {w : World} {T : TypeId} {sz : Nat} {s : Sl} {xs : List Value} (h : Own w T sz s xs) : Own w.drew T sz s xs := h
theorem Own.isS {α : Type} {f : α → Value} {w : World} {T : TypeId} {s : Sl} {l : List α} (h : Own w T 1 s (l.map f)) : IsS f w s l := by
  have hl : s.l = l.length := by have := h.1; simp at this; omega
  rcases h.2 with rfl | ⟨b, cs, ha, hB, hc, hm, hcs, htk⟩
  · simp at hl
    have : l = [] := List.eq_nil_of_length_eq_zero hl.symm
    subst this
    exact ⟨rfl, Nat.le_refl _, Nat.zero_le _, fun _ => rfl, fun a ha => by cases ha⟩
  · refine ⟨hl, hc, hm, (fun hn => by rw [hn] at ha; cases ha), fun a ha' i hi => ?_⟩
    rw [ha] at ha'
    cases ha'
    refine hB.cell ?_
    have hlt : i < s.l * 1 := by omega
    have : (cs.take (s.l * 1))[i]? = cs[i]? := List.getElem?_take_of_lt hlt
    rw [← this, htk]
    simp [hi]

/-- The element type of a slice type: how many cells, how many bytes. -/
structure ElemT (P : Program) (t e : TypeId) (sz bytes : Nat) : Prop where
  under : P.underlying t = some (.slice e)
  info : ∃ i z, P.info? e = some i ∧ i.size = sz ∧ i.bytes = bytes ∧ i.zero = some z ∧ z.cells.size = sz

/-- append(s, x...) at a row of the code's own. -/
theorem append_own {t e : TypeId} {sz bytes : Nat} (he : ElemT P t e sz bytes) {w : World} {s : Sl} {xs : List Value} (h : Own w e sz s xs)
    {a : Addr} {m c : Nat} {news : List Value} (hl : news.length = m * sz) (hnews : ∀ j u, news[j]? = some u → w.cell? (a.add j) = some u) (h1 : ∀ u ∈ news, u.oneCell' = true)
    (h63 : s.l + m ≤ 9223372036854775807) (hbytes : (s.l + m) * bytes ≤ 140737488355328) {k : Sl → World → Prop}
    (hk : ∀ r w', Own w' e sz r (xs ++ news) → r.l = s.l + m → ((r.a = none ∧ w' = w ∧ r = s) ∨ ∃ b, r.a = some (blk b) ∧ (s.a = some (blk b) ∨ b = w.heap.size) ∧ w.grownBy w' (some b)) → k r w') :
    appendS P t s.val (.slice (some a) m c) w k := by
  obtain ⟨hu, i, z, hi, rfl, rfl, hz, hzs⟩ := he
  have hlen : (xs ++ news).length = (s.l + m) * i.size := by rw [List.length_append, h.1, hl, Nat.add_mul]
  have grown : ∀ (old : Nat), old < s.l + m →
      Own (w.drew.alloc (.cells (xs.toArray ++ news.toArray ++ Builtin.zeroCells z.cells (grownCap w (s.l + m) old e - (s.l + m))) e)) e i.size ⟨some (blk w.heap.size), s.l + m, grownCap w (s.l + m) old e⟩ (xs ++ news) ∧
      w.grownBy (w.drew.alloc (.cells (xs.toArray ++ news.toArray ++ Builtin.zeroCells z.cells (grownCap w (s.l + m) old e - (s.l + m))) e)) (some w.heap.size) := by
    intro old ho
    have hge := grownCap_ge w (s.l + m) old e
    have hcm : grownCap w (s.l + m) old e ≤ 9223372036854775807 := grownCap_le_maxLen w (s.l + m) old e h63
    refine ⟨⟨hlen, .inr ⟨w.heap.size, _, rfl, Blk.new w.drew e _, hge, hcm, ?_, ?_⟩⟩, ⟨rfl, rfl, rfl, by simp, fun k hk _ => alloc_old w.drew _ hk⟩⟩
    · simp only [Array.length_toList, Array.size_append, List.size_toArray, size_zeroCells, hzs, h.1, hl, ← Nat.add_mul]
      congr 1
      omega
    · simp only [Array.toList_append, List.append_assoc]
      rw [← List.append_assoc, ← hlen]
      exact List.take_left
  obtain ⟨hx, h2⟩ := h
  rcases h2 with rfl | ⟨b, cs, ha, hB, hc, hcm, hcs, htk⟩
  · simp only [Nat.zero_mul] at hx
    have hx : xs = [] := List.eq_nil_of_length_eq_zero hx
    subst hx
    by_cases hm : m = 0
    · subst hm
      have hn : news = [] := List.eq_nil_of_length_eq_zero (by simpa using hl)
      subst hn
      refine ⟨⟨none, 0, 0⟩, w, ?_, hk _ _ (Own.nil w e i.size) rfl (.inl ⟨rfl, rfl, rfl⟩)⟩
      simp [Builtin.append_, run_underlying hu, sizeOf, typeInfo, hi, Builtin.lenOf, Builtin.firstCells, loadCells, loadCellsFrom, Sl.val, Sl.v]
    · have hr := run_append_nil (P := P) w t t e i z hu hi hz a m c news hl hnews (by omega) (by simp only at h63; omega) (by simp only [Nat.zero_add] at hbytes; omega)
      have hg := grown 0 (by simp; omega)
      simp only [Nat.zero_add, List.nil_append, Array.empty_append] at hg hk
      exact ⟨⟨some (blk w.heap.size), m, grownCap w m 0 e⟩, _, hr, hk _ _ hg.1 (by simp) (.inr ⟨_, rfl, .inr rfl, hg.2⟩)⟩
  · obtain ⟨sa, sl, sc⟩ := s
    simp only at ha hc hcm hcs htk hx hlen h63 hbytes grown hk
    subst ha
    by_cases hroom : sl + m ≤ sc
    · have hfit : sl * i.size + news.length ≤ cs.length := by rw [hl, hcs, ← Nat.add_mul]; exact Nat.mul_le_mul_right _ hroom
      have hr := run_append_room (P := P) w t t e i hu hi b sl sc cs.toArray hB a m c news hl hnews h1 hroom (by simpa using hfit)
      refine ⟨⟨some (blk b), sl + m, sc⟩, _, hr, hk _ _ ⟨hlen, .inr ⟨b, _, rfl, setRow_heap w b _ _ e _ hB, hroom, hcm, ?_, ?_⟩⟩ rfl (.inr ⟨b, rfl, .inl rfl, ⟨rfl, rfl, rfl, by simp [World.setRow], fun k _ hk => setRow_other w b k _ (fun e => hk (by rw [e]))⟩⟩)⟩
      · simp only [List.length_append, List.length_take, List.length_drop]
        omega
      · simp only
        rw [htk, ← hlen]
        exact List.take_left
    · have holds : ∀ j u, xs[j]? = some u → w.cell? ((blk b).add j) = some u := fun j u hj => hB.cell (by
        rw [← htk] at hj
        have hlt : j < sl * i.size := by
          have := (List.getElem?_eq_some_iff.1 hj).1
          simp at this; omega
        rwa [List.getElem?_take_of_lt hlt] at hj)
      have hr := run_append_grow (P := P) w t t e i z hu hi hz (blk b) sl sc xs hx holds a m c news hl hnews (by omega) (by omega) (growslice_fits (by omega) hbytes)
      have hg := grown sc (by omega)
      exact ⟨⟨some (blk w.heap.size), sl + m, _⟩, _, hr, hk _ _ hg.1 rfl (.inr ⟨_, rfl, .inr rfl, hg.2⟩)⟩

/-- append(s, v) of one cell, as the code does it: the one new element lies in a block of its own. -/
theorem append_one {t e : TypeId} {bytes : Nat} (he : ElemT P t e 1 bytes) {w : World} {s : Sl} {xs : List Value} (h : Own w e 1 s xs) {v : Value} (hv : v.oneCell' = true) {b c : Nat} {T : TypeId} (hB : Blk w b T [v])
    (h63 : s.l + 1 ≤ 9223372036854775807) (hbytes : (s.l + 1) * bytes ≤ 140737488355328) {k : Sl → World → Prop}
    (hk : ∀ r w', Own w' e 1 r (xs ++ [v]) → r.l = s.l + 1 → (∃ b, r.a = some (blk b) ∧ (s.a = some (blk b) ∨ b = w.heap.size) ∧ w.grownBy w' (some b)) → k r w') :
    appendS P t s.val (.slice (some (blk b)) 1 c) w k := by
  refine append_own he h (news := [v]) rfl (fun j u hj => ?_) (by simpa using hv) h63 hbytes fun r w' h1 h2 h3 => ?_
  · cases j with
    | zero => simp at hj; subst hj; exact hB.cell rfl
    | succ j => simp at hj
  · refine hk r w' h1 h2 (h3.resolve_left ?_)
    rintro ⟨_, _, rfl⟩
    omega

theorem madeCells_one (z : Value) (n : Nat) : (madeCells #[z] (n * 1)).toList = List.replicate n z := by
  rw [Nat.mul_one, toList_madeCells_one]
/-- make([]T, n). -/
theorem Blk.made (w : World) (T : TypeId) (z : Value) (n : Nat) : Blk (w.alloc (.cells (madeCells #[z] (n * 1)) T)) w.heap.size T (List.replicate n z) := by
  have := Blk.new w T (madeCells #[z] (n * 1))
  rwa [madeCells_one] at this
theorem below_grown {B : Nat} {w w' : World} {b : Nat} (h : w.grownBy w' (some b)) (hb : B ≤ b) (hB : B ≤ w.heap.size) : Below B w w' :=
  ⟨h.os, h.tape, h.output, h.size, fun k hk => h.block k (by omega) (fun e => by cases e; omega)⟩

/-- Nothing has turned but the block of s. -/
structure Only (s : Sl) (w w' : World) : Prop where
  os : w'.os = w.os
  tape : w'.tape = w.tape
  output : w'.output = w.output
  size : w'.heap.size = w.heap.size
  block : ∀ k, (∀ a, s.a = some a → a.block ≠ k) → w'.heap[k]? = w.heap[k]?
theorem Only.refl (s : Sl) (w : World) : Only s w w := ⟨rfl, rfl, rfl, rfl, fun _ _ => rfl⟩
theorem Only.trans {s : Sl} {a b c : World} (h : Only s a b) (k : Only s b c) : Only s a c :=
  ⟨k.os.trans h.os, k.tape.trans h.tape, k.output.trans h.output, k.size.trans h.size, fun i hi => (k.block i hi).trans (h.block i hi)⟩
theorem Only.set {s : Sl} {w w' : World} (h : Only s w w') {a : Addr} (ha : s.a = some a) (n : Nat) (v : Value) : Only s w (w'.setCell (a.add n) v) :=
  h.trans ⟨rfl, rfl, rfl, by simp [World.setCell], fun k hk => Below.heap_setCell _ _ _ _ (by rw [add_block]; exact (hk a ha).symm)⟩
theorem Only.drew {s : Sl} {w w' : World} (h : Only s w w') : Only s w w'.drew := h.trans ⟨rfl, rfl, rfl, rfl, fun _ _ => rfl⟩
theorem Only.below {s : Sl} {w w' : World} (h : Only s w w') {B : Nat} (hB : ∀ a, s.a = some a → B ≤ a.block) : Below B w w' :=
  ⟨h.os, h.tape, h.output, by rw [h.size]; omega, fun k hk => h.block k fun a ha => by have := hB a ha; omega⟩
/-- s lies from block B on. -/
def Fresh (B : Nat) (s : Sl) : Prop := ∀ a, s.a = some a → B ≤ a.block
theorem IsS.drew {α : Type} {f : α → Value} {w : World} {s : Sl} {l : List α} (h : IsS f w s l) : IsS f w.drew s l := h.heap rfl
theorem IsS.bound {α : Type} {f : α → Value} {w : World} {s : Sl} {l : List α} (h : IsS f w s l) : l.length ≤ 9223372036854775807 := by
  have := h.len; have := h.cap; have := h.max; omega

end Go.Gk
