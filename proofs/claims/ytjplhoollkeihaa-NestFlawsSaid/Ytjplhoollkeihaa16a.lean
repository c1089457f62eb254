/-
  Elements of more than one cell in memory (merges, flaws), and what is done with them.
-/
import Derived.Test.YtjplhoollkeihaaL16
import Derived.Test.Ytjplhoollkeihaa15n
namespace Go.Proofs
open Go.Gk Go.RowKit Go.Gr Go.Dm

theorem add_add' (a : Addr) (n m : Nat) : (a.add n).add m = a.add (n + m) := by
  unfold Addr.add
  by_cases hn : n = 0
  · subst hn; simp
  · by_cases hm : m = 0
    · subst hm; simp [hn]
    · rw [if_neg hn, if_neg hm, if_neg (by omega)]
      simp [Nat.add_assoc]

section
variable {α : Type} {sz : Nat} {f : α → List Value}
abbrev flat (f : α → List Value) (l : List α) : List Value := l.flatMap f
theorem flat_length (hf : ∀ x, (f x).length = sz) : ∀ l : List α, (flat f l).length = l.length * sz
  | [] => by simp [flat]
  | x :: l => by
    have := flat_length hf l
    simp only [flat] at this
    simp only [flat, List.flatMap_cons, List.length_append, List.length_cons, hf, this, Nat.add_mul, Nat.one_mul]
    omega
theorem flat_get (hf : ∀ x, (f x).length = sz) : ∀ (l : List α) (k : Nat) (h : k < l.length) (j : Nat), j < sz → (flat f l)[k * sz + j]? = (f l[k])[j]?
  | x :: l, 0, _, j, hj => by
    simp only [flat, List.flatMap_cons, Nat.zero_mul, Nat.zero_add, List.getElem_cons_zero]
    rw [List.getElem?_append_left (by rw [hf]; exact hj)]
  | x :: l, k + 1, h, j, hj => by
    have := flat_get hf l k (by simpa using h) j hj
    simp only [flat, List.flatMap_cons, List.getElem_cons_succ] at this ⊢
    rw [List.getElem?_append_right (by rw [hf, Nat.add_mul]; omega), hf, ← this]
    congr 1
    rw [Nat.add_mul]
    omega
/-- The slice s holds the elements l, each of the cells f x, sz of them. -/
structure IsC (sz : Nat) (f : α → List Value) (w : World) (s : Sl) (l : List α) : Prop where
  len : s.l = l.length
  cap : s.l ≤ s.c
  max : s.c ≤ 9223372036854775807
  nil : s.a = none → s.c = 0
  cell : ∀ a, s.a = some a → ∀ (k : Nat) (h : k < l.length) (j : Nat), j < sz → w.cell? (a.add (k * sz + j)) = (f l[k])[j]?
variable {w w' : World} {s : Sl} {l : List α}
theorem IsC.base (h : IsC sz f w s l) {i : Nat} (hi : i < l.length) : ∃ a, s.a = some a := by
  cases ha : s.a with
  | none => have := h.nil ha; have := h.len; have := h.cap; omega
  | some a => exact ⟨a, rfl⟩
theorem IsC.of_block (hf : ∀ x, (f x).length = sz) (h : IsC sz f w s l) (hb : ∀ a, s.a = some a → a.block < w.heap.size → w'.heap[a.block]? = w.heap[a.block]?) : IsC sz f w' s l := by
  refine ⟨h.len, h.cap, h.max, h.nil, fun a ha k hk j hj => ?_⟩
  have hc := h.cell a ha k hk j hj
  have hlt : j < (f l[k]).length := by rw [hf]; exact hj
  have hc' := hc
  rw [List.getElem?_eq_getElem hlt] at hc'
  have := World.block_lt_of_cell? w _ hc'
  rw [add_block] at this
  rw [World.cell?_of_block (w := w) (by rw [add_block]; exact hb a ha this)]
  exact hc
theorem IsC.below (hf : ∀ x, (f x).length = sz) (h : IsC sz f w s l) (hb : Below w.heap.size w w') : IsC sz f w' s l := h.of_block hf fun _ _ hlt => hb.block _ hlt
theorem IsC.bound (h : IsC sz f w s l) : l.length ≤ 9223372036854775807 := by have := h.len; have := h.cap; have := h.max; omega
theorem Own.isC {T : TypeId} (hf : ∀ x, (f x).length = sz) (h0 : 0 < sz) (h : Own w T sz s (flat f l)) : IsC sz f w s l := by
  obtain ⟨h1, h2⟩ := h
  rw [flat_length hf] at h1
  have hl : s.l = l.length := (Nat.mul_right_cancel h0 h1).symm
  rcases h2 with rfl | ⟨b, cs, ha, hB, hc, hm, hcs, ht⟩
  · have : l = [] := List.eq_nil_of_length_eq_zero hl.symm
    subst this
    exact ⟨rfl, Nat.le_refl _, Nat.zero_le _, fun _ => rfl, (fun a ha => by cases ha)⟩
  · refine ⟨hl, hc, hm, (fun h => by rw [h] at ha; cases ha), fun a ha' k hk j hj => ?_⟩
    rw [ha] at ha'
    cases ha'
    have hlt : k * sz + j < s.l * sz := by
      have : (k + 1) * sz ≤ s.l * sz := Nat.mul_le_mul_right _ (by omega)
      rw [Nat.add_mul] at this
      omega
    have hg := flat_get hf l k hk j hj
    have hjl : j < (f l[k]).length := by rw [hf]; exact hj
    rw [← ht, List.getElem?_take_of_lt hlt] at hg
    rw [List.getElem?_eq_getElem hjl] at hg ⊢
    exact hB.cell hg
theorem Blk.isC {T : TypeId} {b : Nat} (hf : ∀ x, (f x).length = sz) (h0 : 0 < sz) (h : Blk w b T (flat f l)) (hm : l.length ≤ 9223372036854775807) : IsC sz f w ⟨some (Gk.blk b), l.length, l.length⟩ l :=
  Own.isC (T := T) hf h0 ⟨flat_length hf l, .inr ⟨b, _, rfl, h, Nat.le_refl _, hm, flat_length hf l, by rw [← flat_length hf l, List.take_length]⟩⟩
end

/-! ### Merges -/
abbrev Mg := Int × Int × Int
abbrev mgV (x : Mg) : List Value := [.int .u8 x.1, .int .i64 x.2.1, .int .i64 x.2.2]
theorem mgV_len (x : Mg) : (mgV x).length = 3 := rfl
abbrev IsM (w : World) (s : Sl) (l : List Mg) : Prop := IsC 3 mgV w s l
theorem eMg : ElemT Try.prog 66 82 3 24 := ⟨by kernel_rfl, Try.t82, .agg #[.int .u8 0, .int .i64 0, .int .i64 0], by kernel_rfl, rfl, rfl, rfl, rfl⟩
section
variable {w w' : World} {s : Sl} {l : List Mg}
theorem _root_.Go.Proofs.IsC.mbelow (h : IsM w s l) (hb : Below w.heap.size w w') : IsM w' s l := IsC.below mgV_len h hb
theorem IsM.drew (h : IsM w s l) : IsM w.drew s l := IsC.below mgV_len h (Below.refl _ _).drew
theorem elemM (h : IsM w s l) {k : Nat} (hk : k < l.length) {φ : Int → Int → Int → Prop} (hφ : φ l[k].1 l[k].2.1 l[k].2.2) :
    (0 ≤ (k : Int) ∧ (k : Int) < (s.l : Int)) ∧ derefP s.a fun a => ldI w ((a.add (Int.toNat (k : Int) * 3)).add 0) .u8 fun x => ldI w ((a.add (Int.toNat (k : Int) * 3)).add 1) .i64 fun y => ldI w ((a.add (Int.toNat (k : Int) * 3)).add 2) .i64 fun z => φ x y z := by
  obtain ⟨a, ha⟩ := h.base hk
  have hc := fun j hj => h.cell a ha k hk j hj
  refine ⟨⟨by omega, by have := h.len; omega⟩, derefP_some ha ⟨_, ?_, _, ?_, _, ?_, hφ⟩⟩
  · rw [add_add']; exact hc 0 (by omega)
  · rw [add_add']; exact hc 1 (by omega)
  · rw [add_add']; exact hc 2 (by omega)
theorem elemMk (h : IsM w s l) {k : Nat} (hk : k < l.length) {φ : Int → Prop} (hφ : φ l[k].1) :
    (0 ≤ (k : Int) ∧ (k : Int) < (s.l : Int)) ∧ derefP s.a fun a => ldI w (a.add (Int.toNat (k : Int) * 3)) .u8 φ := by
  obtain ⟨a, ha⟩ := h.base hk
  exact ⟨⟨by omega, by have := h.len; omega⟩, derefP_some ha ⟨_, h.cell a ha k hk 0 (by omega), hφ⟩⟩
theorem elemMt (h : IsM w s l) {k : Nat} (hk : k < l.length) {φ : Int → Prop} (hφ : φ l[k].2.1) :
    (0 ≤ (k : Int) ∧ (k : Int) < (s.l : Int)) ∧ derefP s.a fun a => ldI w ((a.add (Int.toNat (k : Int) * 3)).add 1) .i64 φ := by
  obtain ⟨a, ha⟩ := h.base hk
  exact ⟨⟨by omega, by have := h.len; omega⟩, derefP_some ha ⟨_, by rw [add_add']; exact h.cell a ha k hk 1 (by omega), hφ⟩⟩
theorem elemMc (h : IsM w s l) {k : Nat} (hk : k < l.length) {φ : Int → Prop} (hφ : φ l[k].2.2) :
    (0 ≤ (k : Int) ∧ (k : Int) < (s.l : Int)) ∧ derefP s.a fun a => ldI w ((a.add (Int.toNat (k : Int) * 3)).add 2) .i64 φ := by
  obtain ⟨a, ha⟩ := h.base hk
  exact ⟨⟨by omega, by have := h.len; omega⟩, derefP_some ha ⟨_, by rw [add_add']; exact h.cell a ha k hk 2 (by omega), hφ⟩⟩
end
/-- A merge in a box of its own. -/
theorem mcopy {w : World} {x y z : Int} {K : World → Prop} (hK : ∀ w', Blk w' w.heap.size 82 [.int .u8 x, .int .i64 y, .int .i64 z] → Below w.heap.size w w' → w'.heap.size = w.heap.size + 1 → K w') :
    Nw (w.alloc (.cells #[(.int .u8 (0 : Int)), (.int .i64 (0 : Int)), (.int .i64 (0 : Int))] 82)) fun w5 =>
    Wr w5 (blk w.heap.size) ∧
    Nw (w5.setCell (blk w.heap.size) (.int .u8 x)) fun w6 =>
    Wr w6 ((blk w.heap.size).add 1) ∧
    Nw (w6.setCell ((blk w.heap.size).add 1) (.int .i64 y)) fun w7 =>
    Wr w7 ((blk w.heap.size).add 2) ∧
    Nw (w7.setCell ((blk w.heap.size).add 2) (.int .i64 z)) fun w8 => K w8 := by
  have h1 := Blk.new w 82 #[(.int .u8 (0 : Int)), (.int .i64 (0 : Int)), (.int .i64 (0 : Int))]
  have b1 : Below w.heap.size w (w.alloc (.cells #[(.int .u8 (0 : Int)), (.int .i64 (0 : Int)), (.int .i64 (0 : Int))] 82)) := (Below.refl _ _).alloc (Nat.le_refl _) _
  refine ⟨h1.wr0 (by simp), (h1.set0 _).wr (n := 1) (by simp), ((h1.set0 _).set 1 _).wr (n := 2) (by simp), hK _ (((h1.set0 _).set 1 _).set 2 _) ?_ (by simp [World.setCell])⟩
  exact ((b1.setCell (Nat.le_refl _) _).setCell (by rw [add_block]; exact Nat.le_refl _) _).setCell (by rw [add_block]; exact Nat.le_refl _) _

theorem set3 (xs : List Value) {cs : List Value} {m : Nat} (hc : cs.length = (m + 1) * 3) (x y z : Value) :
    ∃ r, r.length = m * 3 ∧ (((xs ++ cs).set xs.length x).set (xs.length + 1) y).set (xs.length + 2) z = (xs ++ [x, y, z]) ++ r := by
  match cs, hc with
  | [], hc => simp at hc
  | [_], hc => simp at hc; omega
  | [_, _], hc => simp at hc; omega
  | a :: b :: c :: r, hc =>
    refine ⟨r, by simp at hc; omega, ?_⟩
    rw [List.set_append_right _ _ (Nat.le_refl _), List.set_append_right _ _ (by omega), List.set_append_right _ _ (by omega)]
    simp [show xs.length + 1 - xs.length = 1 by omega, show xs.length + 2 - xs.length = 2 by omega]

theorem copiedM_spec {s : Sl} {l : List Mg} {w : World} {R : Value → World → Prop} (h : IsM w s l) (h24 : 24 * l.length ≤ 281474976710656)
    (hR : ∀ w' s', Below w.heap.size w w' → w.heap.size < w'.heap.size → s' = ⟨some (Gk.blk w.heap.size), l.length, l.length⟩ → IsM w' s' l → Blk w' w.heap.size 82 (flat mgV l) → R (.slice s'.a s'.l s'.c) w') :
    callR Try.prog 66 #[.slice s.a s.l s.c] w R := by
  refine callR.of (intagliolaw16_copied_calls s R w ?_) fun _ _ h => h
  have hl := h.len
  refine ⟨⟨by omega, by omega, by omega, by omega⟩, Nw.gen fun w1 hw1 => ?_⟩
  have h1 : Blk w1 w.heap.size 82 (madeCells #[(.int .u8 (0 : Int)), (.int .i64 (0 : Int)), (.int .i64 (0 : Int))] (s.l * 3)).toList := by rw [hw1]; exact Blk.new w _ _
  have b1 : Below w.heap.size w w1 := by rw [hw1]; exact (Below.refl _ _).alloc (Nat.le_refl _) _
  have z1 : w1.heap.size = w.heap.size + 1 := by rw [hw1]; simp
  clear hw1
  refine LoopW.count l.length h.bound (fun k w' => Below w.heap.size w w' ∧ w'.heap.size = w.heap.size + 1 ∧ ∃ r, Blk w' w.heap.size 82 (flat mgV (l.take k) ++ r) ∧ r.length = (l.length - k) * 3) ⟨b1, z1, _, by simpa [flat] using h1, by rw [Array.length_toList, size_madeCells, hl]; simp⟩ ?_
  rintro k w' hk ⟨hb, hz, r, hB, hr⟩ next hnext
  refine ifB_dec (fun hlt => ?_) (fun hge => ?_)
  · have hlt : k < l.length := by dsimp only at hlt; omega
    have hm := IsC.mbelow h hb
    refine elemM hm hlt ⟨⟨by simp, by simpa using (by omega : k < s.l)⟩, ?_⟩
    have hfl : (flat mgV (l.take k)).length = k * 3 := by rw [flat_length mgV_len, List.length_take, Nat.min_eq_left (by omega)]
    obtain ⟨r', hr', e⟩ := set3 (flat mgV (l.take k)) (cs := r) (m := l.length - (k + 1)) (by rw [hr]; congr 1; omega) (.int .u8 l[k].1) (.int .i64 l[k].2.1) (.int .i64 l[k].2.2)
    rw [hfl] at e
    have hcl : (flat mgV (l.take k) ++ r).length = l.length * 3 := by rw [List.length_append, hfl, hr, ← Nat.add_mul]; congr 1; omega
    rw [show Int.toNat (k : Int) = k from rfl]
    simp only [add_add']
    have hB1 := hB.set (k * 3) (.int .u8 l[k].1)
    have hB2 := hB1.set (k * 3 + 1) (.int .i64 l[k].2.1)
    have hB3 := hB2.set (k * 3 + 2) (.int .i64 l[k].2.2)
    refine ⟨hB.wr (by omega), hB1.wr (by rw [List.length_set]; omega), hB2.wr (by rw [List.length_set, List.length_set]; omega), hnext _ hlt ⟨?_, by simpa [World.setCell] using hz, r', ?_, hr'⟩⟩
    · exact ((hb.setCell (by rw [add_block]; exact Nat.le_refl _) _).setCell (by rw [add_block]; exact Nat.le_refl _) _).setCell (by rw [add_block]; exact Nat.le_refl _) _
    · rw [e] at hB3
      have e2 : flat mgV (l.take (k + 1)) = flat mgV (l.take k) ++ mgV l[k] := by
        rw [List.take_succ_eq_append_getElem hlt]
        show (l.take k ++ [l[k]]).flatMap mgV = _
        rw [List.flatMap_append]
        rfl
      rw [e2]
      exact hB3
  · have hk' : k = l.length := by dsimp only at hge; omega
    subst hk'
    simp only [Nat.sub_self, Nat.zero_mul] at hr
    have : r = [] := List.eq_nil_of_length_eq_zero hr
    subst this
    rw [List.take_length, List.append_nil] at hB
    have := hR w' ⟨some (Gk.blk w.heap.size), l.length, l.length⟩ hb (by omega) rfl (Blk.isC mgV_len (by omega) hB h.bound) hB
    rw [hl]
    exact this

theorem CloneM_spec {s : Sl} {l : List Mg} {w : World} {R : Value → World → Prop} (h : IsM w s l) (h24 : l.length * 24 ≤ 140737488355328)
    (hR : ∀ r w', IsM w' r l → Fresh w.heap.size r → Below w.heap.size w w' → (∃ xs, Own w' 82 3 r xs) → R (.slice r.a r.l r.c) w') :
    callR Try.prog 161 #[.slice s.a s.l s.c] w R := by
  refine callR.of (slices_Clone_sapi_Merge_api_Merge_calls s R w ?_) fun _ _ h => h
  refine ifB_bool (fun hn => ?_) (fun hn => ?_)
  · have hn : s.a = none := by simpa using hn
    have hc := h.nil hn
    have : l = [] := List.eq_nil_of_length_eq_zero (by have := h.len; have := h.cap; omega)
    subst this
    exact hR ⟨none, 0, 0⟩ w ⟨rfl, Nat.le_refl _, Nat.zero_le _, fun _ => rfl, fun a ha => by cases ha⟩ (fun a ha => by cases ha) (Below.refl _ _) ⟨[], Own.nil _ _ _⟩
  · obtain ⟨a, ha⟩ : ∃ a, s.a = some a := by
      cases hs : s.a with
      | none => rw [hs] at hn; cases hn
      | some a => exact ⟨a, rfl⟩
    refine Nw.gen fun w1 hw1 => ?_
    have hB : Blk w1 w.heap.size 82 [] := by rw [hw1]; exact Blk.new w 82 #[]
    have hb1 : Below w.heap.size w w1 := by rw [hw1]; exact (Below.refl _ _).alloc (Nat.le_refl _) _
    have hO : Own w1 82 3 ⟨some (blk w.heap.size), 0, 0⟩ [] := ⟨rfl, .inr ⟨_, [], rfl, hB, Nat.le_refl _, by simp, rfl, rfl⟩⟩
    have h' := IsC.mbelow h hb1
    rw [ha, h.len]
    refine append_own eMg hO (m := l.length) (news := flat mgV l) (flat_length mgV_len l) (fun j u hj => ?_) (fun u hu => ?_) (by have := h.bound; simp; omega) (by simpa using h24) fun r w' h1 _ h3 => ?_
    · have hlt : j < l.length * 3 := by
        have := (List.getElem?_eq_some_iff.1 hj).1
        rwa [flat_length mgV_len] at this
      have e : j = j / 3 * 3 + j % 3 := by omega
      have hg := flat_get mgV_len l (j / 3) (by omega) (j % 3) (by omega)
      have hc := h'.cell a ha (j / 3) (by omega) (j % 3) (by omega)
      rw [e] at hj
      rw [e, hc, ← hg, hj]
    · obtain ⟨x, _, hx⟩ := List.mem_flatMap.1 hu
      simp only [mgV, List.mem_cons, List.not_mem_nil, or_false] at hx
      rcases hx with rfl | rfl | rfl <;> rfl
    · rcases h3 with ⟨h4, h5, h6⟩ | ⟨b, h4, h5, h6⟩
      · subst h5
        refine hR _ _ (Own.isC (T := 82) mgV_len (by omega) (by simpa using h1)) (fun a ha => by rw [h4] at ha; cases ha) hb1 ⟨_, h1⟩
      · have hbb : w.heap.size ≤ b := by
          rcases h5 with h5 | h5
          · cases h5; exact Nat.le_refl _
          · have := hb1.size; omega
        exact hR _ _ (Own.isC (T := 82) mgV_len (by omega) (by simpa using h1)) (fun a ha => by rw [h4] at ha; cases ha; exact hbb) (hb1.trans (below_grown h6 hbb hb1.size)) ⟨_, h1⟩

theorem sameM_spec {s t : Sl} {l : List Mg} {w : World} {R : Value → World → Prop} (hs : IsM w s l) (ht : IsM w t l) (hR : ∀ w', w'.heap = w.heap → Below w.heap.size w w' → R (.bool true) w') :
    callR Try.prog 69 #[.slice s.a s.l s.c, .slice t.a t.l t.c] w R := by
  refine callR.of (intagliolaw16_same_calls s t R w ?_) fun _ _ h => h
  refine ifB_false (by rw [hs.len, ht.len]; simp) ?_
  refine LoopW.count l.length hs.bound (fun k w' => w'.heap = w.heap ∧ Below w.heap.size w w') ⟨rfl, Below.refl _ _⟩ ?_
  rintro k w' hk ⟨hh, hb⟩ next hnext
  have hl := hs.len
  refine ifB_dec (fun hlt => ?_) (fun hge => hR w' hh hb)
  have hlt : k < l.length := by dsimp only at hlt; omega
  refine elemM (IsM.drew (IsC.mbelow hs hb)) hlt (elemM (IsM.drew (IsC.mbelow ht hb)) hlt (ifB_false (by simp) (hnext _ hlt ⟨hh, hb.drew⟩)))

/-! ### Flaws -/
abbrev flV (x : Int × Int) : List Value := [.int .i64 x.1, .int .i64 x.2]
theorem flV_len (x : Int × Int) : (flV x).length = 2 := rfl
abbrev IsF (w : World) (s : Sl) (l : List (Int × Int)) : Prop := IsC 2 flV w s l
theorem eFl : ElemT Try.prog 67 143 2 16 := ⟨by kernel_rfl, Try.t143, .agg #[.int .i64 0, .int .i64 0], by kernel_rfl, rfl, rfl, rfl, rfl⟩
theorem elemF {w : World} {s : Sl} {l : List (Int × Int)} (h : IsF w s l) {k : Nat} (hk : k < l.length) {φ : Int → Int → Prop} (hφ : φ l[k].1 l[k].2) :
    (0 ≤ (k : Int) ∧ (k : Int) < (s.l : Int)) ∧ derefP s.a fun a => ldI w ((a.add (Int.toNat (k : Int) * 2)).add 0) .i64 fun x => ldI w ((a.add (Int.toNat (k : Int) * 2)).add 1) .i64 fun y => φ x y := by
  obtain ⟨a, ha⟩ := h.base hk
  have hc := fun j hj => h.cell a ha k hk j hj
  refine ⟨⟨by omega, by have := h.len; omega⟩, derefP_some ha ⟨_, ?_, _, ?_, hφ⟩⟩
  · rw [add_add']; exact hc 0 (by omega)
  · rw [add_add']; exact hc 1 (by omega)
theorem flawsEq_spec {s t : Sl} {l : List (Int × Int)} {w : World} {R : Value → World → Prop} (hs : IsF w s l) (ht : IsF w t l) (hR : ∀ w', w'.heap = w.heap → Below w.heap.size w w' → R (.bool true) w') :
    callR Try.prog 68 #[.slice s.a s.l s.c, .slice t.a t.l t.c] w R := by
  refine callR.of (intagliolaw16_flaws_calls s t R w ?_) fun _ _ h => h
  refine ifB_false (by rw [hs.len, ht.len]; simp) ?_
  refine LoopW.count l.length hs.bound (fun k w' => w'.heap = w.heap ∧ Below w.heap.size w w') ⟨rfl, Below.refl _ _⟩ ?_
  rintro k w' hk ⟨hh, hb⟩ next hnext
  have hl := hs.len
  refine ifB_dec (fun hlt => ?_) (fun hge => hR w' hh hb)
  have hlt : k < l.length := by dsimp only at hlt; omega
  refine elemF (IsC.below flV_len (IsC.below flV_len hs hb) (Below.refl _ _).drew) hlt (elemF (IsC.below flV_len (IsC.below flV_len ht hb) (Below.refl _ _).drew) hlt (ifB_false (by simp) (hnext _ hlt ⟨hh, hb.drew⟩)))

end Go.Proofs
