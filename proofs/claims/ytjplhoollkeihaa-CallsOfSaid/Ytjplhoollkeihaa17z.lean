/-
  calls.closed and calls.round.
-/
import Derived.Test.Ytjplhoollkeihaa17y
namespace Go.Proofs
open Go.Gk Go.RowKit Go.Gr

/-- What holds wherever the blocks from B on are as they are now. -/
def Kp (B : Nat) (w : World) (Q : World → Prop) : Prop := ∀ w', (∀ k, B ≤ k → k < w.heap.size → w'.heap[k]? = w.heap[k]?) → Q w'
theorem Kp.now {B : Nat} {w : World} {Q : World → Prop} (h : Kp B w Q) : Q w := h w fun _ _ _ => rfl
/-- A table of n rows of n that reads D. -/
structure Tb (w : World) (t : Sl) (n : Nat) (D : Nat → Nat → Prop) : Prop where
  ex : ∃ hs : List Sl, IsS Sl.val w t hs ∧ hs.length = n ∧ ∀ a (ha : a < hs.length), ∃ bl : List Bool, IsS Value.bool w hs[a] bl ∧ bl.length = n ∧ ∀ b, bl.getD b false = true ↔ D a b
theorem Tb.below {w w' : World} {t : Sl} {n : Nat} {D : Nat → Nat → Prop} (h : Tb w t n D) (hb : Below w.heap.size w w') : Tb w' t n D := by
  obtain ⟨hs, h1, h2, h3⟩ := h.ex
  exact ⟨hs, h1.below hb, h2, fun a ha => let ⟨bl, g1, g2, g3⟩ := h3 a ha; ⟨bl, g1.below hb, g2, g3⟩⟩
theorem Tb.len {w : World} {t : Sl} {n : Nat} {D : Nat → Nat → Prop} (h : Tb w t n D) : t.l = n := by
  obtain ⟨hs, h1, h2, _⟩ := h.ex
  have := h1.len
  omega
theorem Tb.get {w : World} {t : Sl} {n : Nat} {D : Nat → Nat → Prop} (h : Tb w t n D) {a b : Nat} (ha : a < n) (hb : b < n) {φ : Bool → Prop} (hφ : ∀ v, (v = true ↔ D a b) → φ v) :
    (0 ≤ (a : Int) ∧ (a : Int) < (t.l : Int)) ∧ derefP t.a fun a3 => ldS w (a3.add (Int.toNat (a : Int))) fun x => (0 ≤ (b : Int) ∧ (b : Int) < (x.l : Int)) ∧ derefP x.a fun a5 => ldB w (a5.add (Int.toNat (b : Int))) φ := by
  obtain ⟨hs, h1, h2, h3⟩ := h.ex
  obtain ⟨bl, g1, g2, g3⟩ := h3 a (by omega)
  refine elemS h1 (k := a) (by omega) (elemB g1 (k := b) (by omega) (hφ _ ?_))
  rw [show bl[b]'(by omega) = bl.getD b false by simp [List.getD, show b < bl.length by omega]]
  exact g3 b

section
variable {rows : List (List Nat)} {s : Sl} {hs : List Sl}
set_option maxHeartbeats 2000000 in
theorem closed_spec (hr : ∀ i, ∀ t ∈ rows.getD i [], t < rows.length) (hlen : ∀ i, (rows.getD i []).length ≤ 9223372036854775807) (hmax : rows.length ≤ 4096) {w : World} {R : Value → World → Prop} (hI : IsNN w s hs rows)
    (hR : ∀ r w', Below w.heap.size w w' → Kp w.heap.size w' (fun w'' => Tb w'' r rows.length (Wy rows)) → R (.slice r.a r.l r.c) w') :
    callR Try.prog 138 #[.slice s.a s.l s.c] w R := by
  refine callR.of (calls_closed_calls s R w ?_) fun _ _ h => h
  have hsl : s.l = rows.length := by have := hI.top.len; have := hI.len; omega
  refine Nw.gen fun w1 hw1 => ?_
  have hN1 : Blk w1 w.heap.size 22 [s.val] := by rw [hw1]; exact Blk.new w _ #[_]
  have b1 : Below w.heap.size w w1 := by rw [hw1]; exact (Below.refl _ _).alloc (Nat.le_refl _) _
  have z1 : w1.heap.size = w.heap.size + 1 := by rw [hw1]; simp
  clear hw1
  refine ⟨s, hN1.cell0 rfl, ⟨by omega, by omega, by omega, by omega⟩, Nw.gen fun w2 hw2 => ?_⟩
  obtain ⟨bo, hbo⟩ : ∃ bo, bo = w1.heap.size := ⟨_, rfl⟩
  let hd : Nat → (Nat → Nat) → List Value := fun i c => (List.range rows.length).map fun j => if j < i then .slice (some (Gk.blk (c j))) rows.length rows.length else .slice none 0 0
  have hO2 : Blk w2 bo 126 (hd 0 id) := by
    have e : hd 0 id = List.replicate rows.length (.slice none 0 0) := by
      apply List.ext_getElem
      · simp [hd]
      · intro k h1 h2; simp [hd]
    rw [hw2, hbo, hsl, e]
    exact Blk.made w1 _ _ rows.length
  have b2 : Below w1.heap.size w1 w2 := by rw [hw2]; exact (Below.refl _ _).alloc (Nat.le_refl _) _
  have hN2 := hN1.below b2
  rw [← hbo]
  clear hw2
  refine ⟨s, hN2.cell0 rfl, ?_⟩
  refine LoopW.count rows.length (by omega) (fun i w' => Below w.heap.size w w' ∧ Blk w' w.heap.size 22 [s.val] ∧ ∃ c : Nat → Nat, Blk w' bo 126 (hd i c) ∧ ∀ j, j < i → w.heap.size ≤ c j ∧ ∃ bl : List Bool, Blk w' (c j) 4 (bl.map Value.bool) ∧ bl.length = rows.length ∧ ∀ b, bl.getD b false = true ↔ Wy rows j b)
    ⟨b1.trans (b2.mono (by omega)), hN2, id, hO2, fun j hj => by omega⟩ ?_
  rintro i w3 hi ⟨b3, hN3, c, hO3, hc⟩ next hnext
  have z3 := b3.size
  refine ifB_dec (fun hlt => ?_) (fun hge => ?_)
  · have hlt : i < rows.length := by dsimp only at hlt; omega
    refine ⟨s, hN3.cell0 rfl, ⟨by omega, by omega, by omega, by omega⟩, Nw.gen fun w4 hw4 => Nw.gen fun w5 hw5 => ?_⟩
    obtain ⟨bs, hbs⟩ : ∃ bs, bs = w3.heap.size := ⟨_, rfl⟩
    have eF : (List.replicate rows.length false).map Value.bool = List.replicate rows.length (.bool false) := List.map_replicate
    have hS4 : Blk w4 bs 4 ((List.replicate rows.length false).map Value.bool) := by rw [hw4, hbs, hsl, eF]; exact Blk.made w3 _ _ rows.length
    have b4 : Below w3.heap.size w3 w4 := by rw [hw4]; exact (Below.refl _ _).alloc (Nat.le_refl _) _
    have z4 : w4.heap.size = w3.heap.size + 1 := by rw [hw4]; simp
    have hB5 : Blk w5 w4.heap.size 126 [.slice none 0 0] := by rw [hw5]; exact Blk.new w4 _ #[_]
    have b5 : Below w4.heap.size w4 w5 := by rw [hw5]; exact (Below.refl _ _).alloc (Nat.le_refl _) _
    have z5 : w5.heap.size = w4.heap.size + 1 := by rw [hw5]; simp
    rw [← hbs]
    clear hw4 hw5
    refine ⟨hB5.wr0 (by simp), Nw.gen fun w6 hw6 => ?_⟩
    have hB6 : Blk w6 w4.heap.size 126 [.slice (some (Gk.blk bs)) rows.length rows.length] := by rw [hw6, hsl]; exact hB5.set0 _
    have o6 : ∀ {b : Nat} {T : TypeId} {cs : List Value}, b ≠ w4.heap.size → Blk w5 b T cs → Blk w6 b T cs := fun {b T cs} hne hb => by rw [hw6]; exact hb.other hne _
    have b36 : Below w3.heap.size w3 w6 := by rw [hw6]; exact (b4.trans (b5.mono (by omega))).setCell (by show w3.heap.size ≤ w4.heap.size; omega) _
    have z6 : w6.heap.size = w5.heap.size := by rw [hw6]; simp [World.setCell]
    have hS6 := o6 (by omega) (hS4.below b5)
    clear hw6
    refine Nw.gen fun w7 hw7 => ?_
    have hF7 : Blk w7 w6.heap.size 119 [.nilFunc] := by rw [hw7]; exact Blk.new w6 _ #[_]
    have b7 : Below w6.heap.size w6 w7 := by rw [hw7]; exact (Below.refl _ _).alloc (Nat.le_refl _) _
    have z7 : w7.heap.size = w6.heap.size + 1 := by rw [hw7]; simp
    clear hw7
    refine ⟨hF7.wr0 (by simp), Nw.gen fun w8 hw8 => ?_⟩
    have hF8 : Blk w8 w6.heap.size 119 [.func (.func 178) #[] #[.pointer (some (Gk.blk w4.heap.size)), .pointer (some (Gk.blk w.heap.size)), .pointer (some (Gk.blk w6.heap.size))]] := by rw [hw8]; exact hF7.set0 _
    have o8 : ∀ {b : Nat} {T : TypeId} {cs : List Value}, b ≠ w6.heap.size → Blk w7 b T cs → Blk w8 b T cs := fun {b T cs} hne hb => by rw [hw8]; exact hb.other hne _
    have b38 : Below w3.heap.size w3 w8 := by rw [hw8]; exact (b36.trans (b7.mono (by omega))).setCell (by show w3.heap.size ≤ w6.heap.size; omega) _
    have hS8 := o8 (by omega) (hS6.below b7)
    have hB8 := o8 (by omega) (hB6.below b7)
    clear hw8
    have hN8 := hN3.below b38
    have b08 := b3.trans (b38.mono z3)
    have hC : CSt w w4.heap.size w.heap.size w6.heap.size bs s hs rows w8 := ⟨hI, b08, by omega, hB8, hN8, hF8⟩
    refine ⟨_, hF8.cell0 rfl, ?_⟩
    have hct : Try.fs.contains 178 = true := by kernel_rfl
    unfold callV
    simp only [hct]
    have rep : ∀ j, (List.replicate rows.length false).getD j false = false := fun j => by
      simp [List.getD, List.getElem?_replicate]
      split <;> rfl
    refine closed1_spec hr hlen rows.length i (List.replicate rows.length false) w8 _ hlt (by simp) (by omega) hC hS8 fun S' w9 on9 hS9 hl9 k1 k2 k3 => ⟨rfl, ?_⟩
    have hC9 := hC.only hS8 on9
    have ne9 : ∀ {b : Nat} {T : TypeId} {cs : List Value}, b ≠ bs → Blk w8 b T cs → Blk w9 b T cs := fun {b T cs} hne hb => hb.of_block (on9.block _ fun a ha e => by cases ha; exact hne e.symm)
    have hO9 : Blk w9 bo 126 (hd i c) := ne9 (by have := hO3.lt; omega) (hO3.below b38)
    have hSx : ∀ b, S'.getD b false = true ↔ Wy rows i b := fun b => by
      constructor
      · exact fun hb => (k3 b hb (rep b)).1
      · intro hw
        induction hw with
        | refl => exact k2
        | step _ e ih => exact (k3 _ ih (rep _)).2 _ e
    refine ⟨⟨some (Gk.blk bs), rows.length, rows.length⟩, hC9.c0.cell0 rfl, ⟨by omega, by omega⟩, hO9.wr (n := i) (by simp [hd]; exact hlt), Nw.gen fun w10 hw10 => hnext _ hlt ?_⟩
    have on10 : ∀ {b : Nat} {T : TypeId} {cs : List Value}, b ≠ bo → Blk w9 b T cs → Blk w10 b T cs := fun {b T cs} hne hb => by rw [hw10]; exact hb.other (by rw [add_block]; exact hne) _
    refine ⟨?_, on10 (by omega) hC9.c1, fun j => if j = i then bs else c j, ?_, fun j hj => ?_⟩
    · rw [hw10]
      exact (hC9.below).setCell (by rw [add_block]; show w.heap.size ≤ bo; omega) _
    · have e : hd (i + 1) (fun j => if j = i then bs else c j) = (hd i c).set i (.slice (some (Gk.blk bs)) rows.length rows.length) := by
        apply List.ext_getElem
        · simp [hd]
        · intro j h1 h2
          simp only [hd, List.getElem_map, List.getElem_range, List.getElem_set]
          by_cases e : i = j
          · subst e; simp
          · rw [if_neg e]
            by_cases e' : j < i
            · rw [if_pos (by omega), if_pos e', if_neg (fun q => e q.symm)]
            · rw [if_neg (by omega), if_neg e']
      rw [e, hw10]
      exact hO9.set i _
    · by_cases e : j = i
      · subst e
        refine ⟨by simp only [if_true]; omega, S', ?_, hl9, hSx⟩
        simp only [if_true]
        exact on10 (by have := hO3.lt; omega) hS9
      · obtain ⟨g0, bl, g1, g2, g3⟩ := hc j (by omega)
        refine ⟨by simp only [if_neg e]; exact g0, bl, ?_, g2, g3⟩
        simp only [if_neg e]
        have hcl := g1.lt
        have hne : c j ≠ bo := fun q => by rw [q] at g1; exact absurd (g1.type hO3) (by decide)
        exact on10 hne (ne9 (by omega) (g1.below b38))
  · have : i = rows.length := by dsimp only at hge; omega
    subst this
    refine hR ⟨some (Gk.blk bo), s.l, s.l⟩ w3 b3 fun w9 hk9 => ⟨(List.range rows.length).map fun j => ⟨some (Gk.blk (c j)), rows.length, rows.length⟩, ?_, by simp, fun a ha => ?_⟩
    · refine Blk.isS (T := 126) ?_ rfl (by simp [hsl]) (Nat.le_refl _) (by show s.l ≤ _; omega)
      have e : hd rows.length c = ((List.range rows.length).map fun j => (⟨some (Gk.blk (c j)), rows.length, rows.length⟩ : Sl)).map Sl.val := by
        apply List.ext_getElem
        · simp [hd]
        · intro j h1 h2
          simp only [hd, List.getElem_map, List.getElem_range]
          rw [if_pos (by simpa using h2)]
          rfl
      rw [← e]
      exact hO3.of_block (hk9 bo (by omega) hO3.lt)
    · have ha' : a < rows.length := by simpa using ha
      obtain ⟨g0, bl, g1, g2, g3⟩ := hc a ha'
      refine ⟨bl, ?_, g2, g3⟩
      simp only [List.getElem_map, List.getElem_range]
      exact Blk.isS (g1.of_block (hk9 _ g0 g1.lt)) rfl g2.symm (Nat.le_refl _) (by show rows.length ≤ _; omega)

theorem round_spec (hr : ∀ i, ∀ t ∈ rows.getD i [], t < rows.length) (hlen : ∀ i, (rows.getD i []).length ≤ 9223372036854775807) (hmax : rows.length ≤ 4096) {t : Sl} {w : World} {R : Value → World → Prop} (hI : IsNN w s hs rows) (hT : Tb w t rows.length (Wy rows))
    (hR : ∀ b, (b = true ↔ ∃ i k, k ∈ rows.getD i [] ∧ Wy rows k i) → R (.bool b) w) :
    callR Try.prog 139 #[.slice s.a s.l s.c, .slice t.a t.l t.c] w R := by
  refine callR.of (calls_round_calls s t R w ?_) fun _ _ h => h
  have hsl : s.l = rows.length := by have := hI.top.len; have := hI.len; omega
  refine LoopW.count rows.length (by omega) (fun i w' => w' = w ∧ ∀ j, j < i → ∀ k ∈ rows.getD j [], ¬ Wy rows k j) ⟨rfl, fun j hj => by omega⟩ ?_
  rintro i w1 hi ⟨rfl, hno⟩ next hnext
  refine ifB_dec (fun hlt => ?_) (fun hge => ?_)
  · have hlt : i < rows.length := by dsimp only at hlt; omega
    have hih : i < hs.length := by have := hI.len; omega
    refine rowN hI hlt hih ?_
    have ri := rowI hI hlt hih
    have l4 := ri.len
    rw [List.length_map] at l4
    refine LoopW.count (rows.getD i []).length (hlen i) (fun m w' => w' = w1 ∧ ∀ k ∈ (rows.getD i []).take m, ¬ Wy rows k i) ⟨rfl, by simp⟩ ?_
    rintro m w2 hm ⟨rfl, hno2⟩ next2 hnext2
    refine ifB_dec (fun hlt2 => ?_) (fun hge2 => ?_)
    · have hlt2 : m < (rows.getD i []).length := by dsimp only at hlt2; omega
      refine elemI ri (k := m) (by rw [List.length_map]; exact hlt2) ?_
      rw [List.getElem_map]
      refine hT.get (hr i _ (List.getElem_mem hlt2)) hlt fun v hv => ifB_bool (fun e => hR true ⟨fun _ => ⟨i, _, List.getElem_mem hlt2, hv.1 e⟩, fun _ => rfl⟩) fun e => hnext2 _ hlt2 ⟨rfl, fun k hk => ?_⟩
      rw [List.take_succ_eq_append_getElem hlt2, List.mem_append, List.mem_singleton] at hk
      rcases hk with hk | hk
      · exact hno2 k hk
      · rw [hk]; exact fun q => by rw [hv.2 q] at e; cases e
    · have : m = (rows.getD i []).length := by dsimp only at hge2; omega
      subst this
      rw [List.take_length] at hno2
      refine hnext _ hlt ⟨rfl, fun j hj => ?_⟩
      by_cases e : j = i
      · rw [e]; exact hno2
      · exact hno j (by omega)
  · have : i = rows.length := by dsimp only at hge; omega
    subst this
    refine hR false ⟨(fun h => by cases h), fun ⟨j, k, hk, hw⟩ => ?_⟩
    by_cases e : j < rows.length
    · exact absurd hw (hno j e k hk)
    · simp [List.getD, List.getElem?_eq_none (show rows.length ≤ j by omega)] at hk
end

end Go.Proofs
