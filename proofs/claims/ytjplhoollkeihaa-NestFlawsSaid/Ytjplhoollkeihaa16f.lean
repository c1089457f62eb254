/-
  nested.comes, back.
-/
import Derived.Test.Ytjplhoollkeihaa16e
import Derived.Test.YtjplhoollkeihaaL15c
namespace Go.Proofs
open Go.Gk Go.RowKit Go.Gr Go.Dm

/-- slices.IndexFunc, of a function that turns what it finds. -/
theorem IndexFunc2_spec {y : Value} {r : Sl} {l : List Nat} {Inv : Nat → World → Prop} {Fin : World → Prop} {w : World} {R : Value → World → Prop} (hi : Inv 0 w) (hl : l.length ≤ 4096) (hr : ∀ k w', Inv k w' → IsN w' r l)
    (hy : ∀ k (hk : k < l.length) w', Inv k w' → callV Try.prog Try.fs y [.int .i64 (l[k] : Int)] w' fun v w'' => ∃ b : Bool, v = .bool b ∧ (b = true → Fin w'') ∧ (b = false → Inv (k + 1) w''))
    (h1 : ∀ (v : Int) w', 0 ≤ v → Fin w' → R (.int .i64 v) w') (h2 : ∀ w', Inv l.length w' → R (.int .i64 (-1)) w') : callR Try.prog 150 #[.slice r.a r.l r.c, y] w R := by
  refine callR.of (slices_IndexFunc_sint_int_calls r y R w ?_) fun _ _ h => h
  refine LoopW.count l.length (by omega) (fun k w' => Inv k w') hi ?_
  rintro k w1 hk hi next hnext
  have hlen := (hr k w1 hi).len
  refine ifB_dec (fun hlt => ?_) (fun hge => ?_)
  · have hlt : k < l.length := by dsimp only at hlt; omega
    refine elemI (IsS.toI (hr k w1 hi)) (k := k) (by simpa using hlt) ?_
    rw [List.getElem_map]
    exact callV.mono (hy k hlt w1 hi) fun v w'' ⟨b, hv, hb1, hb2⟩ => ⟨b, hv, ifB_bool (fun e => h1 _ w'' (by first | omega | (dsimp only; omega)) (hb1 e)) fun e => hnext w'' hlt (hb2 e)⟩
  · have : k = l.length := by dsimp only at hge; omega
    subst this
    exact h2 w1 hi

inductive Way (E : Nat → Nat → Prop) (a : Nat) : Nat → Prop
  | refl : Way E a a
  | step {b c : Nat} : Way E a b → E b c → Way E a c
theorem Way.head {E : Nat → Nat → Prop} {a b c : Nat} (h : E a b) (k : Way E b c) : Way E a c := by
  induction k with
  | refl => exact .step .refl h
  | step _ e ih => exact .step ih e
/-- An edge that is no edge back. -/
def FE (g : Nst) (i k : Nat) : Prop := k ∈ g.nx.getD i [] ∧ ¬ g.D (k : Int) (i : Int)

section
variable {w w' : World} {nb gb : Nat} {hsl : Sl} {g : Nst} {wb tb : Nat} {ms : Sl} {R : Value → World → Prop}
abbrev seenL (n : Nat) (S : Nat → Bool) : List Value := (List.range n).map fun j => .int .i64 (if S j then (1 : Int) else 0)
theorem seenL_set {n : Nat} {S : Nat → Bool} {i : Nat} : (seenL n S).set i (.int .i64 1) = seenL n fun j => S j || j == i := by
  apply List.ext_getElem
  · simp
  · intro j h1 h2
    simp only [List.getElem_set, List.getElem_map, List.getElem_range]
    by_cases e : i = j
    · subst e; simp
    · have : (j == i) = false := by simpa using fun h => e h.symm
      simp [e, this]
/-- comes under way: S has been seen. -/
structure CM (w : World) (nb n to : Nat) (S : Nat → Bool) (w' : World) : Prop where
  b : Below w.heap.size w w'
  size : w.heap.size + 5 ≤ w'.heap.size
  self : Blk w' w.heap.size 139 [.pointer (some (Gk.blk nb))]
  to : Blk w' (w.heap.size + 1) 3 [.int .i64 (to : Int)]
  arr : Blk w' (w.heap.size + 2) 3 (seenL n S)
  sl : Blk w' (w.heap.size + 3) 32 [.slice (some (Gk.blk (w.heap.size + 2))) n n]
  fn : Blk w' (w.heap.size + 4) 41 [.func (.func 214) #[] #[.pointer (some (Gk.blk (w.heap.size + 1))), .pointer (some (Gk.blk (w.heap.size + 3))), .pointer (some (Gk.blk w.heap.size)), .pointer (some (Gk.blk (w.heap.size + 4)))]]
theorem CM.grow {n to : Nat} {S : Nat → Bool} {w'' : World} (h : CM w nb n to S w') (hb : Below w'.heap.size w' w'') : CM w nb n to S w'' :=
  ⟨h.b.trans (hb.mono h.b.size), by have := hb.size; have := h.size; omega, h.self.below hb, h.to.below hb, h.arr.below hb, h.sl.below hb, h.fn.below hb⟩
theorem CM.see {n to : Nat} {S : Nat → Bool} (h : CM w nb n to S w') (i : Nat) : CM w nb n to (fun j => S j || j == i) (w'.setCell ((Gk.blk (w.heap.size + 2)).add i) (.int .i64 1)) :=
  ⟨h.b.setCell (by rw [add_block]; show w.heap.size ≤ w.heap.size + 2; omega) _, by have := h.size; simpa [World.setCell] using this, h.self.other (by rw [add_block]; show w.heap.size ≠ w.heap.size + 2; omega) _, h.to.other (by rw [add_block]; show w.heap.size + 1 ≠ w.heap.size + 2; omega) _,
    seenL_set ▸ h.arr.set i _, h.sl.other (by rw [add_block]; show w.heap.size + 3 ≠ w.heap.size + 2; omega) _, h.fn.other (by rw [add_block]; show w.heap.size + 4 ≠ w.heap.size + 2; omega) _⟩

set_option maxHeartbeats 2000000 in
theorem comes1_spec (h : Ne0 w nb gb hsl g wb tb ms) {to : Nat} : ∀ (f i : Nat) (S : Nat → Bool) (w' : World) (R : Value → World → Prop), i < g.nx.length → S i = false → (List.range g.nx.length).countP (fun j => !S j) ≤ f → CM w nb g.nx.length to S w' →
    (∀ b S' w'', CM w nb g.nx.length to S' w'' → Fr w'.heap.size (· = w.heap.size + 2) w' w'' → (∀ j, S j = true → S' j = true) → (b = true → Way (FE g) i to) → (b = false → S' i = true ∧ ∀ x, S' x = true → S x = false → x ≠ to ∧ ∀ k, FE g x k → S' k = true) → R (.bool b) w'') →
    Calls Try.prog 214 #[.int .i64 (i : Int), .pointer (some (Gk.blk (w.heap.size + 1))), .pointer (some (Gk.blk (w.heap.size + 3))), .pointer (some (Gk.blk w.heap.size)), .pointer (some (Gk.blk (w.heap.size + 4)))] w' (Ret R) := by
  intro f
  induction f with
  | zero =>
    intro i S w' R hi hS hf
    have : 0 < (List.range g.nx.length).countP (fun j => !S j) := List.countP_pos_iff.2 ⟨i, List.mem_range.2 hi, by simp [hS]⟩
    omega
  | succ f ih =>
    intro i S w' R hi hS hf hc hR
    refine nest_nested_comes_1_calls (i : Int) _ _ _ _ R w' ?_
    refine Nw.gen fun w1 hw1 => ?_
    have hI1 : Blk w1 w'.heap.size 3 [.int .i64 (i : Int)] := by rw [hw1]; exact Blk.new w' _ #[_]
    have b1 : Below w'.heap.size w' w1 := by rw [hw1]; exact (Below.refl _ _).alloc (Nat.le_refl _) _
    have z1 : w1.heap.size = w'.heap.size + 1 := by rw [hw1]; simp
    clear hw1
    have hc1 := hc.grow b1
    have hmx := h.ok.max
    refine ⟨_, hI1.cell0 rfl, _, hc1.to.cell0 rfl, ifB_beq (fun e => ?_) (fun hne => ?_)⟩
    · have e : i = to := by omega
      subst e
      exact hR true S w1 hc1 (Fr.of_below b1) (fun j hj => hj) (fun _ => .refl) (fun h => by cases h)
    have hne : i ≠ to := fun e => hne (by rw [e])
    refine ⟨⟨_, g.nx.length, g.nx.length⟩, hc1.sl.cell0 rfl, _, hI1.cell0 rfl, ⟨by omega, by show (i : Int) < (g.nx.length : Int); omega⟩, derefP_some rfl ⟨?_, Nw.gen fun w2 hw2 => ?_⟩⟩
    · exact hc1.arr.wr (n := i) (by simpa using hi)
    rw [show Int.toNat (i : Int) = i from rfl] at hw2
    have hc2 : CM w nb g.nx.length to (fun j => S j || j == i) w2.drew := by rw [hw2]; exact (hc1.see i).grow (Below.refl _ _).drew
    have hI2 : Blk w2.drew w'.heap.size 3 [.int .i64 (i : Int)] := by
      have := hc.size
      rw [hw2]; exact (hI1.other (by rw [add_block]; show w'.heap.size ≠ w.heap.size + 2; omega) _).drew
    have z2 : w2.drew.heap.size = w'.heap.size + 1 := by rw [hw2]; simpa [World.setCell] using z1
    have fr2 : Fr w'.heap.size (· = w.heap.size + 2) w' w2.drew := by rw [hw2]; exact ((Fr.of_below b1).set (.inr (by rw [add_block])) _).drew
    clear hw2 hc1 hI1
    generalize w2.drew = w2d at *
    have h2 := h.below hc2.b
    refine ⟨_, hc2.self.cell0 rfl, derefP_some rfl ⟨_, h2.b.cell0 rfl, _, hI2.cell0 rfl, ?_⟩⟩
    refine Next_spec h2.ok h2.gr fun r w3 o3 f3 b3 => ⟨r, rfl, ?_⟩
    rw [rowAt_nat] at o3
    have hc3 := hc2.grow b3
    have fr3 : Fr w'.heap.size (· = w.heap.size + 2) w' w3 := fr2.trans (Fr.of_below (b3.mono (by omega)))
    have hcs := hc.size
    have hne3 : ∀ a, r.a = some a → a.block ≠ w.heap.size + 2 := fun a ha => by have := f3 a ha; omega
    have hI3 := hI2.below b3
    have hrow := h.ok.rows i
    have hrl := h.ok.row_le i
    obtain ⟨row, hrw⟩ : ∃ row, row = g.nx.getD i [] := ⟨_, rfl⟩
    rw [← hrw] at o3 hrow hrl
    have hS1 : (List.range g.nx.length).countP (fun j => !(S j || j == i)) ≤ f := by
      have := countP_lt (p := fun j => !(S j || j == i)) (q := fun j => !S j) (l := List.range g.nx.length) (fun x hx => by simp only [Bool.not_or, Bool.and_eq_true] at hx; exact hx.1) ⟨i, List.mem_range.2 hi, by simp [hS], by simp⟩
      omega
    refine callR.of (slices_ContainsFunc_sint_int_calls r _ _ w3 ?_) fun _ _ h => h
    have z3 := b3.size
    let Inv : Nat → World → Prop := fun k wk => ∃ S', CM w nb g.nx.length to S' wk ∧ Blk wk w'.heap.size 3 [.int .i64 (i : Int)] ∧ IsN wk r row ∧ Fr w'.heap.size (· = w.heap.size + 2) w' wk ∧ (∀ j, (S j || j == i) = true → S' j = true) ∧ (∀ j (hj : j < row.length), j < k → FE g i row[j] → S' row[j] = true) ∧
      ∀ x, S' x = true → (S x || x == i) = false → x ≠ to ∧ ∀ k, FE g x k → S' k = true
    let Fin : World → Prop := fun wk => ∃ S', CM w nb g.nx.length to S' wk ∧ Fr w'.heap.size (· = w.heap.size + 2) w' wk ∧ (∀ j, S j = true → S' j = true) ∧ Way (FE g) i to
    refine IndexFunc2_spec (l := row) (Inv := Inv) (Fin := Fin)
      ⟨_, hc3, hI3, o3.isS, fr3, fun j hj => hj, fun j hj hk => by omega, fun x h1 h2 => by rw [h1] at h2; cases h2⟩ (by omega) (fun k wk ⟨S', _, _, hr, _⟩ => hr) ?_ ?_ ?_
    · rintro k hk wk ⟨S', hck, hIk, hr, hfr, hs1, hs2, hs3⟩
      have hkn := hrow _ (List.getElem_mem hk)
      have hc215 : Try.fs.contains 215 = true := by kernel_rfl
      unfold callV
      simp only [hc215]
      refine nest_nested_comes_1_1_calls (row[k] : Int) (Gk.blk (w.heap.size + 3)) (Gk.blk w.heap.size) (Gk.blk w'.heap.size) (Gk.blk (w.heap.size + 4)) _ wk ?_
      have skip : ∀ wq, Below wk.heap.size wk wq → (FE g i row[k] → S' row[k] = true) → ∃ b : Bool, Value.bool false = .bool b ∧ (b = true → Fin wq) ∧ (b = false → Inv (k + 1) wq) := fun wq hb hq =>
        ⟨false, rfl, (fun h => by cases h), fun _ => ⟨S', hck.grow hb, hIk.below hb, hr.below hb, hfr.trans (Fr.of_below (hb.mono hfr.size)), hs1, (fun j hj hjk hfe => by
          by_cases e : j = k
          · subst e; exact hq hfe
          · exact hs2 j hj (by omega) hfe), hs3⟩⟩
      refine ⟨⟨_, g.nx.length, g.nx.length⟩, hck.sl.cell0 rfl, ⟨by omega, by show ((row[k] : Nat) : Int) < (g.nx.length : Int); omega⟩, derefP_some rfl ⟨_, hck.arr.cell (n := row[k]) (by rw [List.getElem?_map, List.getElem?_range hkn]; rfl), ?_⟩⟩
      refine ifB_beq (fun h0 => ?_) (fun h1 => skip wk (Below.refl _ _) fun _ => ?_)
      · have hSk : S' row[k] = false := by
          cases e : S' row[k] with
          | false => rfl
          | true => rw [e] at h0; simp at h0
        refine ⟨_, hck.self.cell0 rfl, _, hIk.cell0 rfl, dominates_spec (h.below hck.b) fun v wq bq hv => ⟨v, rfl, ifB_not (ifB_bool (fun e => skip wq bq fun hfe => absurd (hv.1 e) hfe.2) (fun e => ?_))⟩⟩
        have hcq := hck.grow bq
        have hnD : ¬ g.D (row[k] : Int) (i : Int) := fun hD => by rw [hv.2 hD] at e; cases e
        refine ⟨_, hcq.fn.cell0 rfl, ?_⟩
        have hc214 : Try.fs.contains 214 = true := by kernel_rfl
        unfold callV
        simp only [hc214]
        have hfe : FE g i row[k] := ⟨hrw ▸ List.getElem_mem hk, hnD⟩
        have frq : Fr w'.heap.size (· = w.heap.size + 2) w' wq := hfr.trans (Fr.of_below (bq.mono hfr.size))
        refine ih row[k] S' wq _ hkn hSk (Nat.le_trans (List.countP_mono_left fun x _ hx => ?_) hS1) hcq fun b S2 w2 hc2' fr2' hsub ht hfa => ⟨b, rfl, b, rfl, fun e => ⟨S2, hc2', frq.trans (fr2'.mono frq.size fun _ _ h => h), fun j hj => hsub j (hs1 j (by simp [hj])), .head hfe (ht e)⟩, fun e => ?_⟩
        · cases e1 : (S x || x == i) with
          | false => rfl
          | true => rw [hs1 x e1] at hx; simp at hx
        · obtain ⟨q1, q2⟩ := hfa e
          refine ⟨S2, hc2', (hIk.below bq).of_block (fr2'.block _ (hIk.below bq).lt (by omega)), (hr.below bq).fr fr2' (Nat.le_refl _) hne3, frq.trans (fr2'.mono frq.size fun _ _ h => h), fun j hj => hsub j (hs1 j hj), fun j hj hjk hfe' => ?_, fun x hx1 hx2 => ?_⟩
          · by_cases e' : j = k
            · subst e'; exact q1
            · exact hsub _ (hs2 j hj (by omega) hfe')
          · cases e' : S' x with
            | false => exact q2 x hx1 e'
            | true =>
              have := hs3 x e' hx2
              exact ⟨this.1, fun k hk => hsub _ (this.2 k hk)⟩
      · cases e : S' row[k] with
        | true => rfl
        | false => rw [e] at h1; simp at h1
    · rintro v wk hv ⟨S', hck, hfr, hs, ht⟩
      refine ⟨v, rfl, ⟨true, by rw [decide_eq_true (show v ≥ 0 from hv)], hR true S' wk hck hfr hs (fun _ => ht) (fun h => by cases h)⟩⟩
    · rintro wk ⟨S', hck, hIk, hr, hfr, hs1, hs2, hs3⟩
      refine ⟨-1, rfl, ⟨false, rfl, hR false S' wk hck hfr (fun j hj => hs1 j (by simp [hj])) (fun h => by cases h) fun _ => ⟨hs1 i (by simp), fun x hx1 hx2 => ?_⟩⟩⟩
      by_cases e : x = i
      · subst e
        refine ⟨hne, fun k hk => ?_⟩
        have hm : k ∈ row := hrw ▸ hk.1
        obtain ⟨j, hj, rfl⟩ := List.mem_iff_getElem.1 hm
        exact hs2 j hj hj hk
      · exact hs3 x hx1 (by simp [hx2, e])

theorem comes_spec (h : Ne0 w nb gb hsl g wb tb ms) {a b : Nat} (ha : a < g.nx.length) (hR : ∀ (v : Bool) w', Below w.heap.size w w' → (v = true ↔ Way (FE g) a b) → R (.bool v) w') :
    callR Try.prog 188 #[.pointer (some (Gk.blk nb)), .int .i64 (a : Int), .int .i64 (b : Int)] w R := by
  refine callR.of (nest_nested_comes_calls _ (a : Int) (b : Int) R w ?_) fun _ _ h => h
  unfold L_nest_nested_comes
  have hmx := h.ok.max
  refine Nw.gen fun w1 hw1 => Nw.gen fun w2 hw2 => ?_
  have h1 : Blk w1 w.heap.size 139 [.pointer (some (Gk.blk nb))] := by rw [hw1]; exact Blk.new w _ #[_]
  have z1 : w1.heap.size = w.heap.size + 1 := by rw [hw1]; simp
  have h2 : Blk w2 w1.heap.size 3 [.int .i64 (b : Int)] := by rw [hw2]; exact Blk.new w1 _ #[_]
  have h1' : Blk w2 w.heap.size 139 [.pointer (some (Gk.blk nb))] := by rw [hw2]; exact h1.alloc _
  have z2 : w2.heap.size = w.heap.size + 2 := by rw [hw2, hw1]; simp
  have b2 : Below w.heap.size w w2 := by rw [hw2, hw1]; exact ((Below.refl _ _).alloc (Nat.le_refl _) _).alloc (by simp) _
  clear hw2 hw1 h1
  rw [z1] at h2 ⊢
  have e2 := h.below b2
  refine ⟨_, h1'.cell0 rfl, derefP_some rfl ⟨_, e2.b.cell0 rfl, gLen_spec e2.gr ⟨_, rfl, makeOk (.inr (.inl rfl)) hmx, ?_⟩⟩⟩
  rw [show Int.toNat (g.nx.length : Int) = g.nx.length from rfl, z2]
  refine Nw.gen fun w4 hw4 => ?_
  have hA4 : Blk w4 w2.heap.size 3 (List.replicate g.nx.length (.int .i64 (0 : Int))) := by rw [hw4]; exact Blk.made w2 _ _ _
  have b4 : Below w2.heap.size w2 w4 := by rw [hw4]; exact (Below.refl _ _).alloc (Nat.le_refl _) _
  have z4 : w4.heap.size = w2.heap.size + 1 := by rw [hw4]; simp
  clear hw4
  refine Nw.gen fun w5 hw5 => ?_
  have hS5 : Blk w5 w4.heap.size 32 [.slice none 0 0] := by rw [hw5]; exact Blk.new w4 _ #[_]
  have b5 : Below w4.heap.size w4 w5 := by rw [hw5]; exact (Below.refl _ _).alloc (Nat.le_refl _) _
  have z5 : w5.heap.size = w4.heap.size + 1 := by rw [hw5]; simp
  clear hw5
  refine ⟨hS5.wr0 (by simp), Nw.gen fun w6 hw6 => ?_⟩
  have hS6 : Blk w6 w4.heap.size 32 [.slice (some (Gk.blk (w.heap.size + 2))) g.nx.length g.nx.length] := by rw [hw6]; exact hS5.set0 _
  have b6 : Below w4.heap.size w4 w6 := by rw [hw6]; exact b5.setCell (Nat.le_refl _) _
  have z6 : w6.heap.size = w4.heap.size + 1 := by rw [hw6]; simpa [World.setCell] using z5
  clear hw6 hS5 b5 z5
  refine Nw.gen fun w7 hw7 => ?_
  have hF7 : Blk w7 w6.heap.size 41 [.nilFunc] := by rw [hw7]; exact Blk.new w6 _ #[_]
  have b7 : Below w6.heap.size w6 w7 := by rw [hw7]; exact (Below.refl _ _).alloc (Nat.le_refl _) _
  have z7 : w7.heap.size = w6.heap.size + 1 := by rw [hw7]; simp
  clear hw7
  refine ⟨hF7.wr0 (by simp), Nw.gen fun w8 hw8 => ?_⟩
  have hF8 := hF7.set0 (.func (.func 214) #[] #[.pointer (some (Gk.blk (w.heap.size + 1))), .pointer (some (Gk.blk w4.heap.size)), .pointer (some (Gk.blk w.heap.size)), .pointer (some (Gk.blk w6.heap.size))])
  have b8 : Below w6.heap.size w6 w8 := by rw [hw8]; exact b7.setCell (Nat.le_refl _) _
  have z8 : w8.heap.size = w6.heap.size + 1 := by rw [hw8]; simpa [World.setCell] using z7
  rw [← hw8] at hF8
  clear hw8 hF7 b7 z7
  have y4 : w4.heap.size = w.heap.size + 3 := by omega
  have y6 : w6.heap.size = w.heap.size + 4 := by omega
  have h28 : Below w2.heap.size w2 w8 := b4.trans ((b6.mono (by omega)).trans (b8.mono (by omega)))
  have hcm : CM w nb g.nx.length b (fun _ => false) w8 := by
    refine ⟨b2.trans (h28.mono (by omega)), by omega, h1'.below h28, h2.below h28, ?_, y4 ▸ hS6.below b8, ?_⟩
    · have := (hA4.below b6).below b8
      rw [z2] at this
      have e : seenL g.nx.length (fun _ => false) = List.replicate g.nx.length (.int .i64 (0 : Int)) := by
        apply List.ext_getElem
        · simp
        · intro j h1 h2; simp
      rw [e]
      exact this
    · rw [y4, y6] at hF8
      simpa using hF8
  rw [y6]
  refine ⟨_, hcm.fn.cell0 rfl, ?_⟩
  have hc214 : Try.fs.contains 214 = true := by kernel_rfl
  unfold callV
  simp only [hc214]
  refine comes1_spec h (to := b) g.nx.length a (fun _ => false) w8 _ ha rfl (Nat.le_trans List.countP_le_length (by simp)) hcm fun v S' w9 hc9 _ _ ht hfa => ⟨v, rfl, hR v w9 hc9.b ⟨ht, fun hw => ?_⟩⟩
  cases e : v with
  | true => rfl
  | false =>
    obtain ⟨q1, q2⟩ := hfa e
    have : ∀ x, Way (FE g) a x → S' x = true := fun x hx => by
      induction hx with
      | refl => exact q1
      | step _ hfe ih => exact (q2 _ ih rfl).2 _ hfe
    exact absurd rfl (q2 b (this b hw) rfl).1
end

end Go.Proofs
