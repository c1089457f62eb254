/-
  Part 4 of what NestRenamed is proved by: functions walked, and what they come to.
-/
import Derived.Test.YtogccbelnfgfhaaGreatProg
import Derived.ScopeJumps
import Derived.Test.YtogccbelnfgfhaaGreatPNestRenamed3
namespace Go.Proofs
open Go.Gk Go.RowKit Go.Gr Go.Dm

/-- slices.IndexFunc, of a function that turns what it finds. -/
theorem IndexFunc2_spec {y : Value} {r : Sl} {l : List Nat} {Inv : Nat → World → Prop} {Fin : World → Prop} {w : World} {R : Value → World → Prop} (hi : Inv 0 w) (hl : l.length ≤ 4096) (hr : ∀ k w', Inv k w' → IsN w' r l)
    (hy : ∀ k (hk : k < l.length) w', Inv k w' → callV Tryz.prog Tryz.fs y [.int .i64 (l[k] : Int)] w' fun v w'' => ∃ b : Bool, v = .bool b ∧ (b = true → Fin w'') ∧ (b = false → Inv (k + 1) w''))
    (h1 : ∀ (v : Int) w', 0 ≤ v → Fin w' → R (.int .i64 v) w') (h2 : ∀ w', Inv l.length w' → R (.int .i64 (-1)) w') : callR Tryz.prog 272 #[.slice r.a r.l r.c, y] w R := by
  refine callR.of (slices_IndexFunc_sint_int_calls r y R w ?_) fun _ _ h => h
  refine LoopW.count l.length (by omega) (fun k w' => Inv k w') hi ?_
  rintro k w1 hk hi next hnext
  have hlen := (hr k w1 hi).len
  refine ifB_dec (fun hlt => ?_) (fun hge => ?_)
  · have hlt : k < l.length := by dsimp only at hlt; omega
    refine elemI (IsS.toI (hr k w1 hi)) (k := k) (by simpa using hlt) ?_
    rw [List.getElem_map]
    exact callV.mono (hy k hlt w1 hi) fun v w'' ⟨b, hv, hb1, hb2⟩ => ⟨b, hv, ifB_bool (fun e => h1 _ w'' (by first | omega | (dsimp only; omega)) (hb1 e)) fun e => hnext w'' hlt (hb2 e)⟩
  · have : k = l.length := by dsimp only at hge; omega
    subst this
    exact h2 w1 hi

inductive Way (E : Nat → Nat → Prop) (a : Nat) : Nat → Prop
  | refl : Way E a a
  | step {b c : Nat} : Way E a b → E b c → Way E a c
theorem Way.head {E : Nat → Nat → Prop} {a b c : Nat} (h : E a b) (k : Way E b c) : Way E a c := by
  induction k with
  | refl => exact .step .refl h
  | step _ e ih => exact .step ih e
/-- An edge that is no edge back. -/
def FE (g : Nst) (i k : Nat) : Prop := k ∈ g.nx.getD i [] ∧ ¬ g.D (k : Int) (i : Int)

section
variable {w w' : World} {nb gb : Nat} {hsl : Sl} {g : Nst} {wb tb : Nat} {ms : Sl} {R : Value → World → Prop}
abbrev seenL (n : Nat) (S : Nat → Bool) : List Value := (List.range n).map fun j => .int .i64 (if S j then (1 : Int) else 0)
theorem seenL_set {n : Nat} {S : Nat → Bool} {i : Nat} : (seenL n S).set i (.int .i64 1) = seenL n fun j => S j || j == i := by
  apply List.ext_getElem
  · simp
  · intro j h1 h2
    simp only [List.getElem_set, List.getElem_map, List.getElem_range]
    by_cases e : i = j
    · subst e; simp
    · have : (j == i) = false := by simpa using fun h => e h.symm
      simp [e, this]
/-- comes under way: S has been seen. -/
structure CM (w : World) (nb n to : Nat) (S : Nat → Bool) (w' : World) : Prop where
  b : Below w.heap.size w w'
  size : w.heap.size + 5 ≤ w'.heap.size
  self : Blk w' w.heap.size 159 [.pointer (some (Gk.blk nb))]
  to : Blk w' (w.heap.size + 1) 3 [.int .i64 (to : Int)]
  arr : Blk w' (w.heap.size + 2) 3 (seenL n S)
  sl : Blk w' (w.heap.size + 3) 26 [.slice (some (Gk.blk (w.heap.size + 2))) n n]
  fn : Blk w' (w.heap.size + 4) 83 [.func (.func 259) #[] #[.pointer (some (Gk.blk (w.heap.size + 1))), .pointer (some (Gk.blk (w.heap.size + 3))), .pointer (some (Gk.blk w.heap.size)), .pointer (some (Gk.blk (w.heap.size + 4)))]]
theorem CM.grow {n to : Nat} {S : Nat → Bool} {w'' : World} (h : CM w nb n to S w') (hb : Below w'.heap.size w' w'') : CM w nb n to S w'' :=
  ⟨h.b.trans (hb.mono h.b.size), by have := hb.size; have := h.size; omega, h.self.below hb, h.to.below hb, h.arr.below hb, h.sl.below hb, h.fn.below hb⟩
theorem CM.see {n to : Nat} {S : Nat → Bool} (h : CM w nb n to S w') (i : Nat) : CM w nb n to (fun j => S j || j == i) (w'.setCell ((Gk.blk (w.heap.size + 2)).add i) (.int .i64 1)) :=
  ⟨h.b.setCell (by rw [add_block]; show w.heap.size ≤ w.heap.size + 2; omega) _, by have := h.size; simpa [World.setCell] using this, h.self.other (by rw [add_block]; show w.heap.size ≠ w.heap.size + 2; omega) _, h.to.other (by rw [add_block]; show w.heap.size + 1 ≠ w.heap.size + 2; omega) _,
    seenL_set ▸ h.arr.set i _, h.sl.other (by rw [add_block]; show w.heap.size + 3 ≠ w.heap.size + 2; omega) _, h.fn.other (by rw [add_block]; show w.heap.size + 4 ≠ w.heap.size + 2; omega) _⟩

set_option maxHeartbeats 2000000 in
theorem comes1_spec (h : Ne0 w nb gb hsl g wb tb ms) {to : Nat} : ∀ (f i : Nat) (S : Nat → Bool) (w' : World) (R : Value → World → Prop), i < g.nx.length → S i = false → (List.range g.nx.length).countP (fun j => !S j) ≤ f → CM w nb g.nx.length to S w' →
    (∀ b S' w'', CM w nb g.nx.length to S' w'' → Fr w'.heap.size (· = w.heap.size + 2) w' w'' → (∀ j, S j = true → S' j = true) → (b = true → Way (FE g) i to) → (b = false → S' i = true ∧ ∀ x, S' x = true → S x = false → x ≠ to ∧ ∀ k, FE g x k → S' k = true) → R (.bool b) w'') →
    Calls Tryz.prog 259 #[.int .i64 (i : Int), .pointer (some (Gk.blk (w.heap.size + 1))), .pointer (some (Gk.blk (w.heap.size + 3))), .pointer (some (Gk.blk w.heap.size)), .pointer (some (Gk.blk (w.heap.size + 4)))] w' (Ret R) := by
  intro f
  induction f with
  | zero =>
    intro i S w' R hi hS hf
    have : 0 < (List.range g.nx.length).countP (fun j => !S j) := List.countP_pos_iff.2 ⟨i, List.mem_range.2 hi, by simp [hS]⟩
    omega
  | succ f ih =>
    intro i S w' R hi hS hf hc hR
    refine nest_nested_comes_1_calls (i : Int) _ _ _ _ R w' ?_
    refine Nw.gen fun w1 hw1 => ?_
    have hI1 : Blk w1 w'.heap.size 3 [.int .i64 (i : Int)] := by rw [hw1]; exact Blk.new w' _ #[_]
    have b1 : Below w'.heap.size w' w1 := by rw [hw1]; exact (Below.refl _ _).alloc (Nat.le_refl _) _
    have z1 : w1.heap.size = w'.heap.size + 1 := by rw [hw1]; simp
    clear hw1
    have hc1 := hc.grow b1
    have hmx := h.ok.max
    refine ⟨_, hI1.cell0 rfl, _, hc1.to.cell0 rfl, ifB_beq (fun e => ?_) (fun hne => ?_)⟩
    · have e : i = to := by omega
      subst e
      exact hR true S w1 hc1 (Fr.of_below b1) (fun j hj => hj) (fun _ => .refl) (fun h => by cases h)
    have hne : i ≠ to := fun e => hne (by rw [e])
    refine ⟨⟨_, g.nx.length, g.nx.length⟩, hc1.sl.cell0 rfl, _, hI1.cell0 rfl, ⟨by omega, by show (i : Int) < (g.nx.length : Int); omega⟩, derefP_some rfl ⟨?_, Nw.gen fun w2 hw2 => ?_⟩⟩
    · exact hc1.arr.wr (n := i) (by simpa using hi)
    rw [show Int.toNat (i : Int) = i from rfl] at hw2
    have hc2 : CM w nb g.nx.length to (fun j => S j || j == i) w2.drew := by rw [hw2]; exact (hc1.see i).grow (Below.refl _ _).drew
    have hI2 : Blk w2.drew w'.heap.size 3 [.int .i64 (i : Int)] := by
      have := hc.size
      rw [hw2]; exact (hI1.other (by rw [add_block]; show w'.heap.size ≠ w.heap.size + 2; omega) _).drew
    have z2 : w2.drew.heap.size = w'.heap.size + 1 := by rw [hw2]; simpa [World.setCell] using z1
    have fr2 : Fr w'.heap.size (· = w.heap.size + 2) w' w2.drew := by rw [hw2]; exact ((Fr.of_below b1).set (.inr (by rw [add_block])) _).drew
    clear hw2 hc1 hI1
    generalize w2.drew = w2d at *
    have h2 := h.below hc2.b
    refine ⟨_, hc2.self.cell0 rfl, derefP_some rfl ⟨_, h2.b.cell0 rfl, _, hI2.cell0 rfl, ?_⟩⟩
    refine Next_spec h2.ok h2.gr fun r w3 o3 f3 b3 => ⟨r, rfl, ?_⟩
    rw [rowAt_nat] at o3
    have hc3 := hc2.grow b3
    have fr3 : Fr w'.heap.size (· = w.heap.size + 2) w' w3 := fr2.trans (Fr.of_below (b3.mono (by omega)))
    have hcs := hc.size
    have hne3 : ∀ a, r.a = some a → a.block ≠ w.heap.size + 2 := fun a ha => by have := f3 a ha; omega
    have hI3 := hI2.below b3
    have hrow := h.ok.rows i
    have hrl := h.ok.row_le i
    obtain ⟨row, hrw⟩ : ∃ row, row = g.nx.getD i [] := ⟨_, rfl⟩
    rw [← hrw] at o3 hrow hrl
    have hS1 : (List.range g.nx.length).countP (fun j => !(S j || j == i)) ≤ f := by
      have := countP_lt (p := fun j => !(S j || j == i)) (q := fun j => !S j) (l := List.range g.nx.length) (fun x hx => by simp only [Bool.not_or, Bool.and_eq_true] at hx; exact hx.1) ⟨i, List.mem_range.2 hi, by simp [hS], by simp⟩
      omega
    refine callR.of (slices_ContainsFunc_sint_int_calls r _ _ w3 ?_) fun _ _ h => h
    have z3 := b3.size
    let Inv : Nat → World → Prop := fun k wk => ∃ S', CM w nb g.nx.length to S' wk ∧ Blk wk w'.heap.size 3 [.int .i64 (i : Int)] ∧ IsN wk r row ∧ Fr w'.heap.size (· = w.heap.size + 2) w' wk ∧ (∀ j, (S j || j == i) = true → S' j = true) ∧ (∀ j (hj : j < row.length), j < k → FE g i row[j] → S' row[j] = true) ∧
      ∀ x, S' x = true → (S x || x == i) = false → x ≠ to ∧ ∀ k, FE g x k → S' k = true
    let Fin : World → Prop := fun wk => ∃ S', CM w nb g.nx.length to S' wk ∧ Fr w'.heap.size (· = w.heap.size + 2) w' wk ∧ (∀ j, S j = true → S' j = true) ∧ Way (FE g) i to
    refine IndexFunc2_spec (l := row) (Inv := Inv) (Fin := Fin)
      ⟨_, hc3, hI3, o3.isS, fr3, fun j hj => hj, fun j hj hk => by omega, fun x h1 h2 => by rw [h1] at h2; cases h2⟩ (by omega) (fun k wk ⟨S', _, _, hr, _⟩ => hr) ?_ ?_ ?_
    · rintro k hk wk ⟨S', hck, hIk, hr, hfr, hs1, hs2, hs3⟩
      have hkn := hrow _ (List.getElem_mem hk)
      have hc215 : Tryz.fs.contains 261 = true := by kernel_rfl
      unfold callV
      simp only [hc215]
      refine nest_nested_comes_1_1_calls (row[k] : Int) (Gk.blk (w.heap.size + 3)) (Gk.blk w.heap.size) (Gk.blk w'.heap.size) (Gk.blk (w.heap.size + 4)) _ wk ?_
      have skip : ∀ wq, Below wk.heap.size wk wq → (FE g i row[k] → S' row[k] = true) → ∃ b : Bool, Value.bool false = .bool b ∧ (b = true → Fin wq) ∧ (b = false → Inv (k + 1) wq) := fun wq hb hq =>
        ⟨false, rfl, (fun h => by cases h), fun _ => ⟨S', hck.grow hb, hIk.below hb, hr.below hb, hfr.trans (Fr.of_below (hb.mono hfr.size)), hs1, (fun j hj hjk hfe => by
          by_cases e : j = k
          · subst e; exact hq hfe
          · exact hs2 j hj (by omega) hfe), hs3⟩⟩
      refine ⟨⟨_, g.nx.length, g.nx.length⟩, hck.sl.cell0 rfl, ⟨by omega, by show ((row[k] : Nat) : Int) < (g.nx.length : Int); omega⟩, derefP_some rfl ⟨_, hck.arr.cell (n := row[k]) (by rw [List.getElem?_map, List.getElem?_range hkn]; rfl), ?_⟩⟩
      refine ifB_beq (fun h0 => ?_) (fun h1 => skip wk (Below.refl _ _) fun _ => ?_)
      · have hSk : S' row[k] = false := by
          cases e : S' row[k] with
          | false => rfl
          | true => rw [e] at h0; simp at h0
        refine ⟨_, hck.self.cell0 rfl, _, hIk.cell0 rfl, dominates_spec (h.below hck.b) fun v wq bq hv => ⟨v, rfl, ifB_not (ifB_bool (fun e => skip wq bq fun hfe => absurd (hv.1 e) hfe.2) (fun e => ?_))⟩⟩
        have hcq := hck.grow bq
        have hnD : ¬ g.D (row[k] : Int) (i : Int) := fun hD => by rw [hv.2 hD] at e; cases e
        refine ⟨_, hcq.fn.cell0 rfl, ?_⟩
        have hc214 : Tryz.fs.contains 259 = true := by kernel_rfl
        unfold callV
        simp only [hc214]
        have hfe : FE g i row[k] := ⟨hrw ▸ List.getElem_mem hk, hnD⟩
        have frq : Fr w'.heap.size (· = w.heap.size + 2) w' wq := hfr.trans (Fr.of_below (bq.mono hfr.size))
        refine ih row[k] S' wq _ hkn hSk (Nat.le_trans (List.countP_mono_left fun x _ hx => ?_) hS1) hcq fun b S2 w2 hc2' fr2' hsub ht hfa => ⟨b, rfl, b, rfl, fun e => ⟨S2, hc2', frq.trans (fr2'.mono frq.size fun _ _ h => h), fun j hj => hsub j (hs1 j (by simp [hj])), .head hfe (ht e)⟩, fun e => ?_⟩
        · cases e1 : (S x || x == i) with
          | false => rfl
          | true => rw [hs1 x e1] at hx; simp at hx
        · obtain ⟨q1, q2⟩ := hfa e
          refine ⟨S2, hc2', (hIk.below bq).of_block (fr2'.block _ (hIk.below bq).lt (by omega)), (hr.below bq).fr fr2' (Nat.le_refl _) hne3, frq.trans (fr2'.mono frq.size fun _ _ h => h), fun j hj => hsub j (hs1 j hj), fun j hj hjk hfe' => ?_, fun x hx1 hx2 => ?_⟩
          · by_cases e' : j = k
            · subst e'; exact q1
            · exact hsub _ (hs2 j hj (by omega) hfe')
          · cases e' : S' x with
            | false => exact q2 x hx1 e'
            | true =>
              have := hs3 x e' hx2
              exact ⟨this.1, fun k hk => hsub _ (this.2 k hk)⟩
      · cases e : S' row[k] with
        | true => rfl
        | false => rw [e] at h1; simp at h1
    · rintro v wk hv ⟨S', hck, hfr, hs, ht⟩
      refine ⟨v, rfl, ⟨true, by rw [decide_eq_true (show v ≥ 0 from hv)], hR true S' wk hck hfr hs (fun _ => ht) (fun h => by cases h)⟩⟩
    · rintro wk ⟨S', hck, hIk, hr, hfr, hs1, hs2, hs3⟩
      refine ⟨-1, rfl, ⟨false, rfl, hR false S' wk hck hfr (fun j hj => hs1 j (by simp [hj])) (fun h => by cases h) fun _ => ⟨hs1 i (by simp), fun x hx1 hx2 => ?_⟩⟩⟩
      by_cases e : x = i
      · subst e
        refine ⟨hne, fun k hk => ?_⟩
        have hm : k ∈ row := hrw ▸ hk.1
        obtain ⟨j, hj, rfl⟩ := List.mem_iff_getElem.1 hm
        exact hs2 j hj hj hk
      · exact hs3 x hx1 (by simp [hx2, e])

theorem comes_spec (h : Ne0 w nb gb hsl g wb tb ms) {a b : Nat} (ha : a < g.nx.length) (hR : ∀ (v : Bool) w', Below w.heap.size w w' → (v = true ↔ Way (FE g) a b) → R (.bool v) w') :
    callR Tryz.prog 229 #[.pointer (some (Gk.blk nb)), .int .i64 (a : Int), .int .i64 (b : Int)] w R := by
  refine callR.of (nest_nested_comes_calls _ (a : Int) (b : Int) R w ?_) fun _ _ h => h
  unfold L_nest_nested_comes
  have hmx := h.ok.max
  refine Nw.gen fun w1 hw1 => Nw.gen fun w2 hw2 => ?_
  have h1 : Blk w1 w.heap.size 159 [.pointer (some (Gk.blk nb))] := by rw [hw1]; exact Blk.new w _ #[_]
  have z1 : w1.heap.size = w.heap.size + 1 := by rw [hw1]; simp
  have h2 : Blk w2 w1.heap.size 3 [.int .i64 (b : Int)] := by rw [hw2]; exact Blk.new w1 _ #[_]
  have h1' : Blk w2 w.heap.size 159 [.pointer (some (Gk.blk nb))] := by rw [hw2]; exact h1.alloc _
  have z2 : w2.heap.size = w.heap.size + 2 := by rw [hw2, hw1]; simp
  have b2 : Below w.heap.size w w2 := by rw [hw2, hw1]; exact ((Below.refl _ _).alloc (Nat.le_refl _) _).alloc (by simp) _
  clear hw2 hw1 h1
  rw [z1] at h2 ⊢
  have e2 := h.below b2
  refine ⟨_, h1'.cell0 rfl, derefP_some rfl ⟨_, e2.b.cell0 rfl, gLen_spec e2.gr ⟨_, rfl, makeOk (.inr (.inl rfl)) hmx, ?_⟩⟩⟩
  rw [show Int.toNat (g.nx.length : Int) = g.nx.length from rfl, z2]
  refine Nw.gen fun w4 hw4 => ?_
  have hA4 : Blk w4 w2.heap.size 3 (List.replicate g.nx.length (.int .i64 (0 : Int))) := by rw [hw4]; exact Blk.made w2 _ _ _
  have b4 : Below w2.heap.size w2 w4 := by rw [hw4]; exact (Below.refl _ _).alloc (Nat.le_refl _) _
  have z4 : w4.heap.size = w2.heap.size + 1 := by rw [hw4]; simp
  clear hw4
  refine Nw.gen fun w5 hw5 => ?_
  have hS5 : Blk w5 w4.heap.size 26 [.slice none 0 0] := by rw [hw5]; exact Blk.new w4 _ #[_]
  have b5 : Below w4.heap.size w4 w5 := by rw [hw5]; exact (Below.refl _ _).alloc (Nat.le_refl _) _
  have z5 : w5.heap.size = w4.heap.size + 1 := by rw [hw5]; simp
  clear hw5
  refine ⟨hS5.wr0 (by simp), Nw.gen fun w6 hw6 => ?_⟩
  have hS6 : Blk w6 w4.heap.size 26 [.slice (some (Gk.blk (w.heap.size + 2))) g.nx.length g.nx.length] := by rw [hw6]; exact hS5.set0 _
  have b6 : Below w4.heap.size w4 w6 := by rw [hw6]; exact b5.setCell (Nat.le_refl _) _
  have z6 : w6.heap.size = w4.heap.size + 1 := by rw [hw6]; simpa [World.setCell] using z5
  clear hw6 hS5 b5 z5
  refine Nw.gen fun w7 hw7 => ?_
  have hF7 : Blk w7 w6.heap.size 83 [.nilFunc] := by rw [hw7]; exact Blk.new w6 _ #[_]
  have b7 : Below w6.heap.size w6 w7 := by rw [hw7]; exact (Below.refl _ _).alloc (Nat.le_refl _) _
  have z7 : w7.heap.size = w6.heap.size + 1 := by rw [hw7]; simp
  clear hw7
  refine ⟨hF7.wr0 (by simp), Nw.gen fun w8 hw8 => ?_⟩
  have hF8 := hF7.set0 (.func (.func 259) #[] #[.pointer (some (Gk.blk (w.heap.size + 1))), .pointer (some (Gk.blk w4.heap.size)), .pointer (some (Gk.blk w.heap.size)), .pointer (some (Gk.blk w6.heap.size))])
  have b8 : Below w6.heap.size w6 w8 := by rw [hw8]; exact b7.setCell (Nat.le_refl _) _
  have z8 : w8.heap.size = w6.heap.size + 1 := by rw [hw8]; simpa [World.setCell] using z7
  rw [← hw8] at hF8
  clear hw8 hF7 b7 z7
  have y4 : w4.heap.size = w.heap.size + 3 := by omega
  have y6 : w6.heap.size = w.heap.size + 4 := by omega
  have h28 : Below w2.heap.size w2 w8 := b4.trans ((b6.mono (by omega)).trans (b8.mono (by omega)))
  have hcm : CM w nb g.nx.length b (fun _ => false) w8 := by
    refine ⟨b2.trans (h28.mono (by omega)), by omega, h1'.below h28, h2.below h28, ?_, y4 ▸ hS6.below b8, ?_⟩
    · have := (hA4.below b6).below b8
      rw [z2] at this
      have e : seenL g.nx.length (fun _ => false) = List.replicate g.nx.length (.int .i64 (0 : Int)) := by
        apply List.ext_getElem
        · simp
        · intro j h1 h2; simp
      rw [e]
      exact this
    · rw [y4, y6] at hF8
      simpa using hF8
  rw [y6]
  refine ⟨_, hcm.fn.cell0 rfl, ?_⟩
  have hc214 : Tryz.fs.contains 259 = true := by kernel_rfl
  unfold callV
  simp only [hc214]
  refine comes1_spec h (to := b) g.nx.length a (fun _ => false) w8 _ ha rfl (Nat.le_trans List.countP_le_length (by simp)) hcm fun v S' w9 hc9 _ _ ht hfa => ⟨v, rfl, hR v w9 hc9.b ⟨ht, fun hw => ?_⟩⟩
  cases e : v with
  | true => rfl
  | false =>
    obtain ⟨q1, q2⟩ := hfa e
    have : ∀ x, Way (FE g) a x → S' x = true := fun x hx => by
      induction hx with
      | refl => exact q1
      | step _ hfe ih => exact (q2 _ ih rfl).2 _ hfe
    exact absurd rfl (q2 b (this b hw) rfl).1
end

end Go.Proofs
namespace Go.Proofs
open Go.Gk Go.RowKit Go.Gr Go.Dm

def BackE (g : Nst) (i v : Nat) : Prop := (g.D (v : Int) (i : Int) ∧ (g.kd v ≠ 2 ∨ ¬ g.D (g.co v) (i : Int))) ∨ (¬ g.D (v : Int) (i : Int) ∧ Way (FE g) v i)
open Classical in
noncomputable def backB (g : Nst) (i u : Nat) : Bool := decide (g.D (i : Int) (u : Int))
theorem backB_iff {g : Nst} {i u : Nat} : backB g i u = true ↔ g.D (i : Int) (u : Int) := by simp [backB]
def BackP (g : Nst) (i : Nat) : Prop := (∃ v ∈ g.nx.getD i [], BackE g i v) ∨ 2 ≤ ((aheadOf g.nx).getD i []).countP (backB g i)

section
variable {w w' : World} {nb gb : Nat} {hsl : Sl} {g : Nst} {wb tb : Nat} {ms : Sl} {R : Value → World → Prop}
set_option maxHeartbeats 2000000 in
theorem back_spec (h : Ne w nb gb g) {i : Nat} (hi : i < g.nx.length) (hR : ∀ (b : Bool) w', Below w.heap.size w w' → (b = true ↔ BackP g i) → R (.bool b) w') :
    callR Tryz.prog 178 #[.pointer (some (Gk.blk nb)), .int .i64 (i : Int)] w R := by
  refine callR.of (nest_nested_back_calls _ (i : Int) R w ?_) fun _ _ h => h
  obtain ⟨hsl, hh, wb, tb, ms, h0, hn⟩ := h.ex
  clear h hn hh
  have hml := h0.fit.1
  have hmx := h0.ok.max
  refine derefP_some rfl ⟨_, h0.b.cell0 rfl, Next_spec h0.ok h0.gr fun r w1 o1 _ b1 => ⟨r, rfl, ?_⟩⟩
  rw [rowAt_nat] at o1
  have hrow := h0.ok.rows i
  have hrl := h0.ok.row_le i
  obtain ⟨row, hrw⟩ : ∃ row, row = g.nx.getD i [] := ⟨_, rfl⟩
  have hin : ∀ {v}, v ∈ row → v ∈ g.nx.getD i [] := fun h => hrw ▸ h
  rw [← hrw] at o1 hrow hrl
  have hl1 := own_len o1
  have z1 := b1.size
  have h1 := h0.below b1
  refine LoopW.count row.length (by omega) (fun k w' => Below w1.heap.size w1 w' ∧ ∀ j (hj : j < row.length), j < k → ¬ BackE g i row[j]) ⟨Below.refl _ _, fun j hj hk => by omega⟩ ?_
  rintro k w2 hk ⟨b2, hno⟩ next hnext
  have z2 := b2.size
  have h2 := h1.below b2
  refine ifB_dec (fun hlt => ?_) (fun hge => ?_)
  · have hlt : k < row.length := by dsimp only at hlt; omega
    have hvn := hrow _ (List.getElem_mem hlt)
    have yes : ∀ w', Below w2.heap.size w2 w' → BackE g i row[k] → R (.bool true) w' := fun w' hb he => hR true w' (b1.trans ((b2.trans (hb.mono z2)).mono z1)) ⟨fun _ => .inl ⟨row[k], hin (List.getElem_mem hlt), he⟩, fun _ => rfl⟩
    refine JoinW.cut (fun _ w' => Below w2.heap.size w2 w' ∧ ¬ BackE g i row[k]) ?_ ?_
    · refine elemI (IsS.toI (o1.below b2).isS) (k := k) (by simpa using hlt) ?_
      rw [List.getElem_map]
      refine derefP_some rfl ⟨ms, h2.b.cell (n := 1) rfl, elemM h2.m (k := row[k]) (by omega) (mcopy fun w6 hB6 b6 z6 => ?_)⟩
      rw [Nst.kd_get (by omega), Nst.to_get (by omega), Nst.co_get (by omega)] at hB6
      have h6 := h2.below b6
      refine dominates_spec h6 fun v w7 b7 hv => ⟨v, rfl, ifB_bool (fun e => ?_) (fun e => ?_)⟩
      · have hB7 := hB6.below b7
        have b27 : Below w2.heap.size w2 w7 := b6.trans (b7.mono (by omega))
        refine ⟨_, hB7.cell0 rfl, ifB_bne (fun hne => yes w7 b27 (.inl ⟨hv.1 e, .inl hne⟩)) (fun hk2 => ⟨_, hB7.cell (n := 2) rfl, ?_⟩)⟩
        refine dominates_spec (h6.below b7) fun v2 w8 b8 hv2 => ⟨v2, rfl, ifB_not (ifB_bool (fun e2 => ⟨b27.trans (b8.mono b27.size), fun he => ?_⟩) (fun e2 => yes w8 (b27.trans (b8.mono b27.size)) (.inl ⟨hv.1 e, .inr fun hD => by rw [hv2.2 hD] at e2; cases e2⟩)))⟩
        rcases he with ⟨_, h | h⟩ | ⟨h, _⟩
        · exact h hk2
        · exact h (hv2.1 e2)
        · exact h (hv.1 e)
      · have b27 : Below w2.heap.size w2 w7 := b6.trans (b7.mono (by omega))
        have hnD : ¬ g.D (row[k] : Int) (i : Int) := fun hD => by rw [hv.2 hD] at e; cases e
        refine comes_spec (h6.below b7) hvn fun v2 w9 b9 hv2 => ⟨v2, rfl, ifB_bool (fun e2 => yes w9 (b27.trans (b9.mono b27.size)) (.inr ⟨hnD, hv2.1 e2⟩)) (fun e2 => ⟨b27.trans (b9.mono b27.size), fun he => ?_⟩)⟩
        rcases he with ⟨h, _⟩ | ⟨_, h⟩
        · exact hnD h
        · rw [hv2.2 h] at e2; cases e2
    · rintro _ w10 ⟨b10, hn⟩
      refine hnext w10 hlt ⟨b2.trans (b10.mono z2), fun j hj hjk => ?_⟩
      by_cases e : j = k
      · subst e; exact hn
      · exact hno j hj (by omega)
  · have hk' : k = row.length := by dsimp only at hge; omega
    subst hk'
    have none : ¬ ∃ v ∈ g.nx.getD i [], BackE g i v := fun ⟨v, hv, he⟩ => by
      rw [← hrw] at hv
      obtain ⟨j, hj, rfl⟩ := List.mem_iff_getElem.1 hv
      exact hno j hj hj he
    refine derefP_some rfl ⟨_, h2.b.cell0 rfl, Ahead_spec h2.ok h2.gr fun r2 w11 o11 _ b11 => ⟨r2, rfl, ?_⟩⟩
    rw [rowAt_nat] at o11
    have hal := ahead_le g.nx i
    obtain ⟨ah, hah⟩ : ∃ ah, ah = (aheadOf g.nx).getD i [] := ⟨_, rfl⟩
    rw [← hah] at o11 hal
    have hl2 := own_len o11
    have z11 := b11.size
    have h11 := h2.below b11
    refine LoopW.countS ah.length (by omega) (fun k (c : Int) w' => Below w11.heap.size w11 w' ∧ c = ((ah.take k).countP (backB g i) : Int)) ⟨Below.refl _ _, by simp⟩ ?_
    rintro k c w12 hk ⟨b12, rfl⟩ next hnext
    have z12 := b12.size
    have h12 := h11.below b12
    refine ifB_dec (fun hlt => ?_) (fun hge => ?_)
    · have hlt : k < ah.length := by dsimp only at hlt; omega
      have hcl : (ah.take k).countP (backB g i) ≤ k := Nat.le_trans List.countP_le_length (by rw [List.length_take]; omega)
      have hst : (ah.take (k + 1)).countP (backB g i) = (ah.take k).countP (backB g i) + if backB g i ah[k] then 1 else 0 := by
        rw [List.take_succ_eq_append_getElem hlt, List.countP_append, List.countP_singleton]
      refine JoinW.cut (fun s w' => Below w12.heap.size w12 w' ∧ s.1 = ((ah.take (k + 1)).countP (backB g i) : Int)) ?_ ?_
      · refine elemI (IsS.toI (o11.below b12).isS) (k := k) (by simpa using hlt) ?_
        rw [List.getElem_map]
        refine dominates_spec h12 fun v w13 b13 hv => ⟨v, rfl, ifB_bool (fun e => ⟨b13, ?_⟩) (fun e => ⟨b13, ?_⟩)⟩
        · rw [hst, if_pos (backB_iff.2 (hv.1 e))]
          dsimp only
          rw [wrap64_succ (by omega)]
        · rw [hst, if_neg]
          · rfl
          · rw [backB_iff]; exact fun hD => by rw [hv.2 hD] at e; cases e
      · rintro ⟨c', _⟩ w14 ⟨b14, hc'⟩
        have hc' : c' = _ := hc'
        exact hnext c' w14 hlt ⟨b12.trans (b14.mono z12), hc'⟩
    · have hk' : k = ah.length := by dsimp only at hge; omega
      subst hk'
      rw [List.take_length]
      have e : decide ((((ah.countP (backB g i) : Nat) : Int)) ≥ 2) = decide (2 ≤ ah.countP (backB g i)) := by rw [decide_eq_decide]; omega
      rw [e]
      refine hR _ w12 (b1.trans ((b2.trans ((b11.trans (b12.mono z11)).mono z2)).mono z1)) ?_
      rw [decide_eq_true_eq, hah]
      exact ⟨fun h => .inr h, fun h => h.resolve_left none⟩

open Classical in
noncomputable def leftB (g : Nst) (t h : Nat) : Bool := decide (¬ g.In h t)
theorem leftB_iff {g : Nst} {t h : Nat} : leftB g t h = true ↔ ¬ g.In h t := by simp [leftB]
/-- The constructs that an edge leaves, the outermost first. -/
noncomputable def leftL (g : Nst) (i t : Nat) : List Nat := (g.hd i).filter (leftB g t)
/-- The innermost head of some kinds. -/
noncomputable def lastK (g : Nst) (i : Nat) (kl : List Int) : Int := lastI ((g.hd i).filter fun x => kl.contains (g.kd x))
theorem lastI_cases (l : List Nat) : (lastI l = -1 ∧ l = []) ∨ ∃ x ∈ l, lastI l = (x : Int) := by
  unfold lastI
  cases e : l.getLast? with
  | none => exact .inl ⟨rfl, List.getLast?_eq_none_iff.1 e⟩
  | some x => exact .inr ⟨x, List.mem_of_getLast? e, rfl⟩
def MayP (g : Nst) (i t : Nat) : Prop :=
  (∀ h ∈ g.hd t, h ≠ t → g.In h i) ∧ (leftL g i t = [] ∨ ∃ h, (leftL g i t).head? = some h ∧
    (((t : Int) = g.to h ∧ ((leftL g i t).length = 1 ∨ (h : Int) = lastK g i [2, 3])) ∨ ∃ o : Nat, lastK g i [2] = (o : Int) ∧ (t : Int) = g.co o ∧ g.In o t))

set_option maxHeartbeats 4000000 in
theorem nMay_spec (h : Ne w nb gb g) {i t : Nat} (hi : i < g.nx.length) (ht : t < g.nx.length) (hR : ∀ (b : Bool) w', Below w.heap.size w w' → (b = true ↔ MayP g i t) → R (.bool b) w') :
    callR Tryz.prog 230 #[.pointer (some (Gk.blk nb)), .int .i64 (i : Int), .int .i64 (t : Int)] w R := by
  refine callR.of (nest_nested_may_calls _ (i : Int) (t : Int) R w ?_) fun _ _ h => h
  obtain ⟨hsl, hh, wb, tb, ms, h0, hn⟩ := h.ex
  have hml := h0.fit.1
  have hmx := h0.ok.max
  refine derefP_some rfl ⟨hsl, h0.b.cell (n := 4) rfl, elemHd hn ht fun s hs => ?_⟩
  have hsl1 := hs.len
  have hdl := h0.hd_len t
  refine LoopW.count (g.hd t).length (by omega) (fun k w' => w' = w ∧ ∀ j (hj : j < (g.hd t).length), j < k → (g.hd t)[j] ≠ t → g.In (g.hd t)[j] i) ⟨rfl, fun j hj hk => by omega⟩ ?_
  rintro k wk hk ⟨ewk, hall⟩ next hnext
  subst wk
  refine ifB_dec (fun hlt => ?_) (fun hge => ?_)
  · have hlt : k < (g.hd t).length := by dsimp only at hlt; omega
    refine JoinW.cut (fun _ w' => w' = w ∧ ((g.hd t)[k] ≠ t → g.In (g.hd t)[k] i)) ?_ ?_
    · refine elemI (IsS.toI hs) (k := k) (by simpa using hlt) ?_
      rw [List.getElem_map]
      refine ifB_bne (fun hne => ?_) (fun e => ⟨rfl, fun hne => absurd (by omega) hne⟩)
      have hne : (g.hd t)[k] ≠ t := fun e => hne (by rw [e])
      refine nhas_spec h hi fun b hb => ⟨b, rfl, ifB_not (ifB_bool (fun e => ⟨rfl, fun _ => hb.1 e⟩) (fun e => hR false w (Below.refl _ _) ⟨(fun h => by cases h), fun hm => ?_⟩))⟩
      rw [hb.2 (hm.1 _ (List.getElem_mem hlt) hne)] at e
      cases e
    · rintro _ wk ⟨ewk, hk1⟩
      subst wk
      refine hnext w hlt ⟨rfl, fun j hj hjk => ?_⟩
      by_cases e : j = k
      · subst e; exact hk1
      · exact hall j hj (by omega)
  · have hall : ∀ h ∈ g.hd t, h ≠ t → g.In h i := fun x hx => by
      obtain ⟨j, hj, rfl⟩ := List.mem_iff_getElem.1 hx
      exact hall j hj (by dsimp only at hge; omega)
    refine derefP_some rfl ⟨hsl, h0.b.cell (n := 4) rfl, elemHd hn hi fun s2 hs2 => ?_⟩
    have hsl2 := hs2.len
    have hdl2 := h0.hd_len i
    have hfl : ∀ k, (((g.hd i).take k).filter (leftB g t)).length ≤ 4097 := fun k => by
      have := List.length_filter_le (leftB g t) ((g.hd i).take k)
      rw [List.length_take] at this
      omega
    refine LoopW.countS (g.hd i).length (by omega) (fun k (l : Sl) w' => Below w.heap.size w w' ∧ w.heap.size ≤ w'.heap.size ∧ Own w' 3 1 l ((((g.hd i).take k).filter (leftB g t)).map iN) ∧ Fresh w.heap.size l) ⟨Below.refl _ _, Nat.le_refl _, Own.nil _ _ _, fun a ha => by cases ha⟩ ?_
    rintro k l w4 hk ⟨hb, hz, ho, hf⟩ next hnext
    refine ifB_dec (fun hlt => ?_) (fun hge => ?_)
    · have hlt : k < (g.hd i).length := by dsimp only at hlt; omega
      have hst : ((g.hd i).take (k + 1)).filter (leftB g t) = ((g.hd i).take k).filter (leftB g t) ++ if leftB g t (g.hd i)[k] then [(g.hd i)[k]] else [] := by
        rw [List.take_succ_eq_append_getElem hlt, List.filter_append]
        by_cases hp : leftB g t (g.hd i)[k] = true
        · simp [hp]
        · simp [hp]
      refine JoinW.cut (fun s w' => Below w.heap.size w w' ∧ w.heap.size ≤ w'.heap.size ∧ Own w' 3 1 s.1 ((((g.hd i).take (k + 1)).filter (leftB g t)).map iN) ∧ Fresh w.heap.size s.1) ?_ ?_
      · refine elemI (IsS.toI (hs2.below hb)) (k := k) (by simpa using hlt) ?_
        rw [List.getElem_map]
        refine nhas_spec (h.below hb) ht fun b hbv => ⟨b, rfl, ifB_not (ifB_bool (fun e => ⟨hb, hz, ?_, hf⟩) (fun e => ?_))⟩
        · rw [hst, if_neg, List.append_nil]
          · exact ho
          · rw [leftB_iff]; exact fun hn => hn (hbv.1 e)
        · have hfk := hfl k
          refine push_own (y := (g.hd i)[k]) rfl hb hz ho hf (by omega) fun r w7 q1 q2 q3 q4 => ⟨q1, q2, ?_, q4⟩
          rw [hst, if_pos]
          · exact q3
          · rw [leftB_iff]; exact fun hn => by rw [hbv.2 hn] at e; cases e
      · rintro ⟨l', _⟩ w8 ⟨q1, q2, q3, q4⟩
        exact hnext l' w8 hlt ⟨q1, q2, q3, q4⟩
    · have hk' : k = (g.hd i).length := by dsimp only at hge; omega
      subst hk'
      rw [List.take_length] at ho
      obtain ⟨L, hL⟩ : ∃ L, L = leftL g i t := ⟨_, rfl⟩
      have ho : Own w4 3 1 l (L.map iN) := by rw [hL]; exact ho
      have hll := own_len ho
      have hm : MayP g i t ↔ (L = [] ∨ ∃ h, L.head? = some h ∧ (((t : Int) = g.to h ∧ (L.length = 1 ∨ (h : Int) = lastK g i [2, 3])) ∨ ∃ o : Nat, lastK g i [2] = (o : Int) ∧ (t : Int) = g.co o ∧ g.In o t)) := by
        rw [hL]; exact ⟨fun h => h.2, fun h => ⟨hall, h⟩⟩
      dsimp only
      refine ifB_beq (fun e => hR true w4 hb ⟨fun _ => hm.2 (.inl (List.eq_nil_of_length_eq_zero (by omega))), fun _ => rfl⟩) (fun hne => ?_)
      cases hLc : L with
      | nil => rw [hLc] at hll; simp at hll; omega
      | cons x L' =>
      have hxm : x ∈ g.hd i := by
        have : x ∈ leftL g i t := by rw [← hL, hLc]; exact List.mem_cons_self
        exact (List.mem_filter.1 this).1
      have hxn := h0.in_lt (h0.hd_mem.1 hxm)
      have hln : ∀ kl, lastK g i kl = -1 ∨ ∃ o : Nat, lastK g i kl = (o : Int) ∧ o < g.nx.length := fun kl => by
        rcases lastI_cases ((g.hd i).filter fun x => kl.contains (g.kd x)) with h | ⟨o, h1, h2⟩
        · exact .inl h.1
        · exact .inr ⟨o, h2, h0.in_lt (h0.hd_mem.1 (List.mem_filter.1 h1).1)⟩
      rw [hLc] at hm hll
      have hoS := ho.isS
      obtain ⟨a, ha⟩ := hoS.base (i := 0) (by rw [hLc]; simp)
      have hc0 := hoS.cell a ha 0 (by rw [hLc]; simp)
      have hx0 : L[0]'(by rw [hLc]; simp) = x := by simp [hLc]
      rw [hx0] at hc0
      have h4 := h0.below hb
      refine ⟨⟨by omega, by simp at hll; omega⟩, derefP_some ha ⟨(x : Int), hc0, ?_⟩⟩
      refine JoinW.cut (fun _ w' => Below w.heap.size w w' ∧ ¬ ((t : Int) = g.to x ∧ ((x :: L').length = 1 ∨ (x : Int) = lastK g i [2, 3]))) ?_ ?_
      · refine derefP_some rfl ⟨ms, h4.b.cell (n := 1) rfl, elemMt h4.m (k := x) (by omega) ?_⟩
        rw [Nst.to_get (by omega)]
        refine ifB_beq (fun e => ?_) (fun e => ⟨hb, fun h => e h.1⟩)
        have yes : ∀ w', Below w.heap.size w w' → ((x :: L').length = 1 ∨ (x : Int) = lastK g i [2, 3]) → R (.bool true) w' := fun w' hb' hor => hR true w' hb' ⟨fun _ => hm.2 (.inr ⟨x, rfl, .inl ⟨e, hor⟩⟩), fun _ => rfl⟩
        refine ifB_beq (fun e1 => yes w4 hb (.inl (by omega))) (fun e1 => ?_)
        refine Nw.gen fun w9 hw9 => ?_
        have hK : Blk w9 w4.heap.size 5 ([2, 3].map (Value.int .u8)) := by rw [hw9]; exact Blk.new w4 _ #[_, _]
        have b9 : Below w4.heap.size w4 w9 := by rw [hw9]; exact (Below.refl _ _).alloc (Nat.le_refl _) _
        clear hw9
        refine last_spec ((h.below hb).below b9) hi (ks := ⟨some (Gk.blk w4.heap.size), 2, 2⟩) (kl := [2, 3]) (Blk.isS (f := Value.int .u8) (l := [2, 3]) hK rfl rfl (Nat.le_refl _) (show 2 ≤ 9223372036854775807 by decide)) fun w10 b10 => ⟨_, rfl, ?_⟩
        have b10' : Below w.heap.size w w10 := hb.trans ((b9.trans (b10.mono b9.size)).mono hz)
        exact ifB_beq (fun e2 => yes w10 b10' (.inr e2)) (fun e2 => ⟨b10', fun h => h.2.elim (fun h => e1 (by omega)) e2⟩)
      · rintro _ w11 ⟨b11, hno⟩
        have hm2 : MayP g i t ↔ ∃ o : Nat, lastK g i [2] = (o : Int) ∧ (t : Int) = g.co o ∧ g.In o t := hm.trans ⟨fun h => by
          rcases h with h | ⟨y, hy, h⟩
          · cases h
          · cases hy
            exact h.resolve_left hno, fun h => .inr ⟨x, rfl, .inr h⟩⟩
        have z11 := b11.size
        refine Nw.gen fun w12 hw12 => ?_
        have hK : Blk w12 w11.heap.size 5 ([2].map (Value.int .u8)) := by rw [hw12]; exact Blk.new w11 _ #[_]
        have b12 : Below w11.heap.size w11 w12 := by rw [hw12]; exact (Below.refl _ _).alloc (Nat.le_refl _) _
        clear hw12
        refine last_spec ((h.below b11).below b12) hi (ks := ⟨some (Gk.blk w11.heap.size), 1, 1⟩) (kl := [2]) (Blk.isS (f := Value.int .u8) (l := [2]) hK rfl rfl (Nat.le_refl _) (show 1 ≤ 9223372036854775807 by decide)) fun w13 b13 => ⟨lastK g i [2], rfl, ?_⟩
        have b13' : Below w.heap.size w w13 := b11.trans ((b12.trans (b13.mono b12.size)).mono z11)
        have no : ∀ w', Below w.heap.size w w' → (∀ o : Nat, lastK g i [2] = (o : Int) → (t : Int) = g.co o → ¬ g.In o t) → R (.bool false) w' := fun w' hb' hq => hR false w' hb' ⟨(fun h => by cases h), fun h => by
          obtain ⟨o, q1, q2, q3⟩ := hm2.1 h
          exact absurd q3 (hq o q1 q2)⟩
        rcases hln [2] with hm1 | ⟨o, ho2, hon⟩
        · rw [hm1]
          exact ifB_dec (fun h => absurd h (by decide)) fun _ => no w13 b13' fun o h => by omega
        · rw [ho2]
          have h13 := h0.below b13'
          refine ifB_dec (fun _ => derefP_some rfl ⟨ms, h13.b.cell (n := 1) rfl, elemMc h13.m (k := o) (by omega) ?_⟩) (fun h => absurd h (by omega))
          rw [Nst.co_get (by omega)]
          refine ifB_beq (fun e => nhas_spec (h.below b13') ht fun b hbv => ⟨b, rfl, hR b w13 b13' (hbv.trans ⟨fun h => hm2.2 ⟨o, ho2, e, h⟩, fun h => ?_⟩)⟩) (fun e => no w13 b13' fun o' q1 q2 => ?_)
          · obtain ⟨o', q1, q2, q3⟩ := hm2.1 h
            have : o' = o := by omega
            subst this
            exact q3
          · have : o' = o := by omega
            subst this
            exact absurd q2 e

def ExitP (g : Nst) (i : Nat) : Prop := ∃ t ∈ g.nx.getD i [], ¬ MayP g i t
theorem exit_spec (h : Ne w nb gb g) {i : Nat} (hi : i < g.nx.length) (hR : ∀ (b : Bool) w', Below w.heap.size w w' → (b = true ↔ ExitP g i) → R (.bool b) w') :
    callR Tryz.prog 179 #[.pointer (some (Gk.blk nb)), .int .i64 (i : Int)] w R := by
  refine callR.of (nest_nested_exit_calls _ (i : Int) R w ?_) fun _ _ h => h
  obtain ⟨hsl, hh, wb, tb, ms, h0, hn⟩ := h.ex
  have hmx := h0.ok.max
  refine derefP_some rfl ⟨_, h0.b.cell0 rfl, Next_spec h0.ok h0.gr fun r w1 o1 _ b1 => ⟨r, rfl, ?_⟩⟩
  rw [rowAt_nat] at o1
  have hrow := h0.ok.rows i
  have hrl := h0.ok.row_le i
  obtain ⟨row, hrw⟩ : ∃ row, row = g.nx.getD i [] := ⟨_, rfl⟩
  have hin : ∀ {v}, v ∈ row → v ∈ g.nx.getD i [] := fun h => hrw ▸ h
  rw [← hrw] at o1 hrow hrl
  have hl1 := own_len o1
  have z1 := b1.size
  refine LoopW.count row.length (by omega) (fun k w' => Below w1.heap.size w1 w' ∧ ∀ j (hj : j < row.length), j < k → MayP g i row[j]) ⟨Below.refl _ _, fun j hj hk => by omega⟩ ?_
  rintro k w2 hk ⟨b2, hall⟩ next hnext
  have z2 := b2.size
  refine ifB_dec (fun hlt => ?_) (fun hge => ?_)
  · have hlt : k < row.length := by dsimp only at hlt; omega
    refine elemI (IsS.toI (o1.below b2).isS) (k := k) (by simpa using hlt) ?_
    rw [List.getElem_map]
    refine nMay_spec ((h.below b1).below b2) hi (hrow _ (List.getElem_mem hlt)) fun b w3 b3 hb => ⟨b, rfl, ifB_bool (fun e => hnext w3 hlt ⟨b2.trans (b3.mono z2), fun j hj hjk => ?_⟩) (fun e => hR true w3 (b1.trans ((b2.trans (b3.mono z2)).mono z1)) ⟨fun _ => ⟨row[k], hin (List.getElem_mem hlt), fun hm => ?_⟩, fun _ => rfl⟩)⟩
    · by_cases e' : j = k
      · subst e'; exact hb.1 e
      · exact hall j hj (by omega)
    · rw [hb.2 hm] at e; cases e
  · refine hR false w2 (b1.trans (b2.mono z1)) ⟨(fun h => by cases h), fun ⟨t, hm, hn⟩ => ?_⟩
    rw [← hrw] at hm
    obtain ⟨j, hj, rfl⟩ := List.mem_iff_getElem.1 hm
    exact absurd (hall j hj (by dsimp only at hge; omega)) hn
end

end Go.Proofs
namespace Go.Proofs
open Go.Gk Go.RowKit Go.Gr Go.Dm

def ruleP (g : Nst) (i : Nat) : Nat → Prop
  | 0 => BareP g i
  | 1 => MergeP g i
  | 2 => BackP g i
  | _ => ExitP g i
def errOf : Nat → Int
  | 0 => 163
  | 1 => 160
  | 2 => 162
  | _ => 161
open Classical in
noncomputable def brk (g : Nst) (i r : Nat) : Bool := decide (i ∈ orderOf g.wx ∧ ruleP g i r)
theorem brk_iff {g : Nst} {i r : Nat} : brk g i r = true ↔ i ∈ orderOf g.wx ∧ ruleP g i r := by simp [brk]
/-- A node's flaws, of the first m rules. -/
noncomputable def flawsAt (g : Nst) (i m : Nat) : List (Int × Int) := ((List.range m).filter (brk g i)).map fun r => ((i : Int), errOf r)
/-- The first k nodes' flaws. -/
noncomputable def flawsL (g : Nst) (k : Nat) : List (Int × Int) := (List.range k).flatMap fun i => flawsAt g i 4
theorem flawsAt_succ (g : Nst) (i m : Nat) : flawsAt g i (m + 1) = flawsAt g i m ++ if brk g i m then [((i : Int), errOf m)] else [] := by
  unfold flawsAt
  rw [filter_succ, List.map_append]
  congr 1
  split <;> rfl
theorem flawsAt_len (g : Nst) (i m : Nat) : (flawsAt g i m).length ≤ m := by
  unfold flawsAt
  rw [List.length_map]
  have := List.length_filter_le (brk g i) (List.range m)
  simpa using this
theorem flawsL_succ (g : Nst) (k : Nat) : flawsL g (k + 1) = flawsL g k ++ flawsAt g k 4 := by
  unfold flawsL
  rw [List.range_succ, List.flatMap_append]
  simp
theorem flawsL_len (g : Nst) : ∀ k, (flawsL g k).length ≤ 4 * k
  | 0 => by simp [flawsL]
  | k + 1 => by
    have := flawsL_len g k
    have := flawsAt_len g k 4
    rw [flawsL_succ, List.length_append]
    omega
abbrev OwnF (w : World) (r : Sl) (L : List (Int × Int)) : Prop := Own w 156 2 r (flat flV L)
theorem OwnF.isF {w : World} {r : Sl} {L : List (Int × Int)} (h : OwnF w r L) : IsF w r L := Own.isC flV_len (by omega) h

theorem pushF {B0 : Nat} {w0 w : World} {r : Sl} {L : List (Int × Int)} {x y : Int} (hb : Below B0 w0 w) (hB : B0 ≤ w.heap.size) (ho : OwnF w r L) (hf : Fresh B0 r) (hl : L.length < 1099511627776)
    {k : Sl → World → Prop} (hk : ∀ r' w', Below B0 w0 w' → B0 ≤ w'.heap.size → OwnF w' r' (L ++ [(x, y)]) → Fresh B0 r' → k r' w') :
    Nw (w.alloc (.cells #[.int .i64 x, .int .i64 y] 156)) fun w1 => appendS Tryz.prog 152 (.slice r.a r.l r.c) (.slice (some (Gk.blk w.heap.size)) 1 1) w1 k := by
  refine Nw.gen fun w1 hw1 => ?_
  have hB1 : Blk w1 w.heap.size 156 [.int .i64 x, .int .i64 y] := by rw [hw1]; exact Blk.new w _ #[_, _]
  have ho1 : OwnF w1 r L := by rw [hw1]; exact ho.alloc _
  have hb1 : Below B0 w0 w1 := by rw [hw1]; exact hb.alloc hB _
  have hz1 : w1.heap.size = w.heap.size + 1 := by rw [hw1]; simp
  have hl1 : r.l = L.length := by
    have := ho1.1
    rw [flat_length flV_len] at this
    omega
  refine append_own eFl ho1 (m := 1) (news := flV (x, y)) rfl (fun j u hj => hB1.cell hj) (fun u hu => ?_) (by omega) (by omega) fun r' w' h1 h2 h3 => ?_
  · simp only [flV, List.mem_cons, List.not_mem_nil, or_false] at hu
    rcases hu with rfl | rfl <;> rfl
  · have e : flat flV L ++ flV (x, y) = flat flV (L ++ [(x, y)]) := by simp only [flat, List.flatMap_append, List.flatMap_cons, List.flatMap_nil, List.append_nil]
    rw [e] at h1
    rcases h3 with ⟨h4, h5, h6⟩ | ⟨b', h4, h5, h6⟩
    · subst h5
      exact hk _ _ hb1 (by omega) h1 (fun a ha => by rw [h4] at ha; cases ha)
    · have hbB : B0 ≤ b' := by
        rcases h5 with h5 | h5
        · have := hf _ h5; exact this
        · omega
      exact hk _ _ (hb1.trans (below_grown h6 hbB (by omega))) (by have := h6.size; omega) h1 (fun a ha => by rw [h4] at ha; cases ha; exact hbB)

section
variable {w w' : World} {nb gb : Nat} {hsl : Sl} {g : Nst} {wb tb : Nat} {ms : Sl} {R : Value → World → Prop}
abbrev ruleV (nb r : Nat) : Value := .func (.func (176 + r)) #[.pointer (some (Gk.blk nb))] #[]
theorem rule_call (h : Ne w nb gb g) {i : Nat} (hi : i < g.nx.length) {r : Nat} (hr : r < 4) {S : Value → World → Prop} (hS : ∀ (b : Bool) w', Below w.heap.size w w' → (b = true ↔ ruleP g i r) → S (.bool b) w') :
    callV Tryz.prog Tryz.fs (ruleV nb r) [.int .i64 (i : Int)] w S := by
  match r, hr with
  | 0, _ =>
    have hc : Tryz.fs.contains (176 + 0) = true := by kernel_rfl
    unfold callV
    simp only [hc]
    exact bare_spec h hi hS
  | 1, _ =>
    have hc : Tryz.fs.contains (176 + 1) = true := by kernel_rfl
    unfold callV
    simp only [hc]
    exact nMerge_spec h hi hS
  | 2, _ =>
    have hc : Tryz.fs.contains (176 + 2) = true := by kernel_rfl
    unfold callV
    simp only [hc]
    exact back_spec h hi hS
  | 3, _ =>
    have hc : Tryz.fs.contains (176 + 3) = true := by kernel_rfl
    unfold callV
    simp only [hc]
    exact exit_spec h hi hS

/-- A rule in a box of its own. -/
theorem rcopy {w : World} {v : Value} {e : Int} {K : World → Prop} (hv : v.oneCell' = true) (hK : ∀ w', Blk w' w.heap.size 236 [v, .int .i64 e] → Below w.heap.size w w' → K w') :
    Nw (w.alloc (.cells #[.nilFunc, (.int .i64 (0 : Int))] 236)) fun w12 =>
    oneV v (Wr w12 (blk w.heap.size) ∧
      Nw (w12.setCell (blk w.heap.size) v) fun w13 =>
      Wr w13 ((blk w.heap.size).add 1) ∧
      Nw (w13.setCell ((blk w.heap.size).add 1) (.int .i64 e)) fun w14 => K w14) := by
  have h1 := Blk.new w 236 #[.nilFunc, (.int .i64 (0 : Int))]
  have b1 : Below w.heap.size w (w.alloc (.cells #[.nilFunc, (.int .i64 (0 : Int))] 236)) := (Below.refl _ _).alloc (Nat.le_refl _) _
  refine oneV_in hv ⟨h1.wr0 (by simp), (h1.set0 _).wr (n := 1) (by simp), hK _ ((h1.set0 _).set 1 _) ?_⟩
  exact (b1.setCell (Nat.le_refl _) _).setCell (by rw [add_block]; exact Nat.le_refl _) _

set_option maxHeartbeats 4000000 in
theorem flaws_spec (h : Ne w nb gb g) (hR : ∀ r w', Below w.heap.size w w' → OwnF w' r (flawsL g g.nx.length) → R (.slice r.a r.l r.c) w') :
    callR Tryz.prog 141 #[.pointer (some (Gk.blk nb))] w R := by
  refine callR.of (nest_nested_flaws_calls _ R w ?_) fun _ _ h => h
  obtain ⟨hsl, hh, wb, tb, ms, h0, hn⟩ := h.ex
  have hml := h0.fit.1
  have hmx := h0.ok.max
  unfold L_nest_nested_flaws
  refine Nw.gen fun w1 hw1 => ?_
  have k1 : Blk w1 w.heap.size 237 [.nilFunc, .int .i64 0, .nilFunc, .int .i64 0, .nilFunc, .int .i64 0, .nilFunc, .int .i64 0] := by rw [hw1]; exact Blk.new w _ #[_, _, _, _, _, _, _, _]
  have b1 : Below w.heap.size w w1 := by rw [hw1]; exact (Below.refl _ _).alloc (Nat.le_refl _) _
  have z1 : w1.heap.size = w.heap.size + 1 := by rw [hw1]; simp
  clear hw1
  have st : ∀ {wa : World} {cs : List Value} (n : Nat) (v : Value), Blk wa w.heap.size 237 cs → n < cs.length → Below w.heap.size w wa → wa.heap.size = w.heap.size + 1 → ∀ {K : World → Prop},
      (∀ wb, Blk wb w.heap.size 237 (cs.set n v) → Below w.heap.size w wb → wb.heap.size = w.heap.size + 1 → K wb) → Wr wa ((Gk.blk w.heap.size).add n) ∧ Nw (wa.setCell ((Gk.blk w.heap.size).add n) v) K := fun {wa cs} n v hB hn hb hz {K} hK =>
    ⟨hB.wr hn, hK _ (hB.set n v) (hb.setCell (by rw [add_block]; exact Nat.le_refl _) _) (by simpa [World.setCell] using hz)⟩
  refine st 0 _ k1 (by simp) b1 z1 fun w2 k2 b2 z2 => ?_
  refine st 1 _ k2 (by simp) b2 z2 fun w3 k3 b3 z3 => ?_
  refine st 2 _ k3 (by simp) b3 z3 fun w4 k4 b4 z4 => ?_
  refine st 3 _ k4 (by simp) b4 z4 fun w5 k5 b5 z5 => ?_
  refine st 4 _ k5 (by simp) b5 z5 fun w6 k6 b6 z6 => ?_
  refine st 5 _ k6 (by simp) b6 z6 fun w7 k7 b7 z7 => ?_
  refine st 6 _ k7 (by simp) b7 z7 fun w8 k8 b8 z8 => ?_
  refine st 7 _ k8 (by simp) b8 z8 fun w9 k9 b9 z9 => ?_
  have k9 : Blk w9 w.heap.size 237 [ruleV nb 0, .int .i64 163, ruleV nb 1, .int .i64 160, ruleV nb 2, .int .i64 162, ruleV nb 3, .int .i64 161] := k9
  clear k1 k2 k3 k4 k5 k6 k7 k8 b1 b2 b3 b4 b5 b6 b7 b8 st
  refine derefP_some rfl ⟨ms, (h0.below b9).b.cell (n := 1) rfl, ?_⟩
  have hmsl := h0.m.len
  refine LoopW.countS g.ml.length (by omega) (fun k (l : Sl) w' => Below w9.heap.size w9 w' ∧ w9.heap.size ≤ w'.heap.size ∧ OwnF w' l (flawsL g k) ∧ Fresh w9.heap.size l) ⟨Below.refl _ _, Nat.le_refl _, by rw [show flawsL g 0 = [] from by simp [flawsL]]; exact Own.nil _ _ _, fun a ha => by cases ha⟩ ?_
  rintro k l w10 hk ⟨hb, hz, ho, hf⟩ next hnext
  refine ifB_dec (fun hlt => ?_) (fun hge => ?_)
  · have hlt : k < g.nx.length := by dsimp only at hlt; omega
    have k10 := k9.below hb
    have hfl := flawsL_len g k
    dsimp only
    refine ⟨_, k10.cell (n := 0) rfl, _, k10.cell (n := 1) rfl, _, k10.cell (n := 2) rfl, _, k10.cell (n := 3) rfl, _, k10.cell (n := 4) rfl, _, k10.cell (n := 5) rfl, _, k10.cell (n := 6) rfl, _, k10.cell (n := 7) rfl, ?_⟩
    refine LoopW.countS 4 (by omega) (fun m (l : Sl) w' => Below w9.heap.size w9 w' ∧ w9.heap.size ≤ w'.heap.size ∧ OwnF w' l (flawsL g k ++ flawsAt g k m) ∧ Fresh w9.heap.size l) ⟨hb, hz, by rw [show flawsAt g k 0 = [] from by simp [flawsAt], List.append_nil]; exact ho, hf⟩ ?_
    rintro m l w11 hm ⟨hb, hz, ho, hf⟩ nxt hnxt
    refine ifB_dec (fun hlt4 => ?_) (fun hge4 => ?_)
    · have hlt4 : m < 4 := by dsimp only at hlt4; omega
      have hfa := flawsAt_len g k m
      refine JoinW.cut (fun s w' => Below w9.heap.size w9 w' ∧ w9.heap.size ≤ w'.heap.size ∧ OwnF w' s.1 (flawsL g k ++ flawsAt g k (m + 1)) ∧ Fresh w9.heap.size s.1) ?_ ?_
      · refine JoinW.cut (fun s w' => s.1 = some (Gk.blk w11.heap.size) ∧ Blk w' w11.heap.size 236 [ruleV nb m, .int .i64 (errOf m)] ∧ Below w11.heap.size w11 w') ?_ ?_
        · refine ⟨⟨by dsimp only; omega, by dsimp only; omega⟩, fun e => ?_, fun e => ?_, fun e => ?_, fun e => ?_⟩
          · have : m = 0 := by dsimp only at e; omega
            subst this
            exact rcopy rfl fun w14 hB hb14 => ⟨rfl, hB, hb14⟩
          · have : m = 1 := by dsimp only at e; omega
            subst this
            exact rcopy rfl fun w14 hB hb14 => ⟨rfl, hB, hb14⟩
          · have : m = 2 := by dsimp only at e; omega
            subst this
            exact rcopy rfl fun w14 hB hb14 => ⟨rfl, hB, hb14⟩
          · have : m = 3 := by dsimp only at e; omega
            subst this
            exact rcopy rfl fun w14 hB hb14 => ⟨rfl, hB, hb14⟩
        · rintro ⟨p18, _⟩ w24 ⟨e18, hB24, b24⟩
          have e18 : p18 = some (Gk.blk w11.heap.size) := e18
          subst e18
          have b924 : Below w9.heap.size w9 w24 := hb.trans (b24.mono hz)
          have z24 := b24.size
          have b024 : Below w.heap.size w w24 := b9.trans (b924.mono (by omega))
          have h24 := h0.below b024
          have skip : ∀ wq, Below w24.heap.size w24 wq → brk g k m = false → Below w9.heap.size w9 wq ∧ w9.heap.size ≤ wq.heap.size ∧ OwnF wq l (flawsL g k ++ flawsAt g k (m + 1)) ∧ Fresh w9.heap.size l := fun wq hbq hn =>
            ⟨b924.trans (hbq.mono (by omega)), by have := hbq.size; omega, by
              rw [flawsAt_succ, if_neg (by rw [hn]; simp), List.append_nil]
              exact (ho.below b24).below hbq, hf⟩
          refine derefP_some rfl ⟨_, h24.b.cell (n := 2) rfl, Reached_spec h24.dt.ok h24.wide ⟨_, rfl, ifB_bool (fun e => ?_) (fun e => skip w24 (Below.refl _ _) ?_)⟩⟩
          · rw [reached_inOd h24.dt.ok, inOd_nat] at e
            have hko : k ∈ orderOf g.wx := by simpa using e
            refine derefP_some rfl ⟨_, hB24.cell0 rfl, rule_call (h.below b024) hlt hlt4 fun b w26 b26 hbv => ⟨b, rfl, ifB_bool (fun e => ?_) (fun e => skip w26 b26 ?_)⟩⟩
            · have b926 : Below w9.heap.size w9 w26 := b924.trans (b26.mono (by omega))
              have z26 := b26.size
              refine derefP_some rfl ⟨_, (hB24.below b26).cell (n := 1) rfl, pushF b926 (by omega) ((ho.below b24).below b26) hf (by rw [List.length_append]; omega) fun r w28 q1 q2 q3 q4 => ⟨q1, q2, ?_, q4⟩⟩
              rw [flawsAt_succ, if_pos (brk_iff.2 ⟨hko, hbv.1 e⟩), ← List.append_assoc]
              exact q3
            · rw [← Bool.not_eq_true, brk_iff]
              rintro ⟨_, h5⟩
              rw [hbv.2 h5] at e
              cases e
          · rw [reached_inOd h24.dt.ok, inOd_nat] at e
            rw [← Bool.not_eq_true, brk_iff]
            rintro ⟨h5, _⟩
            rw [← Bool.not_eq_true] at e
            exact e (by simpa using h5)
      · rintro ⟨l', _⟩ w29 ⟨q1, q2, q3, q4⟩
        exact hnxt l' w29 hlt4 ⟨q1, q2, q3, q4⟩
    · have : m = 4 := by dsimp only at hge4; omega
      subst this
      exact hnext l w11 (by omega) ⟨hb, hz, by rw [flawsL_succ]; exact ho, hf⟩
  · have : k = g.nx.length := by dsimp only at hge; omega
    subst this
    exact hR l w10 (b9.trans (hb.mono (by omega))) ho
end

end Go.Proofs
namespace Go.Proofs
open Go.Gk Go.RowKit Go.Gr Go.Dm

/-- A graph that is handed in, or none. -/
def PG (w : World) (p : Option Addr) (gb : Nat) (nx : List (List Nat)) : Prop := ∀ a, p = some a → a = Gk.blk gb ∧ NxOk nx ∧ IsG w gb nx
theorem PG.below {w w' : World} {p : Option Addr} {gb : Nat} {nx : List (List Nat)} (h : PG w p gb nx) (hb : Below w.heap.size w w') : PG w' p gb nx := fun a ha => let ⟨h1, h2, h3⟩ := h a ha; ⟨h1, h2, h3.below hb⟩
theorem PG.some {w : World} {gb : Nat} {nx : List (List Nat)} (hx : NxOk nx) (h : IsG w gb nx) : PG w (some (Gk.blk gb)) gb nx := fun a ha => by cases ha; exact ⟨rfl, hx, h⟩
/-- What nest has made of a graph and merges. -/
structure Nd (w : World) (nb gb : Nat) (nx : List (List Nat)) (ml : List Mg) (g : Nst) : Prop where
  ne : Ne w nb gb g
  nxe : g.nx = nx
  mle : g.ml = ml
  wxe : g.wx = wideX nx ml
theorem Nd.below {w w' : World} {nb gb : Nat} {nx : List (List Nat)} {ml : List Mg} {g : Nst} (h : Nd w nb gb nx ml g) (hb : Below w.heap.size w w') : Nd w' nb gb nx ml g := ⟨h.ne.below hb, h.nxe, h.mle, h.wxe⟩

section
variable {p : Option Addr} {gb : Nat} {nx : List (List Nat)} {s : Sl} {ml : List Mg} {w : World} {R : Value → World → Prop}
theorem ofN_spec (hp : PG w p gb nx) (hM : IsM w s ml) (hnil : p = none → R (.tuple #[.pointer none, .int .i64 1]) w)
    (hbad : p ≠ none → ¬ Fit nx.length ml → ∀ w', Below w.heap.size w w' → R (.tuple #[.pointer none, .int .i64 2]) w')
    (hok : p ≠ none → Fit nx.length ml → ∀ w' nb g, Below w.heap.size w w' → Nd w' nb gb nx ml g → R (.tuple #[.pointer (some (Gk.blk nb)), .int .i64 0]) w') :
    callR Tryz.prog 107 #[.pointer p, .slice s.a s.l s.c] w R :=
  of_spec hnil hp hM hbad fun h1 h2 w' nb g hb hn e1 e2 e3 => hok h1 h2 w' nb g hb ⟨hn, e1, e2, e3⟩

theorem Flaws_spec (hp : PG w p gb nx) (hM : IsM w s ml) (hnil : p = none → R (.tuple #[.slice none 0 0, .int .i64 1]) w)
    (hbad : p ≠ none → ¬ Fit nx.length ml → ∀ w', Below w.heap.size w w' → R (.tuple #[.slice none 0 0, .int .i64 2]) w')
    (hok : p ≠ none → Fit nx.length ml → ∀ w' nb g r, Below w.heap.size w w' → Nd w' nb gb nx ml g → OwnF w' r (flawsL g nx.length) → R (.tuple #[.slice r.a r.l r.c, .int .i64 0]) w') :
    callR Tryz.prog 104 #[.pointer p, .slice s.a s.l s.c] w R := by
  refine callR.of (nest_Flaws_calls p s R w ?_) fun _ _ h => h
  refine ofN_spec hp hM (fun e => ⟨_, _, rfl, ifB_true (by decide) (hnil e)⟩) (fun e hf w' hb => ⟨_, _, rfl, ifB_true (by decide) (hbad e hf w' hb)⟩) fun e hf w' nb g hb hn => ⟨_, _, rfl, ifB_false (by decide) ?_⟩
  refine flaws_spec hn.ne fun r w2 hb2 ho => ⟨r, rfl, ?_⟩
  rw [hn.nxe] at ho
  exact hok e hf w2 nb g r (hb.trans (hb2.mono hb.size)) (hn.below hb2) ho

/-- What Check tells of flaws: the error and the block. -/
def spotOf (L : List (Int × Int)) : Int × Int := match L with | [] => (0, 0) | x :: _ => (x.2, x.1)
theorem nCheck_spec (hp : PG w p gb nx) (hM : IsM w s ml) (hnil : p = none → ∀ w', Below w.heap.size w w' → R (.agg #[.int .i64 1, .int .i64 0]) w')
    (hbad : p ≠ none → ¬ Fit nx.length ml → ∀ w', Below w.heap.size w w' → R (.agg #[.int .i64 2, .int .i64 0]) w')
    (hok : p ≠ none → Fit nx.length ml → ∀ w' w2 nb g, Below w.heap.size w w' → Nd w2 nb gb nx ml g → R (.agg #[.int .i64 (spotOf (flawsL g nx.length)).1, .int .i64 (spotOf (flawsL g nx.length)).2]) w') :
    callR Tryz.prog 46 #[.pointer p, .slice s.a s.l s.c] w R := by
  refine callR.of (nest_Check_calls p s R w ?_) fun _ _ h => h
  refine Nw.gen fun w1 hw1 => ?_
  have hB1 : Blk w1 w.heap.size 33 [.int .i64 0, .int .i64 0] := by rw [hw1]; exact Blk.new w _ #[_, _]
  have b1 : Below w.heap.size w w1 := by rw [hw1]; exact (Below.refl _ _).alloc (Nat.le_refl _) _
  have z1 := b1.size
  clear hw1
  have fin : ∀ (w2 : World) (x y : Int), Below w1.heap.size w1 w2 → (∀ w', Below w.heap.size w w' → R (.agg #[.int .i64 x, .int .i64 y]) w') →
      Wr w2 (Gk.blk w.heap.size) ∧ Nw (w2.setCell (Gk.blk w.heap.size) (.int .i64 x)) fun w3 => Wr w3 ((Gk.blk w.heap.size).add 1) ∧ Nw (w3.setCell ((Gk.blk w.heap.size).add 1) (.int .i64 y)) fun w4 =>
        ldI w4 ((Gk.blk w.heap.size).add 0) .i64 fun x4 => ldI w4 ((Gk.blk w.heap.size).add 1) .i64 fun x5 => R (.agg #[.int .i64 x4, .int .i64 x5]) w4 := fun w2 x y b2 hR => by
    have hB2 := hB1.below b2
    have h3 := (hB2.set0 (.int .i64 x)).set 1 (.int .i64 y)
    exact ⟨hB2.wr0 (by simp), (hB2.set0 _).wr (n := 1) (by simp), _, h3.cell0 rfl, _, h3.cell (n := 1) rfl, hR _ (((b1.trans (b2.mono z1)).setCell (Nat.le_refl _) _).setCell (by rw [add_block]; exact Nat.le_refl _) _)⟩
  refine Flaws_spec (hp.below b1) (IsC.mbelow hM b1) (fun e => ⟨⟨none, 0, 0⟩, _, rfl, ifB_true (by decide) ?_⟩) (fun e hf w2 hb => ⟨⟨none, 0, 0⟩, _, rfl, ifB_true (by decide) ?_⟩) fun e hf w2 nb g r hb hn ho => ⟨r, _, rfl, ifB_false (by decide) ?_⟩
  · exact fin w1 1 0 (Below.refl _ _) (hnil e)
  · exact fin w2 2 0 hb (hbad e hf)
  · have hF := ho.isF
    have hl := hF.len
    have hok := hok e hf
    cases hL : flawsL g nx.length with
    | nil =>
      rw [hL] at hl
      refine ifB_dec (fun h => absurd h (by simp at hl; omega)) fun _ => fin w2 0 0 hb fun w' hb' => ?_
      have := hok w' w2 nb g hb' hn
      rw [hL] at this
      exact this
    | cons x L' =>
      rw [hL] at hl hF
      refine ifB_dec (fun _ => ?_) fun h => absurd (by simp at hl; omega) h
      have hF2 := IsC.below flV_len hF (Below.refl _ w2).drew
      obtain ⟨a, ha⟩ := hF2.base (i := 0) (by simp)
      have hc0 := hF2.cell a ha 0 (by simp) 0 (by omega)
      have hc1 := hF2.cell a ha 0 (by simp) 1 (by omega)
      have bnd : 0 ≤ (0 : Int) ∧ (0 : Int) < (r.l : Int) := ⟨by omega, by simp at hl; omega⟩
      refine ⟨bnd, derefP_some ha ⟨_, by rw [add_add']; exact hc1, bnd, derefP_some ha ⟨_, hc0, fin w2.drew _ _ (hb.trans (Below.refl _ _).drew) fun w' hb' => ?_⟩⟩⟩
      have := hok w' w2 nb g hb' hn
      rw [hL] at this
      exact this

open Classical in
noncomputable def inB (g : Nst) (h i : Nat) : Bool := decide (g.In h i)
theorem inB_iff {g : Nst} {h i : Nat} : inB g h i = true ↔ g.In h i := by simp [inB]
noncomputable def consL (g : Nst) (h k : Nat) : List Nat := (List.range k).filter (inB g h)

set_option maxHeartbeats 2000000 in
theorem Construct_spec {h : Int} (hp : PG w p gb nx) (hM : IsM w s ml) (hnil : p = none → R (.tuple #[.slice none 0 0, .int .i64 1]) w)
    (hbad : p ≠ none → ¬ Fit nx.length ml → ∀ w', Below w.heap.size w w' → R (.tuple #[.slice none 0 0, .int .i64 2]) w')
    (hout : p ≠ none → Fit nx.length ml → ¬ (0 ≤ h ∧ h < nx.length) → ∀ w', Below w.heap.size w w' → R (.tuple #[.slice none 0 0, .int .i64 3]) w')
    (hnone : p ≠ none → Fit nx.length ml → ∀ x : Nat, h = (x : Int) → x < nx.length → ∀ w' nb g, Below w.heap.size w w' → Nd w' nb gb nx ml g → ¬ (g.kd x ≠ 0 ∧ x ∈ orderOf g.wx) → R (.tuple #[.slice none 0 0, .int .i64 5]) w')
    (hok : p ≠ none → Fit nx.length ml → ∀ x : Nat, h = (x : Int) → x < nx.length → ∀ w' nb g r, Below w.heap.size w w' → Nd w' nb gb nx ml g → g.kd x ≠ 0 → x ∈ orderOf g.wx → Own w' 3 1 r ((consL g x nx.length).map iN) → Fresh w.heap.size r → R (.tuple #[.slice r.a r.l r.c, .int .i64 0]) w') :
    callR Tryz.prog 51 #[.pointer p, .slice s.a s.l s.c, .int .i64 h] w R := by
  refine callR.of (nest_Construct_calls p s h R w ?_) fun _ _ h => h
  refine ofN_spec hp hM (fun e => ⟨none, _, rfl, ?_⟩) (fun e hf w' hb => ⟨none, _, rfl, ?_⟩) fun e hf w1 nb g hb hn => ⟨some (Gk.blk nb), _, rfl, ?_⟩
  · exact JoinW.cut (fun _ _ => False) (ifB_true (by decide) (hnil e)) fun _ _ h => h.elim
  · exact JoinW.cut (fun _ _ => False) (ifB_true (by decide) (hbad e hf w' hb)) fun _ _ h => h.elim
  · cases p with
    | none => exact absurd rfl e
    | some a =>
    obtain ⟨rfl, hx, hG⟩ := hp a rfl
    obtain ⟨hsl, hh, wb, tb, ms, h0, hnn⟩ := hn.ne.ex
    have hml : g.ml.length = nx.length := by have := h0.fit.1; rw [hn.nxe] at this; exact this
    have hmx := hx.max
    refine JoinW.cut (fun _ w' => w' = w1 ∧ ∃ x : Nat, h = (x : Int) ∧ x < nx.length ∧ g.kd x ≠ 0 ∧ x ∈ orderOf g.wx) ?_ ?_
    · refine ifB_false (by decide) (isNode_spec (hG.below hb) ⟨_, rfl, ifB_not (ifB_dec (fun hin => ?_) (fun hin => hout e hf hin w1 hb))⟩)
      obtain ⟨x, rfl⟩ := Int.eq_ofNat_of_zero_le hin.1
      have hxn : x < nx.length := by omega
      refine derefP_some rfl ⟨ms, h0.b.cell (n := 1) rfl, elemMk h0.m (k := x) (by omega) ?_⟩
      rw [Nst.kd_get (by omega)]
      refine ifB_beq (fun e0 => hnone e hf x rfl hxn w1 nb g hb hn fun h => h.1 e0) (fun e0 => ?_)
      refine derefP_some rfl ⟨_, h0.b.cell (n := 2) rfl, Reached_spec h0.dt.ok h0.wide ⟨_, rfl, ifB_not (ifB_bool (fun er => ⟨rfl, x, rfl, hxn, e0, ?_⟩) (fun er => hnone e hf x rfl hxn w1 nb g hb hn fun h => ?_))⟩⟩
      · rw [reached_inOd h0.dt.ok, inOd_nat] at er
        simpa using er
      · rw [reached_inOd h0.dt.ok, inOd_nat, ← Bool.not_eq_true] at er
        exact er (by simpa using h.2)
    · rintro _ w4 ⟨e4, x, rfl, hxn, hk, ho⟩
      subst w4
      refine derefP_some rfl ⟨hsl, h0.b.cell (n := 4) rfl, ?_⟩
      have hll : hsl.l = nx.length := by have := hnn.top.len; have h2 := hnn.len; rw [hn.nxe] at h2; simp at h2; omega
      have z1 := hb.size
      refine LoopW.countS nx.length (by omega) (fun k (l : Sl) w' => Below w1.heap.size w1 w' ∧ w1.heap.size ≤ w'.heap.size ∧ Own w' 3 1 l ((consL g x k).map iN) ∧ Fresh w1.heap.size l) ⟨Below.refl _ _, Nat.le_refl _, Own.nil _ _ _, fun a ha => by cases ha⟩ ?_
      rintro k l w5 hk ⟨hb5, hz5, ho5, hf5⟩ next hnext
      refine ifB_dec (fun hlt => ?_) (fun hge => ?_)
      · have hlt : k < nx.length := by dsimp only at hlt; omega
        have hcl : (consL g x k).length ≤ k := by unfold consL; have := List.length_filter_le (inB g x) (List.range k); simpa using this
        refine JoinW.cut (fun st w' => Below w1.heap.size w1 w' ∧ w1.heap.size ≤ w'.heap.size ∧ Own w' 3 1 st.1 ((consL g x (k + 1)).map iN) ∧ Fresh w1.heap.size st.1) ?_ ?_
        · refine nhas_spec (hn.ne.below hb5) (i := k) (by rw [hn.nxe]; exact hlt) fun b hbv => ⟨b, rfl, ifB_bool (fun eb => ?_) (fun eb => ⟨hb5, hz5, ?_, hf5⟩)⟩
          · refine push_own (y := k) rfl hb5 hz5 ho5 hf5 (by omega) fun r w8 q1 q2 q3 q4 => ⟨q1, q2, ?_, q4⟩
            unfold consL
            rw [filter_succ, if_pos (inB_iff.2 (hbv.1 eb))]
            exact q3
          · unfold consL
            rw [filter_succ, if_neg, List.append_nil]
            · exact ho5
            · rw [inB_iff]; exact fun h => by rw [hbv.2 h] at eb; cases eb
        · rintro ⟨l', _⟩ w9 ⟨q1, q2, q3, q4⟩
          exact hnext l' w9 hlt ⟨q1, q2, q3, q4⟩
      · have : k = nx.length := by dsimp only at hge; omega
        subst this
        exact hok e hf x rfl hxn w5 nb g l (hb.trans (hb5.mono z1)) (hn.below hb5) ‹_› ho ho5 fun a ha => by have := hf5 a ha; omega

end

section
variable {w : World} {nb gb : Nat} {hsl : Sl} {g : Nst} {wb tb : Nat} {ms : Sl}
theorem Dt.up_pairwise {nx : List (List Nat)} {ov : Nat → Option Nat} {dp : Nat → Int} (h : Dt w tb nx ov dp) (i : Int) : (upOf nx ov dp i).Pairwise fun a b => dp b < dp a := by
  by_cases hin : inOd (orderOf nx) i = true
  · obtain ⟨y, rfl, hy⟩ := inOd_iff.1 hin
    have hm := h.dpo.mem y hy
    rw [upOf_in hy, List.pairwise_iff_getElem]
    intro a b ha hb hab
    have h2 := (h.upL_spec ((dp y).toNat + 1) y hy (by omega)).2.1
    rw [(h2 a ha).2, (h2 b hb).2]
    omega
  · unfold upOf; rw [if_neg hin]; exact .nil
/-- The heads around a node, each within those ahead of it in the list. -/
theorem Ne0.hd_pairwise (h : Ne0 w nb gb hsl g wb tb ms) (i : Nat) : (g.hd i).Pairwise fun (a b : Nat) => a ≠ b ∧ g.D (a : Int) (b : Int) := by
  have h1 : (g.hd i).Pairwise fun a b => g.dp a < g.dp b := by
    unfold Nst.hd
    rw [List.pairwise_reverse]
    exact (h.dt.up_pairwise (i : Int)).sublist List.filter_sublist
  refine List.Pairwise.imp_of_mem ?_ h1
  intro a b ha hb hab
  obtain ⟨_, ⟨a1, i1, e1, e2, q1, q2⟩, _⟩ := h.hd_mem.1 ha
  obtain ⟨_, ⟨b1, i2, e3, e4, q3, q4⟩, _⟩ := h.hd_mem.1 hb
  have e1 : a = a1 := by omega
  have e3 : b = b1 := by omega
  have e5 : i1 = i2 := by omega
  subst e1 e3 e5
  refine ⟨fun e => by rw [e] at hab; omega, a, b, rfl, rfl, h.dt.ancOd q1 q4, ?_⟩
  rcases q2.lin q4 with h3 | h3
  · exact h3
  · rcases h.dt.mono (h.dt.ancOd q1 q2) h3 with e | e
    · rw [e] at hab; omega
    · omega
theorem Ne0.hd_nodup (h : Ne0 w nb gb hsl g wb tb ms) (i : Nat) : (g.hd i).Nodup := (h.hd_pairwise i).imp fun h => h.1
/-- To dominate, by the wide graph alone. -/
def DW (wx : List (List Nat)) (a b : Int) : Prop := ∃ a' b' : Nat, a = (a' : Int) ∧ b = (b' : Int) ∧ DomR wx a' b'
theorem Ne0.D_iff (h : Ne0 w nb gb hsl g wb tb ms) (a b : Int) : g.D a b ↔ DW g.wx a b :=
  ⟨fun ⟨a', b', e1, e2, h1, h2⟩ => ⟨a', b', e1, e2, (h.dt.domR a' b').2 ⟨h1, h2⟩⟩, fun ⟨a', b', e1, e2, h1⟩ => ⟨a', b', e1, e2, (h.dt.domR a' b').1 h1⟩⟩
end

end Go.Proofs
namespace Go.Proofs
open Go.Gk Go.RowKit Go.Gr Go.Dm

abbrev awL : List (List Int) := [[1, 2], [2], []]
abbrev awX : List (List Nat) := [[1, 2], [2], []]
abbrev awM (k : Int) : List Mg := [(k, 2, -1), (0, 0, 0), (0, 0, 0)]
theorem aw_edges : edges awL = awX := by decide +kernel
theorem aw_good : Good awL := by unfold Good; decide +kernel
theorem aw_ok : NxOk awX := by rw [← aw_edges]; exact edges_ok (by decide) (by decide) aw_good
theorem aw_wide1 : wideX awX (awM 1) = awX := by decide +kernel
theorem aw_wide0 : wideX awX (awM 0) = awX := by decide +kernel
theorem aw_order : orderOf awX = [0, 1, 2] := by decide +kernel
theorem aw_row {i t : Nat} (h : t ∈ awX.getD i []) : (i = 0 ∧ t = 1) ∨ (i = 0 ∧ t = 2) ∨ (i = 1 ∧ t = 2) := by
  match i with
  | 0 => simp at h; omega
  | 1 => simp at h; omega
  | 2 => simp at h
  | i + 3 => simp at h
theorem aw_reach {wo : Int} {t : Nat} (h : ReachN awX wo t) : wo ≠ 0 ∧ t ≤ 2 ∧ ((t : Int) = wo → False) := by
  induction h with
  | zero h _ => exact ⟨h, by omega, fun e => h e.symm⟩
  | step _ h h1 ih => rcases aw_row h with e | e | e <;> exact ⟨ih.1, by omega, h1⟩
theorem aw_mk {wo : Int} {t : Nat} (h0 : wo ≠ 0) (ht : t ≤ 2) (h : (t : Int) ≠ wo) : ReachN awX wo t := by
  have z : ReachN awX wo 0 := .zero h0 (by decide)
  match t, ht with
  | 0, _ => exact z
  | 1, _ => exact .step z (by decide) h
  | 2, _ => exact .step z (by decide) h
theorem aw_dom {a b : Nat} : DomR awX a b ↔ b ≤ 2 ∧ (a = b ∨ a = 0) := by
  refine ⟨fun ⟨h1, h2⟩ => ⟨(aw_reach h1).2.1, ?_⟩, fun ⟨h1, h2⟩ => ⟨aw_mk (by omega) h1 (by omega), ?_⟩⟩
  · rcases h2 with h2 | h2
    · exact .inl h2
    · by_cases e : a = b
      · exact .inl e
      · by_cases e0 : a = 0
        · exact .inr e0
        · exact absurd (aw_mk (by omega) (aw_reach h1).2.1 (by omega)) h2
  · rcases h2 with h2 | h2
    · exact .inl h2
    · subst h2; exact .inr fun h => (aw_reach h).1 (by simp)
theorem aw_DW {a b : Int} : DW awX a b ↔ 0 ≤ b ∧ b ≤ 2 ∧ (a = b ∨ a = 0) := by
  refine ⟨fun ⟨a', b', e1, e2, h⟩ => ?_, fun ⟨h1, h2, h3⟩ => ⟨a.toNat, b.toNat, by omega, by omega, aw_dom.2 (by omega)⟩⟩
  have := aw_dom.1 h
  omega

section
variable {w : World} {nb gb : Nat} {k : Int} {g : Nst}
theorem Nd.D_iff {nx : List (List Nat)} {ml : List Mg} (h : Nd w nb gb nx ml g) {a b : Int} : g.D a b ↔ DW g.wx a b := by
  obtain ⟨_, _, _, _, _, h0, _⟩ := h.ne.ex
  exact h0.D_iff a b
theorem Nd.hd_mem {nx : List (List Nat)} {ml : List Mg} (h : Nd w nb gb nx ml g) {x i : Nat} : x ∈ g.hd i ↔ g.In x i := by
  obtain ⟨_, _, _, _, _, h0, _⟩ := h.ne.ex
  exact h0.hd_mem
theorem Nd.hd_nodup {nx : List (List Nat)} {ml : List Mg} (h : Nd w nb gb nx ml g) (i : Nat) : (g.hd i).Nodup := by
  obtain ⟨_, _, _, _, _, h0, _⟩ := h.ne.ex
  exact h0.hd_nodup i
theorem only_one {l : List Nat} (hn : l.Nodup) {x : Nat} (h : ∀ y, y ∈ l ↔ y = x) : l = [x] := by
  match l, hn with
  | [], _ => exact absurd ((h x).2 rfl) (by simp)
  | [y], _ => rw [(h y).1 (by simp)]
  | y :: z :: r, hn =>
    have e1 := (h y).1 (by simp)
    have e2 := (h z).1 (by simp)
    simp [e1, e2] at hn

structure Aw (g : Nst) (k : Int) : Prop where
  nx : g.nx = awX
  wx : g.wx = awX
  kd0 : g.kd 0 = k
  to0 : g.to 0 = 2
  kd : ∀ i, i ≠ 0 → g.kd i = 0
  D : ∀ a b, g.D a b ↔ 0 ≤ b ∧ b ≤ 2 ∧ (a = b ∨ a = 0)
  hd : ∀ x i, x ∈ g.hd i ↔ g.In x i
  nd : ∀ i, (g.hd i).Nodup
theorem Aw.of (h : Nd w nb gb awX (awM k) g) (hw : wideX awX (awM k) = awX) : Aw g k := by
  have hwx : g.wx = awX := h.wxe.trans hw
  refine ⟨h.nxe, hwx, by simp [Nst.kd, h.mle], by simp [Nst.to, h.mle], fun i hi => ?_, fun a b => by rw [h.D_iff, hwx]; exact aw_DW, fun x i => h.hd_mem, fun i => h.hd_nodup i⟩
  unfold Nst.kd
  rw [h.mle]
  match i, hi with
  | 1, _ => simp
  | 2, _ => simp
  | i + 3, _ => simp
theorem Aw.in_iff (h : Aw g 1) {x i : Nat} : g.In x i ↔ x = 0 ∧ i ≤ 1 := by
  unfold Nst.In
  by_cases e : x = 0
  · subst e
    rw [h.kd0, h.to0, h.D, h.D]
    omega
  · rw [h.kd x e]
    constructor
    · exact fun h => absurd rfl h.1
    · exact fun h => absurd h.1 e
theorem Aw.hd01 (h : Aw g 1) {i : Nat} (hi : i ≤ 1) : g.hd i = [0] := only_one (h.nd i) fun y => by rw [h.hd, h.in_iff]; omega
theorem Aw.cons (h : Aw g 1) : consL g 0 3 = [0, 1] := by
  have e0 : inB g 0 0 = true := inB_iff.2 (h.in_iff.2 ⟨rfl, by omega⟩)
  have e1 : inB g 0 1 = true := inB_iff.2 (h.in_iff.2 ⟨rfl, by omega⟩)
  have e2 : inB g 0 2 = false := by
    rw [← Bool.not_eq_true, inB_iff, h.in_iff]; omega
  unfold consL
  rw [show List.range 3 = [0, 1, 2] by decide]
  simp [e0, e1, e2]
theorem Aw.fe (h : Aw g 1) {a b : Nat} (hw : Way (FE g) a b) : a ≤ b := by
  induction hw with
  | refl => exact Nat.le_refl _
  | step _ e ih =>
    have := e.1
    rw [h.nx] at this
    have := aw_row this
    omega
theorem Aw.may (h : Aw g 1) {i t : Nat} (ht : t ∈ awX.getD i []) : MayP g i t := by
  have hr := aw_row ht
  refine ⟨fun x hx hxt => ?_, ?_⟩
  · rw [h.hd, h.in_iff] at hx
    exact h.in_iff.2 (by omega)
  · unfold leftL
    rw [h.hd01 (by omega)]
    by_cases e : t = 1
    · left
      have : leftB g t 0 = false := by rw [← Bool.not_eq_true, leftB_iff, h.in_iff]; omega
      simp [this]
    · right
      have : leftB g t 0 = true := by rw [leftB_iff, h.in_iff]; omega
      refine ⟨0, by simp [this], .inl ⟨?_, .inl (by simp [this])⟩⟩
      rw [h.to0]
      omega
theorem Aw.none (h : Aw g 1) {i r : Nat} (hr : r < 4) : ¬ ruleP g i r := by
  match r, hr with
  | 0, _ =>
    rintro ⟨h1, h2⟩
    rw [h.nx] at h2
    match i with
    | 0 => rw [h.kd0] at h1; omega
    | 1 => simp at h2
    | 2 => simp at h2
    | i + 3 => simp at h2
  | 1, _ =>
    rintro ⟨h1, h2⟩
    by_cases e : i = 0
    · subst e
      rw [h.to0, h.kd0] at h2
      rcases h2 with h2 | h2 | h2 | ⟨o, _, h3, h4, _⟩
      · omega
      · exact h2 ((h.D _ _).2 (by omega))
      · omega
      · exact h4 (h.kd o h3)
    · exact h1 (h.kd i e)
  | 2, _ =>
    rintro (⟨v, hv, h1⟩ | h1)
    · rw [h.nx] at hv
      have hr := aw_row hv
      rcases h1 with ⟨h2, _⟩ | ⟨_, h2⟩
      · rw [h.D] at h2; omega
      · have := h.fe h2; omega
    · have : ((aheadOf g.nx).getD i []).countP (backB g i) = 0 := by
        rw [List.countP_eq_zero]
        intro u hu
        rw [h.nx] at hu
        have hr := aw_row ((edge_iff aw_ok).1 hu)
        rw [backB_iff, h.D]
        omega
      omega
  | 3, _ =>
    rintro ⟨t, ht, hm⟩
    rw [h.nx] at ht
    exact hm (h.may ht)
theorem Aw.flaws (h : Aw g 1) : flawsL g 3 = [] := by
  have : ∀ i, flawsAt g i 4 = [] := fun i => by
    unfold flawsAt
    have : (List.range 4).filter (brk g i) = [] := by
      rw [List.filter_eq_nil_iff]
      intro r hr
      rw [brk_iff]
      exact fun hh => h.none (List.mem_range.1 hr) hh.2
    rw [this]; rfl
  unfold flawsL
  simp [this, List.flatMap]
theorem Aw.flaws0 (h : Aw g 0) : spotOf (flawsL g 3) = (163, 0) := by
  have hb : brk g 0 0 = true := by
    rw [brk_iff, h.wx, aw_order]
    refine ⟨by simp, h.kd0, ?_⟩
    rw [h.nx]
    decide
  have e : ∃ r, flawsL g 3 = (0, 163) :: r := by
    unfold flawsL
    rw [show List.range 3 = [0, 1, 2] by decide]
    have e1 : ∃ r, flawsAt g 0 4 = (0, 163) :: r := by
      unfold flawsAt
      rw [show List.range 4 = [0, 1, 2, 3] by decide, List.filter_cons, if_pos hb]
      exact ⟨_, rfl⟩
    obtain ⟨r, e1⟩ := e1
    rw [List.flatMap_cons, e1]
    exact ⟨_, rfl⟩
  obtain ⟨r, e⟩ := e
  rw [e]
  rfl
end

end Go.Proofs
namespace Go.Proofs
open Go.Gk Go.RowKit Go.Gr Go.Dm

theorem npair_spec {a b : Int} {w : World} {R : Value → World → Prop}
    (hR : ∀ w', Below w.heap.size w w' → w'.heap.size = w.heap.size + 1 → Blk w' w.heap.size 3 [.int .i64 a, .int .i64 b] → IsI w' ⟨some (Gk.blk w.heap.size), 2, 2⟩ [a, b] → R (.slice (some (Gk.blk w.heap.size)) 2 2) w') :
    callR Tryz.prog 52 #[.int .i64 a, .int .i64 b] w R := by
  refine callR.of (intagliolaw16_pair_calls a b R w ?_) fun _ _ h => h
  refine ⟨by decide, Nw.gen fun w1 hw1 => ?_⟩
  have h1 : Blk w1 w.heap.size 3 [.int .i64 (0 : Int), .int .i64 (0 : Int)] := by rw [hw1]; exact Blk.made w _ _ 2
  have b1 : Below w.heap.size w w1 := by rw [hw1]; exact (Below.refl _ _).alloc (Nat.le_refl _) _
  have z1 : w1.heap.size = w.heap.size + 1 := by rw [hw1]; simp
  refine ⟨by decide, h1.wr (n := 0) (by simp), Nw.mk ?_⟩
  refine ⟨by decide, (h1.set 0 _).wr (n := 1) (by simp), Nw.mk ?_⟩
  have h3 := (h1.set 0 (.int .i64 a)).set 1 (.int .i64 b)
  refine hR _ ((b1.setCell (by rw [add_block]; exact Nat.le_refl _) _).setCell (by rw [add_block]; exact Nat.le_refl _) _) (by simpa [World.setCell] using z1) h3 ?_
  exact Blk.isS (f := Value.int .i64) (l := [a, b]) h3 rfl rfl (Nat.le_refl _) (show 2 ≤ 9223372036854775807 by decide)

theorem nbare_spec {k : Int} {w : World} {R : Value → World → Prop}
    (hR : ∀ w' (s1 s2 : Sl) hs, Below w.heap.size w w' → IsII w' s1 hs awL → IsM w' s2 (awM k) → R (.tuple #[.slice s1.a s1.l s1.c, .slice s2.a s2.l s2.c]) w') :
    callR Tryz.prog 50 #[.int .u8 k] w R := by
  refine callR.of (intagliolaw16_bare_calls k R w ?_) fun _ _ h => h
  refine ⟨by decide, Nw.gen fun w1 hw1 => ?_⟩
  have h1 : Blk w1 w.heap.size 26 [.slice none 0 0, .slice none 0 0, .slice none 0 0] := by rw [hw1]; exact Blk.made w _ _ 3
  have b1 : Below w.heap.size w w1 := by rw [hw1]; exact (Below.refl _ _).alloc (Nat.le_refl _) _
  have z1 : w1.heap.size = w.heap.size + 1 := by rw [hw1]; simp
  clear hw1
  refine npair_spec fun w2 b2 z2 p2 i2 => ⟨⟨_, 2, 2⟩, rfl, by decide, ?_⟩
  have h2 := h1.below b2
  refine ⟨h2.wr (n := 0) (by simp), Nw.gen fun w3 hw3 => ?_⟩
  have h3 : Blk w3 w.heap.size 26 [.slice (some (Gk.blk w1.heap.size)) 2 2, .slice none 0 0, .slice none 0 0] := by rw [hw3]; exact h2.set 0 _
  have p3 : Blk w3 w1.heap.size 3 [.int .i64 1, .int .i64 2] := by rw [hw3]; exact p2.other (by rw [add_block]; simp; omega) _
  have b3 : Below w.heap.size w w3 := by rw [hw3]; exact (b1.trans (b2.mono (by omega))).setCell (by rw [add_block]; exact Nat.le_refl _) _
  have z3 : w3.heap.size = w.heap.size + 2 := by rw [hw3]; simp [World.setCell]; omega
  clear hw3
  refine ⟨by decide, ⟨none, 0, 0⟩, h3.cell (n := 1) rfl, Nw.gen fun w4 hw4 => ?_⟩
  have b4 : Below w3.heap.size w3 w4 := by rw [hw4]; exact (Below.refl _ _).alloc (Nat.le_refl _) _
  have q4 : Blk w4 w3.heap.size 3 ([2].map iN) := by rw [hw4]; exact Blk.new w3 _ #[_]
  have z4 : w4.heap.size = w3.heap.size + 1 := by rw [hw4]; simp
  clear hw4
  refine append_ints (s := ⟨none, 0, 0⟩) (xs := []) (B0 := w3.heap.size) (Own.nil _ _ _) (fun a ha => by cases ha) (by omega) q4 rfl (by simp) fun r w5 b5 o5 f5 => ⟨by decide, ?_⟩
  have b35 : Below w3.heap.size w3 w5 := b4.trans b5
  have h5 := h3.below b35
  have p5 := p3.below b35
  have z5 := b35.size
  refine ⟨h5.wr (n := 1) (by simp), Nw.gen fun w6 hw6 => ?_⟩
  have h6 : Blk w6 w.heap.size 26 [.slice (some (Gk.blk w1.heap.size)) 2 2, .slice r.a r.l r.c, .slice none 0 0] := by rw [hw6]; exact h5.set 1 _
  have p6 : Blk w6 w1.heap.size 3 [.int .i64 1, .int .i64 2] := by rw [hw6]; exact p5.other (by rw [add_block]; simp; omega) _
  have o6 : Own w6 3 1 r ([2].map iN) := o5.of_block fun a ha => by rw [hw6]; exact heap_set_other (own_ne o5 h5 (by decide) ha) _ _
  have b6 : Below w.heap.size w w6 := by rw [hw6]; exact (b3.trans (b35.mono (by omega))).setCell (by rw [add_block]; exact Nat.le_refl _) _
  clear hw6
  refine ⟨by decide, Nw.gen fun w7 hw7 => ⟨by decide, ?_⟩⟩
  have m7 : Blk w7 w6.heap.size 121 [.int .u8 0, .int .i64 0, .int .i64 0, .int .u8 0, .int .i64 0, .int .i64 0, .int .u8 0, .int .i64 0, .int .i64 0] := by
    have e : (madeCells #[(.int .u8 (0 : Int)), (.int .i64 (0 : Int)), (.int .i64 (0 : Int))] (3 * 3)).toList = [.int .u8 0, .int .i64 0, .int .i64 0, .int .u8 0, .int .i64 0, .int .i64 0, .int .u8 0, .int .i64 0, .int .i64 0] := by kernel_rfl
    rw [hw7, ← e]
    exact Blk.new w6 _ _
  have b7 : Below w6.heap.size w6 w7 := by rw [hw7]; exact (Below.refl _ _).alloc (Nat.le_refl _) _
  clear hw7
  have z6 := b6.size
  simp only [add_add', Nat.zero_mul, Nat.zero_add]
  have m8 := m7.set 0 (.int .u8 k)
  have m9 := m8.set 1 (.int .i64 2)
  have m10 := m9.set 2 (.int .i64 (-1))
  refine ⟨m7.wr (n := 0) (by simp), m8.wr (n := 1) (by simp), m9.wr (n := 2) (by simp), ?_⟩
  have b10 : Below w6.heap.size w6 (((w7.setCell ((Gk.blk w6.heap.size).add 0) (.int .u8 k)).setCell ((Gk.blk w6.heap.size).add 1) (.int .i64 2)).setCell ((Gk.blk w6.heap.size).add 2) (.int .i64 (-1))) :=
    ((b7.setCell (by rw [add_block]; exact Nat.le_refl _) _).setCell (by rw [add_block]; exact Nat.le_refl _) _).setCell (by rw [add_block]; exact Nat.le_refl _) _
  have h10 := h6.below b10
  have p10 := p6.below b10
  have o10 := o6.below b10
  refine hR _ ⟨some (Gk.blk w.heap.size), 3, 3⟩ ⟨some (Gk.blk w6.heap.size), 3, 3⟩ [⟨some (Gk.blk w1.heap.size), 2, 2⟩, r, ⟨none, 0, 0⟩] (b6.trans (b10.mono z6)) ⟨Blk.isS (f := Sl.val) h10 rfl rfl (Nat.le_refl _) (show 3 ≤ 9223372036854775807 by decide), rfl, fun i hi _ => ?_⟩ ?_
  · match i, hi with
    | 0, _ => exact Blk.isS (f := Value.int .i64) (l := [1, 2]) p10 rfl rfl (Nat.le_refl _) (show 2 ≤ 9223372036854775807 by decide)
    | 1, _ => exact IsS.toI (Own.isS o10)
    | 2, _ => exact ⟨rfl, Nat.le_refl _, show 0 ≤ 9223372036854775807 by decide, fun _ => rfl, fun _ h => by cases h⟩
  · exact Blk.isC (l := awM k) mgV_len (by omega) m10 (show 3 ≤ 9223372036854775807 by decide)

theorem fit_aw {k : Int} (h0 : 0 ≤ k) (h1 : k ≤ 1) : Fit awX.length (awM k) := by
  refine ⟨rfl, fun x hx => ?_⟩
  unfold FitP
  simp only [List.mem_cons, List.not_mem_nil, or_false] at hx
  rcases hx with rfl | rfl | rfl <;> simp <;> omega

theorem nawake_spec {w : World} {R : Value → World → Prop} (hR : ∀ w', Below w.heap.size w w' → R (.bool true) w') : callR Tryz.prog 15 #[] w R := by
  refine callR.of (intagliolaw16_awake_calls R w ?_) fun _ _ h => h
  refine nbare_spec fun w1 s1 s2 hs b1 i1 m1 => ⟨s1, s2, rfl, ?_⟩
  refine graph_Of_spec (s := s1) i1 (fun h => absurd h (by simp)) (fun h => absurd h (by simp)) (fun _ _ h => absurd aw_good h) fun _ _ hG w2 gb b2 _ hg => ⟨some (Gk.blk gb), 0, rfl, ?_⟩
  rw [aw_edges] at hg
  have b12 := b1.trans (b2.mono b1.size)
  have hPG : PG w2 (some (Gk.blk gb)) gb awX := PG.some aw_ok hg
  have m2 := IsC.mbelow m1 b2
  have hf1 := fit_aw (k := 1) (by omega) (by omega)
  have hf0 := fit_aw (k := 0) (by omega) (by omega)
  refine Construct_spec hPG m2 (fun e => by cases e) (fun _ h => absurd hf1 h) (fun _ _ h => absurd ⟨by omega, by decide⟩ h) (fun _ _ x hx hxn w' nb g hb hn hno => ?_) fun _ _ x hx hxn w3 nb g r b3 hn hk ho o3 f3 => ?_
  · have hx0 : x = 0 := by omega
    subst hx0
    have ha := Aw.of hn aw_wide1
    exact absurd ⟨by rw [ha.kd0]; decide, by rw [ha.wx, aw_order]; simp⟩ hno
  · have hx0 : x = 0 := by omega
    subst hx0
    have ha := Aw.of hn aw_wide1
    rw [show awX.length = 3 from rfl, ha.cons] at o3
    refine ⟨r, 0, rfl, ?_⟩
    have b13 := b12.trans (b3.mono b12.size)
    have fin : ∀ w7, Below w.heap.size w w7 → PG w7 (some (Gk.blk gb)) gb awX → callR Tryz.prog 50 #[.int .u8 0] w7 fun v18 w8 =>
        ∃ x19 : Sl, ∃ x20 : Sl, v18 = (.tuple #[(.slice x19.a x19.l x19.c), (.slice x20.a x20.l x20.c)]) ∧
        callR Tryz.prog 46 #[(.pointer (some (Gk.blk gb))), (.slice x20.a x20.l x20.c)] w8 fun v21 w9 =>
        ∃ x22 : (Int × Int × Unit), v21 = (.agg #[(.int .i64 x22.1), (.int .i64 x22.2.1)]) ∧
        R (.bool (x22.1 == (163 : Int) && (x22.2.1 == (0 : Int) && true))) w9 := fun w7 b7 hP7 => by
      refine nbare_spec fun w8 s3 s4 hs4 b8 _ m8 => ⟨s3, s4, rfl, ?_⟩
      refine nCheck_spec (hP7.below b8) m8 (fun e => by cases e) (fun _ h => absurd hf0 h) fun _ _ w9 w10 nb' g' b9 hn' => ?_
      rw [show awX.length = 3 from rfl, (Aw.of hn' aw_wide0).flaws0]
      exact ⟨(163, 0, ()), rfl, hR w9 ((b7.trans (b8.mono b7.size)).trans (b9.mono (by have := b7.size; have := b8.size; omega)))⟩
    refine JoinW.cut (fun _ w7 => Below w.heap.size w w7 ∧ PG w7 (some (Gk.blk gb)) gb awX) ?_ fun _ w7 h => fin w7 h.1 h.2
    refine ifB_false (by decide) (ifB_false (by decide) ?_)
    refine npair_spec fun w4 b4 _ _ i4 => ⟨⟨_, 2, 2⟩, rfl, ?_⟩
    refine Ints_spec (IsS.toI (Own.isS (o3.below b4))) i4 fun w5 _ b5 => ⟨_, rfl, ifB_false (by decide +kernel) ?_⟩
    have b45 := b4.trans (b5.mono b4.size)
    have b15 := b13.trans (b45.mono b13.size)
    have hP5 := (hPG.below b3).below b45
    have m5 := IsC.mbelow (IsC.mbelow m2 b3) b45
    refine nCheck_spec hP5 m5 (fun e => by cases e) (fun _ h => absurd hf1 h) fun _ _ w6 w10 nb' g' b6 hn' => ?_
    rw [show awX.length = 3 from rfl, (Aw.of hn' aw_wide1).flaws]
    exact ⟨(0, 0, ()), rfl, ifB_false (by decide) ⟨b15.trans (b6.mono b15.size), hP5.below b6⟩⟩

end Go.Proofs
namespace Go.Proofs
open Go.Gk Go.RowKit Go.Gr Go.Dm

/-- The laws of what is over what. -/
structure DOk (nx : List (List Nat)) (ml : List Mg) : Prop where
  ok : NxOk nx
  okw : NxOk (wideX nx ml)
  fit : Fit nx.length ml
  anti : ∀ {a b : Int}, DW (wideX nx ml) a b → DW (wideX nx ml) b a → a = b
  trans : ∀ {a b c : Int}, DW (wideX nx ml) a b → DW (wideX nx ml) b c → DW (wideX nx ml) a c
  lin : ∀ {a b c : Int}, DW (wideX nx ml) a b → DW (wideX nx ml) c b → DW (wideX nx ml) a c ∨ DW (wideX nx ml) c a
  re : ∀ x : Nat, ReachN (wideX nx ml) (-1) x ↔ x ∈ orderOf (wideX nx ml)
  ends : ∀ {a b : Int}, DW (wideX nx ml) a b → ∃ x y : Nat, a = (x : Int) ∧ b = (y : Int) ∧ x ∈ orderOf (wideX nx ml) ∧ y ∈ orderOf (wideX nx ml)
section
variable {nx : List (List Nat)} {a b c : Nat}
theorem _root_.Go.Gr.ReachN.self (h : ReachN nx (a : Int) b) : b ≠ a := by
  cases h with
  | zero h _ => omega
  | step _ _ h => omega
theorem _root_.Go.Gr.ReachN.top {wo : Int} (h : ReachN nx wo c) : ReachN nx (-1) c := by
  induction h with
  | zero _ h => exact .zero (by omega) h
  | step _ h _ ih => exact .step ih h (by omega)
theorem _root_.Go.Gr.ReachN.cut (a : Nat) (h : ReachN nx (-1) c) : ReachN nx (a : Int) c ∨ ReachN nx (-1) a := by
  generalize hwo : (-1 : Int) = wo at h
  induction h with
  | zero _ h =>
    by_cases e : a = 0
    · right; rw [e, ← hwo]; exact .zero (by omega) h
    · left; exact .zero (by omega) h
  | step h1 h2 h9 ih =>
    rename_i i t
    rcases ih with ih | ih
    · by_cases e : t = a
      · right; rw [← e, ← hwo]; subst hwo; exact .step h1 h2 (by omega)
      · left; exact .step ih h2 (by omega)
    · right; exact ih
theorem _root_.Go.Gr.ReachN.via (b : Nat) (h : ReachN nx (a : Int) c) : ReachN nx (b : Int) c ∨ ReachN nx (a : Int) b := by
  generalize hwo : (a : Int) = wo at h
  induction h with
  | zero h0 h =>
    by_cases e : b = 0
    · right; rw [e]; exact .zero h0 h
    · left; exact .zero (by omega) h
  | step h1 h2 h3 ih =>
    rename_i i t
    rcases ih with ih | ih
    · by_cases e : t = b
      · right; rw [← e]; exact .step h1 h2 h3
      · left; exact .step ih h2 (by omega)
    · right; exact ih
theorem _root_.Go.Gr.ReachN.either (hab : a ≠ b) (h : ReachN nx (-1) c) : (ReachN nx (a : Int) c ∧ ReachN nx (b : Int) c) ∨ ReachN nx (b : Int) a ∨ ReachN nx (a : Int) b := by
  generalize hwo : (-1 : Int) = wo at h
  induction h with
  | zero _ h =>
    by_cases e : a = 0
    · right; left; rw [e]; exact .zero (by omega) h
    · by_cases e' : b = 0
      · right; right; rw [e']; exact .zero (by omega) h
      · left; exact ⟨.zero (by omega) h, .zero (by omega) h⟩
  | step h1 h2 h3 ih =>
    rename_i i t
    rcases ih with ⟨i1, i2⟩ | ih
    · by_cases e : t = a
      · right; left; rw [← e]; exact .step i2 h2 (by omega)
      · by_cases e' : t = b
        · right; right; rw [← e']; exact .step i1 h2 (by omega)
        · left; exact ⟨.step i1 h2 (by omega), .step i2 h2 (by omega)⟩
    · right; exact ih
theorem _root_.Go.Gr.ReachN.or (hab : a ≠ b) (h1 : ReachN nx (a : Int) b) (h2 : ReachN nx (b : Int) a) (h : ReachN nx (-1) c) : ReachN nx (a : Int) c ∨ ReachN nx (b : Int) c := by
  generalize hwo : (-1 : Int) = wo at h
  induction h with
  | zero _ h =>
    by_cases e : a = 0
    · right; exact .zero (by omega) h
    · left; exact .zero (by omega) h
  | step h8 h3 h9 ih =>
    rename_i i t
    rcases ih with ih | ih
    · by_cases e : t = a
      · right; rw [e]; exact h2
      · left; exact .step ih h3 (by omega)
    · by_cases e : t = b
      · left; rw [e]; exact h1
      · right; exact .step ih h3 (by omega)
theorem DomR.trans (h : DomR nx a b) (k : DomR nx b c) : DomR nx a c := by
  refine ⟨k.1, ?_⟩
  rcases h.2 with rfl | h2
  · exact k.2
  · rcases k.2 with rfl | k2
    · exact .inr h2
    · exact .inr fun hr => (hr.via b).elim k2 h2
theorem DomR.anti (h : DomR nx a b) (k : DomR nx b a) : a = b := by
  rcases h.2 with rfl | h2
  · rfl
  · rcases k.2 with rfl | k2
    · rfl
    · by_cases e : a = b
      · exact e
      · rcases h.1.either e with h3 | h3 | h3
        · exact absurd rfl h3.2.self
        · exact absurd h3 k2
        · exact absurd h3 h2
theorem DomR.top (h : DomR nx a b) : ReachN nx (-1) a := by
  rcases h.2 with rfl | h2
  · exact h.1
  · exact (h.1.cut a).resolve_left h2
theorem DomR.lin (h : DomR nx a c) (k : DomR nx b c) : DomR nx a b ∨ DomR nx b a := by
  by_cases e : a = b
  · left; exact ⟨k.top, .inl e⟩
  · rcases h.2 with rfl | h2
    · exact .inr k
    · rcases k.2 with rfl | k2
      · exact .inl h
      · by_cases h3 : ReachN nx (a : Int) b
        · by_cases h4 : ReachN nx (b : Int) a
          · rcases Go.Gr.ReachN.or e h3 h4 h.1 with h5 | h5
            · exact absurd h5 h2
            · exact absurd h5 k2
          · exact .inr ⟨h.top, .inr h4⟩
        · exact .inl ⟨k.top, .inr h3⟩
end
section
variable {w : World} {nb gb : Nat} {nx : List (List Nat)} {ml : List Mg} {g : Nst}
theorem DOk.of (ok : NxOk nx) (fit : Fit nx.length ml) : DOk nx ml := by
  have hlw : (wideI nx ml).length = nx.length := by simp [wideI, wideL]
  have hp := ok.pos
  have hm := ok.max
  have okw : NxOk (wideX nx ml) := by rw [← edges_wide]; exact edges_ok (by omega) (by omega) (wideI_good ok fit)
  have re : ∀ x : Nat, ReachN (wideX nx ml) (-1) x ↔ x ∈ orderOf (wideX nx ml) := fun x => by rw [okw.walkOk.mem x]; exact (walk_reach okw.rows okw.pos x).symm
  refine ⟨ok, okw, fit, fun ⟨a, b, e1, e2, h⟩ ⟨b', a', e3, e4, k⟩ => ?_, fun ⟨a, b, e1, e2, h⟩ ⟨b', c, e3, e4, k⟩ => ?_, fun ⟨a, b, e1, e2, h⟩ ⟨c, b', e3, e4, k⟩ => ?_, re, fun ⟨a, b, e1, e2, h⟩ => ⟨a, b, e1, e2, (re a).1 h.top, (re b).1 h.1⟩⟩
  · have : b' = b := by omega
    have : a' = a := by omega
    subst_vars
    rw [h.anti k]
  · have : b' = b := by omega
    subst_vars
    exact ⟨a, c, rfl, rfl, h.trans k⟩
  · have : b' = b := by omega
    subst_vars
    exact (h.lin k).imp (fun q => ⟨a, c, rfl, rfl, q⟩) fun q => ⟨c, a, rfl, rfl, q⟩
theorem Nd.dok (h : Nd w nb gb nx ml g) : DOk nx ml := by
  obtain ⟨hsl, hh, wb, tb, ms, h0, _⟩ := h.ne.ex
  exact DOk.of (h.nxe ▸ h0.ok) (h.nxe ▸ h.mle ▸ h0.fit)
theorem wide_len : (wideX nx ml).length = nx.length := by simp [wideX, wideL]
theorem wide_row {x t : Nat} (hx : x < nx.length) : t ∈ (wideX nx ml).getD x [] ↔ t ∈ nx.getD x [] ∨ t ∈ extL (ml.getD x (0, 0, 0)) := by
  have : (wideX nx ml).getD x [] = dedup (wrow nx ml x) := by simp [wideX, wideL, List.getD, hx]
  rw [this, mem_dedup]
  unfold wrow
  rw [List.mem_append]
namespace DOk
variable (h : DOk nx ml)
include h
theorem refl {x : Nat} (hx : x ∈ orderOf (wideX nx ml)) : DW (wideX nx ml) (x : Int) (x : Int) := ⟨x, x, rfl, rfl, (h.re x).2 hx, .inl rfl⟩
theorem refl_of {a b : Int} (hd : DW (wideX nx ml) a b) : DW (wideX nx ml) a a ∧ DW (wideX nx ml) b b := by
  obtain ⟨x, y, rfl, rfl, h1, h2⟩ := h.ends hd
  exact ⟨h.refl h1, h.refl h2⟩
theorem lt {x : Nat} (hx : x ∈ orderOf (wideX nx ml)) : x < nx.length := by rw [← wide_len (nx := nx) (ml := ml)]; exact od_lt h.okw x hx
/-- What is over an edge's end, and is not it, is over its start. -/
theorem edge {a b : Nat} {c : Int} (ha : a ∈ orderOf (wideX nx ml)) (hb : b ∈ (wideX nx ml).getD a []) (hd : DW (wideX nx ml) c (b : Int)) (hne : c ≠ (b : Int)) : DW (wideX nx ml) c (a : Int) := by
  obtain ⟨c', b', rfl, e, h1, h2⟩ := hd
  have : b' = b := by omega
  subst this
  have ha' := (h.re a).2 ha
  refine ⟨c', a, rfl, rfl, ha', ?_⟩
  rcases h2 with rfl | h2
  · exact absurd rfl hne
  · exact .inr fun hr => h2 (.step hr hb (by omega))
theorem step {a b : Nat} (ha : a ∈ orderOf (wideX nx ml)) (hb : b ∈ (wideX nx ml).getD a []) : b ∈ orderOf (wideX nx ml) := (h.re b).1 (.step ((h.re a).2 ha) hb (by omega))
theorem narrow {x : Nat} (hx : x ∈ orderOf nx) : x ∈ orderOf (wideX nx ml) := by
  have hre : ReachN nx (-1) x := (walk_reach h.ok.rows h.ok.pos x).1 ((h.ok.walkOk.mem x).1 hx)
  clear hx
  generalize hwo : (-1 : Int) = wo at hre
  induction hre with
  | zero _ h0 => exact (h.re 0).1 (.zero (by omega) (by rw [wide_len]; exact h0))
  | step h1 h2 h3 ih =>
    rename_i i t
    by_cases hi : i < nx.length
    · exact h.step ih ((wide_row hi).2 (.inl h2))
    · simp [List.getD, List.getElem?_eq_none (show nx.length ≤ i by omega)] at h2
end DOk

/-- In a head's construct. -/
def InM (nx : List (List Nat)) (ml : List Mg) (x i : Nat) : Prop := (ml.getD x (0, 0, 0)).1 ≠ 0 ∧ DW (wideX nx ml) (x : Int) (i : Int) ∧ ¬ DW (wideX nx ml) (ml.getD x (0, 0, 0)).2.1 (i : Int)
theorem Nd.D_iff' (h : Nd w nb gb nx ml g) {a b : Int} : g.D a b ↔ DW (wideX nx ml) a b := by rw [h.D_iff, h.wxe]
theorem Nd.in_iff (h : Nd w nb gb nx ml g) {x i : Nat} : g.In x i ↔ InM nx ml x i := by
  unfold Nst.In InM Nst.kd Nst.to
  rw [h.D_iff', h.D_iff', h.mle]
open Classical in
noncomputable def inM (nx : List (List Nat)) (ml : List Mg) (x i : Nat) : Bool := decide (InM nx ml x i)
theorem inM_iff {x i : Nat} : inM nx ml x i = true ↔ InM nx ml x i := by simp [inM]
theorem InM.lt (h : DOk nx ml) {x i : Nat} (hi : InM nx ml x i) : x < nx.length ∧ i < nx.length := by
  obtain ⟨a, b, e1, e2, h3, h4⟩ := h.ends hi.2.1
  have h5 := h.lt h3
  have h6 := h.lt h4
  omega
theorem pairwise_last {R : Nat → Nat → Prop} : ∀ {l : List Nat} {z : Nat}, l.Pairwise R → l.getLast? = some z → ∀ x ∈ l, x = z ∨ R x z
  | [], _, _, h, _, _ => by simp at h
  | [a], z, _, h, x, hx => by simp at h hx; left; omega
  | a :: b :: r, z, hp, h, x, hx => by
    rw [List.getLast?_cons_cons] at h
    rcases List.mem_cons.1 hx with rfl | hx
    · right
      rw [List.pairwise_cons] at hp
      exact hp.1 z (List.mem_of_getLast? h)
    · exact pairwise_last (List.pairwise_cons.1 hp).2 h x hx
end


end Go.Proofs
namespace Go.Proofs
open Go.Gk Go.RowKit Go.Gr Go.Dm


end Go.Proofs
namespace Go.Proofs
open Go.Gk Go.RowKit Go.Gr Go.Dm


end Go.Proofs
namespace Go.Proofs
open Go.Gk Go.RowKit Go.Gr Go.Dm


end Go.Proofs
namespace Go.Proofs
open Go.Gk Go.RowKit Go.Gr Go.Dm



end Go.Proofs
namespace Go.Proofs
open Go.Gk Go.RowKit Go.Gr Go.Dm

section
variable {w : World} {nb gb : Nat} {nx : List (List Nat)} {ml : List Mg} {g : Nst}
abbrev kdM (ml : List Mg) (x : Nat) : Int := (ml.getD x (0, 0, 0)).1
abbrev toM (ml : List Mg) (x : Nat) : Int := (ml.getD x (0, 0, 0)).2.1
abbrev coM (ml : List Mg) (x : Nat) : Int := (ml.getD x (0, 0, 0)).2.2
theorem Nd.kdE (h : Nd w nb gb nx ml g) (x : Nat) : g.kd x = kdM ml x := by unfold Nst.kd; rw [h.mle]
theorem Nd.toE (h : Nd w nb gb nx ml g) (x : Nat) : g.to x = toM ml x := by unfold Nst.to; rw [h.mle]
theorem Nd.coE (h : Nd w nb gb nx ml g) (x : Nat) : g.co x = coM ml x := by unfold Nst.co; rw [h.mle]
/-- A head that stands. -/
def HeadM (nx : List (List Nat)) (ml : List Mg) (h : Nat) : Prop := h ∈ orderOf (wideX nx ml) ∧ kdM ml h ≠ 0
def OfM (nx : List (List Nat)) (ml : List Mg) (kind : Int) (h : Nat) : Prop := HeadM nx ml h ∧ (kind = 0 ∨ kdM ml h = 2 ∨ (kind = 3 ∧ kdM ml h = 3))
def WithinM (nx : List (List Nat)) (ml : List Mg) (h i : Nat) (kind : Int) : Prop := OfM nx ml kind h ∧ InM nx ml h i ∧ ∀ o, o < nx.length → o ≠ h → OfM nx ml kind o → InM nx ml o i → ¬ DW (wideX nx ml) (h : Int) (o : Int)
theorem InM.head (hd : DOk nx ml) {x i : Nat} (h : InM nx ml x i) : HeadM nx ml x := by
  obtain ⟨a, b, e1, _, h3, _⟩ := hd.ends h.2.1
  have : x = a := by omega
  subst this
  exact ⟨h3, h.1⟩
theorem Nd.hdp (h : Nd w nb gb nx ml g) (i : Nat) : (g.hd i).Pairwise fun (a b : Nat) => a ≠ b ∧ DW (wideX nx ml) (a : Int) (b : Int) := by
  obtain ⟨_, _, _, _, _, h0, _⟩ := h.ne.ex
  exact (h0.hd_pairwise i).imp fun hh => ⟨hh.1, h.D_iff'.1 hh.2⟩
theorem Nd.within (h : Nd w nb gb nx ml g) {kl : List Int} {kind : Int} (hkl : ∀ x, x < nx.length → kdM ml x ≠ 0 → (kl.contains (kdM ml x) = true ↔ (kind = 0 ∨ kdM ml x = 2 ∨ (kind = 3 ∧ kdM ml x = 3)))) (i z : Nat) :
    lastK g i kl = (z : Int) ↔ WithinM nx ml z i kind := by
  have hd := h.dok
  have mem : ∀ x, x ∈ (g.hd i).filter (fun x => kl.contains (g.kd x)) ↔ InM nx ml x i ∧ OfM nx ml kind x := fun x => by
    rw [List.mem_filter, h.hd_mem, h.in_iff, h.kdE]
    constructor
    · exact fun ⟨h1, h2⟩ => ⟨h1, h1.head hd, (hkl x (h1.lt hd).1 h1.1).1 h2⟩
    · exact fun ⟨h1, h2⟩ => ⟨h1, (hkl x (h1.lt hd).1 h1.1).2 h2.2⟩
  have hp : ((g.hd i).filter (fun x => kl.contains (g.kd x))).Pairwise fun (a b : Nat) => a ≠ b ∧ DW (wideX nx ml) (a : Int) (b : Int) := (h.hdp i).sublist List.filter_sublist
  unfold lastK
  generalize (g.hd i).filter (fun x => kl.contains (g.kd x)) = l at *
  unfold lastI
  cases e : l.getLast? with
  | none =>
    rw [List.getLast?_eq_none_iff] at e
    subst e
    refine ⟨fun h => by simp only at h; omega, fun hz => ?_⟩
    have := (mem z).2 ⟨hz.2.1, hz.1⟩
    cases this
  | some y =>
    have hy := (mem y).1 (List.mem_of_getLast? e)
    constructor
    · intro e1
      have : y = z := by simp only at e1; omega
      subst this
      refine ⟨hy.2, hy.1, fun o _ hne ho hi hdo => ?_⟩
      rcases pairwise_last hp e o ((mem o).2 ⟨hi, ho⟩) with e2 | e2
      · exact hne e2
      · have := hd.anti hdo e2.2
        omega
    · intro hz
      rcases pairwise_last hp e z ((mem z).2 ⟨hz.2.1, hz.1⟩) with e2 | e2
      · rw [e2]
      · exact absurd e2.2 (hz.2.2 y (hy.1.lt hd).1 (fun e' => e2.1 e'.symm) hy.2 hy.1)
theorem Nd.within3 (h : Nd w nb gb nx ml g) (i z : Nat) : lastK g i [2, 3] = (z : Int) ↔ WithinM nx ml z i 3 := h.within (fun x _ _ => by
  rw [List.contains_iff_mem]
  simp) i z
theorem Nd.within2 (h : Nd w nb gb nx ml g) (i z : Nat) : lastK g i [2] = (z : Int) ↔ WithinM nx ml z i 2 := h.within (fun x _ _ => by
  rw [List.contains_iff_mem]
  simp) i z
/-- How many constructs are left by an edge. -/
noncomputable def leftN (nx : List (List Nat)) (ml : List Mg) (i t k : Nat) : Nat := (List.range k).countP fun h => inM nx ml h i && !inM nx ml h t
def OuterM (nx : List (List Nat)) (ml : List Mg) (i t o k : Nat) : Prop := o < k ∧ InM nx ml o i ∧ ¬ InM nx ml o t ∧ ∀ x, x < k → InM nx ml x i → ¬ InM nx ml x t → DW (wideX nx ml) (o : Int) (x : Int)
def MayM (nx : List (List Nat)) (ml : List Mg) (i t : Nat) : Prop :=
  (∀ h, h < nx.length → InM nx ml h t → ¬ InM nx ml h i → t = h) ∧ (leftN nx ml i t nx.length = 0 ∨ ((∃ o, OuterM nx ml i t o nx.length ∧ (t : Int) = toM ml o ∧ (leftN nx ml i t nx.length = 1 ∨ WithinM nx ml o i 3)) ∨ ∃ h, h < nx.length ∧ WithinM nx ml h i 2 ∧ (t : Int) = coM ml h ∧ InM nx ml h t))
theorem nodup_sub : ∀ {a b : List Nat}, a.Nodup → (∀ x ∈ a, x ∈ b) → a.length ≤ b.length
  | [], _, _, _ => by simp
  | x :: r, b, ha, h => by
    rw [List.nodup_cons] at ha
    have h1 := nodup_sub (b := b.erase x) ha.2 fun y hy => (List.mem_erase_of_ne (fun e => ha.1 (by rw [← e]; exact hy))).2 (h y (by simp [hy]))
    have hx := h x (by simp)
    rw [List.length_erase_of_mem hx] at h1
    have := List.length_pos_of_mem hx
    simp only [List.length_cons]
    omega
theorem Nd.leftL_mem (h : Nd w nb gb nx ml g) {i t x : Nat} : x ∈ leftL g i t ↔ InM nx ml x i ∧ ¬ InM nx ml x t := by
  unfold leftL
  rw [List.mem_filter, h.hd_mem, leftB_iff, h.in_iff, h.in_iff]
theorem Nd.leftL_len (h : Nd w nb gb nx ml g) (i t : Nat) : (leftL g i t).length = leftN nx ml i t nx.length := by
  have n1 : (leftL g i t).Nodup := by unfold leftL; exact (h.hd_nodup i).sublist List.filter_sublist
  unfold leftN
  rw [List.countP_eq_length_filter]
  have n2 : ((List.range nx.length).filter fun h => inM nx ml h i && !inM nx ml h t).Nodup := List.nodup_range.sublist List.filter_sublist
  have e : ∀ x, x ∈ leftL g i t ↔ x ∈ (List.range nx.length).filter fun h => inM nx ml h i && !inM nx ml h t := fun x => by
    rw [h.leftL_mem, List.mem_filter, List.mem_range, Bool.and_eq_true, Bool.not_eq_true', ← Bool.not_eq_true, inM_iff, inM_iff]
    exact ⟨fun hh => ⟨(hh.1.lt h.dok).1, hh⟩, fun hh => hh.2⟩
  exact Nat.le_antisymm (nodup_sub n1 fun x hx => (e x).1 hx) (nodup_sub n2 fun x hx => (e x).2 hx)
theorem Nd.outer (h : Nd w nb gb nx ml g) {i t o : Nat} (ho : (leftL g i t).head? = some o) : OuterM nx ml i t o nx.length := by
  have hp : (leftL g i t).Pairwise fun (a b : Nat) => a ≠ b ∧ DW (wideX nx ml) (a : Int) (b : Int) := by unfold leftL; exact (h.hdp i).sublist List.filter_sublist
  have hm : ∀ x, x ∈ leftL g i t ↔ InM nx ml x i ∧ ¬ InM nx ml x t := fun x => h.leftL_mem
  generalize leftL g i t = l at *
  cases l with
  | nil => cases ho
  | cons y r =>
    simp only [List.head?_cons, Option.some.injEq] at ho
    subst ho
    have hy := (hm y).1 (List.mem_cons_self (a := y) (l := r))
    refine ⟨(hy.1.lt h.dok).1, hy.1, hy.2, fun x _ h1 h2 => ?_⟩
    rcases List.mem_cons.1 ((hm x).2 ⟨h1, h2⟩) with e | e
    · rw [e]; exact (h.dok.refl_of hy.1.2.1).1
    · exact ((List.pairwise_cons.1 hp).1 x e).2
theorem OuterM.uniq (h : DOk nx ml) {i t o o' k : Nat} (h1 : OuterM nx ml i t o k) (h2 : OuterM nx ml i t o' k) : o = o' := by
  have := h.anti (h1.2.2.2 o' h2.1 h2.2.1 h2.2.2.1) (h2.2.2.2 o h1.1 h1.2.1 h1.2.2.1)
  omega
theorem Nd.may_iff (h : Nd w nb gb nx ml g) (i t : Nat) : MayP g i t ↔ MayM nx ml i t := by
  have hd := h.dok
  have hlen := h.leftL_len i t
  unfold MayP MayM
  have first : (∀ x ∈ g.hd t, x ≠ t → g.In x i) ↔ ∀ x, x < nx.length → InM nx ml x t → ¬ InM nx ml x i → t = x := by
    constructor
    · intro hh x _ h1 h2
      by_cases e : t = x
      · exact e
      · exact absurd (h.in_iff.1 (hh x (h.hd_mem.2 (h.in_iff.2 h1)) fun e' => e e'.symm)) h2
    · intro hh x hx hne
      have h1 := h.in_iff.1 (h.hd_mem.1 hx)
      rw [h.in_iff]
      by_cases h2 : InM nx ml x i
      · exact h2
      · exact absurd (hh x (h1.lt hd).1 h1 h2).symm hne
  rw [first, ← hlen]
  refine and_congr_right fun _ => ?_
  rw [List.length_eq_zero_iff]
  by_cases e0 : leftL g i t = []
  · exact ⟨fun _ => .inl e0, fun _ => .inl e0⟩
  refine or_congr_right ?_
  constructor
  · rintro ⟨o, ho, ⟨h1, h2⟩ | ⟨z, h1, h2, h3⟩⟩
    · left
      refine ⟨o, h.outer ho, by rw [← h.toE]; exact h1, h2.imp_right fun e => ?_⟩
      exact (h.within3 i o).1 e.symm
    · right
      have hw := (h.within2 i z).1 h1
      exact ⟨z, (hw.2.1.lt hd).1, hw, by rw [← h.coE]; exact h2, h.in_iff.1 h3⟩
  · intro hh
    have : ∃ o, (leftL g i t).head? = some o := by
      cases e1 : leftL g i t with
      | nil => exact absurd e1 e0
      | cons y r => exact ⟨y, rfl⟩
    obtain ⟨o, ho⟩ := this
    refine ⟨o, ho, ?_⟩
    rcases hh with ⟨o', h1, h2, h3⟩ | ⟨z, _, h1, h2, h3⟩
    · left
      have := h1.uniq hd (h.outer ho)
      subst this
      exact ⟨by rw [h.toE]; exact h2, h3.imp_right fun e => ((h.within3 i o').2 e).symm⟩
    · right
      exact ⟨z, (h.within2 i z).2 h1, by rw [h.coE]; exact h2, h.in_iff.2 h3⟩
def MergeM (nx : List (List Nat)) (ml : List Mg) (i : Nat) : Prop := kdM ml i ≠ 0 ∧ (toM ml i = (i : Int) ∨ ¬ DW (wideX nx ml) (i : Int) (toM ml i) ∨ (kdM ml i = 2 ∧ (coM ml i = toM ml i ∨ ¬ DW (wideX nx ml) (i : Int) (coM ml i))) ∨
  ∃ o, o < nx.length ∧ o ≠ i ∧ HeadM nx ml o ∧ (toM ml o = toM ml i ∨ (kdM ml i = 2 ∧ kdM ml o = 2 ∧ coM ml o = coM ml i)))
/-- Edges that are none back. -/
def FEM (nx : List (List Nat)) (ml : List Mg) (i k : Nat) : Prop := k ∈ nx.getD i [] ∧ ¬ DW (wideX nx ml) (k : Int) (i : Int)
def BackEM (nx : List (List Nat)) (ml : List Mg) (i v : Nat) : Prop := (DW (wideX nx ml) (v : Int) (i : Int) ∧ (kdM ml v ≠ 2 ∨ ¬ DW (wideX nx ml) (coM ml v) (i : Int))) ∨ (¬ DW (wideX nx ml) (v : Int) (i : Int) ∧ Way (FEM nx ml) v i)
open Classical in
noncomputable def dwB (nx : List (List Nat)) (ml : List Mg) (a b : Nat) : Bool := decide (DW (wideX nx ml) (a : Int) (b : Int))
theorem dwB_iff {a b : Nat} : dwB nx ml a b = true ↔ DW (wideX nx ml) (a : Int) (b : Int) := by simp [dwB]
def BackM (nx : List (List Nat)) (ml : List Mg) (i : Nat) : Prop := (∃ v ∈ nx.getD i [], BackEM nx ml i v) ∨ 2 ≤ ((aheadOf nx).getD i []).countP (dwB nx ml i)
def ruleM (nx : List (List Nat)) (ml : List Mg) (i : Nat) : Nat → Prop
  | 0 => kdM ml i = 0 ∧ 2 ≤ (nx.getD i []).length
  | 1 => MergeM nx ml i
  | 2 => BackM nx ml i
  | _ => ∃ t ∈ nx.getD i [], ¬ MayM nx ml i t
theorem Nd.fe (h : Nd w nb gb nx ml g) : FE g = FEM nx ml := by
  funext i k
  unfold FE FEM
  rw [h.nxe, h.D_iff']
theorem Nd.rule_iff (h : Nd w nb gb nx ml g) (i : Nat) : ∀ r, ruleP g i r ↔ ruleM nx ml i r
  | 0 => by
    show BareP g i ↔ (kdM ml i = 0 ∧ 2 ≤ (nx.getD i []).length)
    unfold BareP
    rw [h.kdE, h.nxe]
  | 1 => by
    show MergeP g i ↔ MergeM nx ml i
    unfold MergeP MergeM
    simp only [h.kdE, h.toE, h.coE, h.D_iff', h.nxe]
    refine and_congr_right fun _ => or_congr_right (or_congr_right (or_congr_right (exists_congr fun o => and_congr_right fun _ => ?_)))
    unfold MergeO HeadM
    rw [h.wxe, h.kdE, h.kdE, h.toE, h.toE, h.coE, h.coE]
    constructor
    · exact fun ⟨a, b, c, d⟩ => ⟨a, ⟨c, b⟩, d⟩
    · exact fun ⟨a, ⟨b, c⟩, d⟩ => ⟨a, c, b, d⟩
  | 2 => by
    show BackP g i ↔ BackM nx ml i
    unfold BackP BackM
    rw [h.nxe]
    refine or_congr (exists_congr fun v => and_congr_right fun _ => ?_) ?_
    · unfold BackE BackEM
      rw [h.D_iff', h.D_iff', h.kdE, h.coE, h.fe]
    · rw [List.countP_congr (q := dwB nx ml i) fun u _ => by rw [backB_iff, dwB_iff, h.D_iff']]
  | r + 3 => by
    show ExitP g i ↔ ∃ t ∈ nx.getD i [], ¬ MayM nx ml i t
    unfold ExitP
    rw [h.nxe]
    exact exists_congr fun t => and_congr_right fun _ => not_congr (h.may_iff i t)
open Classical in
noncomputable def brkM (nx : List (List Nat)) (ml : List Mg) (i r : Nat) : Bool := decide (i ∈ orderOf (wideX nx ml) ∧ ruleM nx ml i r)
theorem brkM_iff {i r : Nat} : brkM nx ml i r = true ↔ i ∈ orderOf (wideX nx ml) ∧ ruleM nx ml i r := by simp [brkM]
noncomputable def flawsAtM (nx : List (List Nat)) (ml : List Mg) (i m : Nat) : List (Int × Int) := ((List.range m).filter (brkM nx ml i)).map fun r => ((i : Int), errOf r)
noncomputable def flawsM (nx : List (List Nat)) (ml : List Mg) (k : Nat) : List (Int × Int) := (List.range k).flatMap fun i => flawsAtM nx ml i 4
theorem Nd.flawsE (h : Nd w nb gb nx ml g) (k : Nat) : flawsL g k = flawsM nx ml k := by
  have : ∀ i, flawsAt g i 4 = flawsAtM nx ml i 4 := fun i => by
    unfold flawsAt flawsAtM
    congr 1
    refine List.filter_congr fun r _ => ?_
    rw [Bool.eq_iff_iff, brk_iff, brkM_iff, h.wxe, h.rule_iff]
  unfold flawsL flawsM
  simp only [this]
end

end Go.Proofs
namespace Go.Proofs
open Go.Gk
set_option linter.unusedVariables false
set_option maxRecDepth 100000

end Go.Proofs
namespace Go.Proofs
open Go.Gk Go.RowKit Go.Gr Go.Dm


end Go.Proofs

namespace Go.Proofs
open Go.Gk Go.RowKit Go.Gr Go.Dm


end Go.Proofs
namespace Go.Proofs
open Go.Gk Go.RowKit Go.Gr Go.Dm


end Go.Proofs
namespace Go.Gk
end Go.Gk
namespace Go.Proofs
open Go.Gk Go.RowKit Go.Gr Go.Dm


end Go.Proofs

namespace Go.Proofs
open Go.Gk Go.RowKit Go.Gr Go.Dm


end Go.Proofs

namespace Go.Proofs
open Go.Gk Go.RowKit Go.Gr Go.Dm

section
variable {xb rb gb : Nat} {nx : List (List Nat)} {ml : List Mg} {s : Sl} {w : World} {R : Value → World → Prop}
open Classical in
noncomputable def flE (N : Prop) (nx : List (List Nat)) (ml : List Mg) : Int := if N then 1 else if ¬ Fit nx.length ml then 2 else 0
open Classical in
noncomputable def flL (N : Prop) (nx : List (List Nat)) (ml : List Mg) : List (Int × Int) := if ¬ N ∧ Fit nx.length ml then flawsM nx ml nx.length else []
open Classical in
/-- What Check answers. -/
noncomputable def chk (N : Prop) (nx : List (List Nat)) (ml : List Mg) : Int × Int := if flE N nx ml = 0 then spotOf (flL N nx ml) else (flE N nx ml, 0)
variable {p q : Option Addr} {N : Prop}
end

end Go.Proofs
namespace Go.Proofs
open Go.Gk
set_option linter.unusedVariables false
set_option maxRecDepth 100000

end Go.Proofs
namespace Go.Proofs
open Go.Gk
set_option linter.unusedVariables false
set_option maxRecDepth 100000

end Go.Proofs
namespace Go.Proofs
open Go.Gk
set_option linter.unusedVariables false
set_option maxRecDepth 100000

/-- intaglio.graph.New -/
def a_graph_New : Ann := (.seq none .nil (.seq none (.seq none .nil (.seq none .nil (.cond (.seq none .nil .nil) .nil))) (.seq none .nil (.seq none (.one (.seq none .nil (.cond (.seq none .nil .nil) (.seq none .nil (.cond (.seq none .nil .nil) .nil))))) (.seq none .nil (.seq none (.seq none .nil (.one (.loop ⟨[2, 3, 6, 10, 51, 52], [(53, (.b (.int .i64)))]⟩ (.seq none .nil (.seq none (.cond .nil .nil) (.seq none (.one (.seq none .nil .nil)) .nil)))))) (.seq none .nil (.seq none .nil (.seq none (.seq none .nil (.one (.loop ⟨[2, 6, 10, 65, 66], [(13, (.b .slice)), (14, (.b .slice)), (67, (.b (.int .i64)))]⟩ (.seq none .nil (.seq none (.cond .nil .nil) (.seq none (.one (.seq none .nil (.seq none .nil (.seq (some ⟨[2, 6, 10, 13, 14, 16, 17, 65, 66, 67], [(18, (.b .ptr)), (19, (.b .bool))]⟩) .nil (.seq none (.seq none .nil (.cond (.seq none .nil .nil) .nil)) (.seq none .nil (.seq none (.seq none .nil (.cond (.seq none .nil .nil) .nil)) (.seq none .nil .nil)))))))) .nil)))))) (.seq none .nil (.seq none .nil .nil)))))))))))
def L_graph_New (p0 : (Int × Int × Sl × Unit)) (p1 : (Int × Int × Sl × Sl × Int × Unit)) (R : Value → World → Prop) (w : World) : Prop :=
 Nw (w.alloc (.cells #[(.int .u32 p0.1), (.int .u32 p0.2.1), (.slice p0.2.2.1.a p0.2.2.1.l p0.2.2.1.c)] 25)) fun w1 =>
 Nw (w1.alloc (.cells #[(.int .u32 p1.1), (.int .i64 p1.2.1), (.slice p1.2.2.1.a p1.2.2.1.l p1.2.2.1.c), (.slice p1.2.2.2.1.a p1.2.2.2.1.l p1.2.2.2.1.c), (.int .i64 p1.2.2.2.2.1)] 29)) fun w2 =>
 Nw (w2.alloc (.cells #[(.int .i64 (0 : Int)), (.int .i64 (0 : Int))] 33)) fun w3 =>
 ldI w3 ((blk w.heap.size).add 0) .u32 fun x1 =>
 ldI w3 ((blk w.heap.size).add 1) .u32 fun x2 =>
 ldS w3 ((blk w.heap.size).add 2) fun x3 =>
 callR Tryz.prog 44 #[(.agg #[(.int .u32 x1), (.int .u32 x2), (.slice x3.a x3.l x3.c)])] w3 fun v4 w4 =>
 ∃ x5 : (Int × Int × Unit), v4 = (.agg #[(.int .i64 x5.1), (.int .i64 x5.2.1)]) ∧
 Nw (w4.alloc (.cells #[(.int .i64 (0 : Int)), (.int .i64 (0 : Int))] 33)) fun w5 =>
 Wr w5 (blk w4.heap.size) ∧
 Nw (w5.setCell (blk w4.heap.size) (.int .i64 x5.1)) fun w6 =>
 Wr w6 ((blk w4.heap.size).add 1) ∧
 Nw (w6.setCell ((blk w4.heap.size).add 1) (.int .i64 x5.2.1)) fun w7 =>
 ldI w7 (blk w4.heap.size) .i64 fun x6 =>
 ifB (x6 != (0 : Int))
 (ldI w7.drew ((blk w4.heap.size).add 0) .i64 fun x7 =>
 ldI w7.drew ((blk w4.heap.size).add 1) .i64 fun x8 =>
 Wr w7.drew (blk w2.heap.size) ∧
 Nw (w7.drew.setCell (blk w2.heap.size) (.int .i64 x7)) fun w8 =>
 Wr w8 ((blk w2.heap.size).add 1) ∧
 Nw (w8.setCell ((blk w2.heap.size).add 1) (.int .i64 x8)) fun w9 =>
 ldI w9 ((blk w2.heap.size).add 0) .i64 fun x9 =>
 ldI w9 ((blk w2.heap.size).add 1) .i64 fun x10 =>
 R (.tuple #[(.pointer none), (.slice none 0 0), (.agg #[(.int .i64 x9), (.int .i64 x10)])]) w9)
 (ldI w7 ((blk w.heap.size).add 0) .u32 fun x11 =>
 ldI w7 ((blk w.heap.size).add 1) .u32 fun x12 =>
 ldS w7 ((blk w.heap.size).add 2) fun x13 =>
 callR Tryz.prog 45 #[(.agg #[(.int .u32 x11), (.int .u32 x12), (.slice x13.a x13.l x13.c)])] w7 fun v14 w10 =>
 ∃ x15 : Sl, ∃ x16 : (Int × Int × Unit), v14 = (.tuple #[(.slice x15.a x15.l x15.c), (.agg #[(.int .i64 x16.1), (.int .i64 x16.2.1)])]) ∧
 Nw (w10.alloc (.cells #[(.int .i64 (0 : Int)), (.int .i64 (0 : Int))] 33)) fun w11 =>
 Wr w11 (blk w10.heap.size) ∧
 Nw (w11.setCell (blk w10.heap.size) (.int .i64 x16.1)) fun w12 =>
 Wr w12 ((blk w10.heap.size).add 1) ∧
 Nw (w12.setCell ((blk w10.heap.size).add 1) (.int .i64 x16.2.1)) fun w13 =>
 callR Tryz.prog 85 #[(.slice x15.a x15.l x15.c), (.func (.func 86) #[] #[(.pointer (some (blk w1.heap.size)))])] w13 fun v17 w14 =>
 ∃ x18 : Bool, v17 = (.bool x18) ∧
 ifB (!x18)
 (Wr w14 (blk w2.heap.size) ∧
 Nw (w14.setCell (blk w2.heap.size) (.int .i64 (2 : Int))) fun w15 =>
 Wr w15 ((blk w2.heap.size).add 1) ∧
 Nw (w15.setCell ((blk w2.heap.size).add 1) (.int .i64 (0 : Int))) fun w16 =>
 ldI w16 ((blk w2.heap.size).add 0) .i64 fun x19 =>
 ldI w16 ((blk w2.heap.size).add 1) .i64 fun x20 =>
 R (.tuple #[(.pointer none), (.slice none 0 0), (.agg #[(.int .i64 x19), (.int .i64 x20)])]) w16)
 (ldS w14 ((blk w1.heap.size).add 3) fun x21 =>
 ifB (decide ((x21.l : Int) > (4096 : Int)))
 (ldI w14.drew ((blk w1.heap.size).add 1) .i64 fun x22 =>
 Wr w14.drew (blk w2.heap.size) ∧
 Nw (w14.drew.setCell (blk w2.heap.size) (.int .i64 (4 : Int))) fun w17 =>
 Wr w17 ((blk w2.heap.size).add 1) ∧
 Nw (w17.setCell ((blk w2.heap.size).add 1) (.int .i64 x22)) fun w18 =>
 ldI w18 ((blk w2.heap.size).add 0) .i64 fun x23 =>
 ldI w18 ((blk w2.heap.size).add 1) .i64 fun x24 =>
 R (.tuple #[(.pointer none), (.slice none 0 0), (.agg #[(.int .i64 x23), (.int .i64 x24)])]) w18)
 (Nw (w14.alloc (.map #[] 0)) fun w19 =>
 ldS w19 ((blk w1.heap.size).add 3) fun x25 =>
 (0 ≤ (1 : Int) ∧ (1 : Int) ≤ (x25.l : Int) ∧ (x25.l : Int) ≤ (x25.c : Int)) ∧
 LoopW (S := Int × Unit) (fun s26 w20 n27 =>
 ifB (decide (s26.1 < (((x25.l - 1) : Nat) : Int)))
 ((0 ≤ s26.1 ∧ s26.1 < (((x25.l - 1) : Nat) : Int)) ∧
 derefP (if x25.c = 1 then x25.a else Option.map (fun a => a.add (1 * 3)) x25.a) fun a28 =>
 ldI w20 ((a28.add ((Int.toNat s26.1) * 3)).add 0) .u32 fun x29 =>
 ldI w20 ((a28.add ((Int.toNat s26.1) * 3)).add 1) .i64 fun x30 =>
 ldI w20 ((a28.add ((Int.toNat s26.1) * 3)).add 2) .i64 fun x31 =>
 Nw (w20.alloc (.cells #[(.int .u32 (0 : Int)), (.int .i64 (0 : Int)), (.int .i64 (0 : Int))] 69)) fun w21 =>
 Wr w21 (blk w20.heap.size) ∧
 Nw (w21.setCell (blk w20.heap.size) (.int .u32 x29)) fun w22 =>
 Wr w22 ((blk w20.heap.size).add 1) ∧
 Nw (w22.setCell ((blk w20.heap.size).add 1) (.int .i64 x30)) fun w23 =>
 Wr w23 ((blk w20.heap.size).add 2) ∧
 Nw (w23.setCell ((blk w20.heap.size).add 2) (.int .i64 x31)) fun w24 =>
 ldI w24 (blk w20.heap.size) .u32 fun x32 =>
 updW Tryz.prog 131 (.map (some w14.heap.size)) (.int .u32 x32) (.int .i64 (IntKind.i64.wrap (s26.1 + (1 : Int)))) w24 fun w25 =>
 n27 ((IntKind.i64.wrap (s26.1 + (1 : Int))), ()) w25)
 (ldS w20 ((blk w1.heap.size).add 3) fun x33 =>
 LoopW (S := Sl × Sl × Int × Unit) (fun s34 w26 n35 =>
 ifB (decide (s34.2.2.1 < (x33.l : Int)))
 ((0 ≤ s34.2.2.1 ∧ s34.2.2.1 < (x33.l : Int)) ∧
 derefP x33.a fun a36 =>
 ldI w26 ((a36.add ((Int.toNat s34.2.2.1) * 3)).add 0) .u32 fun x37 =>
 ldI w26 ((a36.add ((Int.toNat s34.2.2.1) * 3)).add 1) .i64 fun x38 =>
 ldI w26 ((a36.add ((Int.toNat s34.2.2.1) * 3)).add 2) .i64 fun x39 =>
 Nw (w26.alloc (.cells #[(.int .u32 (0 : Int)), (.int .i64 (0 : Int)), (.int .i64 (0 : Int))] 69)) fun w27 =>
 Wr w27 (blk w26.heap.size) ∧
 Nw (w27.setCell (blk w26.heap.size) (.int .u32 x37)) fun w28 =>
 Wr w28 ((blk w26.heap.size).add 1) ∧
 Nw (w28.setCell ((blk w26.heap.size).add 1) (.int .i64 x38)) fun w29 =>
 Wr w29 ((blk w26.heap.size).add 2) ∧
 Nw (w29.setCell ((blk w26.heap.size).add 2) (.int .i64 x39)) fun w30 =>
 ldS w30 ((blk w.heap.size).add 2) fun x40 =>
 ldI w30 ((blk w26.heap.size).add 2) .i64 fun x41 =>
 (0 ≤ (IntKind.i64.wrap (x41 - (1 : Int))) ∧ (IntKind.i64.wrap (x41 - (1 : Int))) < (x40.l : Int)) ∧
 derefP x40.a fun a42 =>
 ldI w30 ((a42.add ((Int.toNat (IntKind.i64.wrap (x41 - (1 : Int)))) * 4)).add 0) .u16 fun x43 =>
 ldI w30 ((a42.add ((Int.toNat (IntKind.i64.wrap (x41 - (1 : Int)))) * 4)).add 1) .u32 fun x44 =>
 ldI w30 ((a42.add ((Int.toNat (IntKind.i64.wrap (x41 - (1 : Int)))) * 4)).add 2) .u32 fun x45 =>
 ldS w30 ((a42.add ((Int.toNat (IntKind.i64.wrap (x41 - (1 : Int)))) * 4)).add 3) fun x46 =>
 Nw (w30.alloc (.cells #[(.int .u16 (0 : Int)), (.int .u32 (0 : Int)), (.int .u32 (0 : Int)), (.slice none 0 0)] 41)) fun w31 =>
 Wr w31 (blk w30.heap.size) ∧
 Nw (w31.setCell (blk w30.heap.size) (.int .u16 x43)) fun w32 =>
 Wr w32 ((blk w30.heap.size).add 1) ∧
 Nw (w32.setCell ((blk w30.heap.size).add 1) (.int .u32 x44)) fun w33 =>
 Wr w33 ((blk w30.heap.size).add 2) ∧
 Nw (w33.setCell ((blk w30.heap.size).add 2) (.int .u32 x45)) fun w34 =>
 Wr w34 ((blk w30.heap.size).add 3) ∧
 Nw (w34.setCell ((blk w30.heap.size).add 3) (.slice x46.a x46.l x46.c)) fun w35 =>
 JoinW (S := (Option Addr) × Bool × Unit) (fun m47 =>
 ldS w35.drew ((blk w.heap.size).add 2) fun x49 =>
 ldI w35.drew ((blk w26.heap.size).add 2) .i64 fun x50 =>
 (0 ≤ (IntKind.i64.wrap (x50 - (2 : Int))) ∧ (IntKind.i64.wrap (x50 - (2 : Int))) < (x49.l : Int)) ∧
 derefP x49.a fun a51 =>
 ldI w35.drew ((a51.add ((Int.toNat (IntKind.i64.wrap (x50 - (2 : Int)))) * 4)).add 0) .u16 fun x52 =>
 ldI w35.drew ((a51.add ((Int.toNat (IntKind.i64.wrap (x50 - (2 : Int)))) * 4)).add 1) .u32 fun x53 =>
 ldI w35.drew ((a51.add ((Int.toNat (IntKind.i64.wrap (x50 - (2 : Int)))) * 4)).add 2) .u32 fun x54 =>
 ldS w35.drew ((a51.add ((Int.toNat (IntKind.i64.wrap (x50 - (2 : Int)))) * 4)).add 3) fun x55 =>
 ldI w35.drew ((blk w30.heap.size).add 0) .u16 fun x56 =>
 ldI w35.drew ((blk w30.heap.size).add 1) .u32 fun x57 =>
 ldI w35.drew ((blk w30.heap.size).add 2) .u32 fun x58 =>
 ldS w35.drew ((blk w30.heap.size).add 3) fun x59 =>
 (callR Tryz.prog 88 #[(.map (some w14.heap.size)), (.agg #[(.int .u16 x52), (.int .u32 x53), (.int .u32 x54), (.slice x55.a x55.l x55.c)]), (.agg #[(.int .u16 x56), (.int .u32 x57), (.int .u32 x58), (.slice x59.a x59.l x59.c)])] w35.drew fun v60 w36 =>
 ∃ x61 : (Int × Int × Int × Unit), ∃ x62 : Bool, v60 = (.tuple #[(.agg #[(.int .u8 x61.1), (.int .i64 x61.2.1), (.int .i64 x61.2.2.1)]), (.bool x62)]) ∧
 Nw (w36.alloc (.cells #[(.int .u8 (0 : Int)), (.int .i64 (0 : Int)), (.int .i64 (0 : Int))] 121)) fun w37 =>
 Wr w37 (blk w36.heap.size) ∧
 Nw (w37.setCell (blk w36.heap.size) (.int .u8 x61.1)) fun w38 =>
 Wr w38 ((blk w36.heap.size).add 1) ∧
 Nw (w38.setCell ((blk w36.heap.size).add 1) (.int .i64 x61.2.1)) fun w39 =>
 Wr w39 ((blk w36.heap.size).add 2) ∧
 Nw (w39.setCell ((blk w36.heap.size).add 2) (.int .i64 x61.2.2.1)) fun w40 =>
 m47 ((some (blk w36.heap.size)), x62, ()) w40) ∧
 Nw (w35.drew.alloc (.cells #[(.int .u8 (0 : Int)), (.int .i64 (0 : Int)), (.int .i64 (0 : Int))] 121)) fun w41 =>
 w41.cell? ((blk w30.heap.size).add 0) = some (.int .u16 x56) ∧
 w41.cell? ((blk w30.heap.size).add 1) = some (.int .u32 x57) ∧
 w41.cell? ((blk w30.heap.size).add 2) = some (.int .u32 x58) ∧
 w41.cell? ((blk w30.heap.size).add 3) = some (.slice x59.a x59.l x59.c) ∧
 w41.cell? ((a51.add ((Int.toNat (IntKind.i64.wrap (x50 - (2 : Int)))) * 4)).add 0) = some (.int .u16 x52) ∧
 w41.cell? ((a51.add ((Int.toNat (IntKind.i64.wrap (x50 - (2 : Int)))) * 4)).add 1) = some (.int .u32 x53) ∧
 w41.cell? ((a51.add ((Int.toNat (IntKind.i64.wrap (x50 - (2 : Int)))) * 4)).add 2) = some (.int .u32 x54) ∧
 w41.cell? ((a51.add ((Int.toNat (IntKind.i64.wrap (x50 - (2 : Int)))) * 4)).add 3) = some (.slice x55.a x55.l x55.c) ∧
 w41.cell? ((blk w26.heap.size).add 2) = some (.int .i64 x50) ∧
 w41.cell? ((blk w.heap.size).add 2) = some (.slice x49.a x49.l x49.c) ∧
 callR Tryz.prog 88 #[(.map (some w14.heap.size)), (.agg #[(.int .u16 x52), (.int .u32 x53), (.int .u32 x54), (.slice x55.a x55.l x55.c)]), (.agg #[(.int .u16 x56), (.int .u32 x57), (.int .u32 x58), (.slice x59.a x59.l x59.c)])] w41 fun v63 w42 =>
 ∃ x64 : (Int × Int × Int × Unit), ∃ x65 : Bool, v63 = (.tuple #[(.agg #[(.int .u8 x64.1), (.int .i64 x64.2.1), (.int .i64 x64.2.2.1)]), (.bool x65)]) ∧
 Wr w42 (blk w35.drew.heap.size) ∧
 Nw (w42.setCell (blk w35.drew.heap.size) (.int .u8 x64.1)) fun w43 =>
 Wr w43 ((blk w35.drew.heap.size).add 1) ∧
 Nw (w43.setCell ((blk w35.drew.heap.size).add 1) (.int .i64 x64.2.1)) fun w44 =>
 Wr w44 ((blk w35.drew.heap.size).add 2) ∧
 Nw (w44.setCell ((blk w35.drew.heap.size).add 2) (.int .i64 x64.2.2.1)) fun w45 =>
 m47 ((some (blk w35.drew.heap.size)), x65, ()) w45)
 (fun s48 w46 =>
 ifB (!s48.2.1)
 (ldI w46.drew ((blk w26.heap.size).add 2) .i64 fun x66 =>
 Wr w46.drew (blk w2.heap.size) ∧
 Nw (w46.drew.setCell (blk w2.heap.size) (.int .i64 (140 : Int))) fun w47 =>
 Wr w47 ((blk w2.heap.size).add 1) ∧
 Nw (w47.setCell ((blk w2.heap.size).add 1) (.int .i64 (IntKind.i64.wrap (x66 - (2 : Int))))) fun w48 =>
 ldI w48 ((blk w2.heap.size).add 0) .i64 fun x67 =>
 ldI w48 ((blk w2.heap.size).add 1) .i64 fun x68 =>
 R (.tuple #[(.pointer none), (.slice none 0 0), (.agg #[(.int .i64 x67), (.int .i64 x68)])]) w48)
 (ldI w46 ((blk w30.heap.size).add 0) .u16 fun x69 =>
 ldI w46 ((blk w30.heap.size).add 1) .u32 fun x70 =>
 ldI w46 ((blk w30.heap.size).add 2) .u32 fun x71 =>
 ldS w46 ((blk w30.heap.size).add 3) fun x72 =>
 callR Tryz.prog 90 #[(.agg #[(.int .u16 x69), (.int .u32 x70), (.int .u32 x71), (.slice x72.a x72.l x72.c)])] w46 fun v73 w49 =>
 ∃ x74 : Sl, v73 = (.slice x74.a x74.l x74.c) ∧
 callR Tryz.prog 89 #[(.map (some w14.heap.size)), (.slice x74.a x74.l x74.c)] w49 fun v75 w50 =>
 ∃ x76 : Sl, ∃ x77 : Bool, v75 = (.tuple #[(.slice x76.a x76.l x76.c), (.bool x77)]) ∧
 ifB (!x77)
 (ldI w50.drew ((blk w26.heap.size).add 2) .i64 fun x78 =>
 Wr w50.drew (blk w2.heap.size) ∧
 Nw (w50.drew.setCell (blk w2.heap.size) (.int .i64 (140 : Int))) fun w51 =>
 Wr w51 ((blk w2.heap.size).add 1) ∧
 Nw (w51.setCell ((blk w2.heap.size).add 1) (.int .i64 (IntKind.i64.wrap (x78 - (1 : Int))))) fun w52 =>
 ldI w52 ((blk w2.heap.size).add 0) .i64 fun x79 =>
 ldI w52 ((blk w2.heap.size).add 1) .i64 fun x80 =>
 R (.tuple #[(.pointer none), (.slice none 0 0), (.agg #[(.int .i64 x79), (.int .i64 x80)])]) w52)
 (derefP s48.1 fun a81 =>
 ldI w50 (a81.add 0) .u8 fun x82 =>
 ldI w50 (a81.add 1) .i64 fun x83 =>
 ldI w50 (a81.add 2) .i64 fun x84 =>
 Nw (w50.alloc (.cells #[(.int .u8 x82), (.int .i64 x83), (.int .i64 x84)] 121)) fun w53 =>
 appendS Tryz.prog 72 (.slice s34.2.1.a s34.2.1.l s34.2.1.c) (.slice (some (blk w50.heap.size)) 1 1) w53 fun r85 w54 =>
 Nw (w54.alloc (.cells #[(.slice x76.a x76.l x76.c)] 26)) fun w55 =>
 appendS Tryz.prog 48 (.slice s34.1.a s34.1.l s34.1.c) (.slice (some (blk w54.heap.size)) 1 1) w55 fun r86 w56 =>
 n35 (r86, r85, (IntKind.i64.wrap (s34.2.2.1 + (1 : Int))), ()) w56))))
 (callR Tryz.prog 37 #[(.slice s34.1.a s34.1.l s34.1.c)] w26 fun v87 w57 =>
 ∃ x88 : Option Addr, ∃ x89 : Int, v87 = (.tuple #[(.pointer x88), (.int .i64 x89)]) ∧
 Wr w57 (blk w2.heap.size) ∧
 Nw (w57.setCell (blk w2.heap.size) (.int .i64 (0 : Int))) fun w58 =>
 Wr w58 ((blk w2.heap.size).add 1) ∧
 Nw (w58.setCell ((blk w2.heap.size).add 1) (.int .i64 (0 : Int))) fun w59 =>
 ldI w59 ((blk w2.heap.size).add 0) .i64 fun x90 =>
 ldI w59 ((blk w2.heap.size).add 1) .i64 fun x91 =>
 R (.tuple #[(.pointer x88), (.slice s34.2.1.a s34.2.1.l s34.2.1.c), (.agg #[(.int .i64 x90), (.int .i64 x91)])]) w59))
 ((Sl.mk none 0 0), (Sl.mk none 0 0), (0 : Int), ()) w20))
 ((0 : Int), ()) w19)))
theorem graph_New_calls (p0 : (Int × Int × Sl × Unit)) (p1 : (Int × Int × Sl × Sl × Int × Unit)) (R : Value → World → Prop) (w : World) (h : L_graph_New p0 p1 R w) : Calls Tryz.prog 33 #[(.agg #[(.int .u32 p0.1), (.int .u32 p0.2.1), (.slice p0.2.2.1.a p0.2.2.1.l p0.2.2.1.c)]), (.agg #[(.int .u32 p1.1), (.int .i64 p1.2.1), (.slice p1.2.2.1.a p1.2.2.1.l p1.2.2.1.c), (.slice p1.2.2.2.1.a p1.2.2.2.1.l p1.2.2.2.1.c), (.int .i64 p1.2.2.2.2.1)])] w (Ret R) :=
 lw_calls (fs := Tryz.fs) (an := a_graph_New) (args := [(.agg #[(.int .u32 p0.1), (.int .u32 p0.2.1), (.slice p0.2.2.1.a p0.2.2.1.l p0.2.2.1.c)]), (.agg #[(.int .u32 p1.1), (.int .i64 p1.2.1), (.slice p1.2.2.1.a p1.2.2.1.l p1.2.2.1.c), (.slice p1.2.2.2.1.a p1.2.2.2.1.l p1.2.2.2.1.c), (.int .i64 p1.2.2.2.2.1)])]) Tryz.fsOK Tryz.mixed Tryz.func33 (by kernel_rfl) (by kernel_rfl)
 (Eq.mpr (by kernel_rfl : lwFn Tryz.prog Tryz.fs Tryz.f33 a_graph_New [(.agg #[(.int .u32 p0.1), (.int .u32 p0.2.1), (.slice p0.2.2.1.a p0.2.2.1.l p0.2.2.1.c)]), (.agg #[(.int .u32 p1.1), (.int .i64 p1.2.1), (.slice p1.2.2.1.a p1.2.2.1.l p1.2.2.1.c), (.slice p1.2.2.2.1.a p1.2.2.2.1.l p1.2.2.2.1.c), (.int .i64 p1.2.2.2.2.1)])] w R = L_graph_New p0 p1 R w) h)

/-- slices.ContainsFunc[[]intaglio.api.Func,intaglio.api.Func] -/
def a_slices_ContainsFunc_sapi_Func_api_Func : Ann := (.seq none .nil (.seq none .nil .nil))
def L_slices_ContainsFunc_sapi_Func_api_Func (p0 : Sl) (p1 : Value) (R : Value → World → Prop) (w : World) : Prop :=
 callR Tryz.prog 131 #[(.slice p0.a p0.l p0.c), p1] w fun v1 w1 =>
 ∃ x2 : Int, v1 = (.int .i64 x2) ∧
 R (.bool (decide (x2 ≥ (0 : Int)))) w1
theorem slices_ContainsFunc_sapi_Func_api_Func_calls (p0 : Sl) (p1 : Value) (R : Value → World → Prop) (w : World) (h : L_slices_ContainsFunc_sapi_Func_api_Func p0 p1 R w) : Calls Tryz.prog 85 #[(.slice p0.a p0.l p0.c), p1] w (Ret R) :=
 lw_calls (fs := Tryz.fs) (an := a_slices_ContainsFunc_sapi_Func_api_Func) (args := [(.slice p0.a p0.l p0.c), p1]) Tryz.fsOK Tryz.mixed Tryz.func85 (by kernel_rfl) (by kernel_rfl)
 (Eq.mpr (by kernel_rfl : lwFn Tryz.prog Tryz.fs Tryz.f85 a_slices_ContainsFunc_sapi_Func_api_Func [(.slice p0.a p0.l p0.c), p1] w R = L_slices_ContainsFunc_sapi_Func_api_Func p0 p1 R w) h)

/-- intaglio.graph.New 1 -/
def a_graph_New_1 : Ann := (.seq none .nil (.seq none .nil .nil))
def L_graph_New_1 (p0 : (Int × Int × Sl × Sl × Int × Unit)) (c0 : Addr) (R : Value → World → Prop) (w : World) : Prop :=
 Nw (w.alloc (.cells #[(.int .u32 p0.1), (.int .i64 p0.2.1), (.slice p0.2.2.1.a p0.2.2.1.l p0.2.2.1.c), (.slice p0.2.2.2.1.a p0.2.2.2.1.l p0.2.2.2.1.c), (.int .i64 p0.2.2.2.2.1)] 29)) fun w1 =>
 ldI w1 ((blk w.heap.size).add 0) .u32 fun x1 =>
 ldI w1 ((blk w.heap.size).add 1) .i64 fun x2 =>
 ldS w1 ((blk w.heap.size).add 2) fun x3 =>
 ldS w1 ((blk w.heap.size).add 3) fun x4 =>
 ldI w1 ((blk w.heap.size).add 4) .i64 fun x5 =>
 ldI w1 (c0.add 0) .u32 fun x6 =>
 ldI w1 (c0.add 1) .i64 fun x7 =>
 ldS w1 (c0.add 2) fun x8 =>
 ldS w1 (c0.add 3) fun x9 =>
 ldI w1 (c0.add 4) .i64 fun x10 =>
 callR Tryz.prog 87 #[(.agg #[(.int .u32 x1), (.int .i64 x2), (.slice x3.a x3.l x3.c), (.slice x4.a x4.l x4.c), (.int .i64 x5)]), (.agg #[(.int .u32 x6), (.int .i64 x7), (.slice x8.a x8.l x8.c), (.slice x9.a x9.l x9.c), (.int .i64 x10)])] w1 fun v11 w2 =>
 ∃ x12 : Bool, v11 = (.bool x12) ∧
 R (.bool x12) w2
theorem graph_New_1_calls (p0 : (Int × Int × Sl × Sl × Int × Unit)) (c0 : Addr) (R : Value → World → Prop) (w : World) (h : L_graph_New_1 p0 c0 R w) : Calls Tryz.prog 86 #[(.agg #[(.int .u32 p0.1), (.int .i64 p0.2.1), (.slice p0.2.2.1.a p0.2.2.1.l p0.2.2.1.c), (.slice p0.2.2.2.1.a p0.2.2.2.1.l p0.2.2.2.1.c), (.int .i64 p0.2.2.2.2.1)]), (.pointer (some c0))] w (Ret R) :=
 lw_calls (fs := Tryz.fs) (an := a_graph_New_1) (args := [(.agg #[(.int .u32 p0.1), (.int .i64 p0.2.1), (.slice p0.2.2.1.a p0.2.2.1.l p0.2.2.1.c), (.slice p0.2.2.2.1.a p0.2.2.2.1.l p0.2.2.2.1.c), (.int .i64 p0.2.2.2.2.1)]), (.pointer (some c0))]) Tryz.fsOK Tryz.mixed Tryz.func86 (by kernel_rfl) (by kernel_rfl)
 (Eq.mpr (by kernel_rfl : lwFn Tryz.prog Tryz.fs Tryz.f86 a_graph_New_1 [(.agg #[(.int .u32 p0.1), (.int .i64 p0.2.1), (.slice p0.2.2.1.a p0.2.2.1.l p0.2.2.1.c), (.slice p0.2.2.2.1.a p0.2.2.2.1.l p0.2.2.2.1.c), (.int .i64 p0.2.2.2.2.1)]), (.pointer (some c0))] w R = L_graph_New_1 p0 c0 R w) h)

/-- intaglio.graph.same -/
def a_graph_same : Ann := (.seq none .nil (.seq none .nil .nil))
def L_graph_same (p0 : (Int × Int × Sl × Sl × Int × Unit)) (p1 : (Int × Int × Sl × Sl × Int × Unit)) (R : Value → World → Prop) (w : World) : Prop :=
 Nw (w.alloc (.cells #[(.int .u32 p0.1), (.int .i64 p0.2.1), (.slice p0.2.2.1.a p0.2.2.1.l p0.2.2.1.c), (.slice p0.2.2.2.1.a p0.2.2.2.1.l p0.2.2.2.1.c), (.int .i64 p0.2.2.2.2.1)] 29)) fun w1 =>
 Nw (w1.alloc (.cells #[(.int .u32 p1.1), (.int .i64 p1.2.1), (.slice p1.2.2.1.a p1.2.2.1.l p1.2.2.1.c), (.slice p1.2.2.2.1.a p1.2.2.2.1.l p1.2.2.2.1.c), (.int .i64 p1.2.2.2.2.1)] 29)) fun w2 =>
 ldI w2 (blk w.heap.size) .u32 fun x1 =>
 ldI w2 (blk w1.heap.size) .u32 fun x2 =>
 ifB (x1 == x2)
 (ldI w2 ((blk w.heap.size).add 1) .i64 fun x3 =>
 ldI w2 ((blk w1.heap.size).add 1) .i64 fun x4 =>
 ifB (x3 == x4)
 (ldI w2 ((blk w.heap.size).add 4) .i64 fun x5 =>
 ldI w2 ((blk w1.heap.size).add 4) .i64 fun x6 =>
 ifB (x5 == x6)
 (ldS w2 ((blk w.heap.size).add 2) fun x7 =>
 ldS w2 ((blk w1.heap.size).add 2) fun x8 =>
 callR Tryz.prog 132 #[(.slice x7.a x7.l x7.c), (.slice x8.a x8.l x8.c)] w2 fun v9 w3 =>
 ∃ x10 : Bool, v9 = (.bool x10) ∧
 ifB x10
 (ldS w3 ((blk w.heap.size).add 3) fun x11 =>
 ldS w3 ((blk w1.heap.size).add 3) fun x12 =>
 callR Tryz.prog 133 #[(.slice x11.a x11.l x11.c), (.slice x12.a x12.l x12.c)] w3 fun v13 w4 =>
 ∃ x14 : Bool, v13 = (.bool x14) ∧
 R (.bool x14) w4)
 (R (.bool false) w3))
 (R (.bool false) w2))
 (R (.bool false) w2))
 (R (.bool false) w2)
theorem graph_same_calls (p0 : (Int × Int × Sl × Sl × Int × Unit)) (p1 : (Int × Int × Sl × Sl × Int × Unit)) (R : Value → World → Prop) (w : World) (h : L_graph_same p0 p1 R w) : Calls Tryz.prog 87 #[(.agg #[(.int .u32 p0.1), (.int .i64 p0.2.1), (.slice p0.2.2.1.a p0.2.2.1.l p0.2.2.1.c), (.slice p0.2.2.2.1.a p0.2.2.2.1.l p0.2.2.2.1.c), (.int .i64 p0.2.2.2.2.1)]), (.agg #[(.int .u32 p1.1), (.int .i64 p1.2.1), (.slice p1.2.2.1.a p1.2.2.1.l p1.2.2.1.c), (.slice p1.2.2.2.1.a p1.2.2.2.1.l p1.2.2.2.1.c), (.int .i64 p1.2.2.2.2.1)])] w (Ret R) :=
 lw_calls (fs := Tryz.fs) (an := a_graph_same) (args := [(.agg #[(.int .u32 p0.1), (.int .i64 p0.2.1), (.slice p0.2.2.1.a p0.2.2.1.l p0.2.2.1.c), (.slice p0.2.2.2.1.a p0.2.2.2.1.l p0.2.2.2.1.c), (.int .i64 p0.2.2.2.2.1)]), (.agg #[(.int .u32 p1.1), (.int .i64 p1.2.1), (.slice p1.2.2.1.a p1.2.2.1.l p1.2.2.1.c), (.slice p1.2.2.2.1.a p1.2.2.2.1.l p1.2.2.2.1.c), (.int .i64 p1.2.2.2.2.1)])]) Tryz.fsOK Tryz.mixed Tryz.func87 (by kernel_rfl) (by kernel_rfl)
 (Eq.mpr (by kernel_rfl : lwFn Tryz.prog Tryz.fs Tryz.f87 a_graph_same [(.agg #[(.int .u32 p0.1), (.int .i64 p0.2.1), (.slice p0.2.2.1.a p0.2.2.1.l p0.2.2.1.c), (.slice p0.2.2.2.1.a p0.2.2.2.1.l p0.2.2.2.1.c), (.int .i64 p0.2.2.2.2.1)]), (.agg #[(.int .u32 p1.1), (.int .i64 p1.2.1), (.slice p1.2.2.1.a p1.2.2.1.l p1.2.2.1.c), (.slice p1.2.2.2.1.a p1.2.2.2.1.l p1.2.2.2.1.c), (.int .i64 p1.2.2.2.2.1)])] w R = L_graph_same p0 p1 R w) h)

/-- (intaglio.graph.finder).merge -/
def a_graph_finder_merge : Ann := (.seq none .nil (.seq none .nil (.seq none (.seq none .nil (.one (.seq none .nil (.cond (.seq none .nil (.seq none (.seq none .nil (.cond (.seq none .nil .nil) .nil)) (.seq none .nil (.seq (some ⟨[6, 9], [(11, (.b (.int .u8)))]⟩) (.seq none .nil (.cond .nil .nil)) (.seq none .nil .nil))))) (.seq none .nil (.cond (.seq none .nil (.seq none (.seq none .nil (.cond (.seq none .nil .nil) .nil)) (.seq none .nil .nil))) .nil)))))) (.seq none .nil .nil))))
def L_graph_finder_merge (p0 : Option Nat) (p1 : (Int × Int × Int × Sl × Unit)) (p2 : (Int × Int × Int × Sl × Unit)) (R : Value → World → Prop) (w : World) : Prop :=
 Nw (w.alloc (.cells #[(.int .u16 p1.1), (.int .u32 p1.2.1), (.int .u32 p1.2.2.1), (.slice p1.2.2.2.1.a p1.2.2.2.1.l p1.2.2.2.1.c)] 41)) fun w1 =>
 Nw (w1.alloc (.cells #[(.int .u16 p2.1), (.int .u32 p2.2.1), (.int .u32 p2.2.2.1), (.slice p2.2.2.2.1.a p2.2.2.2.1.l p2.2.2.2.1.c)] 41)) fun w2 =>
 Nw (w2.alloc (.cells #[(.int .u8 (0 : Int)), (.int .i64 (0 : Int)), (.int .i64 (0 : Int))] 121)) fun w3 =>
 Nw (w3.alloc (.cells #[(.int .u8 (0 : Int)), (.int .i64 (0 : Int)), (.int .i64 (0 : Int))] 121)) fun w4 =>
 Wr w4 (blk w3.heap.size) ∧
 Nw (w4.setCell (blk w3.heap.size) (.int .u8 (0 : Int))) fun w5 =>
 Wr w5 ((blk w3.heap.size).add 1) ∧
 Nw (w5.setCell ((blk w3.heap.size).add 1) (.int .i64 (-1 : Int))) fun w6 =>
 Wr w6 ((blk w3.heap.size).add 2) ∧
 Nw (w6.setCell ((blk w3.heap.size).add 2) (.int .i64 (-1 : Int))) fun w7 =>
 ldI w7 (blk w.heap.size) .u16 fun x1 =>
 ifB (x1 == (247 : Int))
 (ldS w7 ((blk w.heap.size).add 3) fun x2 =>
 (0 ≤ (0 : Int) ∧ (0 : Int) < (x2.l : Int)) ∧
 derefP x2.a fun a3 =>
 ldI w7 ((a3.add (0 * 3)).add 1) .u32 fun x4 =>
 Nw (w7.alloc (.cells #[(.int .u32 x4)] 22)) fun w8 =>
 callR Tryz.prog 89 #[(.map p0), (.slice (some (blk w7.heap.size)) 1 1)] w8 fun v5 w9 =>
 ∃ x6 : Sl, ∃ x7 : Bool, v5 = (.tuple #[(.slice x6.a x6.l x6.c), (.bool x7)]) ∧
 ifB (!x7)
 (ldI w9 ((blk w3.heap.size).add 0) .u8 fun x8 =>
 ldI w9 ((blk w3.heap.size).add 1) .i64 fun x9 =>
 ldI w9 ((blk w3.heap.size).add 2) .i64 fun x10 =>
 Wr w9 (blk w2.heap.size) ∧
 Nw (w9.setCell (blk w2.heap.size) (.int .u8 x8)) fun w10 =>
 Wr w10 ((blk w2.heap.size).add 1) ∧
 Nw (w10.setCell ((blk w2.heap.size).add 1) (.int .i64 x9)) fun w11 =>
 Wr w11 ((blk w2.heap.size).add 2) ∧
 Nw (w11.setCell ((blk w2.heap.size).add 2) (.int .i64 x10)) fun w12 =>
 ldI w12 ((blk w2.heap.size).add 0) .u8 fun x11 =>
 ldI w12 ((blk w2.heap.size).add 1) .i64 fun x12 =>
 ldI w12 ((blk w2.heap.size).add 2) .i64 fun x13 =>
 R (.tuple #[(.agg #[(.int .u8 x11), (.int .i64 x12), (.int .i64 x13)]), (.bool false)]) w12)
 (JoinW (S := Int × Unit) (fun m14 =>
 ldI w9 (blk w1.heap.size) .u16 fun x16 =>
 ifB (x16 == (251 : Int))
 (m14 ((3 : Int), ()) w9)
 (m14 ((1 : Int), ()) w9))
 (fun s15 w13 =>
 (0 ≤ (0 : Int) ∧ (0 : Int) < (x6.l : Int)) ∧
 derefP x6.a fun a17 =>
 ldI w13 (a17.add 0) .i64 fun x18 =>
 Wr w13 (blk w2.heap.size) ∧
 Nw (w13.setCell (blk w2.heap.size) (.int .u8 s15.1)) fun w14 =>
 Wr w14 ((blk w2.heap.size).add 1) ∧
 Nw (w14.setCell ((blk w2.heap.size).add 1) (.int .i64 x18)) fun w15 =>
 Wr w15 ((blk w2.heap.size).add 2) ∧
 Nw (w15.setCell ((blk w2.heap.size).add 2) (.int .i64 (-1 : Int))) fun w16 =>
 ldI w16 ((blk w2.heap.size).add 0) .u8 fun x19 =>
 ldI w16 ((blk w2.heap.size).add 1) .i64 fun x20 =>
 ldI w16 ((blk w2.heap.size).add 2) .i64 fun x21 =>
 R (.tuple #[(.agg #[(.int .u8 x19), (.int .i64 x20), (.int .i64 x21)]), (.bool true)]) w16)))
 (ifB (x1 == (246 : Int))
 (ldS w7.drew ((blk w.heap.size).add 3) fun x22 =>
 (0 ≤ (0 : Int) ∧ (0 : Int) < (x22.l : Int)) ∧
 derefP x22.a fun a23 =>
 ldI w7.drew ((a23.add (0 * 3)).add 1) .u32 fun x24 =>
 ldS w7.drew ((blk w.heap.size).add 3) fun x25 =>
 (0 ≤ (1 : Int) ∧ (1 : Int) < (x25.l : Int)) ∧
 derefP x25.a fun a26 =>
 ldI w7.drew ((a26.add (1 * 3)).add 1) .u32 fun x27 =>
 Nw (w7.drew.alloc (.cells #[(.int .u32 x24), (.int .u32 x27)] 22)) fun w17 =>
 callR Tryz.prog 89 #[(.map p0), (.slice (some (blk w7.drew.heap.size)) 2 2)] w17 fun v28 w18 =>
 ∃ x29 : Sl, ∃ x30 : Bool, v28 = (.tuple #[(.slice x29.a x29.l x29.c), (.bool x30)]) ∧
 ifB (!x30)
 (ldI w18 ((blk w3.heap.size).add 0) .u8 fun x31 =>
 ldI w18 ((blk w3.heap.size).add 1) .i64 fun x32 =>
 ldI w18 ((blk w3.heap.size).add 2) .i64 fun x33 =>
 Wr w18 (blk w2.heap.size) ∧
 Nw (w18.setCell (blk w2.heap.size) (.int .u8 x31)) fun w19 =>
 Wr w19 ((blk w2.heap.size).add 1) ∧
 Nw (w19.setCell ((blk w2.heap.size).add 1) (.int .i64 x32)) fun w20 =>
 Wr w20 ((blk w2.heap.size).add 2) ∧
 Nw (w20.setCell ((blk w2.heap.size).add 2) (.int .i64 x33)) fun w21 =>
 ldI w21 ((blk w2.heap.size).add 0) .u8 fun x34 =>
 ldI w21 ((blk w2.heap.size).add 1) .i64 fun x35 =>
 ldI w21 ((blk w2.heap.size).add 2) .i64 fun x36 =>
 R (.tuple #[(.agg #[(.int .u8 x34), (.int .i64 x35), (.int .i64 x36)]), (.bool false)]) w21)
 ((0 ≤ (0 : Int) ∧ (0 : Int) < (x29.l : Int)) ∧
 derefP x29.a fun a37 =>
 ldI w18.drew (a37.add 0) .i64 fun x38 =>
 (0 ≤ (1 : Int) ∧ (1 : Int) < (x29.l : Int)) ∧
 derefP x29.a fun a39 =>
 ldI w18.drew (a39.add 1) .i64 fun x40 =>
 Wr w18.drew (blk w2.heap.size) ∧
 Nw (w18.drew.setCell (blk w2.heap.size) (.int .u8 (2 : Int))) fun w22 =>
 Wr w22 ((blk w2.heap.size).add 1) ∧
 Nw (w22.setCell ((blk w2.heap.size).add 1) (.int .i64 x38)) fun w23 =>
 Wr w23 ((blk w2.heap.size).add 2) ∧
 Nw (w23.setCell ((blk w2.heap.size).add 2) (.int .i64 x40)) fun w24 =>
 ldI w24 ((blk w2.heap.size).add 0) .u8 fun x41 =>
 ldI w24 ((blk w2.heap.size).add 1) .i64 fun x42 =>
 ldI w24 ((blk w2.heap.size).add 2) .i64 fun x43 =>
 R (.tuple #[(.agg #[(.int .u8 x41), (.int .i64 x42), (.int .i64 x43)]), (.bool true)]) w24))
 (ldI w7 ((blk w3.heap.size).add 0) .u8 fun x44 =>
 ldI w7 ((blk w3.heap.size).add 1) .i64 fun x45 =>
 ldI w7 ((blk w3.heap.size).add 2) .i64 fun x46 =>
 Wr w7 (blk w2.heap.size) ∧
 Nw (w7.setCell (blk w2.heap.size) (.int .u8 x44)) fun w25 =>
 Wr w25 ((blk w2.heap.size).add 1) ∧
 Nw (w25.setCell ((blk w2.heap.size).add 1) (.int .i64 x45)) fun w26 =>
 Wr w26 ((blk w2.heap.size).add 2) ∧
 Nw (w26.setCell ((blk w2.heap.size).add 2) (.int .i64 x46)) fun w27 =>
 ldI w27 ((blk w2.heap.size).add 0) .u8 fun x47 =>
 ldI w27 ((blk w2.heap.size).add 1) .i64 fun x48 =>
 ldI w27 ((blk w2.heap.size).add 2) .i64 fun x49 =>
 R (.tuple #[(.agg #[(.int .u8 x47), (.int .i64 x48), (.int .i64 x49)]), (.bool true)]) w27))
theorem graph_finder_merge_calls (p0 : Option Nat) (p1 : (Int × Int × Int × Sl × Unit)) (p2 : (Int × Int × Int × Sl × Unit)) (R : Value → World → Prop) (w : World) (h : L_graph_finder_merge p0 p1 p2 R w) : Calls Tryz.prog 88 #[(.map p0), (.agg #[(.int .u16 p1.1), (.int .u32 p1.2.1), (.int .u32 p1.2.2.1), (.slice p1.2.2.2.1.a p1.2.2.2.1.l p1.2.2.2.1.c)]), (.agg #[(.int .u16 p2.1), (.int .u32 p2.2.1), (.int .u32 p2.2.2.1), (.slice p2.2.2.2.1.a p2.2.2.2.1.l p2.2.2.2.1.c)])] w (Ret R) :=
 lw_calls (fs := Tryz.fs) (an := a_graph_finder_merge) (args := [(.map p0), (.agg #[(.int .u16 p1.1), (.int .u32 p1.2.1), (.int .u32 p1.2.2.1), (.slice p1.2.2.2.1.a p1.2.2.2.1.l p1.2.2.2.1.c)]), (.agg #[(.int .u16 p2.1), (.int .u32 p2.2.1), (.int .u32 p2.2.2.1), (.slice p2.2.2.2.1.a p2.2.2.2.1.l p2.2.2.2.1.c)])]) Tryz.fsOK Tryz.mixed Tryz.func88 (by kernel_rfl) (by kernel_rfl)
 (Eq.mpr (by kernel_rfl : lwFn Tryz.prog Tryz.fs Tryz.f88 a_graph_finder_merge [(.map p0), (.agg #[(.int .u16 p1.1), (.int .u32 p1.2.1), (.int .u32 p1.2.2.1), (.slice p1.2.2.2.1.a p1.2.2.2.1.l p1.2.2.2.1.c)]), (.agg #[(.int .u16 p2.1), (.int .u32 p2.2.1), (.int .u32 p2.2.2.1), (.slice p2.2.2.2.1.a p2.2.2.2.1.l p2.2.2.2.1.c)])] w R = L_graph_finder_merge p0 p1 p2 R w) h)

/-- (intaglio.graph.finder).all -/
def a_graph_finder_all : Ann := (.seq none .nil (.seq none .nil (.seq none (.seq none .nil (.one (.loop ⟨[0, 11, 12], [(6, (.b .slice)), (13, (.b (.int .i64)))]⟩ (.seq none .nil (.seq none (.cond .nil .nil) (.seq none (.one (.seq none .nil (.seq none .nil (.seq none (.seq none .nil (.cond (.seq none .nil .nil) .nil)) .nil)))) .nil)))))) (.seq none .nil .nil))))
def L_graph_finder_all (p0 : Option Nat) (p1 : Sl) (R : Value → World → Prop) (w : World) : Prop :=
 LoopW (S := Sl × Int × Unit) (fun s1 w1 n2 =>
 ifB (decide (s1.2.1 < (p1.l : Int)))
 ((0 ≤ s1.2.1 ∧ s1.2.1 < (p1.l : Int)) ∧
 derefP p1.a fun a3 =>
 ldI w1 (a3.add (Int.toNat s1.2.1)) .u32 fun x4 =>
 lookOk Tryz.prog 131 (.map p0) (.int .u32 x4) (BK.int .i64) w1 fun (x5 : Int) (b6 : Bool) =>
 ifB (!b6)
 (R (.tuple #[(.slice none 0 0), (.bool false)]) w1)
 (Nw (w1.alloc (.cells #[(.int .i64 x5)] 3)) fun w2 =>
 appendS Tryz.prog 26 (.slice s1.1.a s1.1.l s1.1.c) (.slice (some (blk w1.heap.size)) 1 1) w2 fun r7 w3 =>
 n2 (r7, (IntKind.i64.wrap (s1.2.1 + (1 : Int))), ()) w3))
 (R (.tuple #[(.slice s1.1.a s1.1.l s1.1.c), (.bool true)]) w1))
 ((Sl.mk none 0 0), (0 : Int), ()) w
theorem graph_finder_all_calls (p0 : Option Nat) (p1 : Sl) (R : Value → World → Prop) (w : World) (h : L_graph_finder_all p0 p1 R w) : Calls Tryz.prog 89 #[(.map p0), (.slice p1.a p1.l p1.c)] w (Ret R) :=
 lw_calls (fs := Tryz.fs) (an := a_graph_finder_all) (args := [(.map p0), (.slice p1.a p1.l p1.c)]) Tryz.fsOK Tryz.mixed Tryz.func89 (by kernel_rfl) (by kernel_rfl)
 (Eq.mpr (by kernel_rfl : lwFn Tryz.prog Tryz.fs Tryz.f89 a_graph_finder_all [(.map p0), (.slice p1.a p1.l p1.c)] w R = L_graph_finder_all p0 p1 R w) h)

/-- slices.IndexFunc[[]intaglio.api.Func,intaglio.api.Func] -/
def a_slices_IndexFunc_sapi_Func_api_Func : Ann := (.seq none .nil (.seq none (.seq none .nil (.one (.loop ⟨[0, 1, 7], [(8, (.b (.int .i64)))]⟩ (.seq none .nil (.seq none (.cond .nil .nil) (.seq none (.one (.seq none .nil (.seq none .nil (.cond (.seq none .nil .nil) .nil)))) .nil)))))) (.seq none .nil .nil)))
def L_slices_IndexFunc_sapi_Func_api_Func (p0 : Sl) (p1 : Value) (R : Value → World → Prop) (w : World) : Prop :=
 LoopW (S := Int × Unit) (fun s1 w1 n2 =>
 ifB (decide (s1.1 < (p0.l : Int)))
 ((0 ≤ s1.1 ∧ s1.1 < (p0.l : Int)) ∧
 derefP p0.a fun a3 =>
 ldI w1 ((a3.add ((Int.toNat s1.1) * 5)).add 0) .u32 fun x4 =>
 ldI w1 ((a3.add ((Int.toNat s1.1) * 5)).add 1) .i64 fun x5 =>
 ldS w1 ((a3.add ((Int.toNat s1.1) * 5)).add 2) fun x6 =>
 ldS w1 ((a3.add ((Int.toNat s1.1) * 5)).add 3) fun x7 =>
 ldI w1 ((a3.add ((Int.toNat s1.1) * 5)).add 4) .i64 fun x8 =>
 callV Tryz.prog Tryz.fs p1 [(.agg #[(.int .u32 x4), (.int .i64 x5), (.slice x6.a x6.l x6.c), (.slice x7.a x7.l x7.c), (.int .i64 x8)])] w1 fun v9 w2 =>
 ∃ x10 : Bool, v9 = (.bool x10) ∧
 ifB x10
 (R (.int .i64 s1.1) w2)
 (n2 ((IntKind.i64.wrap (s1.1 + (1 : Int))), ()) w2))
 (R (.int .i64 (-1 : Int)) w1))
 ((0 : Int), ()) w
theorem slices_IndexFunc_sapi_Func_api_Func_calls (p0 : Sl) (p1 : Value) (R : Value → World → Prop) (w : World) (h : L_slices_IndexFunc_sapi_Func_api_Func p0 p1 R w) : Calls Tryz.prog 131 #[(.slice p0.a p0.l p0.c), p1] w (Ret R) :=
 lw_calls (fs := Tryz.fs) (an := a_slices_IndexFunc_sapi_Func_api_Func) (args := [(.slice p0.a p0.l p0.c), p1]) Tryz.fsOK Tryz.mixed Tryz.func131 (by kernel_rfl) (by kernel_rfl)
 (Eq.mpr (by kernel_rfl : lwFn Tryz.prog Tryz.fs Tryz.f131 a_slices_IndexFunc_sapi_Func_api_Func [(.slice p0.a p0.l p0.c), p1] w R = L_slices_IndexFunc_sapi_Func_api_Func p0 p1 R w) h)

/-- slices.Equal[[]int,int] -/
def a_slices_Equal_sint_int : Ann := (.seq none .nil (.seq none (.seq none .nil (.cond (.seq none .nil .nil) .nil)) (.seq none (.seq none .nil (.one (.loop ⟨[0, 1, 12], [(13, (.b (.int .i64)))]⟩ (.seq none .nil (.seq none (.cond .nil .nil) (.seq none (.one (.seq none .nil (.seq none .nil (.cond (.seq none .nil .nil) .nil)))) .nil)))))) (.seq none .nil .nil))))
def L_slices_Equal_sint_int (p0 : Sl) (p1 : Sl) (R : Value → World → Prop) (w : World) : Prop :=
 ifB ((p0.l : Int) != (p1.l : Int))
 (R (.bool false) w)
 (LoopW (S := Int × Unit) (fun s1 w1 n2 =>
 ifB (decide (s1.1 < (p0.l : Int)))
 ((0 ≤ s1.1 ∧ s1.1 < (p0.l : Int)) ∧
 derefP p0.a fun a3 =>
 ldI w1.drew (a3.add (Int.toNat s1.1)) .i64 fun x4 =>
 (0 ≤ s1.1 ∧ s1.1 < (p1.l : Int)) ∧
 derefP p1.a fun a5 =>
 ldI w1.drew (a5.add (Int.toNat s1.1)) .i64 fun x6 =>
 ifB (x4 != x6)
 (R (.bool false) w1.drew)
 (n2 ((IntKind.i64.wrap (s1.1 + (1 : Int))), ()) w1.drew))
 (R (.bool true) w1))
 ((0 : Int), ()) w)
theorem slices_Equal_sint_int_calls (p0 : Sl) (p1 : Sl) (R : Value → World → Prop) (w : World) (h : L_slices_Equal_sint_int p0 p1 R w) : Calls Tryz.prog 132 #[(.slice p0.a p0.l p0.c), (.slice p1.a p1.l p1.c)] w (Ret R) :=
 lw_calls (fs := Tryz.fs) (an := a_slices_Equal_sint_int) (args := [(.slice p0.a p0.l p0.c), (.slice p1.a p1.l p1.c)]) Tryz.fsOK Tryz.mixed Tryz.func132 (by kernel_rfl) (by kernel_rfl)
 (Eq.mpr (by kernel_rfl : lwFn Tryz.prog Tryz.fs Tryz.f132 a_slices_Equal_sint_int [(.slice p0.a p0.l p0.c), (.slice p1.a p1.l p1.c)] w R = L_slices_Equal_sint_int p0 p1 R w) h)

/-- slices.Equal[[]intaglio.api.Block,intaglio.api.Block] -/
def a_slices_Equal_sapi_Block_api_Block : Ann := (.seq none .nil (.seq none (.seq none .nil (.cond (.seq none .nil .nil) .nil)) (.seq none (.seq none .nil (.one (.loop ⟨[0, 1, 12], [(13, (.b (.int .i64)))]⟩ (.seq none .nil (.seq none (.cond .nil .nil) (.seq none (.one (.seq none .nil (.seq none .nil (.cond (.seq none .nil .nil) .nil)))) .nil)))))) (.seq none .nil .nil))))
def L_slices_Equal_sapi_Block_api_Block (p0 : Sl) (p1 : Sl) (R : Value → World → Prop) (w : World) : Prop :=
 ifB ((p0.l : Int) != (p1.l : Int))
 (R (.bool false) w)
 (LoopW (S := Int × Unit) (fun s1 w1 n2 =>
 ifB (decide (s1.1 < (p0.l : Int)))
 ((0 ≤ s1.1 ∧ s1.1 < (p0.l : Int)) ∧
 derefP p0.a fun a3 =>
 ldI w1.drew ((a3.add ((Int.toNat s1.1) * 3)).add 0) .u32 fun x4 =>
 ldI w1.drew ((a3.add ((Int.toNat s1.1) * 3)).add 1) .i64 fun x5 =>
 ldI w1.drew ((a3.add ((Int.toNat s1.1) * 3)).add 2) .i64 fun x6 =>
 (0 ≤ s1.1 ∧ s1.1 < (p1.l : Int)) ∧
 derefP p1.a fun a7 =>
 ldI w1.drew ((a7.add ((Int.toNat s1.1) * 3)).add 0) .u32 fun x8 =>
 ldI w1.drew ((a7.add ((Int.toNat s1.1) * 3)).add 1) .i64 fun x9 =>
 ldI w1.drew ((a7.add ((Int.toNat s1.1) * 3)).add 2) .i64 fun x10 =>
 ifB (!(x4 == x8 && (x5 == x9 && (x6 == x10 && true))))
 (R (.bool false) w1.drew)
 (n2 ((IntKind.i64.wrap (s1.1 + (1 : Int))), ()) w1.drew))
 (R (.bool true) w1))
 ((0 : Int), ()) w)
theorem slices_Equal_sapi_Block_api_Block_calls (p0 : Sl) (p1 : Sl) (R : Value → World → Prop) (w : World) (h : L_slices_Equal_sapi_Block_api_Block p0 p1 R w) : Calls Tryz.prog 133 #[(.slice p0.a p0.l p0.c), (.slice p1.a p1.l p1.c)] w (Ret R) :=
 lw_calls (fs := Tryz.fs) (an := a_slices_Equal_sapi_Block_api_Block) (args := [(.slice p0.a p0.l p0.c), (.slice p1.a p1.l p1.c)]) Tryz.fsOK Tryz.mixed Tryz.func133 (by kernel_rfl) (by kernel_rfl)
 (Eq.mpr (by kernel_rfl : lwFn Tryz.prog Tryz.fs Tryz.f133 a_slices_Equal_sapi_Block_api_Block [(.slice p0.a p0.l p0.c), (.slice p1.a p1.l p1.c)] w R = L_slices_Equal_sapi_Block_api_Block p0 p1 R w) h)

end Go.Proofs
namespace Go.Gk
open Go

def isLabel (l : Nat) : Code → Bool
  | .label l' => Nat.beq l' l
  | _ => false
/-- What stands behind the label. -/
def spineB (l : Nat) : Code → Option Code
  | .seq a b => match isLabel l a with
    | true => some b
    | false => match findLabel a l with
      | none => spineB l b
      | some _ => none
  | _ => none
theorem isLabel_spec {l : Nat} {a : Code} (h : isLabel l a = true) : a = .label l := by
  cases a <;> simp only [isLabel] at h <;> first | cases h | skip
  rename_i l'
  have := Nat.eq_of_beq_eq_true h
  rw [this]
theorem spineB_find {l : Nat} : ∀ {c B : Code}, spineB l c = some B → findLabel c l = some (.seq .skip B)
  | .seq a b, B, h => by
    simp only [spineB] at h
    split at h
    · rename_i hl
      cases h
      rw [isLabel_spec hl]
      simp [findLabel]
    · split at h
      · rename_i hf
        simp only [findLabel, hf]
        exact spineB_find h
      · cases h
  | .skip, _, h | .label _, _, h | .ret, _, h | .exit _, _, h | .goto _, _, h => by cases h
  | .region .., _, h | .cond .., _, h | .block .., _, h | .loop .., _, h | .scope .., _, h => by cases h
  | .rangeFunc .., _, h => by cases h

def jumpK (l : Nat) (next : Env → World → Prop) (K : Exit → Env → World → Prop) : Exit → Env → World → Prop
  | .goto l', e, w => match Nat.beq l' l with
    | true => next e w
    | false => False
  | x, e, w => K x e w
def lwA (P : Program) (fs : List Nat) (l : Nat) : Code → Ann → Env → World → (Exit → Env → World → Prop) → Prop
  | .seq a b, .seq none aa ab, e, w, K => match isLabel l a with
    | true => False
    | false => lw P fs a aa e w (seqK (fun e w => lwA P fs l b ab e w K) K)
  | .seq a b, .seq (some j) aa ab, e, w, K => match isLabel l a with
    | true => False
    | false => match keepOk j.keep (wr a) with
      | true => JoinW (fun M => lw P fs a aa e w (seqK (fun e w => match getSt j.sg e with | some s => M s w | none => False) K))
          (fun s w => lwA P fs l b ab (putSt j.sg s (keepE j.keep e)) w K)
      | false => False
  | .seq a b, .loop j ab, e, w, K => match isLabel l a with
    | true => match keepOk j.keep (wr b) with
      | true => match getSt j.sg e with
        | some s => LoopW (fun s w next => lw P fs b ab (putSt j.sg s (keepE j.keep e)) w (jumpK l (fun e w => match getSt j.sg e with | some s => next s w | none => False) K)) s w
        | none => False
      | false => False
    | false => False
  | _, _, _, _, _ => False
def lwJFn (P : Program) (fs : List Nat) (l : Nat) (fn : Func) (an : Ann) (args : List Value) (w : World) (R : Value → World → Prop) : Prop :=
  match fn.body with
  | some (.seq r (.scope c)) => match an with
    | .seq none ar (.one ac) => match spineB l c with
      | some _ => lw P fs r ar (argsE args 0) w (seqK (fun e w => lwA P fs l c ac e w (scopeK (retK P fn.results.toList R))) (scopeK (retK P fn.results.toList R)))
      | none => False
    | _ => False
  | _ => False

section
variable {P : Program}
/-- With fewer than n jumps. -/
def JB (P : Program) (l : Nat) (B : Code) (Q : Exit → Act → World → Prop) : Nat → Act → World → Prop
  | 0, _, _ => False
  | n + 1, a, w => (Code.seq .skip B).wp P (Exit.jump l (JB P l B Q n) Q) a w
theorem least {p : Nat → Prop} : ∀ n, p n → ∃ n, p n ∧ ∀ m, p m → n ≤ m := by
  intro n
  induction n using Nat.strongRecOn with
  | _ n ih =>
    intro h
    by_cases hm : ∃ m, m < n ∧ p m
    · obtain ⟨m, h1, h2⟩ := hm
      exact ih m h1 h2
    · exact ⟨n, h, fun m hp => Nat.le_of_not_lt fun hlt => hm ⟨m, hlt, hp⟩⟩
theorem jump_mono {l : Nat} {J J' : Act → World → Prop} {Q Q' : Exit → Act → World → Prop} (hJ : ∀ a w, J a w → J' a w) (hQ : ∀ x a w, Q x a w → Q' x a w) : ∀ x a w, Exit.jump l J Q x a w → Exit.jump l J' Q' x a w := by
  intro x a w h
  cases x with
  | goto l' => exact ⟨h.1, hJ _ _ h.2⟩
  | _ => exact hQ _ _ _ h
theorem wp_scope_JB {c B : Code} {l : Nat} {Q : Exit → Act → World → Prop} {a : Act} {w : World} (hf : findLabel c l = some (.seq .skip B))
    (first : c.wp P (Exit.jump l (fun a w => ∃ n, JB P l B Q n a w) Q) a w) : (Code.scope c).wp P Q a w := by
  have hl : ∀ (a : Act) (w : World), (∃ n, JB P l B Q n a w) → ∃ n, JB P l B Q n a w ∧ ∀ m, JB P l B Q m a w → n ≤ m := fun a w ⟨n, h⟩ => least n h
  classical
  refine wp_scope_jumps l (fun a w => ∃ n, JB P l B Q n a w) (fun a w => if h : ∃ n, JB P l B Q n a w then Classical.choose (hl a w h) else 0) hf first ?_
  intro a w hJ
  have hs := Classical.choose_spec (hl a w hJ)
  simp only [dif_pos hJ]
  generalize Classical.choose (hl a w hJ) = n at hs
  cases n with
  | zero => exact hs.1.elim
  | succ k =>
    refine Code.wp_mono (jump_mono ?_ fun _ _ _ h => h) hs.1
    intro a' w' h'
    have hJ' : ∃ n, JB P l B Q n a' w' := ⟨k, h'⟩
    refine ⟨hJ', ?_⟩
    rw [dif_pos hJ']
    have := (Classical.choose_spec (hl a' w' hJ')).2 k h'
    omega
theorem lw_wp {fs : List Nat} (hfs : AllOK P fs) (hm : P.follows .mixedOrders = true) {n : Nat} {c : Code} {an : Ann} {e : Env} {w : World} {K : Exit → Env → World → Prop} {a : Act}
    (hd : ∀ d, d ∈ wr c → d < n) (hr : Rep [] n a e) (h : lw P fs c an e w K) : c.wp P (CQ [] n (wr c) a K) a w :=
  (wpIn_wide (n := 0)).1 (Code.wpIn_mono (F := Wf none) (fun _ _ _ h => h) (lw_sound (ro := none) hfs hm c an e w K a hd hr h))
theorem lwA_sound {fs : List Nat} (hfs : AllOK P fs) (hm : P.follows .mixedOrders = true) {n l : Nat} {ws : List Nat} {a0 : Act} {K : Exit → Env → World → Prop} {B : Code} (hK : ∀ l e w, ¬ K (.goto l) e w) :
    ∀ (c : Code) (an : Ann) (e : Env) (w : World) (a : Act), spineB l c = some B → (∀ d, d ∈ wr c → d < n) → (∀ d, d ∈ wr c → d ∈ ws) → Rep [] n a e → Same ws a0 a → lwA P fs l c an e w K →
      c.wp P (Exit.jump l (fun a w => ∃ k, JB P l B (CQ [] n ws a0 K) k a w) (CQ [] n ws a0 K)) a w := by
  intro c
  induction c with
  | seq x y ihx ihy =>
    intro an e w a hB hd hw hr hs h
    have hdx : ∀ d, d ∈ wr x → d < n := fun d hh => hd d (List.mem_append_left _ hh)
    have hdy : ∀ d, d ∈ wr y → d < n := fun d hh => hd d (List.mem_append_right _ hh)
    have hwx : ∀ d, d ∈ wr x → d ∈ ws := fun d hh => hw d (List.mem_append_left _ hh)
    have hwy : ∀ d, d ∈ wr y → d ∈ ws := fun d hh => hw d (List.mem_append_right _ hh)
    cases an with
    | seq j aa ab =>
      have hnl : isLabel l x = false → spineB l y = some B := by
        intro hx
        simp only [spineB, hx] at hB
        split at hB
        · exact hB
        · cases hB
      have hB' : spineB l y = some B := by
        refine hnl ?_
        cases hx : isLabel l x with
        | false => rfl
        | true =>
          exfalso
          cases j <;> simp only [lwA, hx] at h
      cases j with
      | none =>
        simp only [lwA] at h
        split at h
        · exact h.elim
        refine wp_seq (Code.wp_mono ?_ (lw_wp hfs hm hdx hr h))
        rintro z a' w' ⟨e', hr', hs', h'⟩
        have hs2 := hs.trans (hs'.mono hwx)
        cases z with
        | normal => exact ihy ab e' w' a' hB' hdy hwy hr' hs2 h'
        | goto l' => exact (hK _ _ _ h').elim
        | _ => exact ⟨e', hr', hs2, h'⟩
      | some j =>
        simp only [lwA] at h
        split at h
        · exact h.elim
        split at h
        · rename_i hk
          obtain ⟨M, h1, h2⟩ := h
          refine wp_seq (Code.wp_mono ?_ (lw_wp hfs hm hdx hr h1))
          rintro z a' w' ⟨e', hr', hs', h'⟩
          have hs2 := hs.trans (hs'.mono hwx)
          cases z with
          | normal =>
            simp only [seqK] at h'
            split at h'
            · rename_i s hg
              exact ihy ab _ w' a' hB' hdy hwy (getSt_put hr' hg (hr.keep hs' hr'.1 hr'.2.1 hk)) hs2 (h2 s w' h')
            · exact h'.elim
          | goto l' => exact (hK _ _ _ h').elim
          | _ => exact ⟨e', hr', hs2, h'⟩
        · exact h.elim
    | loop j ab =>
      simp only [lwA] at h
      split at h
      · rename_i hx
        have hB' : y = B := by
          simp only [spineB, hx] at hB
          exact Option.some.inj hB
        subst hB'
        split at h
        · rename_i hk
          split at h
          · rename_i s hg
            obtain ⟨I, μ, h0, hround⟩ := h
            rw [isLabel_spec hx]
            have pass : ∀ (J : Act → World → Prop) s w' a', I s w' → Rep [] n a' (putSt j.sg s (keepE j.keep e)) → Same ws a0 a' → Same (wr y) a a' →
                (∀ s2 w2 a2, I s2 w2 → μ s2 w2 < μ s w' → Rep [] n a2 (putSt j.sg s2 (keepE j.keep e)) → Same ws a0 a2 → Same (wr y) a a2 → J a2 w2) → y.wp P (Exit.jump l J (CQ [] n ws a0 K)) a' w' := by
              intro J s w' a' hI hr' hs' hsy hJ
              refine Code.wp_mono ?_ (lw_wp hfs hm hdy hr' (hround s w' hI))
              rintro z a2 w2 ⟨e2, hr2, hs2, h2⟩
              have hs3 := hs'.trans (hs2.mono hwy)
              cases z with
              | goto l' =>
                simp only [jumpK] at h2
                split at h2
                · rename_i hl
                  split at h2
                  · rename_i s2 hg2
                    exact ⟨Nat.eq_of_beq_eq_true hl, hJ s2 w2 a2 h2.1 h2.2 (getSt_put hr2 hg2 (hr.keep (hsy.trans hs2) hr2.1 hr2.2.1 hk)) hs3 (hsy.trans hs2)⟩
                  · exact h2.elim
                · exact h2.elim
              | _ => exact ⟨e2, hr2, hs3, h2⟩
            have key : ∀ k s w' a', μ s w' < k → I s w' → Rep [] n a' (putSt j.sg s (keepE j.keep e)) → Same ws a0 a' → Same (wr y) a a' → JB P l y (CQ [] n ws a0 K) k a' w' := by
              intro k
              induction k with
              | zero => intro s w' a' hlt; omega
              | succ k ih =>
                intro s w' a' hlt hI hr' hs' hsy
                refine wp_seq (wp_skip ?_)
                exact pass _ s w' a' hI hr' hs' hsy fun s2 w2 a2 i1 i2 i3 i4 i5 => ih s2 w2 a2 (by omega) i1 i3 i4 i5
            refine wp_seq (wp_label ?_)
            exact pass _ s w a h0 (getSt_put hr hg (hr.keep (Same.refl _ _) hr.1 hr.2.1 hk)) hs (Same.refl _ _) fun s2 w2 a2 i1 i2 i3 i4 i5 => ⟨_, key (μ s2 w2 + 1) s2 w2 a2 (by omega) i1 i3 i4 i5⟩
          · exact h.elim
        · exact h.elim
      · exact h.elim
    | _ => exact h.elim
  | _ => intro an e w a hB; cases hB
/-- **From what a function's code comes to, to the call.** -/
theorem lwJ_calls {l : Nat} {fs : List Nat} (hfs : AllOK P fs) (hm : P.follows .mixedOrders = true) {f : Nat} {fn : Func} {an : Ann} {args : List Value} {w : World} {R : Value → World → Prop}
    (hf : P.funcs[f]? = some fn) (hn : (match fn.body with | some c => dstsOk fn.ntmps c | none => false) = true) (hz : Nat.ble args.length fn.ntmps = true) (h : lwJFn P fs l fn an args w R) :
    Calls P f args.toArray w (Ret R) := by
  unfold lwJFn at h
  split at h
  · rename_i r c hb
    split at h
    · rename_i ar ac
      split at h
      · rename_i B hB
        rw [hb] at hn
        simp only at hn
        have hz' := Nat.le_of_ble_eq_true hz
        have hdst : ∀ d, d ∈ wr (.seq r (.scope c)) → d < fn.ntmps := fun d hd => by simp only [dstsOk, List.all_eq_true] at hn; exact Nat.le_of_ble_eq_true (hn d hd)
        refine calls_of_wp hf hb ?_
        have hr : Rep [] fn.ntmps { tmps := args.toArray ++ Array.replicate (fn.ntmps - args.toArray.size) undef, defers := [] } (argsE args 0) := by
          refine ⟨by simp; omega, rfl, fun t v ht => ?_⟩
          obtain ⟨_, h2⟩ := argsE_spec _ _ _ _ ht
          rw [Nat.sub_zero] at h2
          have hlt : t < args.length := by
            rcases Nat.lt_or_ge t args.length with h | h
            · exact h
            · rw [List.getElem?_eq_none h] at h2; cases h2
          have : args[t] = v := by rw [List.getElem?_eq_getElem hlt] at h2; exact Option.some.inj h2
          have hlt2 : t < args.length + (fn.ntmps - args.length) := by omega
          simp [hlt, hlt2, this]
        have fin : ∀ x a w' e', Rep [] fn.ntmps a e' → scopeK (retK P fn.results.toList R) x e' w' → retK P fn.results.toList R x e' w' := by
          intro x a w' e' _ h
          cases x with
          | goto => exact h.elim
          | _ => exact h
        refine wp_seq (Code.wp_mono ?_ (lw_wp hfs hm (fun d hd => hdst d (List.mem_append_left _ hd)) hr h))
        rintro x a w' ⟨e', hr', _, h'⟩
        cases x with
        | normal =>
          refine Code.wp_mono ?_ (wp_scope_JB (spineB_find hB) (lwA_sound hfs hm (ws := wr c) (a0 := a) (K := scopeK (retK P fn.results.toList R)) (fun _ _ _ h => h) c ac e' w' a hB (fun d hd => hdst d (List.mem_append_right _ hd)) (fun _ hd => hd) hr' (Same.refl _ _) h'))
          rintro x a w' ⟨e', hr', _, h'⟩
          have h' := fin _ _ _ _ hr' h'
          cases x with
          | normal => exact ⟨hr'.2.1, run_results hr' h'⟩
          | ret => exact ⟨hr'.2.1, run_results hr' h'⟩
          | _ => exact h'.elim
        | ret => exact ⟨hr'.2.1, run_results hr' h'⟩
        | _ => exact h'.elim
      · exact h.elim
    · exact h.elim
  · exact h.elim
end
end Go.Gk
namespace Go.Proofs
open Go.Gk
set_option linter.unusedVariables false
set_option maxRecDepth 100000

/-- intaglio.layout.Cut -/
def a_layout_Cut : Ann := (.seq none .nil (.seq none .nil (.seq none (.seq none .nil (.cond (.seq none .nil .nil) .nil)) (.seq none .nil .nil))))
def L_layout_Cut (p0 : (Int × Int × Sl × Unit)) (R : Value → World → Prop) (w : World) : Prop :=
 Nw (w.alloc (.cells #[(.int .u32 p0.1), (.int .u32 p0.2.1), (.slice p0.2.2.1.a p0.2.2.1.l p0.2.2.1.c)] 25)) fun w1 =>
 Nw (w1.alloc (.cells #[(.int .i64 (0 : Int)), (.int .i64 (0 : Int))] 33)) fun w2 =>
 ldI w2 ((blk w.heap.size).add 0) .u32 fun x1 =>
 ldI w2 ((blk w.heap.size).add 1) .u32 fun x2 =>
 ldS w2 ((blk w.heap.size).add 2) fun x3 =>
 callR Tryz.prog 103 #[(.agg #[(.int .u32 x1), (.int .u32 x2), (.slice x3.a x3.l x3.c)])] w2 fun v4 w3 =>
 ∃ x5 : Option Addr, ∃ x6 : (Int × Int × Unit), v4 = (.tuple #[(.pointer x5), (.agg #[(.int .i64 x6.1), (.int .i64 x6.2.1)])]) ∧
 Nw (w3.alloc (.cells #[(.int .i64 (0 : Int)), (.int .i64 (0 : Int))] 33)) fun w4 =>
 Wr w4 (blk w3.heap.size) ∧
 Nw (w4.setCell (blk w3.heap.size) (.int .i64 x6.1)) fun w5 =>
 Wr w5 ((blk w3.heap.size).add 1) ∧
 Nw (w5.setCell ((blk w3.heap.size).add 1) (.int .i64 x6.2.1)) fun w6 =>
 ifB (Option.isNone x5)
 (ldI w6.drew ((blk w3.heap.size).add 0) .i64 fun x7 =>
 ldI w6.drew ((blk w3.heap.size).add 1) .i64 fun x8 =>
 Wr w6.drew (blk w1.heap.size) ∧
 Nw (w6.drew.setCell (blk w1.heap.size) (.int .i64 x7)) fun w7 =>
 Wr w7 ((blk w1.heap.size).add 1) ∧
 Nw (w7.setCell ((blk w1.heap.size).add 1) (.int .i64 x8)) fun w8 =>
 ldI w8 ((blk w1.heap.size).add 0) .i64 fun x9 =>
 ldI w8 ((blk w1.heap.size).add 1) .i64 fun x10 =>
 R (.tuple #[(.slice none 0 0), (.agg #[(.int .i64 x9), (.int .i64 x10)])]) w8)
 (derefP x5 fun a11 =>
 ldS w6.drew (a11.add 22) fun x12 =>
 ldI w6.drew ((blk w3.heap.size).add 0) .i64 fun x13 =>
 ldI w6.drew ((blk w3.heap.size).add 1) .i64 fun x14 =>
 Wr w6.drew (blk w1.heap.size) ∧
 Nw (w6.drew.setCell (blk w1.heap.size) (.int .i64 x13)) fun w9 =>
 Wr w9 ((blk w1.heap.size).add 1) ∧
 Nw (w9.setCell ((blk w1.heap.size).add 1) (.int .i64 x14)) fun w10 =>
 ldI w10 ((blk w1.heap.size).add 0) .i64 fun x15 =>
 ldI w10 ((blk w1.heap.size).add 1) .i64 fun x16 =>
 R (.tuple #[(.slice x12.a x12.l x12.c), (.agg #[(.int .i64 x15), (.int .i64 x16)])]) w10)
theorem layout_Cut_calls (p0 : (Int × Int × Sl × Unit)) (R : Value → World → Prop) (w : World) (h : L_layout_Cut p0 R w) : Calls Tryz.prog 45 #[(.agg #[(.int .u32 p0.1), (.int .u32 p0.2.1), (.slice p0.2.2.1.a p0.2.2.1.l p0.2.2.1.c)])] w (Ret R) :=
 lw_calls (fs := Tryz.fs) (an := a_layout_Cut) (args := [(.agg #[(.int .u32 p0.1), (.int .u32 p0.2.1), (.slice p0.2.2.1.a p0.2.2.1.l p0.2.2.1.c)])]) Tryz.fsOK Tryz.mixed Tryz.func45 (by kernel_rfl) (by kernel_rfl)
 (Eq.mpr (by kernel_rfl : lwFn Tryz.prog Tryz.fs Tryz.f45 a_layout_Cut [(.agg #[(.int .u32 p0.1), (.int .u32 p0.2.1), (.slice p0.2.2.1.a p0.2.2.1.l p0.2.2.1.c)])] w R = L_layout_Cut p0 R w) h)

/-- intaglio.layout.Parts -/
def a_layout_Parts : Ann := (.seq none .nil (.seq none .nil (.seq none (.seq none .nil (.cond (.seq none .nil .nil) .nil)) (.seq none .nil .nil))))
def L_layout_Parts (p0 : (Int × Int × Sl × Unit)) (R : Value → World → Prop) (w : World) : Prop :=
 Nw (w.alloc (.cells #[(.int .u32 p0.1), (.int .u32 p0.2.1), (.slice p0.2.2.1.a p0.2.2.1.l p0.2.2.1.c)] 25)) fun w1 =>
 Nw (w1.alloc (.cells (List.toArray (List.replicate 20 (.int .i64 (0 : Int)))) 143)) fun w2 =>
 Nw (w2.alloc (.cells #[(.int .i64 (0 : Int)), (.int .i64 (0 : Int))] 33)) fun w3 =>
 ldI w3 ((blk w.heap.size).add 0) .u32 fun x1 =>
 ldI w3 ((blk w.heap.size).add 1) .u32 fun x2 =>
 ldS w3 ((blk w.heap.size).add 2) fun x3 =>
 callR Tryz.prog 103 #[(.agg #[(.int .u32 x1), (.int .u32 x2), (.slice x3.a x3.l x3.c)])] w3 fun v4 w4 =>
 ∃ x5 : Option Addr, ∃ x6 : (Int × Int × Unit), v4 = (.tuple #[(.pointer x5), (.agg #[(.int .i64 x6.1), (.int .i64 x6.2.1)])]) ∧
 Nw (w4.alloc (.cells #[(.int .i64 (0 : Int)), (.int .i64 (0 : Int))] 33)) fun w5 =>
 Wr w5 (blk w4.heap.size) ∧
 Nw (w5.setCell (blk w4.heap.size) (.int .i64 x6.1)) fun w6 =>
 Wr w6 ((blk w4.heap.size).add 1) ∧
 Nw (w6.setCell ((blk w4.heap.size).add 1) (.int .i64 x6.2.1)) fun w7 =>
 ifB (Option.isNone x5)
 (ldI w7.drew ((blk w4.heap.size).add 0) .i64 fun x7 =>
 ldI w7.drew ((blk w4.heap.size).add 1) .i64 fun x8 =>
 Wr w7.drew (blk w1.heap.size) ∧
 Nw (w7.drew.setCell (blk w1.heap.size) (.int .i64 (0 : Int))) fun w8 =>
 Wr w8 ((blk w1.heap.size).add 1) ∧
 Nw (w8.setCell ((blk w1.heap.size).add 1) (.int .i64 (0 : Int))) fun w9 =>
 Wr w9 ((blk w1.heap.size).add 2) ∧
 Nw (w9.setCell ((blk w1.heap.size).add 2) (.int .i64 (0 : Int))) fun w10 =>
 Wr w10 ((blk w1.heap.size).add 3) ∧
 Nw (w10.setCell ((blk w1.heap.size).add 3) (.int .i64 (0 : Int))) fun w11 =>
 Wr w11 ((blk w1.heap.size).add 4) ∧
 Nw (w11.setCell ((blk w1.heap.size).add 4) (.int .i64 (0 : Int))) fun w12 =>
 Wr w12 ((blk w1.heap.size).add 5) ∧
 Nw (w12.setCell ((blk w1.heap.size).add 5) (.int .i64 (0 : Int))) fun w13 =>
 Wr w13 ((blk w1.heap.size).add 6) ∧
 Nw (w13.setCell ((blk w1.heap.size).add 6) (.int .i64 (0 : Int))) fun w14 =>
 Wr w14 ((blk w1.heap.size).add 7) ∧
 Nw (w14.setCell ((blk w1.heap.size).add 7) (.int .i64 (0 : Int))) fun w15 =>
 Wr w15 ((blk w1.heap.size).add 8) ∧
 Nw (w15.setCell ((blk w1.heap.size).add 8) (.int .i64 (0 : Int))) fun w16 =>
 Wr w16 ((blk w1.heap.size).add 9) ∧
 Nw (w16.setCell ((blk w1.heap.size).add 9) (.int .i64 (0 : Int))) fun w17 =>
 Wr w17 ((blk w1.heap.size).add 10) ∧
 Nw (w17.setCell ((blk w1.heap.size).add 10) (.int .i64 (0 : Int))) fun w18 =>
 Wr w18 ((blk w1.heap.size).add 11) ∧
 Nw (w18.setCell ((blk w1.heap.size).add 11) (.int .i64 (0 : Int))) fun w19 =>
 Wr w19 ((blk w1.heap.size).add 12) ∧
 Nw (w19.setCell ((blk w1.heap.size).add 12) (.int .i64 (0 : Int))) fun w20 =>
 Wr w20 ((blk w1.heap.size).add 13) ∧
 Nw (w20.setCell ((blk w1.heap.size).add 13) (.int .i64 (0 : Int))) fun w21 =>
 Wr w21 ((blk w1.heap.size).add 14) ∧
 Nw (w21.setCell ((blk w1.heap.size).add 14) (.int .i64 (0 : Int))) fun w22 =>
 Wr w22 ((blk w1.heap.size).add 15) ∧
 Nw (w22.setCell ((blk w1.heap.size).add 15) (.int .i64 (0 : Int))) fun w23 =>
 Wr w23 ((blk w1.heap.size).add 16) ∧
 Nw (w23.setCell ((blk w1.heap.size).add 16) (.int .i64 (0 : Int))) fun w24 =>
 Wr w24 ((blk w1.heap.size).add 17) ∧
 Nw (w24.setCell ((blk w1.heap.size).add 17) (.int .i64 (0 : Int))) fun w25 =>
 Wr w25 ((blk w1.heap.size).add 18) ∧
 Nw (w25.setCell ((blk w1.heap.size).add 18) (.int .i64 (0 : Int))) fun w26 =>
 Wr w26 ((blk w1.heap.size).add 19) ∧
 Nw (w26.setCell ((blk w1.heap.size).add 19) (.int .i64 (0 : Int))) fun w27 =>
 w27.cell? ((blk w4.heap.size).add 0) = some (.int .i64 x7) ∧
 w27.cell? ((blk w4.heap.size).add 1) = some (.int .i64 x8) ∧
 Wr w27 (blk w2.heap.size) ∧
 Nw (w27.setCell (blk w2.heap.size) (.int .i64 x7)) fun w28 =>
 Wr w28 ((blk w2.heap.size).add 1) ∧
 Nw (w28.setCell ((blk w2.heap.size).add 1) (.int .i64 x8)) fun w29 =>
 ldI w29 ((blk w1.heap.size).add 0) .i64 fun x9 =>
 ldI w29 ((blk w1.heap.size).add 1) .i64 fun x10 =>
 ldI w29 ((blk w1.heap.size).add 2) .i64 fun x11 =>
 ldI w29 ((blk w1.heap.size).add 3) .i64 fun x12 =>
 ldI w29 ((blk w1.heap.size).add 4) .i64 fun x13 =>
 ldI w29 ((blk w1.heap.size).add 5) .i64 fun x14 =>
 ldI w29 ((blk w1.heap.size).add 6) .i64 fun x15 =>
 ldI w29 ((blk w1.heap.size).add 7) .i64 fun x16 =>
 ldI w29 ((blk w1.heap.size).add 8) .i64 fun x17 =>
 ldI w29 ((blk w1.heap.size).add 9) .i64 fun x18 =>
 ldI w29 ((blk w1.heap.size).add 10) .i64 fun x19 =>
 ldI w29 ((blk w1.heap.size).add 11) .i64 fun x20 =>
 ldI w29 ((blk w1.heap.size).add 12) .i64 fun x21 =>
 ldI w29 ((blk w1.heap.size).add 13) .i64 fun x22 =>
 ldI w29 ((blk w1.heap.size).add 14) .i64 fun x23 =>
 ldI w29 ((blk w1.heap.size).add 15) .i64 fun x24 =>
 ldI w29 ((blk w1.heap.size).add 16) .i64 fun x25 =>
 ldI w29 ((blk w1.heap.size).add 17) .i64 fun x26 =>
 ldI w29 ((blk w1.heap.size).add 18) .i64 fun x27 =>
 ldI w29 ((blk w1.heap.size).add 19) .i64 fun x28 =>
 ldI w29 ((blk w2.heap.size).add 0) .i64 fun x29 =>
 ldI w29 ((blk w2.heap.size).add 1) .i64 fun x30 =>
 R (.tuple #[(.agg #[(.int .i64 x9), (.int .i64 x10), (.int .i64 x11), (.int .i64 x12), (.int .i64 x13), (.int .i64 x14), (.int .i64 x15), (.int .i64 x16), (.int .i64 x17), (.int .i64 x18), (.int .i64 x19), (.int .i64 x20), (.int .i64 x21), (.int .i64 x22), (.int .i64 x23), (.int .i64 x24), (.int .i64 x25), (.int .i64 x26), (.int .i64 x27), (.int .i64 x28)]), (.agg #[(.int .i64 x29), (.int .i64 x30)])]) w29)
 (derefP x5 fun a31 =>
 ldI w7.drew ((a31.add 2).add 0) .i64 fun x32 =>
 ldI w7.drew ((a31.add 2).add 1) .i64 fun x33 =>
 ldI w7.drew ((a31.add 2).add 2) .i64 fun x34 =>
 ldI w7.drew ((a31.add 2).add 3) .i64 fun x35 =>
 ldI w7.drew ((a31.add 2).add 4) .i64 fun x36 =>
 ldI w7.drew ((a31.add 2).add 5) .i64 fun x37 =>
 ldI w7.drew ((a31.add 2).add 6) .i64 fun x38 =>
 ldI w7.drew ((a31.add 2).add 7) .i64 fun x39 =>
 ldI w7.drew ((a31.add 2).add 8) .i64 fun x40 =>
 ldI w7.drew ((a31.add 2).add 9) .i64 fun x41 =>
 ldI w7.drew ((a31.add 2).add 10) .i64 fun x42 =>
 ldI w7.drew ((a31.add 2).add 11) .i64 fun x43 =>
 ldI w7.drew ((a31.add 2).add 12) .i64 fun x44 =>
 ldI w7.drew ((a31.add 2).add 13) .i64 fun x45 =>
 ldI w7.drew ((a31.add 2).add 14) .i64 fun x46 =>
 ldI w7.drew ((a31.add 2).add 15) .i64 fun x47 =>
 ldI w7.drew ((a31.add 2).add 16) .i64 fun x48 =>
 ldI w7.drew ((a31.add 2).add 17) .i64 fun x49 =>
 ldI w7.drew ((a31.add 2).add 18) .i64 fun x50 =>
 ldI w7.drew ((a31.add 2).add 19) .i64 fun x51 =>
 ldI w7.drew ((blk w4.heap.size).add 0) .i64 fun x52 =>
 ldI w7.drew ((blk w4.heap.size).add 1) .i64 fun x53 =>
 Wr w7.drew (blk w1.heap.size) ∧
 Nw (w7.drew.setCell (blk w1.heap.size) (.int .i64 x32)) fun w30 =>
 Wr w30 ((blk w1.heap.size).add 1) ∧
 Nw (w30.setCell ((blk w1.heap.size).add 1) (.int .i64 x33)) fun w31 =>
 Wr w31 ((blk w1.heap.size).add 2) ∧
 Nw (w31.setCell ((blk w1.heap.size).add 2) (.int .i64 x34)) fun w32 =>
 Wr w32 ((blk w1.heap.size).add 3) ∧
 Nw (w32.setCell ((blk w1.heap.size).add 3) (.int .i64 x35)) fun w33 =>
 Wr w33 ((blk w1.heap.size).add 4) ∧
 Nw (w33.setCell ((blk w1.heap.size).add 4) (.int .i64 x36)) fun w34 =>
 Wr w34 ((blk w1.heap.size).add 5) ∧
 Nw (w34.setCell ((blk w1.heap.size).add 5) (.int .i64 x37)) fun w35 =>
 Wr w35 ((blk w1.heap.size).add 6) ∧
 Nw (w35.setCell ((blk w1.heap.size).add 6) (.int .i64 x38)) fun w36 =>
 Wr w36 ((blk w1.heap.size).add 7) ∧
 Nw (w36.setCell ((blk w1.heap.size).add 7) (.int .i64 x39)) fun w37 =>
 Wr w37 ((blk w1.heap.size).add 8) ∧
 Nw (w37.setCell ((blk w1.heap.size).add 8) (.int .i64 x40)) fun w38 =>
 Wr w38 ((blk w1.heap.size).add 9) ∧
 Nw (w38.setCell ((blk w1.heap.size).add 9) (.int .i64 x41)) fun w39 =>
 Wr w39 ((blk w1.heap.size).add 10) ∧
 Nw (w39.setCell ((blk w1.heap.size).add 10) (.int .i64 x42)) fun w40 =>
 Wr w40 ((blk w1.heap.size).add 11) ∧
 Nw (w40.setCell ((blk w1.heap.size).add 11) (.int .i64 x43)) fun w41 =>
 Wr w41 ((blk w1.heap.size).add 12) ∧
 Nw (w41.setCell ((blk w1.heap.size).add 12) (.int .i64 x44)) fun w42 =>
 Wr w42 ((blk w1.heap.size).add 13) ∧
 Nw (w42.setCell ((blk w1.heap.size).add 13) (.int .i64 x45)) fun w43 =>
 Wr w43 ((blk w1.heap.size).add 14) ∧
 Nw (w43.setCell ((blk w1.heap.size).add 14) (.int .i64 x46)) fun w44 =>
 Wr w44 ((blk w1.heap.size).add 15) ∧
 Nw (w44.setCell ((blk w1.heap.size).add 15) (.int .i64 x47)) fun w45 =>
 Wr w45 ((blk w1.heap.size).add 16) ∧
 Nw (w45.setCell ((blk w1.heap.size).add 16) (.int .i64 x48)) fun w46 =>
 Wr w46 ((blk w1.heap.size).add 17) ∧
 Nw (w46.setCell ((blk w1.heap.size).add 17) (.int .i64 x49)) fun w47 =>
 Wr w47 ((blk w1.heap.size).add 18) ∧
 Nw (w47.setCell ((blk w1.heap.size).add 18) (.int .i64 x50)) fun w48 =>
 Wr w48 ((blk w1.heap.size).add 19) ∧
 Nw (w48.setCell ((blk w1.heap.size).add 19) (.int .i64 x51)) fun w49 =>
 w49.cell? ((blk w4.heap.size).add 0) = some (.int .i64 x52) ∧
 w49.cell? ((blk w4.heap.size).add 1) = some (.int .i64 x53) ∧
 Wr w49 (blk w2.heap.size) ∧
 Nw (w49.setCell (blk w2.heap.size) (.int .i64 x52)) fun w50 =>
 Wr w50 ((blk w2.heap.size).add 1) ∧
 Nw (w50.setCell ((blk w2.heap.size).add 1) (.int .i64 x53)) fun w51 =>
 ldI w51 ((blk w1.heap.size).add 0) .i64 fun x54 =>
 ldI w51 ((blk w1.heap.size).add 1) .i64 fun x55 =>
 ldI w51 ((blk w1.heap.size).add 2) .i64 fun x56 =>
 ldI w51 ((blk w1.heap.size).add 3) .i64 fun x57 =>
 ldI w51 ((blk w1.heap.size).add 4) .i64 fun x58 =>
 ldI w51 ((blk w1.heap.size).add 5) .i64 fun x59 =>
 ldI w51 ((blk w1.heap.size).add 6) .i64 fun x60 =>
 ldI w51 ((blk w1.heap.size).add 7) .i64 fun x61 =>
 ldI w51 ((blk w1.heap.size).add 8) .i64 fun x62 =>
 ldI w51 ((blk w1.heap.size).add 9) .i64 fun x63 =>
 ldI w51 ((blk w1.heap.size).add 10) .i64 fun x64 =>
 ldI w51 ((blk w1.heap.size).add 11) .i64 fun x65 =>
 ldI w51 ((blk w1.heap.size).add 12) .i64 fun x66 =>
 ldI w51 ((blk w1.heap.size).add 13) .i64 fun x67 =>
 ldI w51 ((blk w1.heap.size).add 14) .i64 fun x68 =>
 ldI w51 ((blk w1.heap.size).add 15) .i64 fun x69 =>
 ldI w51 ((blk w1.heap.size).add 16) .i64 fun x70 =>
 ldI w51 ((blk w1.heap.size).add 17) .i64 fun x71 =>
 ldI w51 ((blk w1.heap.size).add 18) .i64 fun x72 =>
 ldI w51 ((blk w1.heap.size).add 19) .i64 fun x73 =>
 ldI w51 ((blk w2.heap.size).add 0) .i64 fun x74 =>
 ldI w51 ((blk w2.heap.size).add 1) .i64 fun x75 =>
 R (.tuple #[(.agg #[(.int .i64 x54), (.int .i64 x55), (.int .i64 x56), (.int .i64 x57), (.int .i64 x58), (.int .i64 x59), (.int .i64 x60), (.int .i64 x61), (.int .i64 x62), (.int .i64 x63), (.int .i64 x64), (.int .i64 x65), (.int .i64 x66), (.int .i64 x67), (.int .i64 x68), (.int .i64 x69), (.int .i64 x70), (.int .i64 x71), (.int .i64 x72), (.int .i64 x73)]), (.agg #[(.int .i64 x74), (.int .i64 x75)])]) w51)
theorem layout_Parts_calls (p0 : (Int × Int × Sl × Unit)) (R : Value → World → Prop) (w : World) (h : L_layout_Parts p0 R w) : Calls Tryz.prog 100 #[(.agg #[(.int .u32 p0.1), (.int .u32 p0.2.1), (.slice p0.2.2.1.a p0.2.2.1.l p0.2.2.1.c)])] w (Ret R) :=
 lw_calls (fs := Tryz.fs) (an := a_layout_Parts) (args := [(.agg #[(.int .u32 p0.1), (.int .u32 p0.2.1), (.slice p0.2.2.1.a p0.2.2.1.l p0.2.2.1.c)])]) Tryz.fsOK Tryz.mixed Tryz.func100 (by kernel_rfl) (by kernel_rfl)
 (Eq.mpr (by kernel_rfl : lwFn Tryz.prog Tryz.fs Tryz.f100 a_layout_Parts [(.agg #[(.int .u32 p0.1), (.int .u32 p0.2.1), (.slice p0.2.2.1.a p0.2.2.1.l p0.2.2.1.c)])] w R = L_layout_Parts p0 R w) h)

/-- intaglio.layout.read -/
def a_layout_read : Ann := (.seq none .nil (.seq none (.seq none .nil (.seq none .nil (.cond (.seq none .nil .nil) .nil))) (.seq none .nil (.seq none (.one (.seq none .nil (.cond (.seq none .nil .nil) (.seq none .nil (.cond (.seq none .nil .nil) .nil))))) (.seq none .nil .nil)))))
def L_layout_read (p0 : (Int × Int × Sl × Unit)) (R : Value → World → Prop) (w : World) : Prop :=
 Nw (w.alloc (.cells #[(.int .u32 p0.1), (.int .u32 p0.2.1), (.slice p0.2.2.1.a p0.2.2.1.l p0.2.2.1.c)] 25)) fun w1 =>
 Nw (w1.alloc (.cells #[(.int .i64 (0 : Int)), (.int .i64 (0 : Int))] 33)) fun w2 =>
 ldI w2 ((blk w.heap.size).add 0) .u32 fun x1 =>
 ldI w2 ((blk w.heap.size).add 1) .u32 fun x2 =>
 ldS w2 ((blk w.heap.size).add 2) fun x3 =>
 callR Tryz.prog 69 #[(.agg #[(.int .u32 x1), (.int .u32 x2), (.slice x3.a x3.l x3.c)])] w2 fun v4 w3 =>
 ∃ x5 : (Int × Int × Unit), v4 = (.agg #[(.int .i64 x5.1), (.int .i64 x5.2.1)]) ∧
 Nw (w3.alloc (.cells #[(.int .i64 (0 : Int)), (.int .i64 (0 : Int))] 33)) fun w4 =>
 Wr w4 (blk w3.heap.size) ∧
 Nw (w4.setCell (blk w3.heap.size) (.int .i64 x5.1)) fun w5 =>
 Wr w5 ((blk w3.heap.size).add 1) ∧
 Nw (w5.setCell ((blk w3.heap.size).add 1) (.int .i64 x5.2.1)) fun w6 =>
 ldI w6 (blk w3.heap.size) .i64 fun x6 =>
 ifB (x6 != (0 : Int))
 (ldI w6.drew ((blk w3.heap.size).add 0) .i64 fun x7 =>
 ldI w6.drew ((blk w3.heap.size).add 1) .i64 fun x8 =>
 Wr w6.drew (blk w1.heap.size) ∧
 Nw (w6.drew.setCell (blk w1.heap.size) (.int .i64 x7)) fun w7 =>
 Wr w7 ((blk w1.heap.size).add 1) ∧
 Nw (w7.setCell ((blk w1.heap.size).add 1) (.int .i64 x8)) fun w8 =>
 ldI w8 ((blk w1.heap.size).add 0) .i64 fun x9 =>
 ldI w8 ((blk w1.heap.size).add 1) .i64 fun x10 =>
 R (.tuple #[(.pointer none), (.agg #[(.int .i64 x9), (.int .i64 x10)])]) w8)
 (ldS w6 ((blk w.heap.size).add 2) fun x11 =>
 Nw (w6.alloc (.cells (List.toArray ([(.slice x11.a x11.l x11.c)] ++ List.replicate 21 (.int .i64 (0 : Int)) ++ [(.slice none 0 0)])) 151)) fun w9 =>
 callR Tryz.prog 140 #[(.pointer (some (blk w6.heap.size)))] w9 fun v12 w10 =>
 ∃ x13 : Bool, v12 = (.bool x13) ∧
 ifB x13
 (Wr w10 (blk w1.heap.size) ∧
 Nw (w10.setCell (blk w1.heap.size) (.int .i64 (0 : Int))) fun w11 =>
 Wr w11 ((blk w1.heap.size).add 1) ∧
 Nw (w11.setCell ((blk w1.heap.size).add 1) (.int .i64 (0 : Int))) fun w12 =>
 ldI w12 ((blk w1.heap.size).add 0) .i64 fun x14 =>
 ldI w12 ((blk w1.heap.size).add 1) .i64 fun x15 =>
 R (.tuple #[(.pointer (some (blk w6.heap.size))), (.agg #[(.int .i64 x14), (.int .i64 x15)])]) w12)
 (ldI w10.drew ((blk w6.heap.size).add 1) .i64 fun x16 =>
 ldS w10.drew ((blk w.heap.size).add 2) fun x17 =>
 ifB (decide (x16 < (x17.l : Int)))
 (ldI w10.drew.drew ((blk w6.heap.size).add 1) .i64 fun x18 =>
 Wr w10.drew.drew (blk w1.heap.size) ∧
 Nw (w10.drew.drew.setCell (blk w1.heap.size) (.int .i64 (50 : Int))) fun w13 =>
 Wr w13 ((blk w1.heap.size).add 1) ∧
 Nw (w13.setCell ((blk w1.heap.size).add 1) (.int .i64 x18)) fun w14 =>
 ldI w14 ((blk w1.heap.size).add 0) .i64 fun x19 =>
 ldI w14 ((blk w1.heap.size).add 1) .i64 fun x20 =>
 R (.tuple #[(.pointer none), (.agg #[(.int .i64 x19), (.int .i64 x20)])]) w14)
 (ldI w10.drew.drew ((blk w6.heap.size).add 1) .i64 fun x21 =>
 Wr w10.drew.drew (blk w1.heap.size) ∧
 Nw (w10.drew.drew.setCell (blk w1.heap.size) (.int .i64 (51 : Int))) fun w15 =>
 Wr w15 ((blk w1.heap.size).add 1) ∧
 Nw (w15.setCell ((blk w1.heap.size).add 1) (.int .i64 x21)) fun w16 =>
 ldI w16 ((blk w1.heap.size).add 0) .i64 fun x22 =>
 ldI w16 ((blk w1.heap.size).add 1) .i64 fun x23 =>
 R (.tuple #[(.pointer none), (.agg #[(.int .i64 x22), (.int .i64 x23)])]) w16)))
theorem layout_read_calls (p0 : (Int × Int × Sl × Unit)) (R : Value → World → Prop) (w : World) (h : L_layout_read p0 R w) : Calls Tryz.prog 103 #[(.agg #[(.int .u32 p0.1), (.int .u32 p0.2.1), (.slice p0.2.2.1.a p0.2.2.1.l p0.2.2.1.c)])] w (Ret R) :=
 lw_calls (fs := Tryz.fs) (an := a_layout_read) (args := [(.agg #[(.int .u32 p0.1), (.int .u32 p0.2.1), (.slice p0.2.2.1.a p0.2.2.1.l p0.2.2.1.c)])]) Tryz.fsOK Tryz.mixed Tryz.func103 (by kernel_rfl) (by kernel_rfl)
 (Eq.mpr (by kernel_rfl : lwFn Tryz.prog Tryz.fs Tryz.f103 a_layout_read [(.agg #[(.int .u32 p0.1), (.int .u32 p0.2.1), (.slice p0.2.2.1.a p0.2.2.1.l p0.2.2.1.c)])] w R = L_layout_read p0 R w) h)

/-- (*intaglio.layout.cutter).cut -/
def a_layout_cutter_cut : Ann := (.seq none .nil (.one (.seq none (.seq none .nil (.cond (.seq none .nil .nil) .nil)) (.seq none .nil (.seq none .nil (.loop ⟨[0], []⟩ (.seq none (.seq none .nil (.cond (.seq none .nil .nil) .nil)) (.seq none (.seq none .nil (.cond (.seq none .nil .nil) .nil)) (.seq none .nil (.seq none .nil (.seq none .nil (.seq none .nil (.seq none (.one (.loop ⟨[0, 3], []⟩ (.seq none (.seq none .nil (.cond .nil .nil)) (.one (.seq none (.seq none .nil (.cond (.seq none .nil .nil) .nil)) .nil))))) (.seq (some ⟨[0, 3], []⟩) (.seq none .nil (.cond (.seq none .nil .nil) .nil)) (.seq none .nil (.seq none .nil (.seq none .nil .nil)))))))))))))))))
def L_layout_cutter_cut (p0 : Option Addr) (R : Value → World → Prop) (w : World) : Prop :=
 callR Tryz.prog 172 #[(.pointer p0)] w fun v1 w1 =>
 ∃ x2 : Bool, v1 = (.bool x2) ∧
 ifB (!x2)
 (R (.bool false) w1)
 (derefP p0 fun a3 =>
 ldI w1.drew (a3.add 1) .i64 fun x4 =>
 derefP p0 fun a5 =>
 ldS w1.drew a5 fun x6 =>
 derefP p0 fun a7 =>
 (0 ≤ (8 : Int) ∧ (8 : Int) < (10 : Int)) ∧
 Wr w1.drew ((a7.add 2).add (8 * 2)) ∧
 Nw (w1.drew.setCell ((a7.add 2).add (8 * 2)) (.int .i64 x4)) fun w2 =>
 Wr w2 (((a7.add 2).add (8 * 2)).add 1) ∧
 Nw (w2.setCell (((a7.add 2).add (8 * 2)).add 1) (.int .i64 (x6.l : Int))) fun w3 =>
 derefP p0 fun a8 =>
 ldS w3.drew a8 fun x9 =>
 derefP p0 fun a10 =>
 ldS w3.drew a10 fun x11 =>
 derefP p0 fun a12 =>
 (0 ≤ (9 : Int) ∧ (9 : Int) < (10 : Int)) ∧
 Wr w3.drew ((a12.add 2).add (9 * 2)) ∧
 Nw (w3.drew.setCell ((a12.add 2).add (9 * 2)) (.int .i64 (x9.l : Int))) fun w4 =>
 Wr w4 (((a12.add 2).add (9 * 2)).add 1) ∧
 Nw (w4.setCell (((a12.add 2).add (9 * 2)).add 1) (.int .i64 (x11.l : Int))) fun w5 =>
 LoopW (S := Unit) (fun s13 w6 n14 =>
 callR Tryz.prog 173 #[(.pointer p0)] w6 fun v15 w7 =>
 ∃ x16 : Int, v15 = (.int .i64 x16) ∧
 ifB (decide (x16 < (0 : Int)))
 (R (.bool true) w7)
 (callR Tryz.prog 173 #[(.pointer p0)] w7 fun v17 w8 =>
 ∃ x18 : Int, v17 = (.int .i64 x18) ∧
 ifB (x18 != (1 : Int))
 (R (.bool false) w8)
 (derefP p0 fun a19 =>
 ldS w8.drew a19 fun x20 =>
 derefP p0 fun a21 =>
 ldI w8.drew (a21.add 1) .i64 fun x22 =>
 (0 ≤ x22 ∧ x22 < (x20.l : Int)) ∧
 derefP x20.a fun a23 =>
 ldI w8.drew ((a23.add ((Int.toNat x22) * 4)).add 2) .u32 fun x24 =>
 derefP p0 fun a25 =>
 ldI w8.drew (a25.add 1) .i64 fun x26 =>
 Nw (w8.drew.alloc (.cells #[(.int .u32 (0 : Int)), (.int .i64 (0 : Int)), (.slice none 0 0), (.slice none 0 0), (.int .i64 (0 : Int))] 29)) fun w9 =>
 w9.cell? (a25.add 1) = some (.int .i64 x26) ∧
 w9.cell? ((a23.add ((Int.toNat x22) * 4)).add 2) = some (.int .u32 x24) ∧
 w9.cell? (a21.add 1) = some (.int .i64 x22) ∧
 w9.cell? a19 = some (.slice x20.a x20.l x20.c) ∧
 Wr w9 (blk w8.drew.heap.size) ∧
 Nw (w9.setCell (blk w8.drew.heap.size) (.int .u32 x24)) fun w10 =>
 Wr w10 ((blk w8.drew.heap.size).add 1) ∧
 Nw (w10.setCell ((blk w8.drew.heap.size).add 1) (.int .i64 x26)) fun w11 =>
 Wr w11 ((blk w8.drew.heap.size).add 2) ∧
 Nw (w11.setCell ((blk w8.drew.heap.size).add 2) (.slice none 0 0)) fun w12 =>
 Wr w12 ((blk w8.drew.heap.size).add 3) ∧
 Nw (w12.setCell ((blk w8.drew.heap.size).add 3) (.slice none 0 0)) fun w13 =>
 Wr w13 ((blk w8.drew.heap.size).add 4) ∧
 Nw (w13.setCell ((blk w8.drew.heap.size).add 4) (.int .i64 (0 : Int))) fun w14 =>
 derefP p0 fun a27 =>
 ldI w14 (a27.add 1) .i64 fun x28 =>
 derefP p0 fun a29 =>
 Wr w14 (a29.add 1) ∧
 Nw (w14.setCell (a29.add 1) (.int .i64 (IntKind.i64.wrap (x28 + (1 : Int))))) fun w15 =>
 callR Tryz.prog 174 #[(.pointer p0), (.int .i64 (2 : Int))] w15 fun v30 w16 =>
 ∃ x31 : Sl, v30 = (.slice x31.a x31.l x31.c) ∧
 Wr w16 ((blk w8.drew.heap.size).add 2) ∧
 Nw (w16.setCell ((blk w8.drew.heap.size).add 2) (.slice x31.a x31.l x31.c)) fun w17 =>
 LoopW (S := Unit) (fun s32 w18 n33 =>
 callR Tryz.prog 173 #[(.pointer p0)] w18 fun v34 w19 =>
 ∃ x35 : Int, v34 = (.int .i64 x35) ∧
 ifB (x35 == (3 : Int))
 (callR Tryz.prog 175 #[(.pointer p0), (.pointer (some (blk w8.drew.heap.size)))] w19 fun v36 w20 =>
 ∃ x37 : Bool, v36 = (.bool x37) ∧
 ifB (!x37)
 (R (.bool false) w20)
 (n33 (()) w20))
 (JoinW (S := Unit) (fun m38 =>
 ldS w19 ((blk w8.drew.heap.size).add 3) fun x40 =>
 ifB ((x40.l : Int) == (0 : Int))
 (R (.bool false) w19)
 (callR Tryz.prog 173 #[(.pointer p0)] w19 fun v41 w21 =>
 ∃ x42 : Int, v41 = (.int .i64 x42) ∧
 ifB (x42 != (8 : Int))
 (R (.bool false) w21)
 (m38 (()) w21)))
 (fun s39 w22 =>
 derefP p0 fun a43 =>
 ldI w22 (a43.add 1) .i64 fun x44 =>
 Wr w22 ((blk w8.drew.heap.size).add 4) ∧
 Nw (w22.setCell ((blk w8.drew.heap.size).add 4) (.int .i64 x44)) fun w23 =>
 derefP p0 fun a45 =>
 ldI w23 (a45.add 1) .i64 fun x46 =>
 derefP p0 fun a47 =>
 Wr w23 (a47.add 1) ∧
 Nw (w23.setCell (a47.add 1) (.int .i64 (IntKind.i64.wrap (x46 + (1 : Int))))) fun w24 =>
 derefP p0 fun a48 =>
 ldS w24.drew (a48.add 22) fun x49 =>
 ldI w24.drew ((blk w8.drew.heap.size).add 0) .u32 fun x50 =>
 ldI w24.drew ((blk w8.drew.heap.size).add 1) .i64 fun x51 =>
 ldS w24.drew ((blk w8.drew.heap.size).add 2) fun x52 =>
 ldS w24.drew ((blk w8.drew.heap.size).add 3) fun x53 =>
 ldI w24.drew ((blk w8.drew.heap.size).add 4) .i64 fun x54 =>
 Nw (w24.drew.alloc (.cells #[(.int .u32 x50), (.int .i64 x51), (.slice x52.a x52.l x52.c), (.slice x53.a x53.l x53.c), (.int .i64 x54)] 29)) fun w25 =>
 w25.cell? (a48.add 22) = some (.slice x49.a x49.l x49.c) ∧
 appendS Tryz.prog 30 (.slice x49.a x49.l x49.c) (.slice (some (blk w24.drew.heap.size)) 1 1) w25 fun r55 w26 =>
 derefP p0 fun a56 =>
 Wr w26 (a56.add 22) ∧
 Nw (w26.setCell (a56.add 22) (.slice r55.a r55.l r55.c)) fun w27 =>
 n14 (()) w27)))
 (()) w17)))
 (()) w5)
theorem layout_cutter_cut_calls (p0 : Option Addr) (R : Value → World → Prop) (w : World) (h : L_layout_cutter_cut p0 R w) : Calls Tryz.prog 140 #[(.pointer p0)] w (Ret R) :=
 lwJ_calls (l := 0) (fs := Tryz.fs) (an := a_layout_cutter_cut) (args := [(.pointer p0)]) Tryz.fsOK Tryz.mixed Tryz.func140 (by kernel_rfl) (by kernel_rfl)
 (Eq.mpr (by kernel_rfl : lwJFn Tryz.prog Tryz.fs 0 Tryz.f140 a_layout_cutter_cut [(.pointer p0)] w R = L_layout_cutter_cut p0 R w) h)

/-- (*intaglio.layout.cutter).top -/
def a_layout_cutter_top : Ann := (.seq none .nil (.seq none (.seq none .nil (.one (.loop ⟨[0], [(5, (.b (.int .u8)))]⟩ (.seq none .nil (.seq none (.cond .nil .nil) (.seq (some ⟨[0, 5], []⟩) (.one (.seq none .nil (.seq none .nil (.seq (some ⟨[0, 3, 4, 5], []⟩) (.one (.loop ⟨[0, 3, 4, 5], []⟩ (.seq (some ⟨[0, 3, 4, 5], []⟩) (.seq none .nil (.cond .nil .nil)) (.one (.seq none .nil (.seq none .nil (.cond .nil .nil))))))) (.seq none .nil (.seq none .nil (.cond (.seq none .nil .nil) .nil))))))) .nil)))))) (.seq none .nil .nil)))
def L_layout_cutter_top (p0 : Option Addr) (R : Value → World → Prop) (w : World) : Prop :=
 LoopW (S := Int × Unit) (fun s1 w1 n2 =>
 ifB (decide (s1.1 < (8 : Int)))
 (JoinW (S := Unit) (fun m3 =>
 derefP p0 fun a5 =>
 ldI w1 (a5.add 1) .i64 fun x6 =>
 JoinW (S := Unit) (fun m7 =>
 LoopW (S := Unit) (fun s9 w2 n10 =>
 JoinW (S := Unit) (fun m11 =>
 callR Tryz.prog 173 #[(.pointer p0)] w2.drew fun v13 w3 =>
 ∃ x14 : Int, v13 = (.int .i64 x14) ∧
 ifB (x14 == (9 : Int))
 (derefP p0 fun a15 =>
 ldS w3 a15 fun x16 =>
 derefP p0 fun a17 =>
 ldI w3 (a17.add 1) .i64 fun x18 =>
 (0 ≤ x18 ∧ x18 < (x16.l : Int)) ∧
 derefP x16.a fun a19 =>
 ldI w3 ((a19.add ((Int.toNat x18) * 4)).add 0) .u16 fun x20 =>
 ldI w3 ((a19.add ((Int.toNat x18) * 4)).add 1) .u32 fun x21 =>
 ldI w3 ((a19.add ((Int.toNat x18) * 4)).add 2) .u32 fun x22 =>
 ldS w3 ((a19.add ((Int.toNat x18) * 4)).add 3) fun x23 =>
 callR Tryz.prog 226 #[(.agg #[(.int .u16 x20), (.int .u32 x21), (.int .u32 x22), (.slice x23.a x23.l x23.c)])] w3 fun v24 w4 =>
 ∃ x25 : Int, v24 = (.int .u8 x25) ∧
 ifB (x25 == s1.1)
 (m11 (()) w4)
 (m7 (()) w4))
 (m7 (()) w3))
 (fun s12 w5 =>
 derefP p0 fun a26 =>
 ldI w5 (a26.add 1) .i64 fun x27 =>
 derefP p0 fun a28 =>
 Wr w5 (a28.add 1) ∧
 Nw (w5.setCell (a28.add 1) (.int .i64 (IntKind.i64.wrap (x27 + (1 : Int))))) fun w6 =>
 ifB (s1.1 == (1 : Int))
 (m7 (()) w6)
 (n10 (()) w6)))
 (()) w1)
 (fun s8 w7 =>
 derefP p0 fun a29 =>
 ldI w7.drew (a29.add 1) .i64 fun x30 =>
 derefP p0 fun a31 =>
 (0 ≤ s1.1 ∧ s1.1 < (10 : Int)) ∧
 Wr w7.drew ((a31.add 2).add ((Int.toNat s1.1) * 2)) ∧
 Nw (w7.drew.setCell ((a31.add 2).add ((Int.toNat s1.1) * 2)) (.int .i64 x6)) fun w8 =>
 Wr w8 (((a31.add 2).add ((Int.toNat s1.1) * 2)).add 1) ∧
 Nw (w8.setCell (((a31.add 2).add ((Int.toNat s1.1) * 2)).add 1) (.int .i64 x30)) fun w9 =>
 ifB (s1.1 == (1 : Int))
 (derefP p0 fun a32 =>
 ldI w9 (a32.add 1) .i64 fun x33 =>
 ifB (x33 == x6)
 (R (.bool false) w9)
 (m3 (()) w9))
 (m3 (()) w9)))
 (fun s4 w10 =>
 n2 ((IntKind.u8.wrap (s1.1 + (1 : Int))), ()) w10))
 (R (.bool true) w1))
 ((0 : Int), ()) w
theorem layout_cutter_top_calls (p0 : Option Addr) (R : Value → World → Prop) (w : World) (h : L_layout_cutter_top p0 R w) : Calls Tryz.prog 172 #[(.pointer p0)] w (Ret R) :=
 lw_calls (fs := Tryz.fs) (an := a_layout_cutter_top) (args := [(.pointer p0)]) Tryz.fsOK Tryz.mixed Tryz.func172 (by kernel_rfl) (by kernel_rfl)
 (Eq.mpr (by kernel_rfl : lwFn Tryz.prog Tryz.fs Tryz.f172 a_layout_cutter_top [(.pointer p0)] w R = L_layout_cutter_top p0 R w) h)

/-- (*intaglio.layout.cutter).next -/
def a_layout_cutter_next : Ann := (.seq none .nil (.seq none (.seq none .nil (.cond (.seq none .nil .nil) .nil)) (.seq none .nil .nil)))
def L_layout_cutter_next (p0 : Option Addr) (R : Value → World → Prop) (w : World) : Prop :=
 derefP p0 fun a1 =>
 ldI w.drew (a1.add 1) .i64 fun x2 =>
 derefP p0 fun a3 =>
 ldS w.drew a3 fun x4 =>
 ifB (x2 == (x4.l : Int))
 (R (.int .i64 (-1 : Int)) w.drew)
 (derefP p0 fun a5 =>
 ldS w.drew.drew a5 fun x6 =>
 derefP p0 fun a7 =>
 ldI w.drew.drew (a7.add 1) .i64 fun x8 =>
 (0 ≤ x8 ∧ x8 < (x6.l : Int)) ∧
 derefP x6.a fun a9 =>
 ldI w.drew.drew ((a9.add ((Int.toNat x8) * 4)).add 0) .u16 fun x10 =>
 ldI w.drew.drew ((a9.add ((Int.toNat x8) * 4)).add 1) .u32 fun x11 =>
 ldI w.drew.drew ((a9.add ((Int.toNat x8) * 4)).add 2) .u32 fun x12 =>
 ldS w.drew.drew ((a9.add ((Int.toNat x8) * 4)).add 3) fun x13 =>
 callR Tryz.prog 227 #[(.agg #[(.int .u16 x10), (.int .u32 x11), (.int .u32 x12), (.slice x13.a x13.l x13.c)])] w.drew.drew fun v14 w1 =>
 ∃ x15 : Int, v14 = (.int .i64 x15) ∧
 R (.int .i64 x15) w1)
theorem layout_cutter_next_calls (p0 : Option Addr) (R : Value → World → Prop) (w : World) (h : L_layout_cutter_next p0 R w) : Calls Tryz.prog 173 #[(.pointer p0)] w (Ret R) :=
 lw_calls (fs := Tryz.fs) (an := a_layout_cutter_next) (args := [(.pointer p0)]) Tryz.fsOK Tryz.mixed Tryz.func173 (by kernel_rfl) (by kernel_rfl)
 (Eq.mpr (by kernel_rfl : lwFn Tryz.prog Tryz.fs Tryz.f173 a_layout_cutter_next [(.pointer p0)] w R = L_layout_cutter_next p0 R w) h)

/-- (*intaglio.layout.cutter).row -/
def a_layout_cutter_row : Ann := (.seq none .nil (.seq none .nil (.seq none (.one (.loop ⟨[0, 1], [(5, (.b .slice))]⟩ (.seq none (.seq none .nil (.cond .nil .nil)) (.one (.seq none .nil .nil))))) (.seq none .nil .nil))))
def L_layout_cutter_row (p0 : Option Addr) (p1 : Int) (R : Value → World → Prop) (w : World) : Prop :=
 LoopW (S := Sl × Unit) (fun s1 w1 n2 =>
 callR Tryz.prog 173 #[(.pointer p0)] w1 fun v3 w2 =>
 ∃ x4 : Int, v3 = (.int .i64 x4) ∧
 ifB (x4 == p1)
 (derefP p0 fun a5 =>
 ldI w2 (a5.add 1) .i64 fun x6 =>
 Nw (w2.alloc (.cells #[(.int .i64 x6)] 3)) fun w3 =>
 appendS Tryz.prog 26 (.slice s1.1.a s1.1.l s1.1.c) (.slice (some (blk w2.heap.size)) 1 1) w3 fun r7 w4 =>
 derefP p0 fun a8 =>
 ldI w4 (a8.add 1) .i64 fun x9 =>
 derefP p0 fun a10 =>
 Wr w4 (a10.add 1) ∧
 Nw (w4.setCell (a10.add 1) (.int .i64 (IntKind.i64.wrap (x9 + (1 : Int))))) fun w5 =>
 n2 (r7, ()) w5)
 (R (.slice s1.1.a s1.1.l s1.1.c) w2))
 ((Sl.mk none 0 0), ()) w
theorem layout_cutter_row_calls (p0 : Option Addr) (p1 : Int) (R : Value → World → Prop) (w : World) (h : L_layout_cutter_row p0 p1 R w) : Calls Tryz.prog 174 #[(.pointer p0), (.int .i64 p1)] w (Ret R) :=
 lw_calls (fs := Tryz.fs) (an := a_layout_cutter_row) (args := [(.pointer p0), (.int .i64 p1)]) Tryz.fsOK Tryz.mixed Tryz.func174 (by kernel_rfl) (by kernel_rfl)
 (Eq.mpr (by kernel_rfl : lwFn Tryz.prog Tryz.fs Tryz.f174 a_layout_cutter_row [(.pointer p0), (.int .i64 p1)] w R = L_layout_cutter_row p0 p1 R w) h)

/-- (*intaglio.layout.cutter).block -/
def a_layout_cutter_block : Ann := (.seq none .nil (.seq none .nil (.seq none .nil (.seq (some ⟨[0, 1, 5], []⟩) (.seq none .nil (.cond .nil .nil)) (.seq none .nil (.seq none (.seq none .nil (.one (.seq (some ⟨[0, 1, 5], []⟩) (.one (.seq none (.one (.seq none (.seq none (.seq none .nil (.cond .nil .nil)) (.seq none .nil (.cond .nil .nil))) .nil)) (.seq none .nil (.seq none .nil (.cond (.seq none .nil .nil) .nil))))) (.seq none (.seq none .nil (.seq none .nil (.seq none .nil (.seq none .nil .nil)))) .nil)))) (.seq none .nil .nil)))))))
def L_layout_cutter_block (p0 : Option Addr) (p1 : Option Addr) (R : Value → World → Prop) (w : World) : Prop :=
 derefP p0 fun a1 =>
 ldS w.drew a1 fun x2 =>
 derefP p0 fun a3 =>
 ldI w.drew (a3.add 1) .i64 fun x4 =>
 (0 ≤ x4 ∧ x4 < (x2.l : Int)) ∧
 derefP x2.a fun a5 =>
 ldI w.drew ((a5.add ((Int.toNat x4) * 4)).add 2) .u32 fun x6 =>
 derefP p0 fun a7 =>
 ldI w.drew (a7.add 1) .i64 fun x8 =>
 Nw (w.drew.alloc (.cells #[(.int .u32 (0 : Int)), (.int .i64 (0 : Int)), (.int .i64 (0 : Int))] 69)) fun w1 =>
 w1.cell? (a7.add 1) = some (.int .i64 x8) ∧
 w1.cell? ((a5.add ((Int.toNat x4) * 4)).add 2) = some (.int .u32 x6) ∧
 w1.cell? (a3.add 1) = some (.int .i64 x4) ∧
 w1.cell? a1 = some (.slice x2.a x2.l x2.c) ∧
 Wr w1 (blk w.drew.heap.size) ∧
 Nw (w1.setCell (blk w.drew.heap.size) (.int .u32 x6)) fun w2 =>
 Wr w2 ((blk w.drew.heap.size).add 1) ∧
 Nw (w2.setCell ((blk w.drew.heap.size).add 1) (.int .i64 x8)) fun w3 =>
 Wr w3 ((blk w.drew.heap.size).add 2) ∧
 Nw (w3.setCell ((blk w.drew.heap.size).add 2) (.int .i64 (0 : Int))) fun w4 =>
 derefP p0 fun a9 =>
 ldI w4 (a9.add 1) .i64 fun x10 =>
 derefP p0 fun a11 =>
 Wr w4 (a11.add 1) ∧
 Nw (w4.setCell (a11.add 1) (.int .i64 (IntKind.i64.wrap (x10 + (1 : Int))))) fun w5 =>
 JoinW (S := Unit) (fun m12 =>
 derefP p1 fun a14 =>
 ldS w5 (a14.add 3) fun x15 =>
 ifB ((x15.l : Int) == (0 : Int))
 (callR Tryz.prog 174 #[(.pointer p0), (.int .i64 (5 : Int))] w5 fun v16 w6 =>
 ∃ x17 : Sl, v16 = (.slice x17.a x17.l x17.c) ∧
 m12 (()) w6)
 (callR Tryz.prog 174 #[(.pointer p0), (.int .i64 (4 : Int))] w5 fun v18 w7 =>
 ∃ x19 : Sl, v18 = (.slice x19.a x19.l x19.c) ∧
 m12 (()) w7))
 (fun s13 w8 =>
 callR Tryz.prog 174 #[(.pointer p0), (.int .i64 (0 : Int))] w8 fun v20 w9 =>
 ∃ x21 : Sl, v20 = (.slice x21.a x21.l x21.c) ∧
 callR Tryz.prog 173 #[(.pointer p0)] w9 fun v22 w10 =>
 ∃ x23 : Int, v22 = (.int .i64 x23) ∧
 JoinW (S := Unit) (fun m24 =>
 ifB (x23 == (6 : Int))
 (derefP p0 fun a26 =>
 ldI w10 (a26.add 1) .i64 fun x27 =>
 derefP p0 fun a28 =>
 Wr w10 (a28.add 1) ∧
 Nw (w10.setCell (a28.add 1) (.int .i64 (IntKind.i64.wrap (x27 + (1 : Int))))) fun w11 =>
 callR Tryz.prog 173 #[(.pointer p0)] w11.drew fun v29 w12 =>
 ∃ x30 : Int, v29 = (.int .i64 x30) ∧
 ifB (x30 != (7 : Int))
 (R (.bool false) w12)
 (derefP p0 fun a31 =>
 ldS w12 a31 fun x32 =>
 derefP p0 fun a33 =>
 ldI w12 (a33.add 1) .i64 fun x34 =>
 (0 ≤ (IntKind.i64.wrap (x34 - (1 : Int))) ∧ (IntKind.i64.wrap (x34 - (1 : Int))) < (x32.l : Int)) ∧
 derefP x32.a fun a35 =>
 ldI w12 (a35.add ((Int.toNat (IntKind.i64.wrap (x34 - (1 : Int)))) * 4)) .u16 fun x36 =>
 derefP p0 fun a37 =>
 ldS w12 a37 fun x38 =>
 derefP p0 fun a39 =>
 ldI w12 (a39.add 1) .i64 fun x40 =>
 (0 ≤ x40 ∧ x40 < (x38.l : Int)) ∧
 derefP x38.a fun a41 =>
 ldI w12 (a41.add ((Int.toNat x40) * 4)) .u16 fun x42 =>
 callR Tryz.prog 228 #[(.int .u16 x36), (.int .u16 x42)] w12 fun v43 w13 =>
 ∃ x44 : Bool, v43 = (.bool x44) ∧
 ifB (!x44)
 (R (.bool false) w13)
 (m24 (()) w13)))
 (ifB (x23 == (7 : Int))
 (m24 (()) w10)
 (R (.bool false) w10)))
 (fun s25 w14 =>
 derefP p0 fun a45 =>
 ldI w14 (a45.add 1) .i64 fun x46 =>
 derefP p0 fun a47 =>
 Wr w14 (a47.add 1) ∧
 Nw (w14.setCell (a47.add 1) (.int .i64 (IntKind.i64.wrap (x46 + (1 : Int))))) fun w15 =>
 derefP p0 fun a48 =>
 ldI w15 (a48.add 1) .i64 fun x49 =>
 Wr w15 ((blk w.drew.heap.size).add 2) ∧
 Nw (w15.setCell ((blk w.drew.heap.size).add 2) (.int .i64 x49)) fun w16 =>
 derefP p1 fun a50 =>
 ldS w16.drew (a50.add 3) fun x51 =>
 ldI w16.drew ((blk w.drew.heap.size).add 0) .u32 fun x52 =>
 ldI w16.drew ((blk w.drew.heap.size).add 1) .i64 fun x53 =>
 ldI w16.drew ((blk w.drew.heap.size).add 2) .i64 fun x54 =>
 Nw (w16.drew.alloc (.cells #[(.int .u32 x52), (.int .i64 x53), (.int .i64 x54)] 69)) fun w17 =>
 w17.cell? (a50.add 3) = some (.slice x51.a x51.l x51.c) ∧
 appendS Tryz.prog 27 (.slice x51.a x51.l x51.c) (.slice (some (blk w16.drew.heap.size)) 1 1) w17 fun r55 w18 =>
 derefP p1 fun a56 =>
 Wr w18 (a56.add 3) ∧
 Nw (w18.setCell (a56.add 3) (.slice r55.a r55.l r55.c)) fun w19 =>
 R (.bool true) w19))
theorem layout_cutter_block_calls (p0 : Option Addr) (p1 : Option Addr) (R : Value → World → Prop) (w : World) (h : L_layout_cutter_block p0 p1 R w) : Calls Tryz.prog 175 #[(.pointer p0), (.pointer p1)] w (Ret R) :=
 lw_calls (fs := Tryz.fs) (an := a_layout_cutter_block) (args := [(.pointer p0), (.pointer p1)]) Tryz.fsOK Tryz.mixed Tryz.func175 (by kernel_rfl) (by kernel_rfl)
 (Eq.mpr (by kernel_rfl : lwFn Tryz.prog Tryz.fs Tryz.f175 a_layout_cutter_block [(.pointer p0), (.pointer p1)] w R = L_layout_cutter_block p0 p1 R w) h)

/-- intaglio.layout.part -/
def a_layout_part : Ann := (.seq none .nil (.seq none (.seq none .nil (.cond (.seq none .nil .nil) .nil)) (.seq none .nil (.seq none .nil .nil))))
def L_layout_part (p0 : (Int × Int × Int × Sl × Unit)) (R : Value → World → Prop) (w : World) : Prop :=
 Nw (w.alloc (.cells #[(.int .u16 p0.1), (.int .u32 p0.2.1), (.int .u32 p0.2.2.1), (.slice p0.2.2.2.1.a p0.2.2.2.1.l p0.2.2.2.1.c)] 41)) fun w1 =>
 ldI w1 ((blk w.heap.size).add 0) .u16 fun x1 =>
 ldI w1 ((blk w.heap.size).add 1) .u32 fun x2 =>
 ldI w1 ((blk w.heap.size).add 2) .u32 fun x3 =>
 ldS w1 ((blk w.heap.size).add 3) fun x4 =>
 callR Tryz.prog 257 #[(.agg #[(.int .u16 x1), (.int .u32 x2), (.int .u32 x3), (.slice x4.a x4.l x4.c)])] w1 fun v5 w2 =>
 ∃ x6 : Bool, v5 = (.bool x6) ∧
 ifB x6
 (R (.int .u8 (8 : Int)) w2)
 (ldI w2 (blk w.heap.size) .u16 fun x7 =>
 callR Tryz.prog 168 #[(.int .u16 x7)] w2 fun v8 w3 =>
 ∃ x9 : (Int × ByteArray × Bool × Bool × ByteArray × ByteArray × Int × Int × Unit), ∃ x10 : Bool, v8 = (.tuple #[(.agg #[(.int .u16 x9.1), (.string x9.2.1), (.bool x9.2.2.1), (.bool x9.2.2.2.1), (.string x9.2.2.2.2.1), (.string x9.2.2.2.2.2.1), (.int .i64 x9.2.2.2.2.2.2.1), (.int .u8 x9.2.2.2.2.2.2.2.1)]), (.bool x10)]) ∧
 Nw (w3.alloc (.cells #[(.int .u16 (0 : Int)), (.string (ByteArray.mk #[])), (.bool false), (.bool false), (.string (ByteArray.mk #[])), (.string (ByteArray.mk #[])), (.int .i64 (0 : Int)), (.int .u8 (0 : Int))] 178)) fun w4 =>
 Wr w4 (blk w3.heap.size) ∧
 Nw (w4.setCell (blk w3.heap.size) (.int .u16 x9.1)) fun w5 =>
 Wr w5 ((blk w3.heap.size).add 1) ∧
 Nw (w5.setCell ((blk w3.heap.size).add 1) (.string x9.2.1)) fun w6 =>
 Wr w6 ((blk w3.heap.size).add 2) ∧
 Nw (w6.setCell ((blk w3.heap.size).add 2) (.bool x9.2.2.1)) fun w7 =>
 Wr w7 ((blk w3.heap.size).add 3) ∧
 Nw (w7.setCell ((blk w3.heap.size).add 3) (.bool x9.2.2.2.1)) fun w8 =>
 Wr w8 ((blk w3.heap.size).add 4) ∧
 Nw (w8.setCell ((blk w3.heap.size).add 4) (.string x9.2.2.2.2.1)) fun w9 =>
 Wr w9 ((blk w3.heap.size).add 5) ∧
 Nw (w9.setCell ((blk w3.heap.size).add 5) (.string x9.2.2.2.2.2.1)) fun w10 =>
 Wr w10 ((blk w3.heap.size).add 6) ∧
 Nw (w10.setCell ((blk w3.heap.size).add 6) (.int .i64 x9.2.2.2.2.2.2.1)) fun w11 =>
 Wr w11 ((blk w3.heap.size).add 7) ∧
 Nw (w11.setCell ((blk w3.heap.size).add 7) (.int .u8 x9.2.2.2.2.2.2.2.1)) fun w12 =>
 ldI w12 ((blk w3.heap.size).add 7) .u8 fun x11 =>
 R (.int .u8 x11) w12)
theorem layout_part_calls (p0 : (Int × Int × Int × Sl × Unit)) (R : Value → World → Prop) (w : World) (h : L_layout_part p0 R w) : Calls Tryz.prog 226 #[(.agg #[(.int .u16 p0.1), (.int .u32 p0.2.1), (.int .u32 p0.2.2.1), (.slice p0.2.2.2.1.a p0.2.2.2.1.l p0.2.2.2.1.c)])] w (Ret R) :=
 lw_calls (fs := Tryz.fs) (an := a_layout_part) (args := [(.agg #[(.int .u16 p0.1), (.int .u32 p0.2.1), (.int .u32 p0.2.2.1), (.slice p0.2.2.2.1.a p0.2.2.2.1.l p0.2.2.2.1.c)])]) Tryz.fsOK Tryz.mixed Tryz.func226 (by kernel_rfl) (by kernel_rfl)
 (Eq.mpr (by kernel_rfl : lwFn Tryz.prog Tryz.fs Tryz.f226 a_layout_part [(.agg #[(.int .u16 p0.1), (.int .u32 p0.2.1), (.int .u32 p0.2.2.1), (.slice p0.2.2.2.1.a p0.2.2.2.1.l p0.2.2.2.1.c)])] w R = L_layout_part p0 R w) h)

/-- intaglio.layout.kind -/
def a_layout_kind : Ann := (.seq none .nil (.seq none (.seq none .nil (.cond (.seq none .nil .nil) .nil)) (.seq none (.seq none .nil (.one (.seq none (.one (.one (.seq none (.one (.seq none (.one (.seq none (.one (.seq none (.one (.seq none (.one (.seq none (.one (.seq none (.seq none (.seq none .nil (.cond .nil .nil)) (.seq none (.seq none .nil (.cond .nil .nil)) (.seq none (.seq none .nil (.cond .nil .nil)) (.seq none (.seq none .nil (.cond .nil .nil)) (.seq none (.seq none .nil (.cond .nil .nil)) (.seq none (.seq none .nil (.cond .nil .nil)) (.seq none (.seq none .nil (.cond .nil .nil)) (.seq none .nil (.cond .nil .nil))))))))) .nil)) (.seq none (.seq none .nil .nil) .nil))) (.seq none (.seq none .nil .nil) .nil))) (.seq none (.seq none .nil .nil) .nil))) (.seq none (.seq none .nil .nil) .nil))) (.seq none (.seq none .nil .nil) .nil))) (.seq none (.seq none .nil .nil) .nil)))) (.seq none (.seq none .nil .nil) .nil)))) (.seq none (.seq none .nil (.cond (.seq none .nil .nil) .nil)) (.seq none .nil .nil)))))
def L_layout_kind (p0 : (Int × Int × Int × Sl × Unit)) (R : Value → World → Prop) (w : World) : Prop :=
 Nw (w.alloc (.cells #[(.int .u16 p0.1), (.int .u32 p0.2.1), (.int .u32 p0.2.2.1), (.slice p0.2.2.2.1.a p0.2.2.2.1.l p0.2.2.2.1.c)] 41)) fun w1 =>
 ldI w1 ((blk w.heap.size).add 0) .u16 fun x1 =>
 ldI w1 ((blk w.heap.size).add 1) .u32 fun x2 =>
 ldI w1 ((blk w.heap.size).add 2) .u32 fun x3 =>
 ldS w1 ((blk w.heap.size).add 3) fun x4 =>
 callR Tryz.prog 226 #[(.agg #[(.int .u16 x1), (.int .u32 x2), (.int .u32 x3), (.slice x4.a x4.l x4.c)])] w1 fun v5 w2 =>
 ∃ x6 : Int, v5 = (.int .u8 x6) ∧
 ifB (x6 != (8 : Int))
 (R (.int .i64 (9 : Int)) w2)
 (ldI w2 (blk w.heap.size) .u16 fun x7 =>
 ifB (x7 == (54 : Int))
 (R (.int .i64 (1 : Int)) w2)
 (ifB (x7 == (55 : Int))
 (R (.int .i64 (2 : Int)) w2)
 (ifB (x7 == (56 : Int))
 (R (.int .i64 (8 : Int)) w2)
 (ifB (x7 == (248 : Int))
 (R (.int .i64 (3 : Int)) w2)
 (ifB (x7 == (245 : Int))
 (R (.int .i64 (4 : Int)) w2)
 (ifB (x7 == (59 : Int))
 (R (.int .i64 (5 : Int)) w2)
 (ifB (x7 == (246 : Int))
 (R (.int .i64 (6 : Int)) w2)
 (ifB (x7 == (247 : Int))
 (R (.int .i64 (6 : Int)) w2)
 (ldI w2 (blk w.heap.size) .u16 fun x8 =>
 callR Tryz.prog 258 #[(.int .u16 x8)] w2 fun v9 w3 =>
 ∃ x10 : Bool, v9 = (.bool x10) ∧
 ifB x10
 (R (.int .i64 (7 : Int)) w3)
 (R (.int .i64 (0 : Int)) w3))))))))))
theorem layout_kind_calls (p0 : (Int × Int × Int × Sl × Unit)) (R : Value → World → Prop) (w : World) (h : L_layout_kind p0 R w) : Calls Tryz.prog 227 #[(.agg #[(.int .u16 p0.1), (.int .u32 p0.2.1), (.int .u32 p0.2.2.1), (.slice p0.2.2.2.1.a p0.2.2.2.1.l p0.2.2.2.1.c)])] w (Ret R) :=
 lw_calls (fs := Tryz.fs) (an := a_layout_kind) (args := [(.agg #[(.int .u16 p0.1), (.int .u32 p0.2.1), (.int .u32 p0.2.2.1), (.slice p0.2.2.2.1.a p0.2.2.2.1.l p0.2.2.2.1.c)])]) Tryz.fsOK Tryz.mixed Tryz.func227 (by kernel_rfl) (by kernel_rfl)
 (Eq.mpr (by kernel_rfl : lwFn Tryz.prog Tryz.fs Tryz.f227 a_layout_kind [(.agg #[(.int .u16 p0.1), (.int .u32 p0.2.1), (.int .u32 p0.2.2.1), (.slice p0.2.2.2.1.a p0.2.2.2.1.l p0.2.2.2.1.c)])] w R = L_layout_kind p0 R w) h)

/-- intaglio.layout.may -/
def a_layout_may : Ann := (.seq none .nil (.seq none (.seq none .nil (.one (.seq none .nil (.cond (.seq none .nil .nil) (.seq none .nil (.cond (.seq none .nil .nil) (.seq none .nil (.cond (.seq none .nil .nil) .nil)))))))) (.seq none .nil .nil)))
def L_layout_may (p0 : Int) (p1 : Int) (R : Value → World → Prop) (w : World) : Prop :=
 ifB (p1 == (251 : Int))
 (R (.bool (p0 == (247 : Int))) w)
 (ifB (p1 == (249 : Int))
 (R (.bool (p0 == (246 : Int))) w)
 (ifB (p1 == (250 : Int))
 (R (.bool true) w)
 (R (.bool false) w)))
theorem layout_may_calls (p0 : Int) (p1 : Int) (R : Value → World → Prop) (w : World) (h : L_layout_may p0 p1 R w) : Calls Tryz.prog 228 #[(.int .u16 p0), (.int .u16 p1)] w (Ret R) :=
 lw_calls (fs := Tryz.fs) (an := a_layout_may) (args := [(.int .u16 p0), (.int .u16 p1)]) Tryz.fsOK Tryz.mixed Tryz.func228 (by kernel_rfl) (by kernel_rfl)
 (Eq.mpr (by kernel_rfl : lwFn Tryz.prog Tryz.fs Tryz.f228 a_layout_may [(.int .u16 p0), (.int .u16 p1)] w R = L_layout_may p0 p1 R w) h)

/-- intaglio.layout.variable -/
def a_layout_variable : Ann := (.seq none .nil (.seq none .nil .nil))
def L_layout_variable (p0 : (Int × Int × Int × Sl × Unit)) (R : Value → World → Prop) (w : World) : Prop :=
 Nw (w.alloc (.cells #[(.int .u16 p0.1), (.int .u32 p0.2.1), (.int .u32 p0.2.2.1), (.slice p0.2.2.2.1.a p0.2.2.2.1.l p0.2.2.2.1.c)] 41)) fun w1 =>
 ldI w1 (blk w.heap.size) .u16 fun x1 =>
 ifB (x1 == (59 : Int))
 (ldS w1 ((blk w.heap.size).add 3) fun x2 =>
 ifB (decide ((x2.l : Int) > (0 : Int)))
 (ldS w1 ((blk w.heap.size).add 3) fun x3 =>
 (0 ≤ (0 : Int) ∧ (0 : Int) < (x3.l : Int)) ∧
 derefP x3.a fun a4 =>
 ldI w1 ((a4.add (0 * 3)).add 1) .u32 fun x5 =>
 R (.bool (x5 == (7 : Int))) w1)
 (R (.bool false) w1))
 (R (.bool false) w1)
theorem layout_variable_calls (p0 : (Int × Int × Int × Sl × Unit)) (R : Value → World → Prop) (w : World) (h : L_layout_variable p0 R w) : Calls Tryz.prog 257 #[(.agg #[(.int .u16 p0.1), (.int .u32 p0.2.1), (.int .u32 p0.2.2.1), (.slice p0.2.2.2.1.a p0.2.2.2.1.l p0.2.2.2.1.c)])] w (Ret R) :=
 lw_calls (fs := Tryz.fs) (an := a_layout_variable) (args := [(.agg #[(.int .u16 p0.1), (.int .u32 p0.2.1), (.int .u32 p0.2.2.1), (.slice p0.2.2.2.1.a p0.2.2.2.1.l p0.2.2.2.1.c)])]) Tryz.fsOK Tryz.mixed Tryz.func257 (by kernel_rfl) (by kernel_rfl)
 (Eq.mpr (by kernel_rfl : lwFn Tryz.prog Tryz.fs Tryz.f257 a_layout_variable [(.agg #[(.int .u16 p0.1), (.int .u32 p0.2.1), (.int .u32 p0.2.2.1), (.slice p0.2.2.2.1.a p0.2.2.2.1.l p0.2.2.2.1.c)])] w R = L_layout_variable p0 R w) h)

/-- intaglio.layout.Ends -/
def a_layout_Ends : Ann := (.seq none .nil (.seq none .nil .nil))
def L_layout_Ends (p0 : Int) (R : Value → World → Prop) (w : World) : Prop :=
 ifB (decide (p0 ≥ (249 : Int)))
 (R (.bool (decide (p0 ≤ (255 : Int)))) w)
 (R (.bool false) w)
theorem layout_Ends_calls (p0 : Int) (R : Value → World → Prop) (w : World) (h : L_layout_Ends p0 R w) : Calls Tryz.prog 258 #[(.int .u16 p0)] w (Ret R) :=
 lw_calls (fs := Tryz.fs) (an := a_layout_Ends) (args := [(.int .u16 p0)]) Tryz.fsOK Tryz.mixed Tryz.func258 (by kernel_rfl) (by kernel_rfl)
 (Eq.mpr (by kernel_rfl : lwFn Tryz.prog Tryz.fs Tryz.f258 a_layout_Ends [(.int .u16 p0)] w R = L_layout_Ends p0 R w) h)

end Go.Proofs
namespace Go.Proofs
open Go.Gk
set_option linter.unusedVariables false
set_option maxRecDepth 100000

end Go.Proofs
