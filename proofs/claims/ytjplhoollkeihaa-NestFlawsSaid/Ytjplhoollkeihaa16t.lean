/-
  The statement NestConstructs.
-/
import Derived.Test.Ytjplhoollkeihaa16s
namespace Go.Proofs
open Go.Gk Go.RowKit Go.Gr Go.Dm

section
variable {rb gb : Nat} {nx : List (List Nat)} {ml : List Mg} {s : Sl} {w : World} {R : Value → World → Prop}
/-- The document's graph and the program's, of the same rows. -/
theorem both_open {t : Sl} {hs : List Sl} {ll : List (List Int)} {L : Option Addr → Option Addr → World → Prop} (hI : IsII w t hs ll) (h8 : ∀ l ∈ ll, 8 * l.length ≤ 281474976710656)
    (hL : ∀ p q rb gb nx w2, Below w.heap.size w w2 → PR2 w2 p rb nx → PG w2 q gb nx → (p = none ↔ q = none) → L p q w2) :
    callR Try.prog 26 #[(.slice t.a t.l t.c)] w fun v1 w1 =>
      ∃ x2 : Option Addr, ∃ x3 : Int, v1 = (.tuple #[(.pointer x2), (.int .i64 x3)]) ∧
      callR Try.prog 28 #[(.slice t.a t.l t.c)] w1 fun v4 w2 =>
      ∃ x5 : Option Addr, ∃ x6 : Int, v4 = (.tuple #[(.pointer x5), (.int .i64 x6)]) ∧
      ifB (x6 != x3) (R (.bool false) w2) (L x2 x5 w2) := by
  have non : ∀ w2, Below w.heap.size w w2 → L none none w2 := fun w2 b2 => hL none none 0 0 [] w2 b2 (fun a ha => by cases ha) PG.none Iff.rfl
  refine refOf_spec hI h8 (fun h0 => ⟨none, 2, rfl, ?_⟩) (fun h0 => ⟨none, 4, rfl, ?_⟩) (fun h0 h1 hG w1 b1 => ⟨none, 141, rfl, ?_⟩) fun h0 h1 hG w1 rb b1 hr => ⟨some (Gk.blk rb), 0, rfl, ?_⟩
  · exact graph_Of_spec hI (fun _ => ⟨none, 2, rfl, ifB_false (by decide) (non w (Below.refl _ _))⟩) (fun h => absurd h (by omega)) (fun h => absurd h (by omega)) fun h => absurd h (by omega)
  · exact graph_Of_spec hI (fun h => absurd h (by omega)) (fun _ => ⟨none, 4, rfl, ifB_false (by decide) (non w (Below.refl _ _))⟩) (fun _ h => absurd h (by omega)) fun _ h => absurd h (by omega)
  · exact graph_Of_spec (hI.below b1) (fun h => absurd h (by omega)) (fun h => absurd h (by omega)) (fun _ _ _ w2 b2 => ⟨none, 141, rfl, ifB_false (by decide) (non w2 (b1.trans (b2.mono b1.size)))⟩) fun _ _ h => absurd h hG
  · refine graph_Of_spec (hI.below b1) (fun h => absurd h (by omega)) (fun h => absurd h (by omega)) (fun _ _ h => absurd hG h) fun _ _ _ w2 gb b2 _ hg => ⟨some (Gk.blk gb), 0, rfl, ifB_false (by decide) ?_⟩
    have hx := edges_ok h0 h1 hG
    exact hL _ _ rb gb (edges ll) w2 (b1.trans (b2.mono b1.size)) (fun a ha => by cases ha; exact ⟨rfl, hx, hr.below b2⟩) (PG.some hx hg) (by simp)

open Classical in
/-- What Construct and Inner answer, as an error. -/
noncomputable def crE (N : Prop) (nx : List (List Nat)) (ml : List Mg) (h : Int) : Int := if N then 1 else if ¬ Fit nx.length ml then 2 else if ¬ (0 ≤ h ∧ h < nx.length) then 3 else if HeadM nx ml h.toNat then 0 else 5
open Classical in
noncomputable def crL (N : Prop) (nx : List (List Nat)) (ml : List Mg) (h : Int) : List Nat := if ¬ N ∧ Fit nx.length ml ∧ (0 ≤ h ∧ h < nx.length) ∧ HeadM nx ml h.toNat then consM nx ml h.toNat else []
open Classical in
noncomputable def irE (N : Prop) (nx : List (List Nat)) (ml : List Mg) (h : Int) : Int := if N then 1 else if ¬ Fit nx.length ml then 2 else if ¬ (0 ≤ h ∧ h < nx.length) then 3 else 0
theorem crE1 {h : Int} {N : Prop} (hn : N) : crE N nx ml h = 1 ∧ crL N nx ml h = [] ∧ irE N nx ml h = 1 := by simp [crE, crL, irE, hn]
theorem crE2 {h : Int} {N : Prop} (hn : ¬ N) (hf : ¬ Fit nx.length ml) : crE N nx ml h = 2 ∧ crL N nx ml h = [] ∧ irE N nx ml h = 2 := by simp [crE, crL, irE, hn, hf]
theorem crE3 {h : Int} {N : Prop} (hn : ¬ N) (hf : Fit nx.length ml) (hr : ¬ (0 ≤ h ∧ h < nx.length)) : crE N nx ml h = 3 ∧ crL N nx ml h = [] ∧ irE N nx ml h = 3 := by
  refine ⟨?_, ?_, ?_⟩
  · unfold crE; rw [if_neg hn, if_neg (fun h => h hf), if_pos hr]
  · unfold crL; rw [if_neg (fun h => hr h.2.2.1)]
  · unfold irE; rw [if_neg hn, if_neg (fun h => h hf), if_pos hr]
theorem irE0 {x : Nat} {N : Prop} (hn : ¬ N) (hf : Fit nx.length ml) (hr : x < nx.length) : irE N nx ml (x : Int) = 0 := by
  unfold irE; rw [if_neg hn, if_neg (fun h => h hf), if_neg (fun h => h ⟨by omega, by omega⟩)]
theorem crE5 {x : Nat} {N : Prop} (hn : ¬ N) (hf : Fit nx.length ml) (hr : x < nx.length) (hh : ¬ HeadM nx ml x) : crE N nx ml (x : Int) = 5 ∧ crL N nx ml (x : Int) = [] := by
  refine ⟨?_, ?_⟩
  · unfold crE; rw [if_neg hn, if_neg (fun h => h hf), if_neg (fun h => h ⟨by omega, by omega⟩), if_neg (by simpa using hh)]
  · unfold crL; rw [if_neg (fun h => hh (by simpa using h.2.2.2))]
theorem crE0 {x : Nat} {N : Prop} (hn : ¬ N) (hf : Fit nx.length ml) (hr : x < nx.length) (hh : HeadM nx ml x) : crE N nx ml (x : Int) = 0 ∧ crL N nx ml (x : Int) = consM nx ml x := by
  refine ⟨?_, ?_⟩
  · unfold crE; rw [if_neg hn, if_neg (fun h => h hf), if_neg (fun h => h ⟨by omega, by omega⟩), if_pos (by simpa using hh)]
  · unfold crL; rw [if_pos ⟨hn, hf, ⟨by omega, by omega⟩, by simpa using hh⟩]; simp

variable {p q : Option Addr}
theorem consts_call {h : Int} (hp : PR2 w p rb nx) (hq : PG w q gb nx) (hpq : p = none ↔ q = none) (hM : IsM w s ml) (h24 : 24 * ml.length ≤ 281474976710656) {K : Sl → Int → Sl → Int → World → Prop}
    (hK : ∀ x14 x19 e w7 (l : List Nat), Below w.heap.size w w7 → Own w7 3 1 x14 (l.map iN) → Own w7 3 1 x19 (l.map iN) → K x14 e x19 e w7) :
    callR Try.prog 82 #[(.pointer p), (.slice s.a s.l s.c), (.int .i64 h)] w fun v13 w5 =>
      ∃ x14 : Sl, ∃ x15 : Int, v13 = (.tuple #[(.slice x14.a x14.l x14.c), (.int .i64 x15)]) ∧
      callR Try.prog 66 #[(.slice s.a s.l s.c)] w5 fun v16 w6 =>
      ∃ x17 : Sl, v16 = (.slice x17.a x17.l x17.c) ∧
      callR Try.prog 73 #[(.pointer q), (.slice x17.a x17.l x17.c), (.int .i64 h)] w6 fun v18 w7 =>
      ∃ x19 : Sl, ∃ x20 : Int, v18 = (.tuple #[(.slice x19.a x19.l x19.c), (.int .i64 x20)]) ∧ K x14 x15 x19 x20 w7 := by
  have main : ∀ (x14 : Sl) (x15 : Int) (w5 : World), Below w.heap.size w w5 → x15 = crE (q = none) nx ml h → Own w5 3 1 x14 ((crL (q = none) nx ml h).map iN) →
      ∃ y14 : Sl, ∃ y15 : Int, (Value.tuple #[(.slice x14.a x14.l x14.c), (.int .i64 x15)]) = (.tuple #[(.slice y14.a y14.l y14.c), (.int .i64 y15)]) ∧
      callR Try.prog 66 #[(.slice s.a s.l s.c)] w5 fun v16 w6 =>
      ∃ x17 : Sl, v16 = (.slice x17.a x17.l x17.c) ∧
      callR Try.prog 73 #[(.pointer q), (.slice x17.a x17.l x17.c), (.int .i64 h)] w6 fun v18 w7 =>
      ∃ x19 : Sl, ∃ x20 : Int, v18 = (.tuple #[(.slice x19.a x19.l x19.c), (.int .i64 x20)]) ∧ K y14 y15 x19 x20 w7 := fun x14 x15 w5 b5 e5 o5 => by
    refine ⟨x14, x15, rfl, copiedM_spec (IsC.mbelow hM b5) h24 fun w6 s6 b6 _ _ m6 _ => ⟨s6, rfl, ?_⟩⟩
    have b56 := b5.trans (b6.mono b5.size)
    have z56 := b56.size
    have o6 := o5.below b6
    have fin : ∀ (x19 : Sl) (x20 : Int) (w7 : World), Below w6.heap.size w6 w7 → x20 = crE (q = none) nx ml h → Own w7 3 1 x19 ((crL (q = none) nx ml h).map iN) → ∃ y19 : Sl, ∃ y20 : Int, (Value.tuple #[(.slice x19.a x19.l x19.c), (.int .i64 x20)]) = (.tuple #[(.slice y19.a y19.l y19.c), (.int .i64 y20)]) ∧ K x14 x15 y19 y20 w7 := fun x19 x20 w7 b7 e7 o7 =>
      ⟨x19, x20, rfl, by rw [e7, e5]; exact hK x14 x19 _ w7 _ (b56.trans (b7.mono z56)) (o6.below b7) o7⟩
    have nil : ∀ {w'}, Own w' 3 1 ⟨none, 0, 0⟩ (([] : List Nat).map iN) := Own.nil _ _ _
    refine Construct_spec (hq.below b56) m6 (fun e => fin ⟨none, 0, 0⟩ 1 w6 (Below.refl _ _) (crE1 e).1.symm (by rw [(crE1 e).2.1]; exact nil)) (fun e hf w7 b7 => fin ⟨none, 0, 0⟩ 2 w7 b7 (crE2 e hf).1.symm (by rw [(crE2 e hf).2.1]; exact nil))
      (fun e hf hr w7 b7 => fin ⟨none, 0, 0⟩ 3 w7 b7 (crE3 e hf hr).1.symm (by rw [(crE3 e hf hr).2.1]; exact nil)) (fun e hf x hx hxn w7 nb g b7 hn hno => ?_) fun e hf x hx hxn w7 nb g r b7 hn hk ho o7 _ => ?_
    · subst hx
      rw [hn.kdE, hn.wxe] at hno
      have hh : ¬ HeadM nx ml x := fun hh => hno ⟨hh.2, hh.1⟩
      exact fin ⟨none, 0, 0⟩ 5 w7 b7 (crE5 e hf hxn hh).1.symm (by rw [(crE5 e hf hxn hh).2]; exact nil)
    · subst hx
      rw [hn.kdE] at hk
      rw [hn.wxe] at ho
      rw [hn.consE] at o7
      exact fin r 0 w7 b7 (crE0 e hf hxn ⟨ho, hk⟩).1.symm (by rw [(crE0 e hf hxn ⟨ho, hk⟩).2]; exact o7)
  have nil : ∀ {w'}, Own w' 3 1 ⟨none, 0, 0⟩ (([] : List Nat).map iN) := Own.nil _ _ _
  have nq : p ≠ none → q ≠ none := fun h e => h (hpq.2 e)
  refine rConstruct_spec hp hM (fun e => main ⟨none, 0, 0⟩ 1 w (Below.refl _ _) (crE1 (hpq.1 e)).1.symm (by rw [(crE1 (hpq.1 e)).2.1]; exact nil)) (fun e hf => main ⟨none, 0, 0⟩ 2 w (Below.refl _ _) (crE2 (nq e) hf).1.symm (by rw [(crE2 (nq e) hf).2.1]; exact nil))
    (fun e hf hr => main ⟨none, 0, 0⟩ 3 w (Below.refl _ _) (crE3 (nq e) hf hr).1.symm (by rw [(crE3 (nq e) hf hr).2.1]; exact nil)) (fun e hf x hx hxn hh w5 b5 => ?_) fun e hf x hx hxn hh w5 r b5 o5 => ?_
  · subst hx
    exact main ⟨none, 0, 0⟩ 5 w5 b5 (crE5 (nq e) hf hxn hh).1.symm (by rw [(crE5 (nq e) hf hxn hh).2]; exact nil)
  · subst hx
    exact main r 0 w5 b5 (crE0 (nq e) hf hxn hh).1.symm (by rw [(crE0 (nq e) hf hxn hh).2]; exact o5)

theorem inners_call {h : Int} (hp : PR2 w p rb nx) (hq : PG w q gb nx) (hpq : p = none ↔ q = none) (hM : IsM w s ml) (hk : ∀ x ∈ ml, 0 ≤ x.1) (h24 : 24 * ml.length ≤ 281474976710656) {K : Int → Int → Int → Int → World → Prop}
    (hK : ∀ v e w7, Below w.heap.size w w7 → K v e v e w7) :
    callR Try.prog 83 #[(.pointer p), (.slice s.a s.l s.c), (.int .i64 h)] w fun v25 w10 =>
      ∃ x26 : Int, ∃ x27 : Int, v25 = (.tuple #[(.int .i64 x26), (.int .i64 x27)]) ∧
      callR Try.prog 66 #[(.slice s.a s.l s.c)] w10 fun v28 w11 =>
      ∃ x29 : Sl, v28 = (.slice x29.a x29.l x29.c) ∧
      callR Try.prog 84 #[(.pointer q), (.slice x29.a x29.l x29.c), (.int .i64 h)] w11 fun v30 w12 =>
      ∃ x31 : Int, ∃ x32 : Int, v30 = (.tuple #[(.int .i64 x31), (.int .i64 x32)]) ∧ K x26 x27 x31 x32 w12 := by
  have main : ∀ (v x27 : Int) (w5 : World), Below w.heap.size w w5 → x27 = irE (q = none) nx ml h → (x27 ≠ 0 → v = 0) → (x27 = 0 → ∀ x : Nat, h = (x : Int) → (v = -1 ∧ ∀ z, z < nx.length → ¬ WithinM nx ml z x 0) ∨ ∃ z : Nat, v = (z : Int) ∧ WithinM nx ml z x 0) →
      ∃ y26 : Int, ∃ y27 : Int, (Value.tuple #[(.int .i64 v), (.int .i64 x27)]) = (.tuple #[(.int .i64 y26), (.int .i64 y27)]) ∧
      callR Try.prog 66 #[(.slice s.a s.l s.c)] w5 fun v28 w11 =>
      ∃ x29 : Sl, v28 = (.slice x29.a x29.l x29.c) ∧
      callR Try.prog 84 #[(.pointer q), (.slice x29.a x29.l x29.c), (.int .i64 h)] w11 fun v30 w12 =>
      ∃ x31 : Int, ∃ x32 : Int, v30 = (.tuple #[(.int .i64 x31), (.int .i64 x32)]) ∧ K y26 y27 x31 x32 w12 := fun v x27 w5 b5 e5 h0 h1 => by
    refine ⟨v, x27, rfl, copiedM_spec (IsC.mbelow hM b5) h24 fun w6 s6 b6 _ _ m6 _ => ⟨s6, rfl, ?_⟩⟩
    have b56 := b5.trans (b6.mono b5.size)
    have z56 := b56.size
    have fin : ∀ (x32 : Int) (w7 : World), Below w6.heap.size w6 w7 → x32 = irE (q = none) nx ml h → x32 ≠ 0 → ∃ y31 : Int, ∃ y32 : Int, (Value.tuple #[(.int .i64 0), (.int .i64 x32)]) = (.tuple #[(.int .i64 y31), (.int .i64 y32)]) ∧ K v x27 y31 y32 w7 := fun x32 w7 b7 e7 hne =>
      ⟨0, x32, rfl, by
        have e : x27 = x32 := by rw [e5, e7]
        rw [e]
        rw [h0 (by rw [e]; exact hne)]
        exact hK 0 x32 w7 (b56.trans (b7.mono z56))⟩
    refine Inner_spec (hq.below b56) m6 (fun e => fin 1 w6 (Below.refl _ _) (crE1 e).2.2.symm (by decide)) (fun e hf w7 b7 => fin 2 w7 b7 (crE2 e hf).2.2.symm (by decide)) (fun e hf hr w7 b7 => fin 3 w7 b7 (crE3 e hf hr).2.2.symm (by decide)) fun e hf x hx hxn w7 nb g b7 hn => ⟨_, 0, rfl, ?_⟩
    subst hx
    have e0 : x27 = 0 := by rw [e5, irE0 e hf hxn]
    rw [hn.inner_first hk x (h1 e0 x rfl), e0]
    exact hK v 0 w7 (b56.trans (b7.mono z56))
  have nq : p ≠ none → q ≠ none := fun h e => h (hpq.2 e)
  refine rInner_spec hp hM (fun e => main 0 1 w (Below.refl _ _) (crE1 (hpq.1 e)).2.2.symm (fun _ => rfl) fun h => absurd h (by decide)) (fun e hf => main 0 2 w (Below.refl _ _) (crE2 (nq e) hf).2.2.symm (fun _ => rfl) fun h => absurd h (by decide))
    (fun e hf hr => main 0 3 w (Below.refl _ _) (crE3 (nq e) hf hr).2.2.symm (fun _ => rfl) fun h => absurd h (by decide)) fun e hf x hx hxn w5 v b5 hv => ?_
  subst hx
  exact main v 0 w5 b5 (irE0 (nq e) hf hxn).symm (fun h => absurd rfl h) fun _ x' hx' => by rw [show x' = x by omega]; exact hv

theorem NestConstructs_spec {t : Sl} {hs : List Sl} {ll : List (List Int)} {some' : Int} {w : World} {R : Value → World → Prop} (hI : IsII w t hs ll) (_h24 : 24 * ll.length ≤ 281474976710656) (h8 : ∀ l ∈ ll, 8 * l.length ≤ 281474976710656)
    (hM : IsM w s ml) (h24 : 24 * ml.length ≤ 281474976710656) (hk : ∀ x ∈ ml, 0 ≤ x.1) (hR : ∀ w', Below w.heap.size w w' → R (.bool true) w') :
    callR Try.prog 18 #[.slice t.a t.l t.c, .slice s.a s.l s.c, .int .i64 some'] w R := by
  refine callR.of (intagliolaw16_NestConstructs_calls t s some' R w ?_) fun _ _ h => h
  refine ifB_dec (fun _ => hR w (Below.refl _ _)) fun h64 => ?_
  refine both_open hI h8 fun p q rb gb nx w2 b2 hp hq hpq => ?_
  have z2 := b2.size
  have hM2 := IsC.mbelow hM b2
  refine LoopW.ghost (fun j (st : Int × Unit) w' => ∃ k : Nat, k ≤ t.l + 3 ∧ j = t.l + 3 - k ∧ st = ((k : Int) - 1, ()) ∧ Below w2.heap.size w2 w') (t.l + 3) ⟨0, by omega, by omega, rfl, Below.refl _ _⟩ ?_
  rintro _ _ w3 ⟨k, hkl, rfl, rfl, b3⟩ next hnext
  have b23 := b2.trans (b3.mono z2)
  have z3 := b3.size
  rw [wrap64_in (x := (t.l : Int) + 1) (by omega) (by omega)]
  refine ifB_dec (fun hlt => ?_) (fun _ => nawake_spec fun w14 b14 => ⟨true, rfl, hR w14 (b23.trans (b14.mono b23.size))⟩)
  have hlt : (k : Int) - 1 ≤ (t.l : Int) + 1 := hlt
  refine JoinW.cut (fun _ w' => Below w2.heap.size w2 w') ?_ fun _ w' b => hnext (t.l + 3 - (k + 1)) _ _ (by omega) ⟨k + 1, by omega, rfl, by dsimp only; rw [wrap64_in (by omega) (by omega)]; congr 1; omega, b⟩
  refine JoinW.cut (fun _ w' => w' = w3) (ifB_dec (fun _ => rfl) fun _ => rfl) ?_
  rintro ⟨h, _⟩ _ rfl
  rename_i w3
  refine consts_call (hp.below b3) (hq.below b3) hpq (IsC.mbelow hM2 b3) h24 fun x14 x19 e w7 l b7 o14 o19 => ?_
  have b27 := b3.trans (b7.mono z3)
  refine JoinW.cut (fun _ w' => Below w2.heap.size w2 w') ?_ ?_
  · refine ifB_bne (fun h => absurd rfl h) fun _ => Ints_spec (IsS.toI (Own.isS o19)) (IsS.toI (Own.isS o14)) fun w8 _ b8 => ⟨_, rfl, ifB_false (by simp) (b27.trans (b8.mono b27.size))⟩
  · intro _ w9 b9
    refine inners_call (hp.below b9) (hq.below b9) hpq (IsC.mbelow hM2 b9) hk h24 fun v e' w12 b12 => ifB_bne (fun h => absurd rfl h) fun _ => ifB_bne (fun h => absurd rfl h) fun _ => b9.trans (b12.mono b9.size)
end

end Go.Proofs
