/-
  CallsOf.
-/
import Derived.Test.Ytjplhoollkeihaa17j
namespace Go.Proofs
open Go.Gk Go.RowKit Go.Gr Go.St

section
variable {s : Sl} {hs : List Sl} {ll : List (List Int)} {w : World} {R : Value → World → Prop}
theorem sameN {w : World} {r t : Sl} {l : List Nat} {R : Value → World → Prop} (hr : Own w 3 1 r (l.map iN)) (ht : Own w 3 1 t (l.map iN)) (hR : ∀ w', Below w.heap.size w w' → R (.bool true) w') :
    callR Try.prog 29 #[.slice r.a r.l r.c, .slice t.a t.l t.c] w R :=
  Ints_spec (IsS.toI (Own.isS hr)) (IsS.toI (Own.isS ht)) fun w' _ hb => by rw [decide_eq_true rfl]; exact hR w' hb
set_option maxHeartbeats 4000000 in
theorem agree17_spec (h : IsII w s hs ll) (h8 : ∀ l ∈ ll, 8 * l.length ≤ 140737488351232) (hmax : ll.length ≤ 4096) (hG : Good ll) (hN : NoRound (riseLL ll)) {rc : Nat} (hC : IsCl w rc (riseLL ll)) {i : Int}
    (hR : ∀ w', Below w.heap.size w w' → R (.bool true) w') : callR Try.prog 91 #[.pointer (some (Gk.blk rc)), .slice s.a s.l s.c, .int .i64 i] w R := by
  refine callR.of (intagliolaw17_agree_calls _ s i R w ?_) fun _ _ h => h
  have hsl : s.l = ll.length := by have := h.top.len; have := h.len; omega
  have hrl : ∀ i, ((riseLL ll).getD i []).length ≤ 4096 := fun i => by
    by_cases e : i < ll.length
    · rw [riseLL_get e]
      have := riseL_le ll.length ((ll[i]).map Int.toNat)
      omega
    · simp [List.getD, List.getElem?_eq_none (show ll.length ≤ i by omega)]
  have hmax' : (riseLL ll).length ≤ 4096 := by rw [riseLL_len]; exact hmax
  refine cCalls_specI hrl hC fun r1 w1 b1 o1 f1 => ⟨r1, rfl, ?_⟩
  have z1 := b1.size
  refine JoinW.cut (fun _ w' => Below w1.heap.size w1 w') ?_ ?_
  · refine cLen_spec (hC.below b1) ⟨_, rfl, ifB_false (by rw [riseLL_len, hsl]; exact bne_self_eq_false _) ?_⟩
    refine rCalls_spec (h.below b1) h8 hmax hG fun r2 w2 b2 o2 => ⟨r2, rfl, ?_⟩
    have z2 := b2.size
    refine sameN (o1.below b2) o2 fun w3 b3 => ⟨true, rfl, ifB_false rfl ?_⟩
    have z3 := b3.size
    have q3 := b2.trans (b3.mono z2)
    refine cCalled_specI hmax' (hC.below (b1.trans (q3.mono z1))) fun r4 w4 b4 o4 => ⟨r4, rfl, ?_⟩
    have z4 := b4.size
    have q4 := q3.trans (b4.mono (by omega))
    refine rCalled_spec (h.below (b1.trans (q4.mono z1))) h8 hmax hG fun r5 w5 b5 o5 => ⟨r5, rfl, ?_⟩
    have z5 := b5.size
    refine sameN (o4.below b5) o5 fun w6 b6 => ⟨true, rfl, ifB_false rfl ?_⟩
    have q6 := (q4.trans (b5.mono (by omega))).trans (b6.mono (by omega))
    have z6 := b6.size
    refine cDeep_specI (hC.below (b1.trans (q6.mono z1))) ⟨_, rfl, ?_⟩
    refine rDeep_spec (h.below (b1.trans (q6.mono z1))) h8 hmax hG hN fun w7 b7 => ⟨_, rfl, ifB_false (bne_self_eq_false _) ?_⟩
    exact q6.trans (b7.mono (by omega))
  rintro _ w8 b8
  have z8 := b8.size
  have q8 := b1.trans (b8.mono z1)
  refine Spoil_spec (o1.below b8) fun w9 on9 => ⟨rfl, ?_⟩
  have q9 : Below w.heap.size w w9 := q8.trans (on9.below f1)
  have z9 := q9.size
  refine cCalls_specI hrl (hC.below q9) fun r10 w10 b10 o10 f10 => ⟨r10, rfl, ?_⟩
  have q10 := q9.trans (b10.mono z9)
  refine rCalls_spec (h.below q10) h8 hmax hG fun r11 w11 b11 o11 => ⟨r11, rfl, ?_⟩
  have q11 := q10.trans (b11.mono q10.size)
  refine sameN (o10.below b11) o11 fun w12 b12 => ⟨true, rfl, ifB_true rfl ?_⟩
  have q12 := q11.trans (b12.mono q11.size)
  refine cReached_specI hmax' (hC.below q12) fun r13 w13 b13 o13 => ⟨r13, rfl, ?_⟩
  have q13 := q12.trans (b13.mono q12.size)
  refine rReached17_spec (h.below q13) h8 hmax hG fun r14 w14 b14 o14 => ⟨r14, rfl, ?_⟩
  have q14 := q13.trans (b14.mono q13.size)
  refine sameN (o13.below b14) o14 fun w15 b15 => ⟨true, rfl, ifB_true rfl ?_⟩
  have q15 := q14.trans (b15.mono q14.size)
  refine cOrder_specO hmax' hN riseLL_lt (hC.below q15) fun r16 w16 b16 o16 => ⟨r16, rfl, ?_⟩
  have q16 := q15.trans (b16.mono q15.size)
  refine rOrder17_spec (h.below q16) h8 hmax hG hN fun r17 w17 b17 o17 => ⟨r17, rfl, ?_⟩
  have q17 := q16.trans (b17.mono q16.size)
  rw [riseLL_len] at o16
  refine sameN (o16.below b17) o17 fun w18 b18 => ⟨true, rfl, hR w18 (q17.trans (b18.mono q17.size))⟩

open Classical in
/-- What Of answers. -/
noncomputable def errOf (ll : List (List Int)) : Int := if 4096 < ll.length then 4 else if ¬ Good ll then 3 else if NoRound (riseLL ll) then 0 else 171
def OfP (ll : List (List Int)) (B : Nat) (x : Option Addr) (w : World) : Prop :=
  (errOf ll ≠ 0 ∧ x = none) ∨ (errOf ll = 0 ∧ ll.length ≤ 4096 ∧ Good ll ∧ NoRound (riseLL ll) ∧ ∃ rc, x = some (Gk.blk rc) ∧ Kp B w fun w' => IsCl w' rc (riseLL ll))
theorem cOf_post (h : IsII w s hs ll) (h8 : ∀ l ∈ ll, 8 * l.length ≤ 140737488351232) (hR : ∀ x w', Below w.heap.size w w' → OfP ll w.heap.size x w' → R (.tuple #[.pointer x, .int .i64 (errOf ll)]) w') :
    callR Try.prog 89 #[.slice s.a s.l s.c] w R := by
  refine cOf_specK h h8 (fun h4 w' b => ?_) (fun h4 hG w' b => ?_) (fun h4 hG hN w' b => ?_) fun h4 hG hN w' rc b hK => ?_
  · have e : errOf ll = 4 := by unfold errOf; rw [if_pos h4]
    have := hR none w' b (.inl ⟨by rw [e]; decide, rfl⟩)
    rw [e] at this; exact this
  · have e : errOf ll = 3 := by unfold errOf; rw [if_neg (by omega), if_pos hG]
    have := hR none w' b (.inl ⟨by rw [e]; decide, rfl⟩)
    rw [e] at this; exact this
  · have e : errOf ll = 171 := by unfold errOf; rw [if_neg (by omega), if_neg (fun q => q hG), if_neg hN]
    have := hR none w' b (.inl ⟨by rw [e]; decide, rfl⟩)
    rw [e] at this; exact this
  · have e : errOf ll = 0 := by unfold errOf; rw [if_neg (by omega), if_neg (fun q => q hG), if_pos hN]
    have := hR (some (Gk.blk rc)) w' b (.inr ⟨e, h4, hG, hN, rc, rfl, hK⟩)
    rw [e] at this; exact this
theorem rOf_post (h : IsII w s hs ll) (h8 : ∀ l ∈ ll, 8 * l.length ≤ 140737488351232) (hR : ∀ w', Below w.heap.size w w' → R (.int .i64 (errOf ll)) w') :
    callR Try.prog 90 #[.slice s.a s.l s.c] w R := by
  refine rOf17_spec h h8 (fun h4 => ?_) (fun h4 hG => ?_) (fun h4 hG hN w' b => ?_) fun h4 hG hN w' b => ?_
  · have e : errOf ll = 4 := by unfold errOf; rw [if_pos h4]
    rw [← e]; exact hR w (Below.refl _ _)
  · have e : errOf ll = 3 := by unfold errOf; rw [if_neg (by omega), if_pos hG]
    rw [← e]; exact hR w (Below.refl _ _)
  · have e : errOf ll = 171 := by unfold errOf; rw [if_neg (by omega), if_neg (fun q => q hG), if_neg hN]
    rw [← e]; exact hR w' b
  · have e : errOf ll = 0 := by unfold errOf; rw [if_neg (by omega), if_neg (fun q => q hG), if_pos hN]
    rw [← e]; exact hR w' b

set_option maxHeartbeats 4000000 in
theorem CallsOf_spec {i : Int} (h : IsII w s hs ll) (h24 : 24 * ll.length ≤ 140737488351232) (h8 : ∀ l ∈ ll, 8 * l.length ≤ 140737488351232)
    (hR : ∀ w', Below w.heap.size w w' → R (.bool true) w') : callR Try.prog 24 #[.slice s.a s.l s.c, .int .i64 i] w R := by
  refine callR.of (intagliolaw17_CallsOf_calls s i R w ?_) fun _ _ h => h
  refine ccopied_specO h h24 h8 fun r w1 b1 hO => ⟨r, rfl, ?_⟩
  obtain ⟨hs1, hI1⟩ := hO.isII
  have z1 := b1.size
  refine cOf_post hI1 h8 fun x w2 b2 hP => ⟨x, errOf ll, rfl, ?_⟩
  have z2 := b2.size
  have q2 := b1.trans (b2.mono z1)
  refine rOf_post (h.below q2) h8 fun w3 b3 => ⟨errOf ll, rfl, ?_⟩
  have z3 := b3.size
  have q3 := q2.trans (b3.mono q2.size)
  have b13 : Below w1.heap.size w1 w3 := b2.trans (b3.mono z2)
  refine JoinW.cut (fun _ w' => w' = w3) (ifB_false (bne_self_eq_false _) (ifB_false ?_ rfl)) ?_
  · rcases hP with ⟨e, rfl⟩ | ⟨e, _, _, _, rc, rfl, _⟩
    · have : (errOf ll == 0) = false := by simpa using e
      rw [this]; rfl
    · rw [e]; rfl
  rintro _ w4 e4
  have e4 := e4.symm
  subst e4
  have hO3 := hO.grow b13
  have hrl := hO3.len
  obtain ⟨hd, g1, g2, g3⟩ := hO3.ex
  have hrb : ll.length ≤ 9223372036854775807 := by omega
  refine LoopW.count ll.length hrb (fun k w' => Below w.heap.size w w' ∧ w'.heap.size = w3.heap.size ∧ (∀ b, w1.heap.size ≤ b → w'.heap[b]? = w3.heap[b]?) ∧ Own w' 32 1 r (hd.map Sl.val) ∧ ∀ j (hj : j < hd.length), k ≤ j → ∃ xs, Own w' 3 1 hd[j] xs) ⟨q3, rfl, fun _ _ => rfl, g2, fun j hj _ => ⟨_, (g3 j hj).1⟩⟩ ?_
  rintro k w5 hk ⟨q5, z5, k5, o5, r5⟩ next hnext
  refine ifB_dec (fun hlt => ?_) fun hge => ?_
  · have hlt : k < ll.length := by dsimp only at hlt; omega
    have hkd : k < hd.length := by omega
    obtain ⟨xs, ox⟩ := r5 k hkd (Nat.le_refl _)
    refine elemS (Own.isS o5) (k := k) hkd (Spoil_spec ox fun w6 on => ⟨rfl, hnext _ hlt ⟨?_, ?_, fun b hb => ?_, ?_, fun j hj hkj => ?_⟩⟩)
    · exact q5.trans (on.below fun a ha => ((g3 k hkd).2 a ha).1)
    · rw [on.size, z5]
    · rw [on.block b fun a ha e => by have := ((g3 k hkd).2 a ha).2.1; omega]
      exact k5 b hb
    · exact o5.of_block fun a ha => on.block _ fun a' ha' e => by
        obtain ⟨cs, hcs⟩ := o5.type ha
        exact own_ne ox hcs (by decide) ha' e
    · obtain ⟨ys, oy⟩ := r5 j hj (by omega)
      exact ⟨ys, oy.of_block fun a ha => on.block _ fun a' ha' e => by have := ((g3 j hj).2 a ha).2.2 k hkd a' (by omega) ha'; omega⟩
  · refine ifB_bool (fun e => hR w5 q5) fun e => ?_
    rcases hP with ⟨e', _⟩ | ⟨_, h4, hG, hN, rc, rfl, hK⟩
    · simp [e'] at e
    · have hC : IsCl w5 rc (riseLL ll) := hK w5 fun b h1 h2 => (k5 b h1).trans (b3.block b h2)
      exact agree17_spec (h.below q5) h8 h4 hG hN hC fun w6 b6 => ⟨true, rfl, hR w6 (q5.trans (b6.mono q5.size))⟩
end

end Go.Proofs
