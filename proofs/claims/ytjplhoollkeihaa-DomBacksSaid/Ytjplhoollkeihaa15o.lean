/-
  The statement DomUps. Part 2: Frontier.
-/
import Derived.Test.Ytjplhoollkeihaa15n
import Derived.Test.YtjplhoollkeihaaL15c
namespace Go.Proofs
open Go.Gk Go.RowKit Go.Gr Go.Dm

/-- slices.IndexFunc, of a function that leaves what Inv asks. -/
theorem IndexFunc_spec {y : Value} {r : Sl} {l : List Nat} {Q : Nat → Prop} {Inv : World → Prop} {w : World} {R : Value → World → Prop} (hi : Inv w) (hl : l.length ≤ 4096) (hr : ∀ w', Inv w' → IsN w' r l)
    (hy : ∀ p ∈ l, ∀ w', Inv w' → callV Try.prog Try.fs y [.int .i64 (p : Int)] w' fun v w'' => ∃ b : Bool, v = .bool b ∧ (b = true ↔ Q p) ∧ Inv w'')
    (hR : ∀ (v : Int) w', Inv w' → (0 ≤ v ↔ ∃ p ∈ l, Q p) → R (.int .i64 v) w') : callR Try.prog 150 #[.slice r.a r.l r.c, y] w R := by
  refine callR.of (slices_IndexFunc_sint_int_calls r y R w ?_) fun _ _ h => h
  refine LoopW.count l.length (by omega) (fun k w' => Inv w' ∧ ∀ j (hj : j < l.length), j < k → ¬ Q l[j]) ⟨hi, fun j hj h => absurd h (by omega)⟩ ?_
  rintro k w1 hk ⟨hi, hn⟩ next hnext
  have hlen := (hr w1 hi).len
  refine ifB_dec (fun hlt => ?_) (fun hge => ?_)
  · have hlt : k < l.length := by dsimp only at hlt; omega
    refine elemI (IsS.toI (hr w1 hi)) (k := k) (by simpa using hlt) ?_
    rw [List.getElem_map]
    refine callV.mono (hy _ (List.getElem_mem hlt) w1 hi) fun v w'' ⟨b, hv, hb, hi'⟩ => ⟨b, hv, ifB_bool (fun e => hR _ w'' hi' ⟨fun _ => ⟨l[k], List.getElem_mem hlt, hb.1 e⟩, fun _ => by first | omega | (dsimp only; omega)⟩) fun e => hnext w'' hlt ⟨hi', fun j hj hjk => ?_⟩⟩
    by_cases e' : j = k
    · subst e'; intro hq; rw [hb.2 hq] at e; cases e
    · exact hn j hj (by omega)
  · refine hR (-1) w1 hi ⟨fun h => absurd h (by decide), fun ⟨p, hp, hq⟩ => ?_⟩
    obtain ⟨j, hj, rfl⟩ := List.mem_iff_getElem.1 hp
    exact absurd hq (hn j hj (by dsimp only at hge; omega))

def FrP (nx : List (List Nat)) (ov : Nat → Option Nat) (i : Int) (k : Nat) : Prop := (∃ p, Ed nx p k ∧ DomP (orderOf nx) ov i (p : Int)) ∧ ((k : Int) = i ∨ ¬ DomP (orderOf nx) ov i (k : Int))
/-- What Frontier tells, where i is reached. -/
def frL (nx : List (List Nat)) (fr : Nat → Bool) : List Nat := (List.range nx.length).filter fr

set_option maxHeartbeats 4000000 in
theorem Frontier_spec {w : World} {tb : Nat} {nx : List (List Nat)} {ov : Nat → Option Nat} {dp : Nat → Int} {i : Int} {R : Value → World → Prop} (hd : Dt w tb nx ov dp) {fr : Nat → Bool} (hfr : ∀ k, fr k = true ↔ FrP nx ov i k)
    (hR : ∀ r w', Below w.heap.size w w' → Own w' 3 1 r ((if inOd (orderOf nx) i then frL nx fr else []).map iN) → Fresh w.heap.size r → R (.slice r.a r.l r.c) w') : callR Try.prog 57 #[.pointer (some (Gk.blk tb)), .int .i64 i] w R := by
  refine callR.of (dom_Tree_Frontier_calls _ i R w ?_) fun _ _ h => h
  unfold L_dom_Tree_Frontier
  have hmx := hd.ok.max
  refine Nw.gen fun w1 hw1 => Nw.gen fun w2 hw2 => ?_
  have h1 : Blk w1 w.heap.size 47 [.pointer (some (Gk.blk tb))] := by rw [hw1]; exact Blk.new w _ #[_]
  have h2 : Blk w2 w1.heap.size 3 [.int .i64 i] := by rw [hw2]; exact Blk.new w1 _ #[_]
  have h1' : Blk w2 w.heap.size 47 [.pointer (some (Gk.blk tb))] := by rw [hw2]; exact h1.alloc _
  have z2 : w2.heap.size = w.heap.size + 2 := by rw [hw2, hw1]; simp
  have b2 : Below w.heap.size w w2 := by rw [hw2, hw1]; exact ((Below.refl _ _).alloc (Nat.le_refl _) _).alloc (by simp) _
  clear hw2 hw1 h1
  refine ⟨_, h1'.cell0 rfl, i, h2.cell0 rfl, reached_spec (hd.below b2) ⟨_, rfl, ifB_not (ifB_bool (fun hin => ?_) (fun hin => ?_))⟩⟩
  · rw [if_pos hin] at hR
    have hd2 := hd.below b2
    obtain ⟨gb, ob, db, rb, hT, hG⟩ := hd2.d
    have hpl : ∀ k, ((List.range k).filter fr).length ≤ k := fun k => by have := List.length_filter_le fr (List.range k); simpa using this
    refine ⟨_, h1'.cell0 rfl, derefP_some rfl ⟨⟨_, nx.length, nx.length⟩, hT.t.cell (n := 2) rfl, ?_⟩⟩
    refine LoopW.ghost (fun j s w' => ∃ k : Nat, ∃ l : Sl, k ≤ nx.length ∧ j = nx.length - k ∧ s = (l, (k : Int), ()) ∧ Below w2.heap.size w2 w' ∧ w2.heap.size ≤ w'.heap.size ∧ Own w' 3 1 l (((List.range k).filter fr).map iN) ∧ Fresh w2.heap.size l) nx.length
      ⟨0, ⟨none, 0, 0⟩, by omega, rfl, rfl, Below.refl _ _, Nat.le_refl _, Own.nil _ _ _, fun a ha => by cases ha⟩ ?_
    rintro _ _ w4 ⟨k, l, hk, rfl, rfl, hb, hz, ho, hf⟩ next hnext
    refine ifB_dec (fun hlt => ?_) (fun hge => ?_)
    · have hlt : k < nx.length := by dsimp only at hlt; omega
      refine JoinW.cut (fun s w' => ∃ l : Sl, s = (l, ()) ∧ Below w2.heap.size w2 w' ∧ w2.heap.size ≤ w'.heap.size ∧ Own w' 3 1 l (((List.range (k + 1)).filter fr).map iN) ∧ Fresh w2.heap.size l) ?_ ?_
      · have skip : ∀ w', Below w2.heap.size w2 w' → w2.heap.size ≤ w'.heap.size → Own w' 3 1 l (((List.range k).filter fr).map iN) → fr k = false → ∃ l' : Sl, (l, ()) = (l', ()) ∧ Below w2.heap.size w2 w' ∧ w2.heap.size ≤ w'.heap.size ∧ Own w' 3 1 l' (((List.range (k + 1)).filter fr).map iN) ∧ Fresh w2.heap.size l' := fun w' hb hz ho hp =>
          ⟨l, rfl, hb, hz, by rw [filter_succ, hp]; simpa using ho, hf⟩
        -- the second half: are there such nodes ahead?
        have tail : ∀ w5, Below w2.heap.size w2 w5 → w2.heap.size ≤ w5.heap.size → Own w5 3 1 l (((List.range k).filter fr).map iN) → ((k : Int) = i ∨ ¬ DomP (orderOf nx) ov i (k : Int)) →
            ldP w5 (Gk.blk w.heap.size) fun x16 =>
            derefP x16 fun a17 =>
            ldP w5 a17 fun x18 =>
            callR Try.prog 36 #[(.pointer x18), (.int .i64 (k : Int))] w5 fun v19 w6 =>
            ∃ x20 : Sl, v19 = (.slice x20.a x20.l x20.c) ∧
            callR Try.prog 111 #[(.slice x20.a x20.l x20.c), (.func (.func 112) #[] #[(.pointer (some (Gk.blk w.heap.size))), (.pointer (some (Gk.blk w1.heap.size)))])] w6 fun v21 w7 =>
            ∃ x22 : Bool, v21 = (.bool x22) ∧
            ifB x22
              (Nw (w7.alloc (.cells #[(.int .i64 (k : Int))] 3)) fun w8 =>
              appendS Try.prog 32 (.slice l.a l.l l.c) (.slice (some (Gk.blk w7.heap.size)) 1 1) w8 fun r23 w9 =>
              ∃ l' : Sl, (r23, ()) = (l', ()) ∧ Below w2.heap.size w2 w9 ∧ w2.heap.size ≤ w9.heap.size ∧ Own w9 3 1 l' (((List.range (k + 1)).filter fr).map iN) ∧ Fresh w2.heap.size l')
              (∃ l' : Sl, (l, ()) = (l', ()) ∧ Below w2.heap.size w2 w7 ∧ w2.heap.size ≤ w7.heap.size ∧ Own w7 3 1 l' (((List.range (k + 1)).filter fr).map iN) ∧ Fresh w2.heap.size l') := fun w5 hb hz ho hor => by
          have hT5 := hT.below hb
          refine ⟨_, (h1'.below hb).cell0 rfl, derefP_some rfl ⟨_, hT5.t.cell0 rfl, Ahead_spec hd.ok (hG.below hb) fun r w6 a1 a2 a3 => ⟨r, rfl, ?_⟩⟩⟩
          rw [rowAt_nat] at a1
          have hb6 : Below w2.heap.size w2 w6 := hb.trans (a3.mono hz)
          have hz6 := a3.size
          have ho6 := ho.below a3
          refine callR.of (slices_ContainsFunc_sint_int_calls r _ _ w6 ?_) fun _ _ h => h
          have hal := ahead_le nx k
          refine IndexFunc_spec (Q := fun p => DomP (orderOf nx) ov i (p : Int)) (Inv := fun w' => Below w6.heap.size w6 w') (Below.refl _ _) (by omega) (fun w' hb' => (a1.below hb').isS) (fun p _ w' hb' => ?_) fun v w7 hb7 hv => ⟨v, rfl, ?_⟩
          · have hbw : Below w2.heap.size w2 w' := hb6.trans (hb'.mono (by omega))
            have hc : Try.fs.contains 112 = true := by kernel_rfl
            unfold callV
            simp only [hc]
            refine dom_Tree_Frontier_1_calls (p : Int) (Gk.blk w.heap.size) (Gk.blk w1.heap.size) _ w' ⟨_, (h1'.below hbw).cell0 rfl, i, (h2.below hbw).cell0 rfl, ?_⟩
            exact Dominates_spec (hd2.below hbw) fun v w'' hb'' hv => ⟨v, rfl, v, rfl, hv, hb'.trans (hb''.mono hb'.size)⟩
          · refine ⟨_, rfl, ?_⟩
            have hz7 := hb7.size
            have hb27 : Below w2.heap.size w2 w7 := hb6.trans (hb7.mono (by omega))
            have hex : (∃ p ∈ (aheadOf nx).getD k [], DomP (orderOf nx) ov i (p : Int)) ↔ ∃ p, Ed nx p k ∧ DomP (orderOf nx) ov i (p : Int) :=
              ⟨fun ⟨p, h1, h2⟩ => ⟨p, (edge_iff hd.ok).1 h1, h2⟩, fun ⟨p, h1, h2⟩ => ⟨p, (edge_iff hd.ok).2 h1, h2⟩⟩
            refine ifB_dec (fun hv0 => ?_) (fun hv0 => skip w7 hb27 (by omega) (ho6.below hb7) ?_)
            · have hp : fr k = true := (hfr k).2 ⟨hex.1 (hv.1 hv0), hor⟩
              have := hpl k
              refine push_own (y := k) rfl hb27 (by omega) (ho6.below hb7) hf (by omega) fun r' w9 q1 q2 q3 q4 => ⟨r', rfl, q1, q2, ?_, q4⟩
              rw [filter_succ, hp]
              exact q3
            · rw [← Bool.not_eq_true, hfr k]
              rintro ⟨h5, _⟩
              exact hv0 (hv.2 (hex.2 h5))
        refine ⟨_, (h1'.below hb).cell0 rfl, reached_spec (hd2.below hb) ⟨_, rfl, ifB_bool (fun hr => ⟨i, (h2.below hb).cell0 rfl, ifB_beq (fun he => tail w4 hb hz ho (.inl he)) fun hne => ?_⟩) (fun hr => skip w4 hb hz ho ?_)⟩⟩
        · refine ⟨_, (h1'.below hb).cell0 rfl, i, (h2.below hb).cell0 rfl, Dominates_spec (hd2.below hb) fun v w10 b10 hv => ⟨v, rfl, ifB_not (ifB_bool (fun e => skip w10 (hb.trans (b10.mono hz)) (by have := b10.size; omega) (ho.below b10) ?_) (fun e => tail w10 (hb.trans (b10.mono hz)) (by have := b10.size; omega) (ho.below b10) (.inr fun hD => ?_)))⟩⟩
          · rw [← Bool.not_eq_true, hfr k]
            rintro ⟨_, h5⟩
            rcases h5 with h5 | h5
            · exact hne h5
            · exact h5 (hv.1 e)
          · rw [hv.2 hD] at e; cases e
        · rw [← Bool.not_eq_true, hfr k]
          rintro ⟨⟨p, hp, _, p', _, e2, h5, _⟩, _⟩
          have e2 : p = p' := by omega
          subst e2
          have hkw : k ∈ orderOf nx := (hd.ok.walkOk.mem k).2 (hd.ok.walkOk.closed p ((hd.ok.walkOk.mem p).1 h5) k hp)
          have hr : inOd (orderOf nx) (k : Int) = false := hr
          rw [inOd_iff.2 ⟨k, rfl, hkw⟩] at hr
          cases hr
      · rintro _ w15 ⟨l', rfl, q1, q2, q3, q4⟩
        dsimp only
        rw [wrap64_succ (by omega)]
        exact hnext (nx.length - (k + 1)) _ _ (by omega) ⟨k + 1, l', by omega, rfl, rfl, q1, q2, q3, q4⟩
    · have : k = nx.length := by dsimp only at hge; omega
      subst this
      exact hR l w4 (b2.trans (hb.mono (by omega))) ho fun a ha => by have := hf a ha; omega
  · rw [if_neg (by rw [hin]; simp)] at hR
    exact hR ⟨none, 0, 0⟩ w2 b2 (Own.nil _ _ _) fun a ha => by cases ha

end Go.Proofs
