/-
  The statement DomUps: every Up, left early too; every Frontier. Part 1: the ways up.
-/
import Derived.Test.Ytjplhoollkeihaa15l
namespace Go.Proofs
open Go.Gk Go.RowKit Go.Gr Go.Dm

/-- A loop that ends in its first round. -/
theorem once' {S : Type} {body : S → World → (S → World → Prop) → Prop} {s : S} {w : World} (h : ∀ next, body s w next) : LoopW body s w := by
  refine LoopW.ghost (fun _ s' w' => s' = s ∧ w' = w) 0 ⟨rfl, rfl⟩ ?_
  rintro k _ _ ⟨rfl, rfl⟩ next _
  exact h next
def upL (ov : Nat → Option Nat) : Nat → Nat → List Nat
  | 0, _ => []
  | f + 1, x => x :: (match ov x with | none => [] | some y => upL ov f y)
section
variable {w : World} {tb : Nat} {nx : List (List Nat)} {ov : Nat → Option Nat} {dp : Nat → Int}
theorem Dt.upL_spec (h : Dt w tb nx ov dp) : ∀ (f x : Nat), x ∈ orderOf nx → dp x + 1 = (f : Int) →
    (upL ov f x).length = f ∧ (∀ k (hk : k < (upL ov f x).length), Anc ov (upL ov f x)[k] x ∧ dp (upL ov f x)[k] = dp x - k) ∧ (∀ k, (upL ov f x)[k + 1]? = (upL ov f x)[k]?.bind ov) ∧ (upL ov f x)[0]? = some x := by
  intro f
  induction f with
  | zero => intro x hx hf; have := (h.dpo.mem x hx).1; omega
  | succ f ih =>
    intro x hx hf
    cases e : ov x with
    | none =>
      have hd := h.dpo.root x hx e
      have hf0 : f = 0 := by omega
      subst hf0
      have el : upL ov (0 + 1) x = [x] := by simp [upL, e]
      refine ⟨by rw [el]; rfl, fun k hk => ?_, fun k => ?_, by rw [el]; rfl⟩
      · have hk0 : k = 0 := by rw [el] at hk; simp at hk; exact hk
        subst hk0
        simp only [el, List.getElem_cons_zero]
        exact ⟨.refl, by omega⟩
      · rw [el]
        cases k with
        | zero => simp [e]
        | succ k => simp
    | some y =>
      have hy : y ∈ orderOf nx := (h.s.pr y).1 (h.s.tr.up x y e).2
      have hd := h.dpo.up x hx y e
      obtain ⟨g1, g2, g3, g4⟩ := ih y hy (by omega)
      have el : upL ov (f + 1) x = x :: upL ov f y := by simp [upL, e]
      refine ⟨by rw [el, List.length_cons, g1], fun k hk => ?_, fun k => ?_, by rw [el]; rfl⟩
      · cases k with
        | zero => simp only [el, List.getElem_cons_zero]; exact ⟨.refl, by omega⟩
        | succ k =>
          have hk' : k < (upL ov f y).length := by rw [el] at hk; simpa using hk
          simp only [el, List.getElem_cons_succ]
          obtain ⟨g5, g6⟩ := g2 k hk'
          exact ⟨g5.trans (.step e .refl), by omega⟩
      · rw [el]
        cases k with
        | zero => simp [e, g4]
        | succ k => simp only [List.getElem?_cons_succ]; exact g3 k
def upOf (nx : List (List Nat)) (ov : Nat → Option Nat) (dp : Nat → Int) (i : Int) : List Nat := if inOd (orderOf nx) i then upL ov ((dp i.toNat).toNat + 1) i.toNat else []
theorem upOf_in {x : Nat} (hx : x ∈ orderOf nx) : upOf nx ov dp (x : Int) = upL ov ((dp x).toNat + 1) x := by unfold upOf; rw [if_pos (inOd_iff.2 ⟨x, rfl, hx⟩)]; rfl
theorem Dt.same (h : Dt w tb nx ov dp) {x a b : Nat} (hx : x ∈ orderOf nx) (ha : Anc ov a x) (hb : Anc ov b x) (e : dp a = dp b) : a = b := by
  rcases ha.lin hb with h1 | h1
  · rcases h.mono (h.ancOd hx hb) h1 with e' | e'
    · exact e'
    · omega
  · rcases h.mono (h.ancOd hx ha) h1 with e' | e'
    · exact e'.symm
    · omega
end

set_option maxHeartbeats 2000000 in
theorem rUp_spec {w0 w : World} {tb : Nat} {nx : List (List Nat)} {ov : Nat → Option Nat} {dp : Nat → Int} {t : Sl} {i : Int} {R : Value → World → Prop} (hd : Dt w0 tb nx ov dp) (h : TabD w t nx ov)
    (hR : ∀ r w', Below w.heap.size w w' → Own w' 3 1 r ((upOf nx ov dp i).map iN) → R (.slice r.a r.l r.c) w') : callR Try.prog 55 #[.slice t.a t.l t.c, .int .i64 i] w R := by
  refine callR.of (intaglioref15_Up_calls t i R w ?_) fun _ _ h => h
  have htl := h.len
  have hmx := hd.ok.max
  refine rDepth_spec hd h ⟨_, rfl, ?_⟩
  by_cases hin : inOd (orderOf nx) i = true
  · obtain ⟨x, rfl, hx⟩ := inOd_iff.1 hin
    have hxn := hd.lt hx
    have hdx : depthOf (orderOf nx) dp (x : Int) = dp x := by unfold depthOf; rw [if_pos hin]; rfl
    have hm := hd.dpo.mem x hx
    have hrl := List.idxOf_lt_length_of_mem hx
    have hol := order_len nx
    have hwl := hd.ok.walk_le
    have hrk : rkOf (orderOf nx) x < 4096 := by unfold rkOf; omega
    obtain ⟨m, hmm⟩ := Int.eq_ofNat_of_zero_le hm.1
    rw [upOf_in hx] at hR
    rw [show (dp x).toNat = m by omega] at hR
    obtain ⟨g1, g2, g3, g4⟩ := hd.upL_spec (m + 1) x hx (by omega)
    obtain ⟨U, hU⟩ : ∃ U, U = upL ov (m + 1) x := ⟨_, rfl⟩
    rw [← hU] at g1 g2 g3 g4 hR
    rw [hdx, hmm]
    refine LoopW.ghost (fun j s w' => ∃ k : Nat, ∃ l : Sl, k ≤ m + 1 ∧ j = m + 1 - k ∧ s = (l, (m : Int) - (k : Int), ()) ∧ Below w.heap.size w w' ∧ w.heap.size ≤ w'.heap.size ∧ Own w' 3 1 l ((U.take k).map iN) ∧ Fresh w.heap.size l) (m + 1)
      ⟨0, ⟨none, 0, 0⟩, by omega, rfl, by simp, Below.refl _ _, Nat.le_refl _, Own.nil _ _ _, fun a ha => by cases ha⟩ ?_
    rintro _ _ w2 ⟨k, l, hk, rfl, rfl, hb, hz, ho, hf⟩ next hnext
    refine ifB_dec (fun hge => ?_) (fun hlt => ?_)
    · have hkm : k ≤ m := by dsimp only at hge; omega
      have hku : k < U.length := by omega
      obtain ⟨g5, g6⟩ := g2 k hku
      have huo := hd.ancOd hx g5
      have hun := hd.lt huo
      refine LoopW.ghost (fun j s w' => ∃ a : Nat, ∃ l : Sl, a ≤ nx.length ∧ j = nx.length - a ∧ s = (l, (a : Int), ()) ∧ Below w.heap.size w w' ∧ w.heap.size ≤ w'.heap.size ∧ Own w' 3 1 l ((U.take k ++ if U[k] < a then [U[k]] else []).map iN) ∧ Fresh w.heap.size l) nx.length
        ⟨0, l, by omega, rfl, rfl, hb, hz, by simpa using ho, hf⟩ ?_
      rintro _ _ w3 ⟨a, l, ha, rfl, rfl, hb, hz, ho, hf⟩ nxt hnxt
      refine ifB_dec (fun hlta => ?_) (fun hgea => ?_)
      · have hlta : a < nx.length := by dsimp only at hlta; omega
        refine JoinW.cut (fun s w' => ∃ l : Sl, s = (l, ()) ∧ Below w.heap.size w w' ∧ w.heap.size ≤ w'.heap.size ∧ Own w' 3 1 l ((U.take k ++ if U[k] < a + 1 then [U[k]] else []).map iN) ∧ Fresh w.heap.size l) ?_ ?_
        · have skip : a ≠ U[k] → ∃ l' : Sl, (l, ()) = (l', ()) ∧ Below w.heap.size w w3 ∧ w.heap.size ≤ w3.heap.size ∧ Own w3 3 1 l' ((U.take k ++ if U[k] < a + 1 then [U[k]] else []).map iN) ∧ Fresh w.heap.size l' := fun hne => by
            refine ⟨l, rfl, hb, hz, ?_, hf⟩
            by_cases e : U[k] < a
            · rw [if_pos (by omega)]; rw [if_pos e] at ho; exact ho
            · rw [if_neg (by omega)]; rw [if_neg e] at ho; exact ho
          refine (h.below hb).get (a := a) (b := x) hlta hxn fun v hv => ifB_bool (fun hbv => ?_) (fun hbv => skip fun e => ?_)
          · have hax := (hv.1 hbv).2
            have hao := hd.ancOd hx hax
            refine rDepth_spec hd (h.below hb) ⟨_, rfl, ?_⟩
            have hda : depthOf (orderOf nx) dp (a : Int) = dp a := by unfold depthOf; rw [if_pos (inOd_iff.2 ⟨a, rfl, hao⟩)]; rfl
            dsimp only
            rw [hda]
            refine ifB_beq (fun he => ?_) (fun hne => skip fun e => hne (by rw [e, g6]; omega))
            have e : a = U[k] := hd.same hx hax g5 (by omega)
            have hlen : (U.take k ++ if U[k] < a then [U[k]] else []).length ≤ m + 2 := by
              rw [List.length_append, List.length_take]
              split <;> simp <;> omega
            refine push_own (y := a) rfl hb hz ho hf (by omega) fun r w6 q1 q2 q3 q4 => ⟨r, rfl, q1, q2, ?_, q4⟩
            rw [if_neg (by omega), List.append_nil] at q3
            rw [if_pos (by omega), ← e]
            exact q3
          · subst e
            rw [hv.2 ⟨hx, g5⟩] at hbv; cases hbv
        · rintro _ w7 ⟨l', rfl, q1, q2, q3, q4⟩
          dsimp only
          rw [wrap64_succ (by omega)]
          exact hnxt (nx.length - (a + 1)) _ _ (by omega) ⟨a + 1, l', by omega, rfl, rfl, q1, q2, q3, q4⟩
      · have : a = nx.length := by dsimp only at hgea; omega
        subst this
        rw [if_pos hun] at ho
        dsimp only
        rw [wrap64_in (by omega) (by omega)]
        refine hnext (m + 1 - (k + 1)) _ _ (by omega) ⟨k + 1, l, by omega, rfl, by rw [show (m : Int) - (k : Int) - 1 = (m : Int) - ((k + 1 : Nat) : Int) by omega], hb, hz, ?_, hf⟩
        rw [List.take_succ_eq_append_getElem hku]
        exact ho
    · have hk' : k = m + 1 := by dsimp only at hlt; omega
      subst hk'
      rw [List.take_of_length_le (by omega)] at ho
      exact hR l w2 hb ho
  · have hd1 : depthOf (orderOf nx) dp i = -1 := by unfold depthOf; rw [if_neg hin]
    rw [hd1]
    refine once' fun next => ifB_false (by decide) ?_
    refine hR ⟨none, 0, 0⟩ w (Below.refl _ _) ?_
    unfold upOf
    rw [if_neg hin]
    exact Own.nil _ _ _

end Go.Proofs
