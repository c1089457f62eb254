/-
  What calls tell of any number; the document's Calls and Called.
-/
import Derived.Test.Ytjplhoollkeihaa17h
import Derived.Test.Ytjplhoollkeihaa17u
namespace Go.Proofs
open Go.Gk Go.RowKit Go.Gr Go.St

/-- What number i calls (nothing, if it is none). -/
def callsL (rows : List (List Nat)) (i : Int) : List Nat := if i < 0 then [] else rows.getD i.toNat []
def calledL (rows : List (List Nat)) (i : Int) : List Nat := (List.range rows.length).filter fun k => (rows.getD k []).any fun x => (x : Int) == i
open Classical in
noncomputable def reachedL (rows : List (List Nat)) (i : Int) : List Nat := if 0 ≤ i ∧ i < (rows.length : Int) then (List.range rows.length).filter (wyB rows i.toNat) else []
def deepI (rows : List (List Nat)) (i : Int) : Int := if 0 ≤ i ∧ i < (rows.length : Int) then (dep rows i.toNat : Int) else -1
theorem filter_step (p : Nat → Bool) (k : Nat) : (List.range (k + 1)).filter p = (List.range k).filter p ++ if p k then [k] else [] := by
  rw [List.range_succ, List.filter_append]
  congr 1
  simp [List.filter_cons]
theorem filter_len (p : Nat → Bool) (k : Nat) : ((List.range k).filter p).length ≤ k := by have := List.length_filter_le p (List.range k); simpa using this
theorem callsL_out {rows : List (List Nat)} {i : Int} (h : ¬ (0 ≤ i ∧ i < (rows.length : Int))) : callsL rows i = [] := by
  unfold callsL
  by_cases e : i < 0
  · rw [if_pos e]
  · rw [if_neg e]; simp [List.getD, List.getElem?_eq_none (show rows.length ≤ i.toNat by omega)]
section
variable {rc : Nat} {rows : List (List Nat)} {w : World} {R : Value → World → Prop}
theorem cDeep_specI (h : IsCl w rc rows) {i : Int} (hR : R (.int .i64 (deepI rows i)) w) : callR Try.prog 63 #[.pointer (some (Gk.blk rc)), .int .i64 i] w R := by
  by_cases hi : 0 ≤ i ∧ i < (rows.length : Int)
  · obtain ⟨k, rfl⟩ : ∃ k : Nat, i = (k : Int) := ⟨i.toNat, by omega⟩
    refine cDeep_spec h (i := k) (by omega) ?_
    unfold deepI at hR
    rw [if_pos hi] at hR
    exact hR
  · unfold deepI at hR
    rw [if_neg hi] at hR
    refine callR.of (calls_Calls_Deep_calls _ i R w ?_) fun _ _ h => h
    exact JoinW.cut (fun _ _ => False) (ifB_dec (fun h0 => hR) fun h0 => cLen_spec h ⟨_, rfl, ifB_dec (fun h1 => hR) fun h1 => absurd ⟨by omega, by omega⟩ hi⟩) fun _ _ q => q.elim
theorem cCalls_specI (hrl : ∀ i, (rows.getD i []).length ≤ 4096) (h : IsCl w rc rows) {i : Int} (hR : ∀ r w', Below w.heap.size w w' → Own w' 3 1 r ((callsL rows i).map iN) → Fresh w.heap.size r → R (.slice r.a r.l r.c) w') :
    callR Try.prog 60 #[.pointer (some (Gk.blk rc)), .int .i64 i] w R := by
  refine callR.of (calls_Calls_Calls_calls _ i R w ?_) fun _ _ h => h
  by_cases hi : 0 ≤ i ∧ i < (rows.length : Int)
  · obtain ⟨i, rfl⟩ : ∃ k : Nat, i = (k : Int) := ⟨i.toNat, by omega⟩
    have hi : i < rows.length := by omega
    refine JoinW.cut (fun _ w' => w' = w) (ifB_dec (fun h0 => by omega) fun _ => cLen_spec h ⟨_, rfl, ifB_dec (fun h0 => by omega) fun _ => rfl⟩) ?_
    rintro _ _ rfl
    obtain ⟨s, t, x, hs, h1, h2, h3, h4⟩ := h.ex
    have hih : i < hs.length := by have := h2.len; omega
    have hl := hrl i
    have ec : callsL rows (i : Int) = rows.getD i [] := by unfold callsL; rw [if_neg (by omega)]; rfl
    rw [ec] at hR
    refine derefP_some rfl ⟨s, h1.cell0 rfl, rowN h2 hi hih (Clone_spec (f := iN) (l := rows.getD i []) (fun _ => rfl) ?_ (by omega) fun r w3 o3 f3 b3 => ⟨r, rfl, hR r w3 b3 o3 f3⟩)⟩
    have := h2.row i hih hi
    rw [show rows.getD i [] = rows[i] by simp [List.getD, hi]]
    exact this
  · rw [callsL_out hi] at hR
    have := hR ⟨none, 0, 0⟩ w (Below.refl _ _) (Own.nil _ _ _) fun a ha => by cases ha
    exact JoinW.cut (fun _ _ => False) (ifB_dec (fun h0 => this) fun h0 => cLen_spec h ⟨_, rfl, ifB_dec (fun h1 => this) fun h1 => absurd ⟨by omega, by omega⟩ hi⟩) fun _ _ q => q.elim
theorem cReached_specI (hmax : rows.length ≤ 4096) (h : IsCl w rc rows) {i : Int} (hR : ∀ r w', Below w.heap.size w w' → Own w' 3 1 r ((reachedL rows i).map iN) → R (.slice r.a r.l r.c) w') :
    callR Try.prog 64 #[.pointer (some (Gk.blk rc)), .int .i64 i] w R := by
  by_cases hi : 0 ≤ i ∧ i < (rows.length : Int)
  · unfold reachedL at hR
    rw [if_pos hi] at hR
    obtain ⟨k, rfl⟩ : ∃ k : Nat, i = (k : Int) := ⟨i.toNat, by omega⟩
    exact cReached_spec hmax h (by omega) hR
  · unfold reachedL at hR
    rw [if_neg hi] at hR
    have := hR ⟨none, 0, 0⟩ w (Below.refl _ _) (Own.nil _ _ _)
    refine callR.of (calls_Calls_Reached_calls _ i R w ?_) fun _ _ h => h
    exact JoinW.cut (fun _ _ => False) (ifB_dec (fun h0 => this) fun h0 => cLen_spec h ⟨_, rfl, ifB_dec (fun h1 => this) fun h1 => absurd ⟨by omega, by omega⟩ hi⟩) fun _ _ q => q.elim
theorem cCalled_specI (hmax : rows.length ≤ 4096) (h : IsCl w rc rows) {i : Int} (hR : ∀ r w', Below w.heap.size w w' → Own w' 3 1 r ((calledL rows i).map iN) → R (.slice r.a r.l r.c) w') :
    callR Try.prog 61 #[.pointer (some (Gk.blk rc)), .int .i64 i] w R := by
  refine callR.of (calls_Calls_Called_calls _ i R w ?_) fun _ _ h => h
  refine cLen_spec h ⟨_, rfl, ?_⟩
  obtain ⟨p, hp⟩ : ∃ p : Nat → Bool, p = fun k => (rows.getD k []).any fun x => (x : Int) == i := ⟨_, rfl⟩
  have hR' : ∀ r w', Below w.heap.size w w' → Own w' 3 1 r (((List.range rows.length).filter p).map iN) → R (.slice r.a r.l r.c) w' := by rw [hp]; exact hR
  have hpp : ∀ k, p k = true ↔ i ∈ (rows.getD k []).map fun (x : Nat) => (x : Int) := fun k => by
    rw [hp]
    simp only [List.any_eq_true, List.mem_map, beq_iff_eq]
  clear hp hR
  refine LoopW.countS rows.length (by omega) (fun k (l : Sl) w' => Below w.heap.size w w' ∧ w.heap.size ≤ w'.heap.size ∧ Own w' 3 1 l (((List.range k).filter p).map iN) ∧ Fresh w.heap.size l) ⟨Below.refl _ _, Nat.le_refl _, Own.nil _ _ _, fun a ha => by cases ha⟩ ?_
  rintro k l w2 hk ⟨b2, z2, o2, f2⟩ next hnext
  refine ifB_dec (fun hlt => ?_) (fun hge => ?_)
  · have hlt : k < rows.length := by dsimp only at hlt; omega
    have hcl := filter_len p k
    refine JoinW.cut (fun (st : Sl × Unit) w' => Below w.heap.size w w' ∧ w.heap.size ≤ w'.heap.size ∧ Own w' 3 1 st.1 (((List.range (k + 1)).filter p).map iN) ∧ Fresh w.heap.size st.1) ?_ fun st w' hh => hnext _ _ hlt hh
    obtain ⟨s, t, x, hs, h1, h2, h3, h4⟩ := (h.below b2).ex
    have hkh : k < hs.length := by have := h2.len; omega
    refine derefP_some rfl ⟨s, h1.cell0 rfl, rowN h2 hlt hkh (cContains_spec (rowI h2 hlt hkh) fun b hb => ⟨b, rfl, ifB_bool (fun eb => push_own rfl b2 z2 o2 f2 (by omega) fun r' w' q1 q2 q3 q4 => ⟨q1, q2, ?_, q4⟩) fun eb => ⟨b2, z2, ?_, f2⟩⟩)⟩
    · rw [filter_step, if_pos ((hpp k).2 (hb.1 eb))]; exact q3
    · rw [filter_step, if_neg (fun q => by rw [hb.2 ((hpp k).1 q)] at eb; cases eb), List.append_nil]; exact o2
  · have : k = rows.length := by dsimp only at hge; omega
    subst this
    exact hR' l w2 b2 o2
end

section
variable {s : Sl} {hs : List Sl} {ll : List (List Int)} {w : World} {R : Value → World → Prop}
theorem rCalls_spec (h : IsII w s hs ll) (h8 : ∀ l ∈ ll, 8 * l.length ≤ 140737488351232) (hmax : ll.length ≤ 4096) (hG : Good ll) {i : Int}
    (hR : ∀ r w', Below w.heap.size w w' → Own w' 3 1 r ((callsL (riseLL ll) i).map iN) → R (.slice r.a r.l r.c) w') : callR Try.prog 142 #[.slice s.a s.l s.c, .int .i64 i] w R := by
  refine callR.of (intaglioref17_Calls_calls s i R w ?_) fun _ _ h => h
  have hsl : s.l = ll.length := by have := h.top.len; have := h.len; omega
  by_cases hi : 0 ≤ i ∧ i < (ll.length : Int)
  · obtain ⟨i, rfl⟩ : ∃ k : Nat, i = (k : Int) := ⟨i.toNat, by omega⟩
    have hil : i < ll.length := by omega
    have hih : i < hs.length := by have := h.len; omega
    obtain ⟨p, hp⟩ : ∃ p : Nat → Bool, p = fun (k : Nat) => decide ((k : Int) ∈ ll[i]) := ⟨_, rfl⟩
    have hpp : ∀ k, p k = true ↔ (k : Int) ∈ ll[i] := fun k => by rw [hp]; simp
    have ep : callsL (riseLL ll) (i : Int) = (List.range ll.length).filter p := by
      have e0 : callsL (riseLL ll) (i : Int) = (riseLL ll).getD i [] := by unfold callsL; rw [if_neg (by omega)]; rfl
      rw [e0, riseLL_get hil]
      unfold riseL
      refine List.filter_congr fun k hk => ?_
      have h1 := hpp k
      have h2 : ((ll[i]).map Int.toNat).contains k = true ↔ (k : Int) ∈ ll[i] := by
        rw [List.contains_iff_mem]
        constructor
        · intro q
          obtain ⟨y, hy, e⟩ := List.mem_map.1 q
          have := hG _ (List.getElem_mem hil) y hy
          rw [show (k : Int) = y by omega]
          exact hy
        · intro q
          exact List.mem_map.2 ⟨(k : Int), q, by simp⟩
      rw [Bool.eq_iff_iff, h1, h2]
    rw [ep] at hR
    clear hp ep
    refine LoopW.countS ll.length (by omega) (fun k (l : Sl) w' => Below w.heap.size w w' ∧ w.heap.size ≤ w'.heap.size ∧ Own w' 3 1 l (((List.range k).filter p).map iN) ∧ Fresh w.heap.size l) ⟨Below.refl _ _, Nat.le_refl _, Own.nil _ _ _, fun a ha => by cases ha⟩ ?_
    rintro k l w1 hk ⟨b1, z1, o1, f1⟩ next hnext
    refine JoinW.cut (fun _ w' => w' = w1 ∧ k < ll.length) (ifB_dec (fun hlt => ifB_dec (fun _ => ifB_dec (fun _ => ⟨rfl, by dsimp only at hlt; omega⟩) fun h => absurd (by omega) h) fun h => absurd (by omega) h) fun hge => ?_) ?_
    · have : k = ll.length := by dsimp only at hge; omega
      subst this; exact hR l w1 b1 o1
    rintro _ w2 ⟨e2, hkn⟩
    have e2 := e2.symm
    subst e2
    refine JoinW.cut (fun (st : Sl × Unit) w' => Below w.heap.size w w' ∧ w.heap.size ≤ w'.heap.size ∧ Own w' 3 1 st.1 (((List.range (k + 1)).filter p).map iN) ∧ Fresh w.heap.size st.1) ?_ fun st w' hh => hnext _ _ hkn hh
    have h1 := h.below b1
    have hrow := h1.row i hih hil
    have hl8 := h8 _ (List.getElem_mem hil)
    have hrl := hrow.len
    refine LoopW.countS (ll[i]).length (by omega) (fun m (b : Bool) w' => w' = w1 ∧ (b = true ↔ (k : Int) ∈ (ll[i]).take m)) ⟨rfl, by simp⟩ ?_
    rintro m b w3 hm ⟨e3, hb⟩ next2 hnext2
    have e3 := e3.symm
    subst e3
    refine elemS h1.top (k := i) hih (ifB_dec (fun hltm => ?_) fun hgem => ?_)
    · have hltm : m < (ll[i]).length := by dsimp only at hltm; omega
      have et : (k : Int) ∈ (ll[i]).take (m + 1) ↔ (k : Int) ∈ (ll[i]).take m ∨ (k : Int) = (ll[i])[m] := by rw [List.take_succ_eq_append_getElem hltm, List.mem_append, List.mem_singleton]
      refine JoinW.cut (fun (st : Bool × Unit) w' => w' = w1 ∧ (st.1 = true ↔ (k : Int) ∈ (ll[i]).take (m + 1))) (elemS h1.top (k := i) hih (elemI hrow hltm ?_)) fun st w' hh => hnext2 _ _ hltm hh
      refine ifB_bool (fun e => ⟨rfl, ?_⟩) fun e => ⟨rfl, ?_⟩
      · rw [et]; exact ⟨fun _ => .inr (eq_of_beq e).symm, fun _ => rfl⟩
      · rw [et, hb]
        refine ⟨.inl, fun q => q.elim id fun q => ?_⟩
        have q' : (ll[i])[m] = (k : Int) := q.symm
        simp [q'] at e
    · have hme : m = (ll[i]).length := by dsimp only at hgem; omega
      subst hme
      rw [List.take_length] at hb
      have hcl := filter_len p k
      refine ifB_bool (fun eb => push_own rfl b1 z1 o1 f1 (by omega) fun r' w' q1 q2 q3 q4 => ⟨q1, q2, ?_, q4⟩) fun eb => ⟨b1, z1, ?_, f1⟩
      · rw [filter_step, if_pos ((hpp k).2 (hb.1 eb))]; exact q3
      · rw [filter_step, if_neg (fun q => by
          have := hb.2 ((hpp k).1 q)
          exact absurd (this.symm.trans eb) (by simp)), List.append_nil]; exact o1
  · have ec : callsL (riseLL ll) i = [] := callsL_out (by rw [riseLL_len]; exact hi)
    rw [ec] at hR
    have := hR ⟨none, 0, 0⟩ w (Below.refl _ _) (Own.nil _ _ _)
    refine LoopW.countS ll.length (by omega) (fun k (l : Sl) w' => k = 0 ∧ l = ⟨none, 0, 0⟩ ∧ w' = w) ⟨rfl, rfl, rfl⟩ ?_
    rintro k l w1 hk ⟨rfl, rfl, rfl⟩ next hnext
    exact JoinW.cut (fun _ _ => False) (ifB_dec (fun _ => ifB_dec (fun _ => ifB_dec (fun _ => absurd ⟨by omega, by omega⟩ hi) fun _ => this) fun _ => this) fun _ => this) fun _ _ q => q.elim
theorem rCalled_spec (h : IsII w s hs ll) (h8 : ∀ l ∈ ll, 8 * l.length ≤ 140737488351232) (hmax : ll.length ≤ 4096) (hG : Good ll) {i : Int}
    (hR : ∀ r w', Below w.heap.size w w' → Own w' 3 1 r ((calledL (riseLL ll) i).map iN) → R (.slice r.a r.l r.c) w') : callR Try.prog 143 #[.slice s.a s.l s.c, .int .i64 i] w R := by
  refine callR.of (intaglioref17_Called_calls s i R w ?_) fun _ _ h => h
  have hsl : s.l = ll.length := by have := h.top.len; have := h.len; omega
  obtain ⟨p, hp⟩ : ∃ p : Nat → Bool, p = fun k => ((riseLL ll).getD k []).any fun x => (x : Int) == i := ⟨_, rfl⟩
  have hR' : ∀ r w', Below w.heap.size w w' → Own w' 3 1 r (((List.range ll.length).filter p).map iN) → R (.slice r.a r.l r.c) w' := by
    rw [hp]
    unfold calledL at hR
    rw [riseLL_len] at hR
    exact hR
  have hpp : ∀ {k} (hk : k < ll.length), p k = true ↔ i ∈ ll[k] := fun {k} hk => by
    rw [hp]
    simp only [List.any_eq_true, beq_iff_eq]
    constructor
    · rintro ⟨x, hx, rfl⟩
      exact (mem_riseLL hG hk).1 hx
    · intro q
      have := hG _ (List.getElem_mem hk) i q
      exact ⟨i.toNat, (mem_riseLL hG hk).2 (by rw [show ((i.toNat : Nat) : Int) = i by omega]; exact q), by omega⟩
  clear hp hR
  refine LoopW.countS ll.length (by omega) (fun k (l : Sl) w' => Below w.heap.size w w' ∧ w.heap.size ≤ w'.heap.size ∧ Own w' 3 1 l (((List.range k).filter p).map iN) ∧ Fresh w.heap.size l) ⟨Below.refl _ _, Nat.le_refl _, Own.nil _ _ _, fun a ha => by cases ha⟩ ?_
  rintro k l w1 hk ⟨b1, z1, o1, f1⟩ next hnext
  refine ifB_dec (fun hlt => ?_) fun hge => ?_
  · have hlt : k < ll.length := by dsimp only at hlt; omega
    have hkh : k < hs.length := by have := h.len; omega
    refine JoinW.cut (fun (st : Sl × Unit) w' => Below w.heap.size w w' ∧ w.heap.size ≤ w'.heap.size ∧ Own w' 3 1 st.1 (((List.range (k + 1)).filter p).map iN) ∧ Fresh w.heap.size st.1) ?_ fun st w' hh => hnext _ _ hlt hh
    have h1 := h.below b1
    have hrow := h1.row k hkh hlt
    have hl8 := h8 _ (List.getElem_mem hlt)
    have hrl := hrow.len
    refine LoopW.countS (ll[k]).length (by omega) (fun m (b : Bool) w' => w' = w1 ∧ (b = true ↔ i ∈ (ll[k]).take m)) ⟨rfl, by simp⟩ ?_
    rintro m b w3 hm ⟨e3, hb⟩ next2 hnext2
    have e3 := e3.symm
    subst e3
    refine elemS h1.top (k := k) hkh (ifB_dec (fun hltm => ?_) fun hgem => ?_)
    · have hltm : m < (ll[k]).length := by dsimp only at hltm; omega
      have et : i ∈ (ll[k]).take (m + 1) ↔ i ∈ (ll[k]).take m ∨ i = (ll[k])[m] := by rw [List.take_succ_eq_append_getElem hltm, List.mem_append, List.mem_singleton]
      refine JoinW.cut (fun (st : Bool × Unit) w' => w' = w1 ∧ (st.1 = true ↔ i ∈ (ll[k]).take (m + 1))) (elemS h1.top (k := k) hkh (elemI hrow hltm ?_)) fun st w' hh => hnext2 _ _ hltm hh
      refine ifB_bool (fun e => ⟨rfl, ?_⟩) fun e => ⟨rfl, ?_⟩
      · rw [et]; exact ⟨fun _ => .inr (eq_of_beq e).symm, fun _ => rfl⟩
      · rw [et, hb]
        refine ⟨.inl, fun q => q.elim id fun q => ?_⟩
        have q' : (ll[k])[m] = i := q.symm
        simp [q'] at e
    · have hme : m = (ll[k]).length := by dsimp only at hgem; omega
      subst hme
      rw [List.take_length] at hb
      have hcl := filter_len p k
      refine ifB_bool (fun eb => push_own rfl b1 z1 o1 f1 (by omega) fun r' w' q1 q2 q3 q4 => ⟨q1, q2, ?_, q4⟩) fun eb => ⟨b1, z1, ?_, f1⟩
      · rw [filter_step, if_pos ((hpp hlt).2 (hb.1 eb))]; exact q3
      · rw [filter_step, if_neg (fun q => by
          have := hb.2 ((hpp hlt).1 q)
          exact absurd (this.symm.trans eb) (by simp)), List.append_nil]; exact o1
  · have : k = ll.length := by dsimp only at hge; omega
    subst this
    exact hR' l w1 b1 o1
end

end Go.Proofs
