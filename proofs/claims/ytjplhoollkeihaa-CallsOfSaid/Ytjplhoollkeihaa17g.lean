/-
  The document's calls: Of, Calls, Called, Reached.
-/
import Derived.Test.Ytjplhoollkeihaa17f
namespace Go.Proofs
open Go.Gk Go.RowKit Go.Gr

section
variable {s : Sl} {hs : List Sl} {ll : List (List Int)} {w : World} {R : Value → World → Prop}
set_option maxHeartbeats 2000000 in
theorem rOf17_spec (h : IsII w s hs ll) (h8 : ∀ l ∈ ll, 8 * l.length ≤ 140737488351232)
    (h4 : 4096 < ll.length → R (.int .i64 4) w)
    (hbad : ll.length ≤ 4096 → ¬ Good ll → R (.int .i64 3) w)
    (hcyc : ll.length ≤ 4096 → Good ll → ¬ NoRound (riseLL ll) → ∀ w', Below w.heap.size w w' → R (.int .i64 171) w')
    (hok : ll.length ≤ 4096 → Good ll → NoRound (riseLL ll) → ∀ w', Below w.heap.size w w' → R (.int .i64 0) w') :
    callR Try.prog 90 #[.slice s.a s.l s.c] w R := by
  refine callR.of (intaglioref17_Of_calls s R w ?_) fun _ _ h => h
  have hsl : s.l = ll.length := by have := h.top.len; have := h.len; omega
  refine ifB_dec (fun hgt => h4 (by omega)) fun hle => ?_
  have hmax : ll.length ≤ 4096 := by omega
  refine LoopW.count ll.length (by omega) (fun k w' => w' = w ∧ ∀ l ∈ ll.take k, ∀ x ∈ l, 0 ≤ x ∧ x < (ll.length : Int)) ⟨rfl, by simp⟩ ?_
  rintro k w1 hk ⟨e1, hno⟩ next hnext
  have e1 := e1.symm
  subst e1
  refine ifB_dec (fun hlt => ?_) (fun hge => ?_)
  · have hlt : k < ll.length := by dsimp only at hlt; omega
    have hkh : k < hs.length := by have := h.len; omega
    have hl8 := h8 _ (List.getElem_mem hlt)
    have hrow := h.row k hkh hlt
    have hrl := hrow.len
    have no : ∀ {q : Nat} (hq : q < (ll[k]).length), ¬ (0 ≤ (ll[k])[q] ∧ (ll[k])[q] < (ll.length : Int)) → R (.int .i64 3) w := fun hq hn => hbad hmax fun hG => hn (hG _ (List.getElem_mem hlt) _ (List.getElem_mem hq))
    refine LoopW.count (ll[k]).length (by omega) (fun m w' => w' = w ∧ ∀ x ∈ (ll[k]).take m, 0 ≤ x ∧ x < (ll.length : Int)) ⟨rfl, by simp⟩ ?_
    rintro m w2 hm ⟨e2, hno2⟩ next2 hnext2
    have e2 := e2.symm
    subst e2
    refine elemS h.top (k := k) hkh (ifB_dec (fun hltm => ?_) fun hgem => ?_)
    · have hltm : m < (ll[k]).length := by dsimp only at hltm; omega
      refine JoinW.cut (fun _ w' => w' = w ∧ 0 ≤ (ll[k])[m] ∧ (ll[k])[m] < (ll.length : Int)) (elemS h.top (k := k) hkh (elemI hrow hltm (ifB_dec (fun h0 => no hltm (by omega)) fun h0 => elemS h.top (k := k) hkh (elemI hrow hltm (ifB_dec (fun h1 => no hltm (by omega)) fun h1 => ⟨rfl, by omega, by omega⟩))))) ?_
      rintro _ w3 ⟨e3, hx⟩
      rw [e3]
      refine hnext2 _ hltm ⟨rfl, fun x hx' => ?_⟩
      rw [List.take_succ_eq_append_getElem hltm, List.mem_append, List.mem_singleton] at hx'
      rcases hx' with hx' | hx'
      · exact hno2 x hx'
      · rw [hx']; exact hx
    · have : m = (ll[k]).length := by dsimp only at hgem; omega
      subst this
      rw [List.take_length] at hno2
      refine hnext _ hlt ⟨rfl, fun l hl => ?_⟩
      rw [List.take_succ_eq_append_getElem hlt, List.mem_append, List.mem_singleton] at hl
      rcases hl with hl | hl
      · exact hno l hl
      · rw [hl]; exact hno2
  have hke : k = ll.length := by dsimp only at hge; omega
  subst hke
  rw [List.take_length] at hno
  have hG : Good ll := hno
  clear hnext next
  have hmr : ∀ {i : Nat} (hi : i < ll.length) {x : Nat}, x ∈ (riseLL ll).getD i [] ↔ (x : Int) ∈ ll[i] := fun hi => mem_riseLL hG hi
  refine rReaches_spec h h8 hmax hG fun r w4 b4 hT => ⟨r, rfl, ?_⟩
  have h4' := h.below b4
  refine LoopW.count ll.length (by omega) (fun i w' => w' = w4 ∧ ∀ j, j < i → ∀ k ∈ (riseLL ll).getD j [], ¬ Wy (riseLL ll) k j) ⟨rfl, fun j hj => by omega⟩ ?_
  rintro i w5 hi ⟨e5, hno5⟩ next hnext
  have e5 := e5.symm
  subst e5
  refine ifB_dec (fun hlt => ?_) (fun hge => ?_)
  · have hlt : i < ll.length := by dsimp only at hlt; omega
    have hih : i < hs.length := by have := h.len; omega
    have hl8 := h8 _ (List.getElem_mem hlt)
    have hrow := h4'.row i hih hlt
    have hrl := hrow.len
    refine LoopW.count (ll[i]).length (by omega) (fun m w' => w' = w4 ∧ ∀ q (hq : q < (ll[i]).length), q < m → ∀ x : Nat, (ll[i])[q] = (x : Int) → ¬ Wy (riseLL ll) x i) ⟨rfl, fun _ _ h => by omega⟩ ?_
    rintro m w6 hm ⟨e6, hno6⟩ next2 hnext2
    have e6 := e6.symm
    subst e6
    refine elemS h4'.top (k := i) hih (ifB_dec (fun hltm => ?_) fun hgem => ?_)
    · have hltm : m < (ll[i]).length := by dsimp only at hltm; omega
      refine elemS h4'.top (k := i) hih (elemI hrow hltm ?_)
      have hxg := hG _ (List.getElem_mem hlt) _ (List.getElem_mem hltm)
      obtain ⟨x, hx⟩ : ∃ x : Nat, (ll[i])[m] = (x : Int) := ⟨((ll[i])[m]).toNat, by omega⟩
      have hxr : x ∈ (riseLL ll).getD i [] := (hmr hlt).2 (by rw [← hx]; exact List.getElem_mem _)
      rw [hx]
      refine hT.get (a := x) (b := i) (by omega) hlt fun v hv => ifB_bool (fun e => hcyc hmax hG (fun q => q ⟨i, x, hxr, hv.1 e⟩) w4 b4) fun e => hnext2 _ hltm ⟨rfl, fun q hq hqm y hy => ?_⟩
      by_cases eq : q = m
      · subst eq
        rw [show y = x by omega]
        exact fun hw => by rw [hv.2 hw] at e; cases e
      · exact hno6 q hq (by omega) y hy
    · have : m = (ll[i]).length := by dsimp only at hgem; omega
      subst this
      refine hnext _ hlt ⟨rfl, fun j hj k hk => ?_⟩
      by_cases e : j = i
      · subst e
        obtain ⟨q, hq, eq⟩ := List.getElem_of_mem ((hmr hlt).1 hk)
        exact hno6 q hq hq k eq
      · exact hno5 j (by omega) k hk
  · have : i = ll.length := by dsimp only at hge; omega
    subst this
    refine hok hmax hG (fun ⟨j, k, hk, hw⟩ => ?_) w4 b4
    have hj := mem_ltC hk
    rw [riseLL_len] at hj
    exact hno5 j hj k hk hw
end

end Go.Proofs
