/-
  Contracts of the small functions that the statements of layer 14 reach.
-/
import Derived.Test.YtjplhoollkeihaaGkN
import Derived.Test.YtjplhoollkeihaaL14
namespace Go.Proofs
open Go.Gk Go.RowKit

theorem eInt : ElemT Try.prog 32 3 1 8 := ⟨by kernel_rfl, Try.t3, .int .i64 0, by kernel_rfl, rfl, rfl, rfl, rfl⟩

theorem among_spec {s : Sl} {l : List Int} {n : Int} {w : World} {R : Value → World → Prop} (h : IsI w s l) (hR : R (.bool (l.contains n)) w) :
    callR Try.prog 35 #[.slice s.a s.l s.c, .int .i64 n] w R := by
  refine callR.of (intagliolaw14_among_calls s n R w ?_) fun _ _ h => h
  refine LoopW.count l.length h.bound (fun k w' => w' = w ∧ ∀ i (hi : i < l.length), i < k → l[i] ≠ n) ⟨rfl, fun _ _ h => by omega⟩ ?_
  rintro k _ hk ⟨rfl, hI⟩ next hnext
  refine ifB_dec (fun hlt => ?_) (fun hge => ?_)
  · have hlt : k < l.length := by have := h.len; dsimp only at hlt; omega
    refine elemI h hlt (ifB_beq (fun he => ?_) (fun he => ?_))
    · have : l.contains n = true := by simp; exact he ▸ List.getElem_mem hlt
      rw [this] at hR
      exact hR
    · exact hnext _ hlt ⟨rfl, fun i hi hik => by
        by_cases h : i = k
        · subst h; exact he
        · exact hI i hi (by omega)⟩
  · have : l.contains n = false := by
      rw [← Bool.not_eq_true]
      simp only [List.contains_iff_mem]
      intro hm
      obtain ⟨i, hi, he⟩ := List.mem_iff_getElem.1 hm
      exact hI i hi (by have := h.len; dsimp only at hge; omega) he
    rw [this] at hR
    exact hR

theorem in_spec {s : Sl} {l : List Int} {n : Int} {w : World} {R : Value → World → Prop} (h : IsI w s l) (hR : R (.bool (l.contains n)) w) :
    callR Try.prog 93 #[.slice s.a s.l s.c, .int .i64 n] w R := by
  refine callR.of (intaglioref14_in_calls s n R w ?_) fun _ _ h => h
  refine LoopW.count l.length h.bound (fun k w' => w' = w ∧ ∀ i (hi : i < l.length), i < k → l[i] ≠ n) ⟨rfl, fun _ _ h => by omega⟩ ?_
  rintro k _ hk ⟨rfl, hI⟩ next hnext
  refine ifB_dec (fun hlt => ?_) (fun hge => ?_)
  · have hlt : k < l.length := by have := h.len; dsimp only at hlt; omega
    refine elemI h hlt (ifB_beq (fun he => ?_) (fun he => ?_))
    · have : l.contains n = true := by simp; exact he ▸ List.getElem_mem hlt
      rw [this] at hR
      exact hR
    · exact hnext _ hlt ⟨rfl, fun i hi hik => by
        by_cases h : i = k
        · subst h; exact he
        · exact hI i hi (by omega)⟩
  · have : l.contains n = false := by
      rw [← Bool.not_eq_true]
      simp only [List.contains_iff_mem]
      intro hm
      obtain ⟨i, hi, he⟩ := List.mem_iff_getElem.1 hm
      exact hI i hi (by have := h.len; dsimp only at hge; omega) he
    rw [this] at hR
    exact hR

/-- The place of the first n, or -1. -/
def placeOf (l : List Int) (n : Int) : Int := match l.findIdx? (· == n) with | some i => i | none => -1
theorem place_spec {s : Sl} {l : List Int} {n : Int} {w : World} {R : Value → World → Prop} (h : IsI w s l) (hR : R (.int .i64 (placeOf l n)) w) :
    callR Try.prog 39 #[.slice s.a s.l s.c, .int .i64 n] w R := by
  refine callR.of (intagliolaw14_place_calls s n R w ?_) fun _ _ h => h
  refine LoopW.count l.length h.bound (fun k w' => w' = w ∧ ∀ i (hi : i < l.length), i < k → l[i] ≠ n) ⟨rfl, fun _ _ h => by omega⟩ ?_
  rintro k _ hk ⟨rfl, hI⟩ next hnext
  refine ifB_dec (fun hlt => ?_) (fun hge => ?_)
  · have hlt : k < l.length := by have := h.len; dsimp only at hlt; omega
    refine elemI h hlt (ifB_beq (fun he => ?_) (fun he => ?_))
    · have : placeOf l n = k := by
        unfold placeOf
        rw [(List.findIdx?_eq_some_iff_getElem).2 ⟨hlt, by simpa using he, fun j hj => by simpa using hI j (by omega) hj⟩]
      rw [this] at hR
      exact hR
    · exact hnext _ hlt ⟨rfl, fun i hi hik => by
        by_cases h : i = k
        · subst h; exact he
        · exact hI i hi (by omega)⟩
  · have : placeOf l n = -1 := by
      unfold placeOf
      rw [List.findIdx?_eq_none_iff.2]
      intro x hx
      obtain ⟨i, hi, he⟩ := List.mem_iff_getElem.1 hx
      have := hI i hi (by have := h.len; dsimp only at hge; omega)
      rw [he] at this
      simpa using this
    rw [this] at hR
    exact hR

theorem Ints_spec {s t : Sl} {l m : List Int} {w : World} {R : Value → World → Prop} (hs : IsI w s l) (ht : IsI w t m) (hR : ∀ w', w'.heap = w.heap → Below w.heap.size w w' → R (.bool (decide (l = m))) w') :
    callR Try.prog 29 #[.slice s.a s.l s.c, .slice t.a t.l t.c] w R := by
  refine callR.of (intagliokit_Ints_calls s t R w ?_) fun _ _ h => h
  have e1 := hs.len
  have e2 := ht.len
  refine ifB_bne (fun hne => ?_) (fun he => ?_)
  · have : decide (l = m) = false := by
      rw [decide_eq_false_iff_not]; intro e; subst e; omega
    have := this ▸ hR w rfl (Below.refl _ _)
    exact this
  · have hlm : l.length = m.length := by omega
    refine LoopW.count l.length hs.bound (fun k w' => w'.heap = w.heap ∧ Below w.heap.size w w' ∧ l.take k = m.take k) ⟨rfl, Below.refl _ _, by simp⟩ ?_
    rintro k w' hk ⟨hh, hb, hI⟩ next hnext
    refine ifB_dec (fun hlt => ?_) (fun hge => ?_)
    · have hlt : k < l.length := by dsimp only at hlt; omega
      refine elemI (hs.heap (w' := w'.drew) hh) hlt (elemI (ht.heap (w' := w'.drew) hh) (by omega) (ifB_bne (fun hne => ?_) (fun he => ?_)))
      · have : decide (l = m) = false := by
          rw [decide_eq_false_iff_not]; intro e; subst e; exact hne rfl
        have := this ▸ hR w'.drew hh hb.drew
        exact this
      · exact hnext _ hlt ⟨hh, hb.drew, by rw [List.take_succ_eq_append_getElem hlt, List.take_succ_eq_append_getElem (by omega), hI, he]⟩
    · have : l = m := by
        have hk' : k = l.length := by dsimp only at hge; omega
        subst hk'
        rwa [List.take_length, hlm, List.take_length] at hI
      have := (decide_eq_true this) ▸ hR w' hh hb
      exact this

theorem Spoil_spec {s : Sl} {xs : List Value} {w : World} {R : Value → World → Prop} (h : Own w 3 1 s xs) (hR : ∀ w', Only s w w' → R (.tuple #[]) w') :
    callR Try.prog 30 #[.slice s.a s.l s.c] w R := by
  refine callR.of (intagliokit_SpoilInts_calls s R w ?_) fun _ _ h => h
  have hb : s.l ≤ 9223372036854775807 := by
    rcases h.2 with rfl | ⟨_, _, _, _, h1, h2, _⟩
    · simp
    · omega
  refine LoopW.count s.l hb (fun k w' => Only s w w' ∧ ∃ xs, Own w' 3 1 s xs) ⟨Only.refl _ _, xs, h⟩ ?_
  rintro k w' hk ⟨hO, xs', hX⟩ next hnext
  refine ifB_dec (fun hlt => ?_) (fun hge => hR w' hO)
  have hlt : k < s.l := by dsimp only at hlt; omega
  rcases hX.2 with e | ⟨b, cs, ha, hB, h1, h2, h3, h4⟩
  · rw [e] at hlt; simp at hlt
  · refine ⟨⟨by simp, by simpa using hlt⟩, derefP_some ha ⟨hB.wr (n := k) (by omega), ?_⟩⟩
    refine Nw.mk (hnext _ hlt ⟨hO.set ha k _, (cs.set k (.int .i64 (-7777))).take (s.l * 1), ?_⟩)
    exact ⟨by simp [h3]; omega, .inr ⟨b, _, ha, hB.set k (.int .i64 (-7777)), h1, h2, by simp [h3], rfl⟩⟩

theorem Clone_spec {α : Type} {f : α → Value} {s : Sl} {l : List α} {w : World} {R : Value → World → Prop} (hf : ∀ x, (f x).oneCell' = true) (h : IsS f w s l) (hl : l.length * 8 ≤ 140737488355328)
    (hR : ∀ r w', Own w' 3 1 r (l.map f) → Fresh w.heap.size r → Below w.heap.size w w' → R (.slice r.a r.l r.c) w') :
    callR Try.prog 104 #[.slice s.a s.l s.c] w R := by
  refine callR.of (slices_Clone_sint_int_calls s R w ?_) fun _ _ h => h
  refine ifB_bool (fun hn => ?_) (fun hn => ?_)
  · have hn : s.a = none := by simpa using hn
    have hc := h.nil hn
    have : l = [] := List.eq_nil_of_length_eq_zero (by have := h.len; have := h.cap; omega)
    subst this
    exact hR ⟨none, 0, 0⟩ w (Own.nil _ _ _) (fun a ha => by cases ha) (Below.refl _ _)
  · obtain ⟨a, ha⟩ : ∃ a, s.a = some a := by
      cases hs : s.a with
      | none => rw [hs] at hn; cases hn
      | some a => exact ⟨a, rfl⟩
    refine Nw.gen fun w1 hw1 => ?_
    have hB : Blk w1 w.heap.size 3 [] := by rw [hw1]; exact Blk.new w 3 #[]
    have hb1 : Below w.heap.size w w1 := by rw [hw1]; exact (Below.refl _ _).alloc (Nat.le_refl _) _
    have hO : Own w1 3 1 ⟨some (blk w.heap.size), 0, 0⟩ [] := ⟨rfl, .inr ⟨_, [], rfl, hB, Nat.le_refl _, by simp, rfl, rfl⟩⟩
    have h' := h.below hb1
    rw [ha, h.len]
    refine append_own eInt hO (m := l.length) (news := l.map f) (by simp) (fun j u hj => ?_) (fun u hu => ?_) (by have := h.bound; simp; omega) (by simpa using hl) fun r w' h1 _ h3 => ?_
    · rw [List.getElem?_map] at hj
      obtain ⟨x, hx, rfl⟩ := Option.map_eq_some_iff.1 hj
      obtain ⟨hlt, rfl⟩ := List.getElem?_eq_some_iff.1 hx
      exact h'.cell a ha j hlt
    · obtain ⟨x, _, rfl⟩ := List.mem_map.1 hu
      exact hf x
    · rcases h3 with ⟨_, rfl, rfl⟩ | ⟨b, h4, h5, h6⟩
      · exact hR _ _ h1 (fun a ha => by cases ha; exact Nat.le_refl _) hb1
      · have hbb : w.heap.size ≤ b := by
          rcases h5 with h5 | h5
          · cases h5; exact Nat.le_refl _
          · have := hb1.size; omega
        refine hR _ _ h1 (fun a ha => by rw [h4] at ha; cases ha; exact hbb) (hb1.trans (below_grown h6 hbb hb1.size))

end Go.Proofs
