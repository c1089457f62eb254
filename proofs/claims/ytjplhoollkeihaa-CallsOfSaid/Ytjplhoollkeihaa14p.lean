/-
  Contracts of the document's graph: Of, Len, Next, Ahead.
-/
import Derived.Test.Ytjplhoollkeihaa14k
namespace Go.Gk
/-- 'for i := 0; i < n; i++' beside one slot more. -/
theorem LoopW.countS {α : Type} {body : α × Int × Unit → World → (α × Int × Unit → World → Prop) → Prop} {w : World} {a0 : α} (n : Nat) (hn : n ≤ 9223372036854775807) (I : Nat → α → World → Prop) (h0 : I 0 a0 w)
    (h : ∀ k a w, k ≤ n → I k a w → ∀ next : α × Int × Unit → World → Prop, (∀ a' w', k < n → I (k + 1) a' w' → next (a', IntKind.i64.wrap ((k : Int) + 1), ()) w') → body (a, (k : Int), ()) w next) : LoopW body (a0, (0 : Int), ()) w := by
  refine LoopW.ghost (fun j s w => ∃ k : Nat, k ≤ n ∧ j = n - k ∧ ∃ a, s = (a, (k : Int), ()) ∧ I k a w) n ⟨0, Nat.zero_le _, rfl, a0, rfl, h0⟩ ?_
  rintro _ _ w ⟨k, hk, rfl, a, rfl, hI⟩ next hnext
  refine h k a w hk hI next fun a' w' hlt hI' => ?_
  rw [wrap64_succ (by omega)]
  exact hnext (n - (k + 1)) _ _ (by omega) ⟨k + 1, by omega, rfl, a', rfl, hI'⟩
end Go.Gk
namespace Go.Proofs
open Go.Gk Go.RowKit Go.Gr

theorem eII : ElemT Try.prog 22 32 1 24 := ⟨by kernel_rfl, Try.t32, .slice none 0 0, by kernel_rfl, rfl, rfl, rfl, rfl⟩

/-- append(r, x) at a row of the code's own, all that is new lying from block B0 on. -/
theorem push_own {B0 : Nat} {w0 w : World} {r : Sl} {l : List Nat} {x : Int} {y : Nat} (hx : x = (y : Int)) (hb : Below B0 w0 w) (hB : B0 ≤ w.heap.size) (ho : Own w 3 1 r (l.map iN)) (hf : Fresh B0 r) (hl : l.length < 1099511627776)
    {k : Sl → World → Prop} (hk : ∀ r' w', Below B0 w0 w' → B0 ≤ w'.heap.size → Own w' 3 1 r' ((l ++ [y]).map iN) → Fresh B0 r' → k r' w') :
    Nw (w.alloc (.cells #[.int .i64 x] 3)) fun w1 => appendS Try.prog 32 (.slice r.a r.l r.c) (.slice (some (blk w.heap.size)) 1 1) w1 k := by
  subst hx
  refine Nw.gen fun w1 hw1 => ?_
  have hB1 : Blk w1 w.heap.size 3 [iN y] := by rw [hw1]; exact Blk.new w _ #[_]
  have ho1 : Own w1 3 1 r (l.map iN) := by rw [hw1]; exact ho.alloc _
  have hb1 : Below B0 w0 w1 := by rw [hw1]; exact hb.alloc hB _
  have hz1 : w1.heap.size = w.heap.size + 1 := by rw [hw1]; simp
  have hl1 := own_len ho1
  refine append_one eInt ho1 rfl hB1 (by omega) (by omega) fun r' w' hr hrl ⟨b, hrb, hbo, hg⟩ => ?_
  have hbB : B0 ≤ b := by
    rcases hbo with hb | rfl
    · exact hf _ hb
    · omega
  refine hk r' w' (hb1.trans (below_grown hg hbB (by omega))) ?_ (by simpa using hr) (fun a ha => by rw [hrb] at ha; cases ha; exact hbB)
  have := hg.size
  omega

/-- The document's graph at block rb. -/
def IsR (w : World) (rb : Nat) (nx : List (List Nat)) : Prop := ∃ s hs, Blk w rb 113 [s.val] ∧ IsNN w s hs nx
theorem IsR.below {w w' : World} {rb : Nat} {nx : List (List Nat)} (h : IsR w rb nx) (hb : Below w.heap.size w w') : IsR w' rb nx :=
  let ⟨s, hs, h1, h2⟩ := h
  ⟨s, hs, h1.below hb, h2.below hb⟩

set_option maxHeartbeats 1000000 in
theorem refOf_spec {s : Sl} {hs : List Sl} {ll : List (List Int)} {w : World} {R : Value → World → Prop} (h : IsII w s hs ll) (h8 : ∀ l ∈ ll, 8 * l.length ≤ 281474976710656)
    (h2 : ll.length = 0 → R (.tuple #[.pointer none, .int .i64 2]) w)
    (h4 : 4096 < ll.length → R (.tuple #[.pointer none, .int .i64 4]) w)
    (hbad : 0 < ll.length → ll.length ≤ 4096 → ¬ Good ll → ∀ w', Below w.heap.size w w' → R (.tuple #[.pointer none, .int .i64 141]) w')
    (hok : 0 < ll.length → ll.length ≤ 4096 → Good ll → ∀ w' rb, Below w.heap.size w w' → IsR w' rb (edges ll) → R (.tuple #[.pointer (some (blk rb)), .int .i64 0]) w') :
    callR Try.prog 26 #[.slice s.a s.l s.c] w R := by
  refine callR.of (intaglioref14_Of_calls s R w ?_) fun _ _ h => h
  have hsl : s.l = hs.length := h.top.len
  have hhl : hs.length = ll.length := h.len
  have hn : s.l = ll.length := by omega
  unfold L_intaglioref14_Of
  rw [hn]
  refine ifB_beq (fun he => h2 (by omega)) (fun hne => ifB_dec (fun hgt => h4 (by omega)) (fun hle => ?_))
  have hn0 : 0 < ll.length := by omega
  have hn1 : ll.length ≤ 4096 := by omega
  refine Nw.gen fun w1 hw1 => ?_
  have hb1 : Below w.heap.size w w1 := by rw [hw1]; exact (Below.refl _ _).alloc (Nat.le_refl _) _
  have hg1 : Blk w1 w.heap.size 113 [(⟨none, 0, 0⟩ : Sl).val] := by rw [hw1]; exact Blk.new w _ #[_]
  have hz1 : w1.heap.size = w.heap.size + 1 := by rw [hw1]; simp
  clear hw1
  have natlen : (natRows ll).length = ll.length := by simp
  refine LoopW.count ll.length (by omega) (fun i w' => Below w.heap.size w w' ∧ w.heap.size < w'.heap.size ∧ (∃ (r : Sl) (rs : List Sl), Blk w' w.heap.size 113 [r.val] ∧ Own w' 32 1 r (rs.map Sl.val) ∧ Fresh (w.heap.size + 1) r ∧ rs.length = i ∧
      ∀ (j : Nat) (hj : j < rs.length), Own w' 3 1 rs[j] (((edges ll).getD j []).map iN)) ∧ ∀ j, j < i → ∀ (hj : j < ll.length), ∀ x ∈ ll[j], 0 ≤ x ∧ x < (ll.length : Int))
    ⟨hb1, by omega, ⟨⟨none, 0, 0⟩, [], hg1, Own.nil _ _ _, (fun a ha => by cases ha), rfl, fun j hj => by cases hj⟩, fun j hj => by omega⟩ ?_
  rintro i w2 hi ⟨hb2, hz2, ⟨r, rs, hg2, hr2, hf2, hrs, hrows2⟩, hgood⟩ next hnext
  refine ifB_dec (fun hlt => ?_) (fun hge => ?_)
  · have hlt : i < ll.length := by dsimp only at hlt; omega
    have hrow : ∀ {w' : World}, Below w.heap.size w w' → IsI w' (hs[i]'(by omega)) ll[i] := fun hb => (h.below hb).row i (by omega) hlt
    have hbw : ∀ {w' : World}, Below w2.heap.size w2 w' → Below w.heap.size w w' := fun hb => hb2.trans (hb.mono (by omega))
    have hrn : (hs[i]'(by omega)).l = (ll[i]).length := (hrow hb2).len
    have h8i := h8 _ (List.getElem_mem hlt)
    refine LoopW.countS (ll[i]).length (hrow hb2).bound (fun k l w' => Below w2.heap.size w2 w' ∧ w2.heap.size ≤ w'.heap.size ∧ Own w' 3 1 l ((dedup ((ll[i].take k).map Int.toNat)).map iN) ∧ Fresh w2.heap.size l ∧ ∀ j, j < k → ∀ (hj : j < (ll[i]).length), 0 ≤ ll[i][j] ∧ ll[i][j] < (ll.length : Int))
      ⟨Below.refl _ _, Nat.le_refl _, by simpa [dedup] using Own.nil _ _ _, (fun a ha => by cases ha), fun j hj => by omega⟩ ?_
    rintro k l w3 hk ⟨hb3, hz3, ho3, hf3, hgood3⟩ nxt hnxt
    refine elemS_n (h.below (hbw hb3)).top hn (k := i) (by omega) ?_
    refine ifB_dec (fun hltk => ?_) (fun hgek => ?_)
    · have hltk : k < (ll[i]).length := by dsimp only at hltk; omega
      refine JoinW.cut (fun st w' => Below w2.heap.size w2 w' ∧ w2.heap.size ≤ w'.heap.size ∧ Own w' 3 1 st.1 ((dedup ((ll[i].take (k + 1)).map Int.toNat)).map iN) ∧ Fresh w2.heap.size st.1 ∧ 0 ≤ ll[i][k] ∧ ll[i][k] < (ll.length : Int)) ?_
        fun st w' hh => hnxt st.1 w' hltk ⟨hh.1, hh.2.1, hh.2.2.1, hh.2.2.2.1, fun j hj hjl => by
          by_cases e : j = k
          · subst e; exact hh.2.2.2.2
          · exact hgood3 j (by omega) hjl⟩
      refine elemS_n (h.below (hbw hb3)).top hn (k := i) (by omega) ?_
      refine elemI (hrow (hbw hb3)) hltk ?_
      have bad : ¬ (0 ≤ ll[i][k] ∧ ll[i][k] < (ll.length : Int)) → R (.tuple #[.pointer none, .int .i64 141]) w3 := fun hx =>
        hbad hn0 hn1 (fun hG => hx (hG _ (List.getElem_mem hlt) _ (List.getElem_mem hltk))) w3 (hbw hb3)
      refine JoinW.cut (fun _ w' => w' = w3 ∧ 0 ≤ ll[i][k] ∧ ll[i][k] < (ll.length : Int)) (ifB_dec (fun hx => bad (by omega)) (fun hx => ifB_dec (fun hx' => bad (by omega)) (fun hx' => ⟨rfl, by omega, by omega⟩))) ?_
      rintro _ wx ⟨ewx, hx0, hx1⟩
      subst wx
      obtain ⟨x, hx⟩ := Int.eq_ofNat_of_zero_le hx0
      have hsnoc : dedup ((ll[i].take (k + 1)).map Int.toNat) = addOnce (dedup ((ll[i].take k).map Int.toNat)) x := by
        rw [List.take_succ_eq_append_getElem hltk, List.map_append, ← dedup_snoc, hx]; rfl
      rw [hsnoc, hx]
      refine in_spec (IsS.toI ho3.isS) ⟨_, rfl, ifB_not ?_⟩
      rw [containsN]
      refine ifB_bool (fun hc => ?_) (fun hc => ?_)
      · refine ⟨hb3, hz3, ?_, hf3, by omega, by omega⟩
        unfold addOnce
        rw [if_pos hc]; exact ho3
      · have hd : (dedup ((ll[i].take k).map Int.toNat)).length ≤ ll.length := dedup_le fun y hy => by
          obtain ⟨z, hz, rfl⟩ := List.mem_map.1 hy
          obtain ⟨j, hj, rfl⟩ := List.mem_iff_getElem.1 hz
          have hj' : j < k ∧ j < (ll[i]).length := by rw [List.length_take] at hj; omega
          have := hgood3 j hj'.1 hj'.2
          rw [List.getElem_take]
          omega
        refine push_own rfl hb3 hz3 ho3 hf3 (by omega) fun r' w' g1 g2 g3 g4 => ⟨g1, g2, ?_, g4, by omega, by omega⟩
        unfold addOnce
        rw [if_neg (by rw [hc]; decide)]; exact g3
    · have hkk : k = (ll[i]).length := by dsimp only at hgek; omega
      subst hkk
      rw [List.take_length] at ho3
      have hg3 := hg2.below hb3
      have hr3 := hr2.below hb3
      refine ⟨r, hg3.cell0 rfl, Nw.gen fun w4 hw4 => ?_⟩
      have hb4 : Below w3.heap.size w3 w4 := by rw [hw4]; exact (Below.refl _ _).alloc (Nat.le_refl _) _
      have hB4 : Blk w4 w3.heap.size 32 [l.val] := by rw [hw4]; exact Blk.new w3 _ #[_]
      have hz4 : w4.heap.size = w3.heap.size + 1 := by rw [hw4]; simp
      have hr4 := hr3.below hb4
      have hrl : r.l = rs.length := by have := hr4.1; simp at this; omega
      refine append_one eII hr4 rfl hB4 (by omega) (by omega) fun r5 w5 hr5 hrl5 ⟨b, hrb, hbo, hgr⟩ => ?_
      have hbB : w.heap.size + 1 ≤ b := by
        rcases hbo with hb | rfl
        · exact hf2 _ hb
        · omega
      have hg5 : Blk w5 w.heap.size 113 [r.val] := (hg3.below hb4).of_block (hgr.block _ (hg3.below hb4).lt (fun e => by have := Option.some.inj e; omega))
      have hbt : ∀ {sl : Sl} {xs : List Value}, Own w4 3 1 sl xs → Own w5 3 1 sl xs := fun ho => ho.of_block fun a ha => hgr.block _ (ho.lt ha).2 (fun e => by
        have e := Option.some.inj e
        obtain ⟨c2, t2⟩ := ho.type ha
        rcases hbo with hb | hb
        · obtain ⟨c1, t1⟩ := hr4.type hb
          have e' : (blk b).block = a.block := Eq.symm e
          rw [e'] at t1
          exact absurd (t1.type t2) (by decide)
        · have := (ho.lt ha).2; omega)
      refine ⟨hg5.wr0 (by simp), Nw.gen fun w6 hw6 => ?_⟩
      have hg6 : Blk w6 w.heap.size 113 [r5.val] := by rw [hw6]; exact hg5.set0 _
      have st6 : ∀ {T : TypeId} {sl : Sl} {xs : List Value}, T ≠ 113 → Own w5 T 1 sl xs → Own w6 T 1 sl xs := fun hT ho => ho.of_block fun a ha => by
        rw [hw6]
        refine Below.heap_setCell _ _ _ _ fun e => hT ?_
        obtain ⟨c2, t2⟩ := ho.type ha
        have e' : a.block = w.heap.size := e
        rw [e'] at t2
        exact t2.type hg5
      have hb45 : Below w.heap.size w w5 := (hbw (hb3.trans (hb4.mono hz3))).trans (below_grown hgr (by omega) (by omega))
      have hz5 : w4.heap.size ≤ w5.heap.size := hgr.size
      refine hnext w6 hlt ⟨by rw [hw6]; exact hb45.setCell (Nat.le_refl _) _, by rw [hw6]; simp [World.setCell]; omega, ⟨r5, rs ++ [l], hg6, by simpa using st6 (by decide) hr5, (fun a ha => by rw [hrb] at ha; cases ha; exact hbB), by simp [hrs], fun j hj => ?_⟩, fun j hj hjl x hx => ?_⟩
      · by_cases e : j < rs.length
        · rw [List.getElem_append_left e]
          exact st6 (by decide) (hbt (((hrows2 j e).below hb3).below hb4))
        · have hj' : j = rs.length := by simp at hj; omega
          subst hj'
          rw [List.getElem_append_right (Nat.le_refl _)]
          simp only [Nat.sub_self, List.getElem_cons_zero]
          rw [show (edges ll).getD rs.length [] = dedup (ll[i].map Int.toNat) by rw [hrs]; exact edges_getD hlt]
          exact st6 (by decide) (hbt (ho3.below hb4))
      · by_cases e : j = i
        · subst e
          obtain ⟨m, hm, rfl⟩ := List.mem_iff_getElem.1 hx
          exact hgood3 m hm hm
        · exact hgood j (by omega) hjl x hx
  · have hi' : i = ll.length := by dsimp only at hge; omega
    subst hi'
    have hG : Good ll := fun l hl x hx => by
      obtain ⟨j, hj, rfl⟩ := List.mem_iff_getElem.1 hl
      exact hgood j hj hj x hx
    refine hok hn0 hn1 hG w2 _ hb2 ⟨r, rs, hg2, hr2.isS, by rw [edges_length]; omega, fun j hj hj' => ?_⟩
    have := (hrows2 j hj).isS
    have e : (edges ll)[j] = (edges ll).getD j [] := by simp only [List.getD, List.getElem?_eq_getElem hj', Option.getD_some]
    rw [e]; exact this

end Go.Proofs
