/-
  The statement GraphEdges.
-/
import Derived.Test.Ytjplhoollkeihaa14j
namespace Go.Proofs
open Go.Gk Go.RowKit Go.Gr

theorem own_take {α : Type} {f : α → Value} {w : World} {T : TypeId} {s : Sl} {l : List α} (h : Own w T 1 s (l.map f)) {k : Nat} (hk : k ≤ l.length) :
    IsS f w ⟨if s.c = 0 then s.a else Option.map (fun a => a.add 0) s.a, k - 0, s.c - 0⟩ (l.take k) := by
  have hS := h.isS
  have e : (if s.c = 0 then s.a else Option.map (fun a => a.add 0) s.a) = s.a := by
    split
    · rfl
    · cases hs : s.a with
      | none => rfl
      | some a => rw [Option.map_some, (h.lt hs).1, add_blk]
  rw [e]
  refine ⟨?_, ?_, ?_, hS.nil, fun a ha i hi => ?_⟩
  · show k - 0 = _; rw [List.length_take]; omega
  · show k - 0 ≤ s.c - 0; have := hS.cap; have := hS.len; omega
  · show s.c - 0 ≤ _; have := hS.max; omega
  · have hi' : i < l.length := by rw [List.length_take] at hi; omega
    rw [List.getElem_take]
    exact hS.cell a ha i hi'
theorem containsN (l : List Nat) (x : Nat) : (l.map fun (x : Nat) => (x : Int)).contains (x : Int) = l.contains x := by
  rw [Bool.eq_iff_iff]
  simp only [List.contains_iff_mem, List.mem_map]
  exact ⟨fun ⟨y, hy, e⟩ => by rw [show x = y by omega]; exact hy, fun h => ⟨x, h, rfl⟩⟩
theorem copL_all (ll : List (List Int)) : copL ll.length ll.length (fun i => ll.getD i []) = ll := by
  apply List.ext_getElem
  · simp
  · intro i g1 g2
    simp only [List.getElem_map, List.getElem_range]
    rw [if_pos g2]
    simp [List.getD, g2]
theorem edge_iff {nx : List (List Nat)} (hx : NxOk nx) {i j : Nat} : i ∈ (aheadOf nx).getD j [] ↔ j ∈ nx.getD i [] := by
  by_cases hj : j < nx.length
  · rw [ahead_getD hj, List.mem_filter, List.mem_range, List.contains_iff_mem]
    refine ⟨fun h => h.2, fun h => ⟨?_, h⟩⟩
    by_cases hi : i < nx.length
    · exact hi
    · simp [List.getD, hi] at h
  · constructor
    · intro h; simp [List.getD, ahead_length, hj] at h
    · intro h; exact absurd (hx.rows i j h) hj
theorem ahead_rise {nx : List (List Nat)} {j k : Nat} (h : k + 1 < ((aheadOf nx).getD j []).length) : ((aheadOf nx).getD j [])[k]'(by omega) < ((aheadOf nx).getD j [])[k + 1] := by
  have hp : ((aheadOf nx).getD j []).Pairwise (· < ·) := by
    by_cases hj : j < nx.length
    · rw [ahead_getD hj]; exact List.Pairwise.filter _ List.pairwise_lt_range
    · simp [List.getD, ahead_length, hj]
  exact List.pairwise_iff_getElem.1 hp k (k + 1) (by omega) h (by omega)
theorem nodup_take {l : List Nat} (h : l.Nodup) {k : Nat} (hk : k < l.length) : (l.take k).contains l[k] = false := by
  rw [← Bool.not_eq_true, List.contains_iff_mem]
  intro hm
  obtain ⟨j, hj, e⟩ := List.mem_iff_getElem.1 hm
  rw [List.getElem_take] at e
  have hj' : j < k := by rw [List.length_take] at hj; omega
  have := List.pairwise_iff_getElem.1 h j k (by omega) hk hj'
  exact this e

set_option maxHeartbeats 1000000 in
theorem GraphEdges_spec {s : Sl} {hs : List Sl} {ll : List (List Int)} {w : World} {R : Value → World → Prop} (h : IsII w s hs ll) (h24 : 24 * ll.length ≤ 281474976710656) (h8 : ∀ l ∈ ll, 8 * l.length ≤ 281474976710656)
    (hR : ∀ w', Below w.heap.size w w' → R (.bool true) w') :
    callR Try.prog 4 #[.slice s.a s.l s.c] w R := by
  refine callR.of (intagliolaw14_GraphEdges_calls s R w ?_) fun _ _ h => h
  have hsl : s.l = hs.length := h.top.len
  have hhl : hs.length = ll.length := h.len
  have hn : s.l = ll.length := by omega
  unfold L_intagliolaw14_GraphEdges
  refine copied_spec h h24 h8 fun w1 b1 c1 => ⟨⟨_, ll.length, ll.length⟩, rfl, ?_⟩
  have i1 := c1.isII (by omega) (fun i hi => by have := h8 (ll.getD i []) (by simp [List.getD, hi]); omega)
  rw [copL_all] at i1
  have aw : ∀ w2, Below w1.heap.size w1 w2 → callR Try.prog 32 #[] w2 fun v6 w3 => ∃ x7 : Bool, v6 = (.bool x7) ∧ R (.bool x7) w3 := fun w2 b2 =>
    awake_spec fun w3 b3 => ⟨true, rfl, hR w3 (b1.trans ((b2.mono b1.size).trans (b3.mono (by have := b1.size; have := b2.size; omega))))⟩
  refine graph_Of_spec (s := ⟨some (blk w.heap.size), ll.length, ll.length⟩) i1 (fun _ => ⟨none, 2, rfl, ifB_true rfl (ifB_true rfl (aw w1 (Below.refl _ _)))⟩) (fun _ => ⟨none, 4, rfl, ifB_true rfl (ifB_true rfl (aw w1 (Below.refl _ _)))⟩)
    (fun _ _ _ w2 b2 => ⟨none, 141, rfl, ifB_true rfl (ifB_true rfl (aw w2 b2))⟩) fun h0 hmax hG w2 gb b2 _ hg => ?_
  have hx : NxOk (edges ll) := edges_ok h0 hmax hG
  have hlen := edges_length ll
  have hb2 : Below w.heap.size w w2 := b1.trans (b2.mono b1.size)
  have hedge : ∀ i (hi : i < ll.length) (x : Nat), x ∈ (edges ll).getD i [] ↔ (x : Int) ∈ ll[i] := by
    intro i hi x
    rw [edges_getD hi, mem_dedup, List.mem_map]
    constructor
    · rintro ⟨y, hy, rfl⟩
      have := hG _ (List.getElem_mem hi) y hy
      rw [show ((y.toNat : Nat) : Int) = y by omega]; exact hy
    · intro h; exact ⟨_, h, by simp⟩
  generalize hE : edges ll = nx at hx hg hlen hedge
  refine ⟨_, _, rfl, ifB_false rfl ?_⟩
  refine gLen_spec hg ⟨_, rfl, ifB_false (by rw [hn, hlen]; simp) ?_⟩
  refine LoopW.count ll.length (by omega) (fun i w' => Below w2.heap.size w2 w') (Below.refl _ _) ?_
  rintro i w5 hi b5 next hnext
  refine gLen_spec (hg.below b5) ⟨_, rfl, ifB_dec (fun hlt => ?_) (fun hge => awake_spec fun w3 b3 => ⟨true, rfl, hR w3 (hb2.trans ((b5.mono hb2.size).trans (b3.mono (by have := hb2.size; have := b5.size; omega))))⟩)⟩
  have hlt : i < ll.length := by dsimp only at hlt; omega
  refine Next_spec hx (hg.below b5) fun r7 w7 o7 f7 b7 => ⟨r7, rfl, ?_⟩
  rw [show (i : Int) = ((i : Nat) : Int) from rfl, rowAt_nat] at o7
  have hl7 := own_len o7
  have t7 : Below w2.heap.size w2 w7 := b5.trans (b7.mono b5.size)
  have hb7 : Below w.heap.size w w7 := hb2.trans (t7.mono hb2.size)
  have hrow : ∀ {w' : World}, Below w7.heap.size w7 w' → IsI w' (hs[i]'(by omega)) ll[i] := fun hb => (h.below (hb7.trans (hb.mono hb7.size))).row i (by omega) hlt
  have htop : ∀ {w' : World}, Below w7.heap.size w7 w' → IsS Sl.val w' s hs := fun hb => (h.below (hb7.trans (hb.mono hb7.size))).top
  have hg7 := hg.below t7
  have hrn : (hs[i]'(by omega)).l = (ll[i]).length := (hrow (Below.refl _ _)).len
  -- Next's edges
  refine LoopW.count (nx.getD i []).length (by have := hx.row_le i; omega) (fun k w' => Below w7.heap.size w7 w') (Below.refl _ _) ?_
  rintro k w8 hk b8 nxt hnxt
  refine ifB_dec (fun hltk => ?_) (fun hgek => ?_)
  · have hltk : k < (nx.getD i []).length := by dsimp only at hltk; omega
    refine JoinW.cut (fun _ w' => Below w7.heap.size w7 w') ?_ fun _ w' hh => hnxt w' hltk hh
    have o8 := o7.below b8
    have hm : (nx.getD i [])[k] ∈ nx.getD i [] := List.getElem_mem hltk
    refine elemS (htop b8.drew) (k := i) (by omega) ?_
    refine elemI o8.drew.isS.toI (k := k) (by simpa using hltk) ?_
    rw [List.getElem_map]
    refine among_spec (hrow b8.drew) ⟨_, rfl, ifB_not (ifB_true ?_ ?_)⟩
    · rw [List.contains_iff_mem]; exact (hedge i hlt _).1 hm
    have hc := o8.drew.isS.cap
    refine ⟨⟨by omega, by dsimp only; omega, by dsimp only; omega⟩, ?_⟩
    refine elemI o8.drew.isS.toI (k := k) (by simpa using hltk) ?_
    rw [List.getElem_map]
    refine among_spec (l := ((nx.getD i []).take k).map fun (x : Nat) => (x : Int)) (s := ⟨_, _, _⟩) (IsS.toI (own_take o8.drew (k := k) (by omega))) ⟨_, rfl, ifB_false ?_ ?_⟩
    · rw [containsN]; exact nodup_take (hx.nodup i) hltk
    refine elemI o8.drew.isS.toI (k := k) (by simpa using hltk) ?_
    rw [List.getElem_map]
    refine Ahead_spec hx (hg7.below b8.drew) fun r11 w11 o11 f11 b11 => ⟨r11, rfl, ?_⟩
    rw [rowAt_nat] at o11
    refine among_spec (IsS.toI o11.isS) ⟨_, rfl, ifB_not (ifB_true ?_ (b8.drew.trans (b11.mono b8.drew.size)))⟩
    rw [containsN, List.contains_iff_mem, edge_iff hx]
    exact hm
  -- what was said is there
  refine LoopW.count (ll[i]).length (hrow (Below.refl _ _)).bound (fun k w' => Below w7.heap.size w7 w') b8 ?_
  rintro k w14 hk14 b14 nxt14 hnxt14
  refine elemS (htop b14) (k := i) (by omega) ?_
  refine ifB_dec (fun hltk => ?_) (fun hgek14 => ?_)
  · have hltk : k < (ll[i]).length := by dsimp only at hltk; omega
    refine elemS (htop b14) (k := i) (by omega) ?_
    refine elemI (hrow b14) hltk ?_
    have hm : ll[i][k] ∈ ll[i] := List.getElem_mem hltk
    have hgd := hG _ (List.getElem_mem hlt) _ hm
    obtain ⟨x, hxe⟩ := Int.eq_ofNat_of_zero_le hgd.1
    rw [hxe]
    refine among_spec (IsS.toI (o7.below b14).isS) ⟨_, rfl, ifB_not (ifB_true ?_ (hnxt14 _ hltk b14))⟩
    rw [containsN, List.contains_iff_mem, hedge i hlt, ← hxe]
    exact hm
  -- Ahead's edges
  refine Ahead_spec hx (hg7.below b14) fun r16 w16 o16 f16 b16 => ⟨r16, rfl, ?_⟩
  rw [show (i : Int) = ((i : Nat) : Int) from rfl, rowAt_nat] at o16
  have hl16 := own_len o16
  have hal := ahead_le nx i
  have hb16 : Below w7.heap.size w7 w16 := b14.trans (b16.mono b14.size)
  refine LoopW.count ((aheadOf nx).getD i []).length (by have := ahead_le nx i; omega) (fun k w' => Below w16.heap.size w16 w') (Below.refl _ _) ?_
  rintro k w17 hk17 b17 nxt17 hnxt17
  refine ifB_dec (fun hltk => ?_) (fun hgek17 => ?_)
  · have hltk : k < ((aheadOf nx).getD i []).length := by dsimp only at hltk; omega
    refine JoinW.cut (fun _ w' => Below w16.heap.size w16 w') ?_ fun _ w' hh => hnxt17 w' hltk hh
    have o17 := o16.below b17
    have hm : ((aheadOf nx).getD i [])[k] ∈ (aheadOf nx).getD i [] := List.getElem_mem hltk
    have hb17 : Below w7.heap.size w7 w17.drew := hb16.trans (b17.drew.mono hb16.size)
    refine elemI o17.drew.isS.toI (k := k) (by simpa using hltk) ?_
    rw [List.getElem_map]
    refine Next_spec hx (hg7.below hb17) fun r18 w18 o18 f18 b18 => ⟨r18, rfl, ?_⟩
    rw [rowAt_nat] at o18
    have hb18 : Below w16.heap.size w16 w18 := b17.drew.trans (b18.mono b17.drew.size)
    refine among_spec (IsS.toI o18.isS) ⟨_, rfl, ifB_not (ifB_true ?_ (ifB_dec (fun hk0 => ?_) (fun _ => hb18)))⟩
    · rw [containsN, List.contains_iff_mem]
      exact (edge_iff hx).1 hm
    · obtain ⟨k, rfl⟩ : ∃ k', k = k' + 1 := ⟨k - 1, by dsimp only at hk0; omega⟩
      have e : IntKind.i64.wrap (((k + 1 : Nat) : Int) - 1) = (k : Int) := by rw [wrap64_in (by omega) (by omega)]; omega
      dsimp only
      rw [e]
      have o18' := o16.below hb18
      refine elemI o18'.isS.toI (k := k) (by rw [List.length_map]; omega) (elemI o18'.isS.toI (k := k + 1) (by simpa using hltk) (ifB_false ?_ hb18))
      rw [List.getElem_map, List.getElem_map, decide_eq_false_iff_not]
      have := ahead_rise hltk
      omega
  · refine hnext w17 hlt (t7.trans ((hb16.mono t7.size).trans (b17.mono ?_)))
    have := t7.size; have := hb16.size; omega

end Go.Proofs
