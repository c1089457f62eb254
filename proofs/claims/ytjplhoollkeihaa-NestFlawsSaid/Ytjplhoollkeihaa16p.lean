/-
  Rows that the code makes, and changes; the statement NestRings.
-/
import Derived.Test.Ytjplhoollkeihaa16o
namespace Go.Proofs
open Go.Gk Go.RowKit Go.Gr Go.Dm

theorem own_put {w : World} {T : TypeId} {s : Sl} {xs : List Value} (h : Own w T 1 s xs) {i : Nat} (hi : i < xs.length) (v : Value) : ∃ b, s.a = some (Gk.blk b) ∧ Wr w ((Gk.blk b).add i) ∧ Own (w.setCell ((Gk.blk b).add i) v) T 1 s (xs.set i v) ∧ ∃ cs, Blk w b T cs := by
  obtain ⟨hl, h | ⟨b, cs, ha, hB, hc, hm, hcl, ht⟩⟩ := h
  · subst h
    simp at hl
    subst hl
    simp at hi
  · refine ⟨b, ha, hB.wr (by omega), ⟨by rw [List.length_set]; exact hl, .inr ⟨b, cs.set i v, ha, hB.set i v, hc, hm, by rw [List.length_set]; exact hcl, ?_⟩⟩, cs, hB⟩
    rw [← ht, List.take_set]

/-- Rows that the code has made: their headers in a slice of its own, each row in one of its own. -/
structure CT (B T : Nat) (w : World) (C : Sl) (rows : List (List Nat)) : Prop where
  size : T ≤ w.heap.size
  bT : B ≤ T
  fr : ∀ a, C.a = some a → B ≤ a.block ∧ a.block < T
  ex : ∃ hs : List Sl, hs.length = rows.length ∧ Own w 32 1 C (hs.map Sl.val) ∧ ∀ (i : Nat) (h : i < hs.length), Own w 3 1 hs[i] ((rows.getD i []).map iN) ∧ ∀ a, hs[i].a = some a → a.block < T
section
variable {B T : Nat} {w w' : World} {C : Sl} {rows : List (List Nat)}
theorem CT.grow (h : CT B T w C rows) (hb : Below T w w') : CT B T w' C rows := by
  obtain ⟨hs, h1, h2, h3⟩ := h.ex
  have := hb.size
  have := h.size
  exact ⟨by omega, h.bT, h.fr, hs, h1, h2.of_block fun a ha => hb.block _ (h.fr a ha).2, fun i hi => ⟨(h3 i hi).1.of_block fun a ha => hb.block _ ((h3 i hi).2 a ha), (h3 i hi).2⟩⟩
theorem CT.up (h : CT B T w C rows) : CT B w.heap.size w C rows := by
  obtain ⟨hs, h1, h2, h3⟩ := h.ex
  have := h.size
  have := h.bT
  exact ⟨Nat.le_refl _, by omega, fun a ha => by have := h.fr a ha; omega, hs, h1, h2, fun i hi => ⟨(h3 i hi).1, fun a ha => by have := (h3 i hi).2 a ha; omega⟩⟩
theorem CT.len (h : CT B T w C rows) : C.l = rows.length := by
  obtain ⟨hs, h1, h2, _⟩ := h.ex
  have := h2.1
  rw [List.length_map] at this
  omega
theorem CT.ld (h : CT B T w C rows) {i : Nat} (hi : i < rows.length) {φ : Sl → Prop} (hφ : ∀ x : Sl, IsI w x ((rows.getD i []).map fun (x : Nat) => (x : Int)) → x.l = (rows.getD i []).length → φ x) :
    (0 ≤ (i : Int) ∧ (i : Int) < (C.l : Int)) ∧ derefP C.a fun a => ldS w (a.add (Int.toNat (i : Int))) φ := by
  obtain ⟨hs, h1, h2, h3⟩ := h.ex
  have hi' : i < hs.length := by omega
  exact elemS (Own.isS h2) hi' (hφ _ (IsS.toI (Own.isS (h3 i hi').1)) (own_len (h3 i hi').1))
theorem CT.push (h : CT B w.heap.size w C rows) {r : Sl} {l : List Nat} (ho : Own w 3 1 r (l.map iN)) (hlen : rows.length < 1048576) {k : Sl → World → Prop}
    (hk : ∀ C' w', Below B w w' → CT B w'.heap.size w' C' (rows ++ [l]) → k C' w') :
    Nw (w.alloc (.cells #[(.slice r.a r.l r.c)] 32)) fun w1 => appendS Try.prog 22 (.slice C.a C.l C.c) (.slice (some (blk w.heap.size)) 1 1) w1 k := by
  obtain ⟨hs, h1, h2, h3⟩ := h.ex
  have hCl := h.len
  refine Nw.gen fun w1 hw1 => ?_
  have hB1 : Blk w1 w.heap.size 32 [r.val] := by rw [hw1]; exact Blk.new w _ #[_]
  have h21 : Own w1 32 1 C (hs.map Sl.val) := by rw [hw1]; exact h2.alloc _
  have b1 : Below w.heap.size w w1 := by rw [hw1]; exact (Below.refl _ _).alloc (Nat.le_refl _) _
  have z1 : w1.heap.size = w.heap.size + 1 := by rw [hw1]; simp
  refine append_one eII h21 rfl hB1 (by omega) (by omega) fun C' w' hC' hCl' ⟨b, hrb, hbo, hg⟩ => ?_
  have hbB : B ≤ b := by
    rcases hbo with hb | rfl
    · exact (h.fr _ hb).1
    · have := h.bT; omega
  have hbT := h.bT
  have zg := hg.size
  obtain ⟨cb, hcb⟩ := hC'.type hrb
  have keep : ∀ {r' : Sl} {xs : List Value}, Own w 3 1 r' xs → Own w' 3 1 r' xs := fun {r' xs} ho' => (ho'.below b1).of_block fun a ha => hg.block _ ((ho'.below b1).lt ha).2 fun e => by
    have e : b = a.block := (Option.some.inj e).symm
    have hlt := (ho'.lt ha).2
    rcases hbo with hb | hb
    · obtain ⟨cs, hcs⟩ := h2.type hb
      exact own_ne ho' hcs (by decide) ha e.symm
    · omega
  have b2 : Below B w w' := (b1.mono hbT).trans (below_grown hg hbB (by omega))
  refine hk C' w' b2 ⟨Nat.le_refl _, by omega, fun a ha => ?_, hs ++ [r], by simp [h1], by simpa using hC', fun i hi => ?_⟩
  · rw [hrb] at ha
    cases ha
    exact ⟨hbB, hcb.lt⟩
  · have hi2 : i < hs.length + 1 := by simpa using hi
    by_cases e : i < hs.length
    · rw [List.getElem_append_left e, show (rows ++ [l]).getD i [] = rows.getD i [] by simp [List.getD, List.getElem?_append_left (show i < rows.length by omega)]]
      exact ⟨keep (h3 i e).1, fun a ha => by have := (h3 i e).2 a ha; omega⟩
    · have e' : i = hs.length := by omega
      subst e'
      rw [List.getElem_concat_length rfl, show (rows ++ [l]).getD hs.length [] = l by simp [List.getD, h1]]
      exact ⟨keep ho, fun a ha => by have := (ho.lt ha).2; omega⟩
theorem CT.put (h : CT B w.heap.size w C rows) {i : Nat} (hi : i < rows.length) {r : Sl} {l : List Nat} (ho : Own w 3 1 r (l.map iN)) {k : World → Prop}
    (hk : ∀ w', Below B w w' → CT B w'.heap.size w' C (rows.set i l) → k w') :
    (0 ≤ (i : Int) ∧ (i : Int) < (C.l : Int)) ∧ derefP C.a fun a => Wr w (a.add (Int.toNat (i : Int))) ∧ Nw (w.setCell (a.add (Int.toNat (i : Int))) (.slice r.a r.l r.c)) k := by
  obtain ⟨hs, h1, h2, h3⟩ := h.ex
  have hCl := h.len
  obtain ⟨b, hb, hw, ho2, cs, hcs⟩ := own_put h2 (i := i) (by rw [List.length_map]; omega) r.val
  refine ⟨⟨by omega, by omega⟩, derefP_some hb ⟨hw, Nw.mk (hk _ ?_ ⟨Nat.le_refl _, ?_, fun a ha => ?_, hs.set i r, by simp [h1], ?_, fun j hj => ?_⟩)⟩⟩
  · exact (Below.refl _ _).setCell (by rw [add_block]; exact (h.fr _ hb).1) _
  · have := h.bT; simpa [World.setCell] using this
  · have := h.fr a ha; simpa [World.setCell] using this
  · rw [List.map_set]; exact ho2
  · have keep : ∀ {r' : Sl} {xs : List Value}, Own w 3 1 r' xs → Own (w.setCell ((Gk.blk b).add (Int.toNat (i : Int))) (.slice r.a r.l r.c)) 3 1 r' xs := fun {r' xs} ho' => ho'.of_block fun a ha => heap_set_other (own_ne ho' hcs (by decide) ha) _ _
    have hsz : (w.setCell ((Gk.blk b).add (Int.toNat (i : Int))) (.slice r.a r.l r.c)).heap.size = w.heap.size := by simp [World.setCell]
    rw [hsz]
    by_cases e : i = j
    · subst e
      simp only [List.getElem_set_self]
      rw [show (rows.set i l).getD i [] = l by simp [List.getD, hi]]
      exact ⟨keep ho, fun a ha => (ho.lt ha).2⟩
    · have hj' : j < hs.length := by simpa using hj
      simp only [List.getElem_set_ne e]
      rw [show (rows.set i l).getD j [] = rows.getD j [] by simp [List.getD, List.getElem?_set_ne e]]
      exact ⟨keep (h3 j hj').1, (h3 j hj').2⟩
end

/-- Edges that lead down. -/
structure RowsI (n : Nat) (rk : Nat → Nat) (rows : List (List Nat)) : Prop where
  down : ∀ i, ∀ t ∈ rows.getD i [], t < n ∧ rk t < rk i
  len : ∀ i, (rows.getD i []).length ≤ n
theorem RowsI.sub {n : Nat} {rk : Nat → Nat} {rows : List (List Nat)} (h : RowsI n rk rows) {i : Nat} (hi : i < rows.length) {l : List Nat} (hl : ∀ t ∈ l, t ∈ rows.getD i []) (hn : l.length ≤ (rows.getD i []).length) : RowsI n rk (rows.set i l) := by
  have e : ∀ j, (rows.set i l).getD j [] = if j = i then l else rows.getD j [] := fun j => by
    by_cases e : j = i
    · subst e; simp [List.getD, hi]
    · rw [if_neg e]; simp [List.getD, List.getElem?_set_ne (fun e' => e e'.symm)]
  refine ⟨fun j t ht => ?_, fun j => ?_⟩
  · rw [e] at ht
    split at ht
    · rename_i e'; subst e'; exact h.down j t (hl t ht)
    · exact h.down j t ht
  · rw [e]
    split
    · rename_i e'; subst e'; exact Nat.le_trans hn (h.len j)
    · exact h.len j

section
variable {ml : List Mg} {s : Sl}
set_option maxRecDepth 20000 in
set_option maxHeartbeats 8000000 in
theorem NestRings_spec {t : Sl} {hs : List Sl} {ll : List (List Int)} {w : World} {R : Value → World → Prop} (hI : IsII w t hs ll) (_h24 : 24 * ll.length ≤ 281474976710656) (_h8 : ∀ l ∈ ll, 8 * l.length ≤ 281474976710656)
    (hM : IsM w s ml) (h24 : 24 * ml.length ≤ 281474976710656) (_hk : ∀ x ∈ ml, 0 ≤ x.1) (hR : ∀ w', Below w.heap.size w w' → R (.bool true) w') :
    callR Try.prog 16 #[.slice t.a t.l t.c, .slice s.a s.l s.c] w R := by
  refine callR.of (intagliolaw16_NestRings_calls t s R w ?_) fun _ _ h => h
  refine sound_open hI hM h24 hR fun w7 gb nx b7 hx hg hS hml h64 => ?_
  have aw : ∀ w2, Below w7.heap.size w7 w2 → callR Try.prog 72 #[] w2 fun v w3 => ∃ x : Bool, v = .bool x ∧ R (.bool x) w3 := fun w2 b2 => nawake_spec fun w3 b3 => ⟨true, rfl, hR w3 ((b7.trans (b2.mono b7.size)).trans (b3.mono (by have := b7.size; have := b2.size; omega)))⟩
  have hP7 : PG w7 (some (Gk.blk gb)) gb nx := PG.some hx hg
  have hM7 := IsC.mbelow hM b7
  have hsl := hM.len
  obtain ⟨rk, hrk1, hrk2, hrk3⟩ := hS.rank
  -- what ends it
  have fin : ∀ w24, Below w7.heap.size w7 w24 → LoopW (S := Int × Unit) (fun s58 w25 n59 =>
                    ifB (decide (s58.1 < (s.l : Int)))
                      (JoinW (S := Unit) (fun m60 =>
                          callR Try.prog 66 #[(.slice s.a s.l s.c)] w25 fun v62 w26 =>
                          ∃ x63 : Sl, v62 = (.slice x63.a x63.l x63.c) ∧
                          callR Try.prog 73 #[(.pointer (some (Gk.blk gb))), (.slice x63.a x63.l x63.c), (.int .i64 s58.1)] w26 fun v64 w27 =>
                          ∃ x65 : Sl, ∃ x66 : Int, v64 = (.tuple #[(.slice x65.a x65.l x65.c), (.int .i64 x66)]) ∧
                          ifB (x66 == (0 : Int))
                            ((0 ≤ s58.1 ∧ s58.1 < (s.l : Int)) ∧
                            derefP s.a fun a67 =>
                            ldI w27 (a67.add ((Int.toNat s58.1) * 3)) .u8 fun x68 =>
                            ifB (x68 == (2 : Int))
                              (callR Try.prog 36 #[(.pointer (some (Gk.blk gb))), (.int .i64 s58.1)] w27 fun v69 w28 =>
                              ∃ x70 : Sl, v69 = (.slice x70.a x70.l x70.c) ∧
                              callR Try.prog 75 #[(.slice x70.a x70.l x70.c), (.slice x65.a x65.l x65.c)] w28 fun v71 w29 =>
                              ∃ x72 : Int, v71 = (.int .i64 x72) ∧
                              ifB (decide (x72 > (1 : Int)))
                                (R (.bool false) w29)
                                (m60 (()) w29))
                              (m60 (()) w27))
                            (m60 (()) w27))
                        (fun s61 w30 =>
                          n59 ((IntKind.i64.wrap (s58.1 + (1 : Int))), ()) w30))
                      (callR Try.prog 72 #[] w25 fun v73 w31 =>
                      ∃ x74 : Bool, v73 = (.bool x74) ∧
                      R (.bool x74) w31))
                  ((0 : Int), ()) w24 := fun w24 b24 => by
    refine LoopW.count nx.length (by omega) (fun _ w' => Below w7.heap.size w7 w') b24 ?_
    rintro h w25 hh b25 next hnext
    refine ifB_dec (fun hlt => ?_) (fun _ => aw w25 b25)
    have hlt : h < nx.length := by dsimp only at hlt; omega
    have hltm : h < ml.length := by omega
    refine JoinW.cut (fun _ w' => Below w7.heap.size w7 w') ?_ fun _ w' b => hnext _ hlt b
    refine cons_call (hP7.below b25) (IsC.mbelow hM7 b25) hS.d.fit h24 hlt fun r f w27 b27 o27 hcase => ifB_beq (fun e => ?_) fun _ => b25.trans (b27.mono b25.size)
    have b727 := b25.trans (b27.mono b25.size)
    refine elemMk (IsC.mbelow hM7 b727) hltm (ifB_beq (fun e2 => ?_) fun _ => b727)
    refine Ahead_spec hx (hg.below b727) fun r70 w28 o28 _ b28 => ⟨r70, rfl, ?_⟩
    rw [rowAt_nat] at o28
    have b728 := b727.trans (b28.mono b727.size)
    refine common_spec (IsS.toI (Own.isS o28)) (IsS.toI (Own.isS (o27.below b28))) ⟨_, rfl, ifB_dec (fun hgt => ?_) fun _ => b728⟩
    obtain ⟨_, ho⟩ : (ml.getD h (0, 0, 0)).1 ≠ 0 ∧ h ∈ orderOf (wideX nx ml) := by
      rcases hcase with hc | hc
      · exact hc.2
      · omega
    have h1 := hS.backs ho
    have h2 : ((aheadOf nx).getD h []).countP (consM nx ml h).contains ≤ ((aheadOf nx).getD h []).countP (inM nx ml h) := List.countP_mono_left fun u _ hu => inM_iff.2 (mem_consM.1 (List.contains_iff_mem.1 hu)).2
    omega
  -- the rows that are cut
  refine LoopW.countS nx.length (by omega) (fun k (C : Sl) w' => Below w7.heap.size w7 w' ∧ ∃ rows, CT w7.heap.size w'.heap.size w' C rows ∧ RowsI nx.length rk rows ∧ rows.length = k) ⟨Below.refl _ _, [], ⟨Nat.le_refl _, Nat.le_refl _, (fun a ha => by cases ha), [], rfl, Own.nil _ _ _, fun i hi => by cases hi⟩, ⟨fun i t ht => by simp at ht, fun i => by simp⟩, rfl⟩ ?_
  rintro n C w8 hn ⟨b8, rows, hC, hRI, hrl⟩ next hnext
  have z8 := b8.size
  refine ifB_dec (fun hlt => ?_) (fun hge => ?_)
  · have hlt : n < nx.length := by dsimp only at hlt; omega
    refine Next_spec hx (hg.below b8) fun r19 w9 o9 _ b9 => ⟨r19, rfl, ?_⟩
    rw [rowAt_nat] at o9
    have b79 := b8.trans (b9.mono z8)
    have z9 := b9.size
    have hC9 := (hC.grow b9).up
    have i19 : IsI w9 r19 ((nx.getD n []).map fun (x : Nat) => (x : Int)) := IsS.toI (Own.isS o9)
    have l19 := own_len o9
    have hrow := hx.row_le n
    have hg9 := hg.below b79
    have hM9 := IsC.mbelow hM7 b79
    refine LoopW.countS (nx.getD n []).length (by omega) (fun k (K : Sl) w' => Below w9.heap.size w9 w' ∧ w9.heap.size ≤ w'.heap.size ∧ ∃ keep : List Nat, Own w' 3 1 K (keep.map iN) ∧ Fresh w9.heap.size K ∧ keep.length ≤ k ∧ ∀ t ∈ keep, t < nx.length ∧ rk t < rk n) ⟨Below.refl _ _, Nat.le_refl _, [], Own.nil _ _ _, (fun a ha => by cases ha), Nat.le_refl _, fun t ht => by cases ht⟩ ?_
    rintro k K w10 hk ⟨b10, z10, keep, ok10, fk10, lk10, pk10⟩ next2 hnext2
    refine ifB_dec (fun hlt2 => ?_) (fun hge2 => ?_)
    · have hlt2 : k < (nx.getD n []).length := by dsimp only at hlt2; omega
      have ht := hx.rows n _ (List.getElem_mem hlt2)
      refine JoinW.cut (fun (st : Sl × Unit) w' => Below w9.heap.size w9 w' ∧ w9.heap.size ≤ w'.heap.size ∧ ∃ keep : List Nat, Own w' 3 1 st.1 (keep.map iN) ∧ Fresh w9.heap.size st.1 ∧ keep.length ≤ k + 1 ∧ ∀ t ∈ keep, t < nx.length ∧ rk t < rk n) ?_ fun st w' hh => hnext2 _ _ hlt2 hh
      have i10 := i19.below b10
      refine elemI i10 (k := k) (by rw [List.length_map]; exact hlt2) ?_
      rw [List.getElem_map]
      refine elemMk (IsC.mbelow hM9 b10) (k := (nx.getD n [])[k]) (by omega) (ifB_bne (fun h2 => ?_) fun _ => ⟨b10, z10, keep, ok10, fk10, by omega, pk10⟩)
      refine Reached_spec hx (hg9.below b10) ⟨_, rfl, ifB_bool (fun er => ?_) fun _ => ⟨b10, z10, keep, ok10, fk10, by omega, pk10⟩⟩
      rw [reached_inOd hx, inOd_nat, List.contains_iff_mem] at er
      refine elemI i10 (k := k) (by rw [List.length_map]; exact hlt2) ?_
      rw [List.getElem_map]
      refine push_own rfl b10 z10 ok10 fk10 (by omega) fun K' w13 b13 z13 o13 f13 => ⟨b13, z13, keep ++ [(nx.getD n [])[k]], o13, f13, by simp; omega, fun t hh => ?_⟩
      rcases List.mem_append.1 hh with hh | hh
      · exact pk10 t hh
      · have : t = (nx.getD n [])[k] := by simpa using hh
        subst this
        rw [getD_get (by omega)] at h2
        exact ⟨ht, hrk3 n _ er (List.getElem_mem hlt2) h2⟩
    · have hke : k = (nx.getD n []).length := by dsimp only at hge2; omega
      have hC10 := (hC9.grow b10).up
      refine hC10.push ok10 (by omega) fun C' w16 b16 hC16 => hnext _ _ hlt ⟨(b79.trans (b10.mono (by omega))).trans b16, rows ++ [keep], hC16, ⟨fun i t ht => ?_, fun i => ?_⟩, by simp [hrl]⟩
      · by_cases e : i < rows.length
        · rw [show (rows ++ [keep]).getD i [] = rows.getD i [] by simp [List.getD, List.getElem?_append_left e]] at ht
          exact hRI.down i t ht
        · by_cases e' : i = rows.length
          · subst e'
            rw [show (rows ++ [keep]).getD rows.length [] = keep by simp [List.getD]] at ht
            rw [hrl]
            exact pk10 t ht
          · rw [show (rows ++ [keep]).getD i [] = [] by simp [List.getD, List.getElem?_eq_none (show (rows ++ [keep]).length ≤ i by simp; omega)]] at ht
            cases ht
      · by_cases e : i < rows.length
        · rw [show (rows ++ [keep]).getD i [] = rows.getD i [] by simp [List.getD, List.getElem?_append_left e]]
          exact hRI.len i
        · by_cases e' : i = rows.length
          · subst e'
            rw [show (rows ++ [keep]).getD rows.length [] = keep by simp [List.getD]]
            omega
          · rw [show (rows ++ [keep]).getD i [] = [] by simp [List.getD, List.getElem?_eq_none (show (rows ++ [keep]).length ≤ i by simp; omega)]]
            simp
  · have hne : n = nx.length := by dsimp only at hge; omega
    clear hnext next
    refine JoinW.cut (fun _ w' => Below w7.heap.size w7 w') ?_ fun _ w24 b24 => fin w24 b24
    have hCl : C.l = nx.length := by have := hC.len; omega
    refine LoopW.count nx.length (by omega) (fun k w' => Below w7.heap.size w7 w' ∧ ∃ rows, CT w7.heap.size w'.heap.size w' C rows ∧ RowsI nx.length rk rows ∧ rows.length = nx.length ∧ ∀ i, rk i ≤ k + 1 → rows.getD i [] = []) ⟨b8, rows, hC, hRI, by omega, fun i hi => ?_⟩ ?_
    · cases e : rows.getD i [] with
      | nil => rfl
      | cons x r =>
        have := hRI.down i x (by rw [e]; simp)
        have := hrk2 x this.1
        omega
    clear hC hRI hrl rows b8 z8 w8
    rintro rd w17 hrd ⟨b17, rows, hC, hRI, hrl, hE⟩ next hnext
    refine ifB_true (by simp; omega) ?_
    refine LoopW.countS nx.length (by omega) (fun i (left : Int) w' => Below w7.heap.size w7 w' ∧ (∃ rows, CT w7.heap.size w'.heap.size w' C rows ∧ RowsI nx.length rk rows ∧ rows.length = nx.length ∧ (∀ j, rk j ≤ rd + 1 → rows.getD j [] = []) ∧ ∀ j, j < i → rk j ≤ rd + 2 → rows.getD j [] = []) ∧ 0 ≤ left ∧ left ≤ i * 4096 ∧ (rd = nx.length → left = 0))
      ⟨b17, ⟨rows, hC, hRI, hrl, hE, fun j hj => by omega⟩, by omega, by omega, fun _ => rfl⟩ ?_
    clear hC hRI hrl hE rows b17 w17
    rintro i left w18 hi ⟨b18, ⟨rows, hC, hRI, hrl, hE, hE2⟩, hl0, hl1, hl2⟩ next2 hnext2
    refine ifB_dec (fun hlt => ?_) (fun hge => ?_)
    · have hlt : i < nx.length := by dsimp only at hlt; omega
      have hri := hRI.len i
      have z18 := b18.size
      refine LoopW.countS (rows.getD i []).length (by omega) (fun k (K : Sl) w' => Below w18.heap.size w18 w' ∧ w18.heap.size ≤ w'.heap.size ∧ ∃ keep : List Nat, Own w' 3 1 K (keep.map iN) ∧ Fresh w18.heap.size K ∧ keep.length ≤ k ∧ ∀ t ∈ keep, t ∈ rows.getD i [] ∧ rows.getD t [] ≠ []) ⟨Below.refl _ _, Nat.le_refl _, [], Own.nil _ _ _, (fun a ha => by cases ha), Nat.le_refl _, fun t ht => by cases ht⟩ ?_
      rintro k K w19 hk ⟨b19, z19, keep, ok19, fk19, lk19, pk19⟩ next3 hnext3
      have hC19 := hC.grow b19
      refine hC19.ld (by omega) fun x43 i43 l43 => ifB_dec (fun hlt2 => ?_) (fun hge2 => ?_)
      · have hlt2 : k < (rows.getD i []).length := by dsimp only at hlt2; omega
        have hdn := hRI.down i _ (List.getElem_mem hlt2)
        refine JoinW.cut (fun (st : Sl × Unit) w' => Below w18.heap.size w18 w' ∧ w18.heap.size ≤ w'.heap.size ∧ ∃ keep : List Nat, Own w' 3 1 st.1 (keep.map iN) ∧ Fresh w18.heap.size st.1 ∧ keep.length ≤ k + 1 ∧ ∀ t ∈ keep, t ∈ rows.getD i [] ∧ rows.getD t [] ≠ []) ?_ fun st w' hh => hnext3 _ _ hlt2 hh
        refine hC19.ld (by omega) fun x47 i47 l47 => elemI i47 (k := k) (by rw [List.length_map]; exact hlt2) ?_
        rw [List.getElem_map]
        refine hC19.ld (i := (rows.getD i [])[k]) (by omega) fun x51 i51 l51 => ifB_dec (fun hgt => ?_) fun _ => ⟨b19, z19, keep, ok19, fk19, by omega, pk19⟩
        refine hC19.ld (by omega) fun x53 i53 l53 => elemI i53 (k := k) (by rw [List.length_map]; exact hlt2) ?_
        rw [List.getElem_map]
        refine push_own rfl b19 z19 ok19 fk19 (by omega) fun K' w21 b21 z21 o21 f21 => ⟨b21, z21, keep ++ [(rows.getD i [])[k]], o21, f21, by simp; omega, fun t hh => ?_⟩
        rcases List.mem_append.1 hh with hh | hh
        · exact pk19 t hh
        · have : t = (rows.getD i [])[k] := by simpa using hh
          subst this
          exact ⟨List.getElem_mem hlt2, fun e => by rw [e] at l51; simp at l51; omega⟩
      · have hke : k = (rows.getD i []).length := by dsimp only at hge2; omega
        have hkl := own_len ok19
        refine hC19.up.put (by omega) ok19 fun w23 b23 hC23 => ?_
        have hi1 : i < rows.length := by omega
        have e : ∀ j, (rows.set i keep).getD j [] = if j = i then keep else rows.getD j [] := fun j => by
          by_cases e : j = i
          · subst e; simp [List.getD, hi1]
          · rw [if_neg e]; simp [List.getD, List.getElem?_set_ne (fun e' => e e'.symm)]
        have nil_of : (∀ t ∈ keep, False) → keep = [] := fun hh => by
          cases keep with
          | nil => rfl
          | cons x r => exact (hh x (by simp)).elim
        have k1 : rk i ≤ rd + 1 → keep = [] := fun hh => nil_of fun t ht => by
          have := (pk19 t ht).1
          rw [hE i hh] at this
          cases this
        have k2 : rk i ≤ rd + 2 → keep = [] := fun hh => nil_of fun t ht => by
          have h1 := pk19 t ht
          have := (hRI.down i t h1.1).2
          exact h1.2 (hE t (by omega))
        rw [hkl, wrap64_in (by omega) (by omega)]
        refine hnext2 _ _ hlt ⟨((b18.trans (b19.mono z18)).trans b23), ⟨_, hC23, hRI.sub hi1 (fun t ht => (pk19 t ht).1) (by omega), by rw [List.length_set]; exact hrl, fun j hj => ?_, fun j hj hj2 => ?_⟩, by omega, by omega, fun hh => ?_⟩
        · rw [e]
          split
          · rename_i e'; subst e'; exact k1 hj
          · exact hE j hj
        · rw [e]
          split
          · rename_i e'; subst e'; exact k2 hj2
          · exact hE2 j (by omega) hj2
        · have := hrk1 i
          rw [k1 (by omega), hl2 hh]
          rfl
    · have hie : i = nx.length := by dsimp only at hge; omega
      refine ifB_beq (fun _ => b18) fun hne0 => ifB_beq (fun he => absurd (hl2 (by omega)) hne0) fun hne1 => ?_
      refine hnext _ (by omega) ⟨b18, rows, hC, hRI, hrl, fun j hj => ?_⟩
      by_cases e : j < nx.length
      · exact hE2 j (by omega) (by omega)
      · simp [List.getD, List.getElem?_eq_none (show rows.length ≤ j by omega)]
end

end Go.Proofs
