/-
  ids.Made, the document's, and the law.
-/
import Derived.Test.Ytpeonjpjphhenaa09k
namespace Go.Proofs
open Go.Gk Go.RowKit Go.Gm

theorem setBlock_chg (w : World) (r : Nat) (o : Obj) : Chg r w (ChangeMaps.setBlock w r o) :=
  ⟨rfl, rfl, rfl, by simp [ChangeMaps.setBlock], fun k hk => by simp [ChangeMaps.setBlock, Array.getElem?_setIfInBounds_ne (Ne.symm hk)]⟩
theorem wrapU32_in {n : Int} (h : 0 ≤ n) (h2 : n ≤ 4294967295) : IntKind.u32.wrap n = n := by
  rw [IntKind.wrap_u32]
  exact Int.emod_eq_of_lt h (Int.lt_of_le_of_lt h2 (by decide))
section
variable {x : Mo} {pl : List PI} {w : World} {R : Value → World → Prop}
theorem results_range (hp : PlOk pl) (h0 : 0 ≤ x.2.1) (hs : (shapeP x.2.1 pl).1 = 0) : ∀ p ∈ pl, 0 ≤ p.2.2.1 ∧ p.2.2.1 < x.2.1 := by
  obtain ⟨nb, hf⟩ := shape_ok hs
  intro p hpm
  obtain ⟨i, hi, rfl⟩ := List.mem_iff_getElem.1 hpm
  have := (fault_ids (hf i hi) (by omega) (by have := hp.nums _ (List.getElem_mem hi); exact ⟨this.1.1, this.2.1.1, fun a ha => (this.2.2 a ha).1⟩)).1 pl[i].2.2.1 (by unfold allI; simp)
  exact this
theorem Made_spec (hN : IsPl w x.2.2.1 pl) (hp : PlOk pl) (h0 : 0 ≤ x.2.1)
    (hR : ∀ s w', IsI w' s (madeP x.2.1 pl) → Below w.heap.size w w' → R (.tuple #[.slice s.a s.l s.c, .agg #[.int .i64 (shapeP x.2.1 pl).1, .int .i64 ((shapeP x.2.1 pl).2 : Int)]]) w') : callR Try.prog 24 #[moA x] w R := by
  refine callR.of (ids_Made_calls x R w ?_) fun _ _ h => h
  refine lay_of fun w1 hB1 b1 z1 => ?_
  have hB1 : Blk w1 w.heap.size 25 (moV x) := hB1
  refine lay_of fun w2 hC2 b2 z2 => ?_
  have hC2 : Blk w2 w1.heap.size 29 [.int .i64 0, .int .i64 0] := hC2
  have hb2 := b1.on b2
  have s1 := b1.size
  have hlen := hN.len
  refine Mo.load (hB1.below b2) ?_
  refine Shape_spec (x := x) (hN.below hb2) hp fun w3 b3 => ⟨((shapeP x.2.1 pl).1, ((shapeP x.2.1 pl).2 : Int), ()), rfl, ?_⟩
  refine box2 rfl fun w4 h4 b4 z4 => ?_
  have b24 := b3.on b4
  have hb4 := hb2.on b24
  have hB4 := (hB1.below b2).below b24
  have hC4 := hC2.below b24
  refine h4.rI0 rfl (ifB_bne (fun e => ?_) (fun e => ?_))
  · refine Sp.load h4.drew ?_
    refine st2 hC4.drew rfl fun w5 h5 c5 => Sp.load h5 ?_
    have e' : (shapeP x.2.1 pl).1 ≠ 0 := e
    refine hR ⟨none, 0, 0⟩ w5 ?_ (c5.below hb4.drew (by omega))
    unfold madeP
    rw [if_neg e']
    exact ⟨rfl, Nat.le_refl _, Nat.zero_le _, fun _ => rfl, fun a ha => by cases ha⟩
  · have e' : (shapeP x.2.1 pl).1 = 0 := e
    obtain ⟨nb, _⟩ := shape_ok e'
    have hrange := results_range hp h0 e'
    obtain ⟨n, hn⟩ : ∃ n : Nat, x.2.1 = (n : Int) := ⟨x.2.1.toNat, by omega⟩
    refine lay_of fun w5 h5 b5 z5 => ?_
    have h5 : Blk w5 w4.heap.size 3 [.int .i64 (-1)] := h5
    have hB5 := hB4.below b5
    refine hB5.rI (n := 1) rfl ?_
    rw [hn, wrap64_in (by omega) (by omega)]
    refine Repeat_spec (n := n) (by omega) (by omega) h5 fun b w6 hD6 hb6 b6 => ⟨⟨some (blk b), n, n⟩, rfl, ?_⟩
    have b46 := b5.on b6
    have hb46 := hb4.on b46
    refine (hB4.below b46).rS (n := 2) (x := x.2.2.1) rfl ?_
    refine makers_spec (hN.below hb46) fun w7 L hM hMk hKN b7 => ⟨some w6.heap.size, rfl, ?_⟩
    have hD7 := hD6.below b7
    have hC7 := ((hC4.below b46).below b7)
    have hb7 := hb46.on b7
    obtain ⟨es, clock, hes, hmap, hstamp, hnd⟩ := hM
    have hrun := run_range_map (P := Try.prog) w7 77 22 3 w6.heap.size es clock uMapI hes
    refine ⟨_, hrun, ?_⟩
    have hI8 : (w7.alloc (.mapIter (some w6.heap.size) clock #[] clock)).heap[w7.heap.size]? = some (.mapIter (some w6.heap.size) clock #[] clock) := by
      show (w7.heap.push _)[w7.heap.size]? = _
      simp
    have b8 : Below w7.heap.size w7 (w7.alloc (.mapIter (some w6.heap.size) clock #[] clock)) := (Below.refl _ _).alloc (Nat.le_refl _) _
    generalize (w7.alloc (.mapIter (some w6.heap.size) clock #[] clock)) = w8 at hI8 b8
    have hb8 := hb7.on b8
    have z6 := b6.size
    have z7 := b7.size
    have hes8 : w8.heap[w6.heap.size]? = some (.map es clock) := by
      have hlt : w6.heap.size < w7.heap.size := (Array.getElem?_eq_some_iff.1 hes).1
      rw [b8.block _ hlt]; exact hes
    have hD8 := hD7.below b8
    have hC8 := hC7.below b8
    have hlt8 := hD7.lt
    have n1 : w1.heap.size < b := by have := b24.size; have := b5.size; omega
    have n2 : w1.heap.size < w7.heap.size := by have := b24.size; have := b5.size; omega
    -- an entry, by its pair
    have entry : ∀ e ∈ es.toList, ∃ k v : Int, e.key = .int .u32 k ∧ e.val = .int .i64 v ∧ (k, v) ∈ L := by
      intro e he
      have : (e.key, e.val) ∈ L.map fun p => (Value.int .u32 p.1, Value.int .i64 p.2) := by rw [← hmap]; exact List.mem_map.2 ⟨e, he, rfl⟩
      obtain ⟨p, hp1, hp2⟩ := List.mem_map.1 this
      simp only [Prod.mk.injEq] at hp2
      exact ⟨p.1, p.2, hp2.1.symm, hp2.2.symm, hp1⟩
    have pair : ∀ {k v : Int}, (k, v) ∈ L → ∃ e ∈ es.toList, e.key = .int .u32 k ∧ e.val = .int .i64 v := by
      intro k v hkv
      have : (Value.int .u32 k, Value.int .i64 v) ∈ es.toList.map fun e => (e.key, e.val) := by rw [hmap]; exact List.mem_map.2 ⟨_, hkv, rfl⟩
      obtain ⟨e, he, hp2⟩ := List.mem_map.1 this
      simp only [Prod.mk.injEq] at hp2
      exact ⟨e, he, hp2.1, hp2.2⟩
    refine LoopW.ghost (fun j (_ : Unit) w' => ∃ (seen : Array Nat) (C : List Int), j = (leftOf es seen).size ∧ w'.heap[w7.heap.size]? = some (.mapIter (some w6.heap.size) clock seen clock) ∧ w'.heap[w6.heap.size]? = some (.map es clock) ∧ Blk w' b 3 (C.map (Value.int .i64)) ∧ C.length = n ∧
        Blk w' w1.heap.size 29 [.int .i64 0, .int .i64 0] ∧ Below w.heap.size w w' ∧ (∀ e ∈ es.toList, seen.contains e.born = true → ∀ k : Nat, ∀ v, e.key = .int .u32 (k : Int) → e.val = .int .i64 v → C[k]? = some v) ∧
        (∀ k (h : k < C.length), C[k] ≠ -1 → lookL L (k : Int) = some C[k])) (leftOf es #[]).size
      ⟨#[], List.replicate n (-1), rfl, hI8, hes8, by rw [List.map_replicate]; exact hD8, by simp, hC8, hb8, fun e _ h => by simp at h, fun k h hne => by simp at hne⟩ ?_
    rintro _ _ w9 ⟨seen, C, rfl, hI, hM, hD, hCl, hC, hb, hsn, hval⟩ next hnext
    have hlt9 : w7.heap.size < w9.heap.size := (Array.getElem?_eq_some_iff.1 hI).1
    rcases run_next_at (P := Try.prog) w9 0 w7.heap.size w6.heap.size clock clock seen es clock hI hM hstamp (Nat.le_refl _) with ⟨hz, hrun⟩ | ⟨e, he, w10, hw10, hrun⟩
    · refine .inr ⟨w9, hrun, ?_⟩
      refine st2 hC rfl fun w11 h11 c11 => Sp.load h11 ?_
      have hall := all_seen es seen hz
      have := hR ⟨some (blk b), n, n⟩ w11 ?_ (c11.below hb (by omega))
      · rwa [shape_zero e'] at this
      · have hC2 : C = madeP x.2.1 pl := by
          unfold madeP
          rw [if_pos e', hn, Int.toNat_natCast]
          apply List.ext_getElem
          · simp [hCl]
          · intro k h1 h2
            rw [List.getElem_map, List.getElem_range, hMk.maker]
            cases hl : lookL L (k : Int) with
            | none =>
              refine Classical.byContradiction fun hne => ?_
              have := hval k h1 hne
              rw [hl] at this
              cases this
            | some v =>
              obtain ⟨e, he, q1, q2⟩ := pair (lookL_mem hl)
              have := hsn e he (hall e he) k v q1 q2
              rw [List.getElem?_eq_getElem h1] at this
              exact Option.some.inj this
        rw [← hC2]
        refine (c11.blk hD (by omega)).isS rfl (by simp [hCl]) (Nat.le_refl _) (by show n ≤ _; omega)
    · obtain ⟨he1, he2⟩ := mem_left he
      obtain ⟨k, v, q1, q2, q3⟩ := entry e he1
      have hlk := lookL_of hKN q3
      obtain ⟨p, hp1, hp2⟩ := hMk.range hlk
      obtain ⟨r0, r1⟩ := hrange p hp1
      rw [hp2, hn] at r1
      rw [hp2] at r0
      refine .inl ⟨e.key, e.val, _, hrun, ?_⟩
      have hc : Chg w7.heap.size w9 (ChangeMaps.setBlock w10 w7.heap.size (.mapIter (some w6.heap.size) clock (seen.push e.born) clock)) := by
        rcases hw10 with rfl | rfl
        · exact setBlock_chg _ _ _
        · exact (Chg.refl _ _).drew.trans (setBlock_chg _ _ _)
      have hI11 : (ChangeMaps.setBlock w10 w7.heap.size (.mapIter (some w6.heap.size) clock (seen.push e.born) clock)).heap[w7.heap.size]? = some (.mapIter (some w6.heap.size) clock (seen.push e.born) clock) := by
        have : w7.heap.size < w10.heap.size := by rcases hw10 with rfl | rfl <;> exact hlt9
        simp [ChangeMaps.setBlock, this]
      generalize (ChangeMaps.setBlock w10 w7.heap.size (.mapIter (some w6.heap.size) clock (seen.push e.born) clock)) = w11 at hc hI11
      have hM11 := (hc.block w6.heap.size (by have := (Array.getElem?_eq_some_iff.1 hes).1; omega)).trans hM
      have hD11 := hc.blk hD (by omega)
      have hC11 := hc.blk hC (by omega)
      have hrunE := run_entry_at (P := Try.prog) w11 w7.heap.size w6.heap.size clock seen es clock e hI11 hM11 he1 hnd
      rw [q1, q2] at hrunE
      refine ⟨k, v, hrunE, ⟨r0, r1⟩, derefP_some rfl ⟨hD11.wr (by rw [List.length_map]; omega), ?_⟩⟩
      refine Nw.gen fun w12 e12 => ?_
      have c12 : Chg b w11 w12 := by rw [e12]; exact Chg.set _ _ _ _
      have hD12 : Blk w12 b 3 ((C.set k.toNat v).map (Value.int .i64)) := by rw [e12, List.map_set]; exact hD11.set _ _
      clear e12
      have hkn : ((k.toNat : Nat) : Int) = k := Int.toNat_of_nonneg r0
      have hklt : k.toNat < C.length := by omega
      have hbne : b ≠ w6.heap.size := by
        intro e
        subst e
        have h1 : w11.heap[w6.heap.size]? = some (.cells _ _ _) := hD11
        rw [hM11] at h1
        cases h1
      refine hnext _ _ _ (left_shrinks es seen e he) ⟨seen.push e.born, C.set k.toNat v, rfl, (c12.block _ (by omega)).trans hI11, (c12.block _ (Ne.symm hbne)).trans hM11, hD12, by simp [hCl], ?_, ?_, ?_, ?_⟩
      · exact c12.blk hC11 (by have := b4.size; have := b3.size; have := b5.size; omega)
      · exact c12.below (hc.below hb (by have := hb7.size; omega)) (by have := hb4.size; have := b5.size; omega)
      · intro e2 he2' hs2 k2 v2 g1 g2
        obtain ⟨k3, v3, g3, g4, g5⟩ := entry e2 he2'
        rw [g3] at g1
        rw [g4] at g2
        simp only [Value.int.injEq, true_and] at g1 g2
        subst g1 g2
        by_cases ek : k.toNat = k2
        · subst ek
          rw [List.getElem?_set_self hklt]
          have := lookL_of hKN g5
          rw [hkn] at this
          rw [hlk] at this
          exact this
        · rw [List.getElem?_set_ne ek]
          have hs3 : seen.contains e2.born = true := by
            rw [Array.contains_push] at hs2
            rcases (Bool.or_eq_true_iff.1 hs2).symm with h | h
            · exfalso
              have hbe : e2.born = e.born := by simpa using h
              have : e2 = e := by
                obtain ⟨i1, hi1, w1'⟩ := List.mem_iff_getElem.1 he2'
                obtain ⟨i2, hi2, w2'⟩ := List.mem_iff_getElem.1 he1
                have hi1' : i1 < (es.toList.map (·.born)).length := by simpa using hi1
                have hi2' : i2 < (es.toList.map (·.born)).length := by simpa using hi2
                have hbb : (es.toList.map (·.born))[i1] = (es.toList.map (·.born))[i2] := by
                  rw [List.getElem_map, List.getElem_map, w1', w2']; exact hbe
                have := (List.getElem_inj hnd).1 hbb
                subst this
                rw [← w1', ← w2']
              rw [this] at g3
              rw [q1] at g3
              simp only [Value.int.injEq, true_and] at g3
              omega
            · exact h
          exact hsn e2 he2' hs3 k2 v3 g3 g4
      · intro k2 h2 hne
        by_cases ek : k.toNat = k2
        · subst ek
          rw [List.getElem_set_self, hkn]
          exact hlk
        · rw [List.getElem_set_ne ek] at hne ⊢
          exact hval k2 (by simpa using h2) hne
theorem rMaker_spec {s : Sl} {id n : Int} (hN : IsPl w s pl) (hn : n = (pl.length : Int)) (hR : R (.int .i64 (makerI pl id pl.length)) w) : callR Try.prog 70 #[.slice s.a s.l s.c, .int .u32 id, .int .i64 n] w R := by
  subst hn
  refine callR.of (intaglioref09_Maker_calls s id pl.length R w ?_) fun _ _ h => h
  have hlen := hN.len
  refine LoopW.count pl.length hN.bound (fun k w' => w' = w ∧ ∀ j, j < k → mk1 pl id j = false) ⟨rfl, fun j hj => by omega⟩ ?_
  rintro k w1 hk ⟨hw, hj⟩ next hnext
  subst hw
  refine ifB_dec (fun h => ?_) (fun h => ?_)
  · have hlt : k < pl.length := by dsimp only at h; omega
    have hm : mk1 pl id k = (pl[k].2.2.1 == id && id != 0) := by unfold mk1; rw [getD_lt hlt]
    refine JoinW.cut (fun _ w' => w' = w1 ∧ mk1 pl id k = false) ?_ ?_
    · refine elemPr hN hlt (ifB_beq (fun e1 => ?_) (fun e1 => ⟨rfl, by rw [hm, beq_eq_false_iff_ne.2 e1, Bool.false_and]⟩))
      refine ifB_bne (fun e2 => ?_) (fun e2 => ⟨rfl, by rw [hm, e2]; simp⟩)
      have : makerI pl id pl.length = (k : Int) := by
        unfold makerI
        rw [find_first hlt (by rw [hm, beq_iff_eq.2 e1, bne_iff_ne.2 e2]; rfl) hj]
      rwa [this] at hR
    · rintro _ w2 ⟨hw, hno⟩
      refine hnext w2 hlt ⟨hw, fun j hj' => ?_⟩
      by_cases e : j = k
      · subst e; exact hno
      · exact hj j (by omega)
  · have hk' : k = pl.length := by dsimp only at h; omega
    have : makerI pl id pl.length = -1 := by
      unfold makerI
      have : (List.range pl.length).find? (mk1 pl id) = none := by
        rw [List.find?_eq_none]
        intro j hj'
        rw [hj j (by rw [hk']; exact List.mem_range.1 hj')]
        simp
      rw [this]
    rwa [this] at hR
/-! ### The law -/
end

end Go.Proofs
