/-
  The document's Alike, and the law.
-/
import Derived.Test.Ytocnlbhoibplbaa09a
namespace Go.Proofs
open Go.Gk Go.RowKit Go.Gm

theorem bytes_eqL (a b : ByteArray) : (a.toList == b.toList) = decide (a = b) := by
  rw [ByteArray.toList_eq, ByteArray.toList_eq, Bool.eq_iff_iff, beq_iff_eq, decide_eq_true_iff]
  constructor
  · intro h
    apply ByteArray.ext
    exact Array.toList_inj.1 h
  · rintro rfl
    rfl
theorem con_cons {Z : Prs} : Con ((0, 0) :: Z) ↔ (∀ y ∈ Z, y.1 = 0 ↔ y.2 = 0) ∧ Con Z := by
  constructor
  · intro h
    exact ⟨fun y hy => h y (List.mem_cons_of_mem _ hy) (0, 0) List.mem_cons_self, fun x hx y hy => h x (List.mem_cons_of_mem _ hx) y (List.mem_cons_of_mem _ hy)⟩
  · rintro ⟨h1, h2⟩ x hx y hy
    rcases List.mem_cons.1 hx with rfl | hx <;> rcases List.mem_cons.1 hy with rfl | hy
    · exact ⟨fun _ => rfl, fun _ => rfl⟩
    · exact ⟨fun e => ((h1 y hy).1 e.symm).symm, fun e => ((h1 y hy).2 e.symm).symm⟩
    · exact h1 x hx
    · exact h2 x hx y hy
theorem shape_tot {bound : Int} {pl : List PI} (h : (shapeP bound pl).1 = 0) : totP pl pl.length ≤ 1048576 := by
  cases hl : pl.length with
  | zero => simp [totP]
  | succ n =>
    unfold shapeP at h
    split at h
    · cases h
    · split at h
      · dsimp only at h
        split at h
        · rename_i hf; exact absurd h hf
        · cases h
      · rename_i hn
        have := List.find?_eq_none.1 hn n (List.mem_range.2 (by omega))
        unfold badI at this
        simp only [Bool.or_eq_true, not_or, decide_eq_true_eq] at this
        omega
theorem allI_len (p : PI) : (allI p).length ≤ 2 + p.2.2.2.length := by
  unfold allI
  simp only [List.length_cons, idsA, List.length_map]
  have := List.length_filter_le (fun a : Ag => a.1 == 1) p.2.2.2
  omega
theorem allP_take_succ {pl : List PI} {k : Nat} (hk : k < pl.length) : allP (pl.take (k + 1)) = allP (pl.take k) ++ allI pl[k] := by
  unfold allP
  rw [List.take_succ_eq_append_getElem hk, List.flatMap_append]
  simp
theorem all_tot {bound : Int} {pl : List PI} (h : (shapeP bound pl).1 = 0) : (allP pl).length ≤ 2097152 := by
  obtain ⟨_, hok⟩ := shape_ok h
  have ht := shape_tot h
  have : ∀ k, k ≤ pl.length → (allP (pl.take k)).length ≤ 2 * totP pl k := by
    intro k
    induction k with
    | zero => intro _; simp [allP]
    | succ k ih =>
      intro hk
      have := ih (by omega)
      rw [allP_take_succ (by omega), List.length_append, totP_succ (by omega)]
      have h1 := allI_len pl[k]
      have h2 : 1 + pl[k].2.2.2.length ≤ roomI pl[k] := by
        cases hfr : frm pl[k].1 with
        | none =>
          have := hok k (by omega)
          unfold faultI at this
          rw [faultP_none hfr] at this
          cases this
        | some g =>
          unfold roomI
          rw [hfr]
          show 1 + _ ≤ roomP g pl[k].2.2.2
          unfold roomP
          have := costN_ge (al := pl[k].2.2.2) (Nat.le_refl _)
          omega
      omega
  have := this pl.length (Nat.le_refl _)
  rw [List.take_length] at this
  omega
/-- append of a row of cells to a list of the code's own, in new memory. -/
theorem push_row {P : Program} {t e : TypeId} {bytes : Nat} (he : ElemT P t e 1 bytes) {w0 w : World} {s : Sl} {xs : List Value} (h : Own w e 1 s xs) (hb : Below w0.heap.size w0 w) (hF : Fresh w0.heap.size s) {vs : List Value} {m : Nat} (hvs : vs.length = m) (hm : 0 < m) (hv : ∀ u ∈ vs, u.oneCell' = true) {b c : Nat} {T : TypeId}
    (hB : Blk w b T vs) (h63 : s.l + m ≤ 9223372036854775807) (hbytes : (s.l + m) * bytes ≤ 140737488355328) {k : Sl → World → Prop}
    (hk : ∀ r w', Own w' e 1 r (xs ++ vs) → Below w0.heap.size w0 w' → Fresh w0.heap.size r → k r w') : appendS P t (.slice s.a s.l s.c) (.slice (some (blk b)) m c) w k := by
  refine append_own he h (news := vs) (by omega) (fun j u hj => hB.cell hj) hv h63 hbytes fun r w' h1 hl' hg => ?_
  rcases hg with ⟨_, _, h3⟩ | ⟨b', h3, h4, h5⟩
  · rw [h3] at hl'; omega
  · have hbb : w0.heap.size ≤ b' := by
      rcases h4 with h4 | h4
      · exact hF _ h4
      · have := hb.size
        omega
    exact hk r w' h1 (hb.trans (below_grown h5 hbb hb.size)) fun a ha => by rw [h3] at ha; cases ha; exact hbb
theorem idsA_take_succ {al : List Ag} {k : Nat} (hk : k < al.length) : idsA (al.take (k + 1)) = idsA (al.take k) ++ (if al[k].1 = 1 then [al[k].2.1] else []) := by
  simp only [idsA]
  rw [List.take_succ_eq_append_getElem hk, List.filter_append, List.map_append]
  congr 1
  by_cases e : al[k].1 = 1
  · have : (al[k].1 == 1) = true := beq_iff_eq.2 e
    simp [e]
  · have : (al[k].1 == 1) = false := beq_eq_false_iff_ne.2 e
    simp [this, e]
theorem all_spec {x : Mo} {pl : List PI} {w : World} {R : Value → World → Prop} (hN : IsPl w x.2.2.1 pl) (hp : PlOk pl) (ht : (allP pl).length ≤ 2097152)
    (hR : ∀ r w', Own w' 23 1 r ((allP pl).map (Value.int .u32)) → Below w.heap.size w w' → R (.slice r.a r.l r.c) w') : callR Try.prog 44 #[moA x] w R := by
  refine callR.of (intaglioref09_all_calls x R w ?_) fun _ _ h => h
  refine lay_of fun w1 hB1 b1 z1 => ?_
  have hB1 : Blk w1 w.heap.size 37 (moV x) := hB1
  have hlen := hN.len
  refine LoopW.countSl pl.length hN.bound (fun k r w' => Own w' 23 1 r ((allP (pl.take k)).map (Value.int .u32)) ∧ Fresh w1.heap.size r ∧ Below w1.heap.size w1 w') ⟨Own.nil _ _ _, fun a ha => by (cases ha), Below.refl _ _⟩ ?_
  rintro k r w2 hk ⟨hO, hF, hb⟩ next hnext
  have hbw := b1.on hb
  have hB2 := hB1.below hb
  refine hB2.rS (n := 2) (x := x.2.2.1) rfl (ifB_dec (fun h => ?_) (fun h => ?_))
  · have hlt : k < pl.length := by dsimp only at h; omega
    have h24 := hp.args _ (List.getElem_mem hlt)
    have hsplit : (allP (pl.take k)).length + (2 + (idsA pl[k].2.2.2).length) ≤ 2097152 := by
      have e1 : allP pl = allP (pl.take (k + 1)) ++ allP (pl.drop (k + 1)) := by
        unfold allP
        rw [← List.flatMap_append, List.take_append_drop]
      rw [e1, List.length_append, allP_take_succ hlt, List.length_append] at ht
      have : (allI pl[k]).length = 2 + (idsA pl[k].2.2.2).length := by simp only [allI, List.length_cons]; omega
      omega
    have hrl : r.l = (allP (pl.take k)).length := by have := hO.1; rw [List.length_map] at this; omega
    refine hB2.rS (n := 2) (x := x.2.2.1) rfl (elemPo' hN hbw hlt fun t ht' => ?_)
    refine box4 rfl fun w3 hI3 b3 z3 => ?_
    have hI3 : Blk w3 w2.heap.size 26 (inV (mkIn pl[k] t)) := hI3
    refine hI3.rI (n := 1) rfl (hI3.rI (n := 2) rfl ?_)
    refine lay_of fun w4 h4 b4 z4 => ?_
    have h4 : Blk w4 w3.heap.size 23 [.int .u32 pl[k].2.1, .int .u32 pl[k].2.2.1] := h4
    have hI4 := hI3.below b4
    have b24 := b3.on b4
    -- the instruction's box lies between the list's blocks: it is told by its type
    have app : ∀ {w5 : World} {s : Sl} {xs vs : List Value} {m c : Nat} {K : Sl → World → Prop}, Own w5 23 1 s xs → Below w1.heap.size w1 w5 → Fresh w1.heap.size s → Blk w5 w2.heap.size 26 (inV (mkIn pl[k] t)) → vs.length = m → 0 < m → (∀ u ∈ vs, u.oneCell' = true) → Blk w5 c 23 vs →
        s.l + m ≤ 2097152 → (∀ r w', Own w' 23 1 r (xs ++ vs) → Below w1.heap.size w1 w' → Fresh w1.heap.size r → Blk w' w2.heap.size 26 (inV (mkIn pl[k] t)) → K r w') → appendS Try.prog 28 (.slice s.a s.l s.c) (.slice (some (blk c)) m m) w5 K := by
      intro w5 s xs vs m c K hO5 hb5 hF5 hI5 hvs hm hv hB5 hsz hK
      refine append_own eU32 hO5 (news := vs) (by omega) (fun j u hj => hB5.cell hj) hv (by omega) (by omega) fun r w' h1 hl' hg => ?_
      rcases hg with ⟨_, _, h3⟩ | ⟨b', h3, h4, h5⟩
      · rw [h3] at hl'; omega
      · have hbb : w1.heap.size ≤ b' := by
          rcases h4 with h4 | h4
          · exact hF5 _ h4
          · have := hb5.size
            omega
        have hne' : w2.heap.size ≠ b' := by
          intro e
          rcases h4 with h4 | h4
          · obtain ⟨cs', hc⟩ := hO5.type h4
            rw [← e] at hc
            exact absurd (hI5.type hc) (by decide)
          · have := hI5.lt
            omega
        refine hK r w' h1 (hb5.trans (below_grown h5 hbb hb5.size)) (fun a ha => by rw [h3] at ha; cases ha; exact hbb) (hI5.of_block (h5.block _ hI5.lt fun e => hne' (Option.some.inj e)))
    refine app ((hO.below b3).below b4) (hb.on b24) hF hI4 rfl (by decide) (by simp [Value.oneCell']) h4 (by show r.l + 2 ≤ _; omega) fun r5 w5 hO5 hb5 hF5 hI5 => ?_
    refine LoopW.countSl pl[k].2.2.2.length (by omega) (fun j r w' => Own w' 23 1 r ((allP (pl.take k)).map (Value.int .u32) ++ [Value.int .u32 pl[k].2.1, Value.int .u32 pl[k].2.2.1] ++ (idsA (pl[k].2.2.2.take j)).map (Value.int .u32)) ∧ Fresh w1.heap.size r ∧ Below w1.heap.size w1 w' ∧ Blk w' w2.heap.size 26 (inV (mkIn pl[k] t)))
      ⟨by simpa [idsA] using hO5, hF5, hb5, hI5⟩ ?_
    rintro j r6 w6 hj ⟨hO6, hF6, hb6, hI6⟩ next' hnext'
    have ht6 : IsAg w6 t pl[k].2.2.2 := ht'.below (b1.on hb6)
    have htl := ht'.len
    refine hI6.rS (n := 3) (x := t) rfl (ifB_dec (fun h => ?_) (fun h => ?_))
    · have hltj : j < pl[k].2.2.2.length := by dsimp only at h; omega
      refine JoinW.cut (fun st w' => Own w' 23 1 st.1 ((allP (pl.take k)).map (Value.int .u32) ++ [Value.int .u32 pl[k].2.1, Value.int .u32 pl[k].2.2.1] ++ (idsA (pl[k].2.2.2.take (j + 1))).map (Value.int .u32)) ∧ Fresh w1.heap.size st.1 ∧ Below w1.heap.size w1 w' ∧ Blk w' w2.heap.size 26 (inV (mkIn pl[k] t))) ?_ ?_
      · refine hI6.rS (n := 3) (x := t) rfl (elemAk ht6 hltj (ifB_beq (fun e => ?_) (fun e => ?_)))
        · refine hI6.rS (n := 3) (x := t) rfl (elemAn ht6 hltj ?_)
          refine lay_of fun w7 h7 b7 z7 => ?_
          have h7 : Blk w7 w6.heap.size 23 [.int .u32 pl[k].2.2.2[j].2.1] := h7
          have hr6 : r6.l = (allP (pl.take k)).length + 2 + (idsA (pl[k].2.2.2.take j)).length := by
            have := hO6.1
            rw [List.length_append, List.length_append, List.length_map, List.length_map, show ([Value.int .u32 pl[k].2.1, Value.int .u32 pl[k].2.2.1] : List Value).length = 2 from rfl] at this
            omega
          have hpre : (idsA (pl[k].2.2.2.take (j + 1))).length ≤ (idsA pl[k].2.2.2).length := by
            have e1 : idsA pl[k].2.2.2 = idsA (pl[k].2.2.2.take (j + 1)) ++ idsA (pl[k].2.2.2.drop (j + 1)) := by
              simp only [idsA]
              rw [← List.map_append, ← List.filter_append, List.take_append_drop]
            have e2 := congrArg List.length e1
            rw [List.length_append] at e2
            rw [e2]
            exact Nat.le_add_right _ _
          rw [idsA_take_succ hltj, if_pos e, List.length_append, List.length_singleton] at hpre
          refine app (hO6.below b7) (hb6.on b7) hF6 (hI6.below b7) rfl (by decide) (by simp [Value.oneCell']) h7 (by show r6.l + 1 ≤ _; omega) fun r8 w8 hO8 hb8 hF8 hI8 => ⟨?_, hF8, hb8, hI8⟩
          rw [idsA_take_succ hltj, if_pos e, List.map_append, ← List.append_assoc]
          exact hO8
        · refine ⟨?_, hF6, hb6, hI6⟩
          rw [idsA_take_succ hltj, if_neg e, List.append_nil]
          exact hO6
      · rintro ⟨r7, _⟩ w7 ⟨q1, q2, q3, q4⟩
        exact hnext' r7 w7 hltj ⟨q1, q2, q3, q4⟩
    · have hj' : j = pl[k].2.2.2.length := by dsimp only at h; omega
      subst hj'
      rw [List.take_length] at hO6
      refine hnext r6 w6 hlt ⟨?_, hF6, hb6⟩
      rw [allP_take_succ hlt, List.map_append]
      have : (allI pl[k]).map (Value.int .u32) = [Value.int .u32 pl[k].2.1, Value.int .u32 pl[k].2.2.1] ++ (idsA pl[k].2.2.2).map (Value.int .u32) := rfl
      rw [this, ← List.append_assoc]
      exact hO6
  · have hk' : k = pl.length := by dsimp only at h; omega
    subst hk'
    rw [List.take_length] at hO
    exact hR r w2 hO hbw

theorem rAlike_spec {x y : Mo} {pl ql : List PI} {w : World} {R : Value → World → Prop} (hx : IsPl w x.2.2.1 pl) (hy : IsPl w y.2.2.1 ql) (hp : PlOk pl) (hq : PlOk ql) (hx0 : 0 ≤ x.2.1) (hy0 : 0 ≤ y.2.1)
    (hR : ∀ w', Below w.heap.size w w' → R (.bool (alikeB x pl y ql)) w') : callR Try.prog 18 #[moA x, moA y] w R := by
  refine callR.of (intaglioref09_Alike_calls x y R w ?_) fun _ _ h => h
  refine lay_of fun w1 hX1 b1 z1 => ?_
  have hX1 : Blk w1 w.heap.size 37 (moV x) := hX1
  refine lay_of fun w2 hY2 b2 z2 => ?_
  have hY2 : Blk w2 w1.heap.size 37 (moV y) := hY2
  have hX2 := hX1.below b2
  have hb2 := b1.on b2
  have hlx := hx.len
  have hly := hy.len
  have no : ∀ w', Below w.heap.size w w' → ¬ AlikeP x pl y ql → R (.bool false) w' := fun w' hb h => by
    have := hR w' hb
    rwa [alike_no h] at this
  refine Mo.load hX2 ?_
  refine rShape_spec (x := x) (hx.below hb2) hp fun w3 b3 => ⟨((shapeP x.2.1 pl).1, ((shapeP x.2.1 pl).2 : Int), ()), rfl, ?_⟩
  refine box2 rfl fun w4 hS4 b4 z4 => ?_
  have b24 := b3.on b4
  refine Mo.load (hY2.below b24) ?_
  refine rShape_spec (x := y) (hy.below (hb2.on b24)) hq fun w5 b5 => ⟨((shapeP y.2.1 ql).1, ((shapeP y.2.1 ql).2 : Int), ()), rfl, ?_⟩
  refine box2 rfl fun w6 hT6 b6 z6 => ?_
  have b46 := b5.on b6
  have b26 := b24.on b46
  have hb6 := hb2.on b26
  have hX6 := hX2.below b26
  have hY6 := hY2.below b26
  have hS6 := hS4.below b46
  refine JoinW.cut (fun _ w' => w' = w6 ∧ (shapeP x.2.1 pl).1 = 0 ∧ (shapeP y.2.1 ql).1 = 0 ∧ x.1 = y.1 ∧ pl.length = ql.length) ?_ ?_
  · refine hS6.rI0 rfl (ifB_bne (fun e => no w6 hb6 fun h => e h.1) (fun e1 => ?_))
    refine hT6.rI0 rfl (ifB_bne (fun e => no w6 hb6 fun h => e h.2.1) (fun e2 => ?_))
    refine hX6.rI0 rfl (hY6.rI0 rfl (ifB_bne (fun e => no w6 hb6 fun h => e h.2.2.1) (fun e3 => ?_)))
    refine hX6.rS (n := 2) (x := x.2.2.1) rfl (hY6.rS (n := 2) (x := y.2.2.1) rfl (ifB_bne (fun e => no w6 hb6 fun h => e (by have := h.2.2.2.1; omega)) (fun e4 => ⟨rfl, e1, e2, e3, by omega⟩)))
  · rintro _ w7 ⟨hw, s1, s2, s3, s4⟩
    subst hw
    obtain ⟨nb1, f1⟩ := shape_ok s1
    obtain ⟨nb2, f2⟩ := shape_ok s2
    refine LoopW.count pl.length hx.bound (fun k w' => Below w7.heap.size w7 w' ∧ ∀ i (h : i < pl.length) (h' : i < ql.length), i < k → instOk pl[i] ql[i]) ⟨Below.refl _ _, fun i h h' hi => by omega⟩ ?_
    rintro k w8 hk ⟨hb, hok⟩ next hnext
    have hb8 := hb6.on hb
    have hX8 := hX6.below hb
    have hY8 := hY6.below hb
    refine hX8.rS (n := 2) (x := x.2.2.1) rfl (ifB_dec (fun hlt => ?_) (fun hge => ?_))
    · have hlt : k < pl.length := by dsimp only at hlt; omega
      have hlt' : k < ql.length := by omega
      refine hX8.rS (n := 2) (x := x.2.2.1) rfl (elemPo' hx hb8 hlt fun t ht => ?_)
      refine box4 rfl fun w9 hI9 b9 z9 => ?_
      have hI9 : Blk w9 w8.heap.size 26 (inV (mkIn pl[k] t)) := hI9
      refine (hY8.below b9).rS (n := 2) (x := y.2.2.1) rfl (elemPo' hy (hb8.on b9) hlt' fun t' ht' => ?_)
      refine box4 rfl fun w10 hJ10 b10 z10 => ?_
      have hJ10 : Blk w10 w9.heap.size 26 (inV (mkIn ql[k] t')) := hJ10
      have hI10 := hI9.below b10
      have b810 := b9.on b10
      have hb10 := hb8.on b810
      have htl := ht.len
      have htl' := ht'.len
      have hax := hp.args _ (List.getElem_mem hlt)
      have no' : ∀ w', Below w.heap.size w w' → ¬ instOk pl[k] ql[k] → R (.bool false) w' := fun w' hb h => no w' hb fun hA => h (hA.2.2.2.2.1 k hlt hlt')
      refine JoinW.cut (fun _ w' => w' = w10 ∧ pl[k].1 = ql[k].1 ∧ pl[k].2.2.2.length = ql[k].2.2.2.length) ?_ ?_
      · refine hI10.rI0 rfl (hJ10.rI0 rfl (ifB_bne (fun e => no' w10 hb10 fun h => e h.1) (fun e1 => ?_)))
        refine hI10.rS (n := 3) (x := t) rfl (hJ10.rS (n := 3) (x := t') rfl (ifB_bne (fun e => no' w10 hb10 fun h => e (by have := h.2.1; omega)) (fun e2 => ⟨rfl, e1, by omega⟩)))
      · rintro _ w11 ⟨hw, e1, e2⟩
        subst hw
        refine LoopW.count pl[k].2.2.2.length (by omega) (fun j w' => Below w11.heap.size w11 w' ∧ ∀ i (h : i < pl[k].2.2.2.length) (h' : i < ql[k].2.2.2.length), i < j → argOk pl[k].2.2.2[i] ql[k].2.2.2[i]) ⟨Below.refl _ _, fun i h h' hi => by omega⟩ ?_
        rintro j w12 hj ⟨hbj, hokj⟩ next' hnext'
        have hI12 := hI10.below hbj
        have hJ12 := hJ10.below hbj
        have hb12 := hb10.on hbj
        refine hI12.rS (n := 3) (x := t) rfl (ifB_dec (fun h => ?_) (fun h => ?_))
        · have hltj : j < pl[k].2.2.2.length := by dsimp only at h; omega
          have hltj' : j < ql[k].2.2.2.length := by omega
          have ha := (ht.below hb12).drew
          have hc := (ht'.below hb12).drew
          have no2 : ¬ argOk pl[k].2.2.2[j] ql[k].2.2.2[j] → R (.bool false) w12.drew := fun h => no' _ hb12.drew fun hi => h (hi.2.2 j hltj hltj')
          refine JoinW.cut (fun _ w' => w' = w12.drew ∧ argOk pl[k].2.2.2[j] ql[k].2.2.2[j]) ?_ ?_
          · refine hI12.drew.rS (n := 3) (x := t) rfl (elemAk ha hltj (hJ12.drew.rS (n := 3) (x := t') rfl (elemAk hc hltj' (ifB_bne (fun e => no2 fun h => e h.1) (fun e3 => ?_)))))
            refine hI12.drew.rS (n := 3) (x := t) rfl (elemAs ha hltj (hJ12.drew.rS (n := 3) (x := t') rfl (elemAs hc hltj' ?_)))
            rw [bytes_eqL]
            refine ifB_not (ifB_dec (fun e4 => ?_) (fun e4 => no2 fun h => e4 h.2.1))
            refine hI12.drew.rS (n := 3) (x := t) rfl (elemAk ha hltj (ifB_bne (fun e5 => ?_) (fun e5 => ⟨rfl, e3, e4, fun h => absurd e5 h⟩)))
            refine hI12.drew.rS (n := 3) (x := t) rfl (elemAn ha hltj (hJ12.drew.rS (n := 3) (x := t') rfl (elemAn hc hltj' (ifB_bne (fun e6 => no2 fun h => e6 (h.2.2 e5)) (fun e6 => ⟨rfl, e3, e4, fun _ => e6⟩)))))
          · rintro _ w13 ⟨hw, ho⟩
            subst hw
            refine hnext' _ hltj ⟨hbj.drew, fun i hi hi' hij => ?_⟩
            by_cases e : i = j
            · subst e; exact ho
            · exact hokj i hi hi' (by omega)
        · have hj' : j = pl[k].2.2.2.length := by dsimp only at h; omega
          refine hnext w12 hlt ⟨(hb.on b810).on hbj, fun i hi hi' hik => ?_⟩
          by_cases e : i = k
          · subst e
            exact ⟨e1, e2, fun i' g g' => hokj i' g g' (by omega)⟩
          · exact hok i hi hi' (by omega)
    · have hk' : k = pl.length := by dsimp only at hge; omega
      subst hk'
      have hall : ∀ i (h : i < pl.length) (h' : i < ql.length), instOk pl[i] ql[i] := fun i h h' => hok i h h' h
      obtain ⟨hz, hzl⟩ := zN_all s4 hall
      have halike : AlikeP x pl y ql ↔ Con ((0, 0) :: zN pl ql pl.length) := ⟨fun h => h.2.2.2.2.2, fun h => ⟨s1, s2, s3, s4, hall, h⟩⟩
      rw [← hz, con_cons] at halike
      have rng : ∀ {pl : List PI} {bd : Int}, PlOk pl → ¬ (bd = 0 ∨ 65536 < bd) → 0 ≤ bd → (∀ k (hk : k < pl.length), faultI pl[k] bd = 0) → ∀ n ∈ allP pl, 0 ≤ n ∧ n < 65536 := by
        intro pl bd hp nb h0 hf n hn
        unfold allP at hn
        obtain ⟨p, hp1, hp2⟩ := List.mem_flatMap.1 hn
        obtain ⟨i, hi, rfl⟩ := List.mem_iff_getElem.1 hp1
        have := (fault_ids (hf i hi) (by omega) (by have := hp.nums _ (List.getElem_mem hi); exact ⟨this.1.1, this.2.1.1, fun a ha => (this.2.2 a ha).1⟩)).1 n hp2
        omega
      have rP := rng hp nb1 hx0 f1
      have rQ := rng hq nb2 hy0 f2
      refine Mo.load hX8 ?_
      refine all_spec (x := x) (hx.below hb8) hp (all_tot s1) fun r w9 hO9 b9 => ⟨r, rfl, ?_⟩
      refine Mo.load (hY8.below b9) ?_
      refine all_spec (x := y) (hy.below (hb8.on b9)) hq (all_tot s2) fun r' w10 hO10 b10 => ⟨r', rfl, ?_⟩
      have hb10 := (hb8.on b9).on b10
      have hP := (hO9.below b10).isS
      have hQ := hO10.isS
      have tot := all_tot s1
      generalize allP pl = P at hP hzl rP halike tot
      generalize allP ql = Q at hQ hzl rQ halike
      have hPl := hP.len
      have hQl := hQ.len
      refine ifB_bne (fun e => absurd (by omega) e) (fun _ => ?_)
      refine ⟨by decide, Nw.gen fun w11 e11 => ?_⟩
      have hA11 : Blk w11 w10.heap.size 23 (List.replicate 65536 (.int .u32 0)) := by rw [e11]; exact Blk.made w10 _ _ _
      have z11 : w11.heap.size = w10.heap.size + 1 := by rw [e11]; simp
      have b11 : Below w10.heap.size w10 w11 := by rw [e11]; exact (Below.refl _ _).alloc (Nat.le_refl _) _
      clear e11
      refine ⟨by decide, Nw.gen fun w12 e12 => ?_⟩
      have hC12 : Blk w12 w11.heap.size 23 (List.replicate 65536 (.int .u32 0)) := by rw [e12]; exact Blk.made w11 _ _ _
      have b12 : Below w11.heap.size w11 w12 := by rw [e12]; exact (Below.refl _ _).alloc (Nat.le_refl _) _
      clear e12
      have hA12 := hA11.below b12
      have b1012 := b11.on b12
      have hb12 := hb10.on b1012
      have rep : (List.replicate 65536 (Value.int .u32 0)) = (List.replicate 65536 (0 : Int)).map (Value.int .u32) := by rw [List.map_replicate]
      rw [rep] at hA12 hC12
      have hmax := hP.bound
      refine LoopW.count P.length hmax (fun k w' => Below w10.heap.size w10 w' ∧ ∃ L1 L2, Blk w' w10.heap.size 23 (L1.map (Value.int .u32)) ∧ Blk w' w11.heap.size 23 (L2.map (Value.int .u32)) ∧ TOk L1 ((P.zip Q).take k) ∧ TOk L2 (swp ((P.zip Q).take k)) ∧
        (∀ z ∈ (P.zip Q).take k, z.1 = 0 ↔ z.2 = 0) ∧ Con ((P.zip Q).take k)) ⟨b1012, _, _, hA12, hC12, TOk.nil, TOk.nil, (by simp), fun a ha => by simp at ha⟩ ?_
      rintro k w13 hk ⟨hb13, L1, L2, hA, hC, t1, t2, hz0, hcon⟩ next hnext
      have hbw := hb10.on hb13
      have hP13 := hP.below hb13
      have hQ13 := hQ.below hb13
      refine ifB_dec (fun hlt => ?_) (fun hge => ?_)
      · have hlt : k < P.length := by dsimp only at hlt; omega
        have hlt' : k < Q.length := by omega
        have hZ : (P.zip Q).take (k + 1) = (P.zip Q).take k ++ [(P[k], Q[k])] := by
          rw [List.take_succ_eq_append_getElem (by simp; omega), List.getElem_zip]
        have no3 : ∀ w', Below w.heap.size w w' → ¬ ((∀ z ∈ (P.zip Q).take (k + 1), z.1 = 0 ↔ z.2 = 0) ∧ Con ((P.zip Q).take (k + 1))) → R (.bool false) w' := fun w' hb h => no w' hb fun hA => h (by
          obtain ⟨q1, q2⟩ := halike.1 hA
          have hsub : P.zip Q = (P.zip Q).take (k + 1) ++ (P.zip Q).drop (k + 1) := (List.take_append_drop _ _).symm
          rw [hsub] at q1 q2
          exact ⟨fun z hz => q1 z (List.mem_append.2 (.inl hz)), q2.left⟩)
        obtain ⟨p0, p1⟩ := rP _ (List.getElem_mem hlt)
        obtain ⟨q0, q1⟩ := rQ _ (List.getElem_mem hlt')
        have l1 := t1.1
        have l2 := t2.1
        have inv : Prop := True
        refine JoinW.cut (fun _ w' => Below w10.heap.size w10 w' ∧ ∃ L1 L2, Blk w' w10.heap.size 23 (L1.map (Value.int .u32)) ∧ Blk w' w11.heap.size 23 (L2.map (Value.int .u32)) ∧ TOk L1 ((P.zip Q).take (k + 1)) ∧ TOk L2 (swp ((P.zip Q).take (k + 1))) ∧
          (∀ z ∈ (P.zip Q).take (k + 1), z.1 = 0 ↔ z.2 = 0) ∧ Con ((P.zip Q).take (k + 1))) ?_ (fun _ w' h => hnext w' hlt h)
        rw [hZ] at no3 ⊢
        have eP : ∀ {w' : World} {φ : Int → Prop}, IsS (Value.int .u32) w' r P → φ P[k] → (0 ≤ (k : Int) ∧ (k : Int) < (r.l : Int)) ∧ derefP r.a fun a => ldI w' (a.add (Int.toNat (k : Int))) .u32 φ := fun hs hφ => hs.addr hlt fun a _ hc => ⟨_, hc, hφ⟩
        have eQ : ∀ {w' : World} {φ : Int → Prop}, IsS (Value.int .u32) w' r' Q → φ Q[k] → (0 ≤ (k : Int) ∧ (k : Int) < (r'.l : Int)) ∧ derefP r'.a fun a => ldI w' (a.add (Int.toNat (k : Int))) .u32 φ := fun hs hφ => hs.addr hlt' fun a _ hc => ⟨_, hc, hφ⟩
        generalize (P.zip Q).take k = Z at no3 t1 t2 hz0 hcon
        have dP := hP13.drew
        have dQ := hQ13.drew
        refine eP dP (eQ dQ ?_)
        have zeq : ((P[k] == (0 : Int)) == (Q[k] == (0 : Int))) = decide (P[k] = 0 ↔ Q[k] = 0) := by
          rw [Bool.eq_iff_iff, beq_iff_eq, decide_eq_true_iff, Bool.eq_iff_iff, beq_iff_eq, beq_iff_eq]
        rw [zeq]
        refine ifB_not (ifB_dec (fun hz1 => ?_) (fun hz1 => no3 _ hbw.drew fun h => hz1 (h.1 (P[k], Q[k]) (by simp))))
        have hz' : ∀ z ∈ Z ++ [(P[k], Q[k])], z.1 = 0 ↔ z.2 = 0 := by
          intro z hz
          rcases List.mem_append.1 hz with hz | hz
          · exact hz0 z hz
          · rw [List.mem_singleton.1 hz]; exact hz1
        refine eP dP (ifB_bne (fun hne => ?_) (fun he => ?_))
        · have hqne : Q[k] ≠ 0 := fun h => hne (hz1.2 h)
          have hpn : P[k] = ((P[k].toNat : Nat) : Int) := (Int.toNat_of_nonneg p0).symm
          have hqn : Q[k] = ((Q[k].toNat : Nat) : Int) := (Int.toNat_of_nonneg q0).symm
          have lp : P[k].toNat < L1.length := by omega
          have lq : Q[k].toNat < L2.length := by omega
          obtain ⟨ta, tb⟩ := t1.2 _ lp
          obtain ⟨tc, td⟩ := t2.2 _ lq
          rw [← hpn] at ta tb
          rw [← hqn] at tc td
          have gA : ∀ {w' : World} {φ : Int → Prop}, Blk w' w10.heap.size 23 (L1.map (Value.int .u32)) → φ L1[P[k].toNat] → ldI w' ((blk w10.heap.size).add (Int.toNat P[k])) .u32 φ := fun hB hφ => hB.rI (x := L1[P[k].toNat]) (by simp [lp]) hφ
          have gC : ∀ {w' : World} {φ : Int → Prop}, Blk w' w11.heap.size 23 (L2.map (Value.int .u32)) → φ L2[Q[k].toNat] → ldI w' ((blk w11.heap.size).add (Int.toNat Q[k])) .u32 φ := fun hB hφ => hB.rI (x := L2[Q[k].toNat]) (by simp [lq]) hφ
          refine JoinW.cut (fun _ w' => w' = w13.drew.drew ∧ ∀ z ∈ Z, P[k] = z.1 → Q[k] = z.2) ?_ ?_
          · refine eP dP.drew ⟨⟨p0, p1⟩, gA hA.drew.drew (ifB_bne (fun h1 => ?_) (fun h1 => ⟨rfl, fun z hz e => absurd (ta h1 z hz e.symm) (by omega)⟩))⟩
            refine eP dP.drew ⟨⟨p0, p1⟩, gA hA.drew.drew (eQ dQ.drew (ifB_bne (fun h2 => ?_) (fun h2 => ⟨rfl, fun z hz e => ?_⟩)))⟩
            · refine no3 _ hbw.drew.drew fun h => h2 ?_
              exact ((h.2.new _ (tb h1)).1 rfl).symm
            · have := (hcon _ (tb h1) z hz).1 e
              exact h2.symm.trans this
          · rintro _ w14 ⟨hw, hA1⟩
            subst hw
            refine JoinW.cut (fun _ w' => w' = w13.drew.drew.drew ∧ ∀ z ∈ Z, Q[k] = z.2 → P[k] = z.1) ?_ ?_
            · refine eQ dQ.drew.drew ⟨⟨q0, q1⟩, gC hC.drew.drew.drew (ifB_bne (fun h1 => ?_) (fun h1 => ⟨rfl, fun z hz e => absurd (tc h1 (z.2, z.1) (mem_swp.2 hz) e.symm) (by omega)⟩))⟩
              refine eQ dQ.drew.drew ⟨⟨q0, q1⟩, gC hC.drew.drew.drew (eP dP.drew.drew (ifB_bne (fun h2 => ?_) (fun h2 => ⟨rfl, fun z hz e => ?_⟩)))⟩
              · refine no3 _ hbw.drew.drew.drew fun h => h2 ?_
                exact ((h.2.new _ (mem_swp.1 (td h1))).2 rfl).symm
              · have := (hcon _ (mem_swp.1 (td h1)) z hz).2 e
                exact h2.symm.trans this
            · rintro _ w15 ⟨hw, hA2⟩
              subst hw
              have hcon' : Con (Z ++ [(P[k], Q[k])]) := hcon.snoc fun z hz => ⟨hA1 z hz, hA2 z hz⟩
              refine eP dP.drew.drew.drew (eQ dQ.drew.drew.drew ⟨⟨p0, p1⟩, hA.drew.drew.drew.drew.wr (by simpa using lp), Nw.gen fun w16 e16 => ?_⟩)
              have c16 : Chg w10.heap.size w13.drew.drew.drew.drew w16 := by rw [e16]; exact Chg.set _ _ _ _
              have hA16 : Blk w16 w10.heap.size 23 ((L1.set P[k].toNat Q[k]).map (Value.int .u32)) := by rw [e16, List.map_set]; exact hA.drew.drew.drew.drew.set _ _
              clear e16
              have hC16 := c16.blk hC.drew.drew.drew.drew (by have := b11.size; omega)
              have hb16 := c16.below hb13.drew.drew.drew.drew (Nat.le_refl _)
              have dP16 := (hP.below hb16).drew
              have dQ16 := (hQ.below hb16).drew
              refine eQ dQ16 (eP dP16 ⟨⟨q0, q1⟩, hC16.drew.wr (by simpa using lq), Nw.gen fun w17 e17 => ?_⟩)
              have c17 : Chg w11.heap.size w16.drew w17 := by rw [e17]; exact Chg.set _ _ _ _
              have hC17 : Blk w17 w11.heap.size 23 ((L2.set Q[k].toNat P[k]).map (Value.int .u32)) := by rw [e17, List.map_set]; exact hC16.drew.set _ _
              clear e17
              refine ⟨c17.below hb16.drew (by have := b11.size; omega), _, _, c17.blk hA16.drew (by omega), hC17, ?_, ?_, hz', hcon'⟩
              · have := t1.set (a := P[k].toNat) hqne lp
                rwa [← hpn] at this
              · have := t2.set (a := Q[k].toNat) hne lq
                rw [← hqn] at this
                rw [swp_append]
                exact this
        · have he0 : P[k] = 0 := he
          have hq0 : Q[k] = 0 := hz1.1 he0
          rw [he0, hq0] at hz' ⊢
          refine ⟨hb13.drew, L1, L2, hA.drew, hC.drew, t1.zero, by rw [swp_append]; exact t2.zero, hz', hcon.snoc fun z hz => ?_⟩
          have := hz0 z hz
          exact ⟨fun e => (this.1 e.symm).symm, fun e => (this.2 e.symm).symm⟩
      · have hk' : k = P.length := by dsimp only at hge; omega
        subst hk'
        have hfull : (P.zip Q).take P.length = P.zip Q := List.take_of_length_le (by simp; omega)
        rw [hfull] at hz0 hcon
        have := hR w13 hbw
        rwa [alike_yes (halike.2 ⟨hz0, hcon⟩)] at this

/-! ### The law -/
theorem IdsAlikes_spec {x y : Mo} {pl ql : List PI} {w : World} {R : Value → World → Prop} (hN : IsPl w x.2.2.1 pl) (hp : PlOk pl) (hbd : 0 ≤ x.2.1 ∧ x.2.1 ≤ 4294967295) (hM : IsPl w y.2.2.1 ql) (hq : PlOk ql) (hbd' : 0 ≤ y.2.1 ∧ y.2.1 ≤ 4294967295)
    (hR : ∀ w', Below w.heap.size w w' → R (.bool true) w') : callR Try.prog 4 #[moA x, moA y] w R := by
  refine callR.of (intagliolaw09_IdsAlikes_calls x y R w ?_) fun _ _ h => h
  refine lay_of fun w1 hX1 b1 z1 => ?_
  have hX1 : Blk w1 w.heap.size 37 (moV x) := hX1
  refine lay_of fun w2 hY2 b2 z2 => ?_
  have hY2 : Blk w2 w1.heap.size 37 (moV y) := hY2
  have hX2 := (hX1.below b2).drew
  have hY2 := hY2.drew
  have hb2 := (b1.on b2).drew
  refine Mo.load hX2 (Mo.load hY2 (Mo.load hX2 (Mo.load hY2 ?_)))
  refine CopyModule_spec (x := x) (hN.below hb2) hp fun c w3 _ _ hN3 b3 => ⟨(x.1, x.2.1, ⟨some (blk c), pl.length, pl.length⟩, ()), rfl, ?_⟩
  have hX3 := hX2.below b3
  have hY3 := hY2.below b3
  have hb3 := hb2.on b3
  refine ⟨hY3.cell (n := 0) rfl, hY3.cell (n := 1) rfl, hY3.cell (n := 2) rfl, hX3.cell (n := 0) rfl, hX3.cell (n := 1) rfl, hX3.cell (n := 2) rfl, hY3.cell (n := 0) rfl, hY3.cell (n := 1) rfl, hY3.cell (n := 2) rfl, ?_⟩
  refine CopyModule_spec (x := y) (hM.below hb3) hq fun c' w4 _ _ hM4 b4 => ⟨(y.1, y.2.1, ⟨some (blk c'), ql.length, ql.length⟩, ()), rfl, ?_⟩
  have hX4 := hX3.below b4
  have hY4 := hY3.below b4
  have hb4 := hb3.on b4
  refine ⟨hY4.cell (n := 0) rfl, hY4.cell (n := 1) rfl, hY4.cell (n := 2) rfl, hX4.cell (n := 0) rfl, hX4.cell (n := 1) rfl, hX4.cell (n := 2) rfl, ?_⟩
  refine Alike_spec (x := (x.1, x.2.1, ⟨some (blk c), pl.length, pl.length⟩, ())) (y := (y.1, y.2.1, ⟨some (blk c'), ql.length, ql.length⟩, ())) (hN3.below b4) hM4 hp hq hbd.1 hbd'.1 fun w5 b5 => ⟨_, rfl, ?_⟩
  have hX5 := hX4.below b5
  have hY5 := hY4.below b5
  have hb5 := hb4.on b5
  refine ⟨hY5.cell (n := 0) rfl, hY5.cell (n := 1) rfl, hY5.cell (n := 2) rfl, hX5.cell (n := 0) rfl, hX5.cell (n := 1) rfl, hX5.cell (n := 2) rfl, ?_⟩
  refine rAlike_spec (x := x) (y := y) (hN.below hb5) (hM.below hb5) hp hq hbd.1 hbd'.1 fun w6 b6 => ⟨_, rfl, ?_⟩
  have e : alikeB (x.1, x.2.1, ⟨some (blk c), pl.length, pl.length⟩, ()) pl (y.1, y.2.1, ⟨some (blk c'), ql.length, ql.length⟩, ()) ql = alikeB x pl y ql := rfl
  rw [e, beq_self_eq_true]
  exact hR w6 (hb5.on b6)

end Go.Proofs
