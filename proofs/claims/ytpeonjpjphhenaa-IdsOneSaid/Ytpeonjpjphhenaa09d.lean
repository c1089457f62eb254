/-
  ids: Check, the program's; the law.
-/
import Derived.Test.Ytpeonjpjphhenaa09c
namespace Go.Proofs
open Go.Gk Go.RowKit Go.Gm

theorem zInt : ∃ i, Try.prog.info? 3 = some i ∧ i.zero = some (.int .i64 0) := ⟨Try.t3, by kernel_rfl, rfl⟩
section
variable {x : Mo} {pl : List PI} {w : World} {R : Value → World → Prop}
theorem Check_spec (hN : IsPl w x.2.2.1 pl) (hp : PlOk pl) (hR : ∀ w', Below w.heap.size w w' → R (.agg #[.int .i64 (chk9P x.2.1 pl).1, .int .i64 ((chk9P x.2.1 pl).2 : Int)]) w') :
    callR Try.prog 11 #[moA x] w R := by
  refine callR.of (ids_Check_calls x R w ?_) fun _ _ h => h
  refine lay_of fun w1 hB1 b1 z1 => ?_
  have hB1 : Blk w1 w.heap.size 25 (moV x) := hB1
  refine lay_of fun w2 hC2 b2 z2 => ?_
  have hC2 : Blk w2 w1.heap.size 29 [.int .i64 0, .int .i64 0] := hC2
  have hb2 := b1.on b2
  have s1 := b1.size
  have hlen := hN.len
  have h40 := hp.len
  refine Mo.load (hB1.below b2) ?_
  refine Parts_spec (x := x) (hN.below hb2) hp fun y w3 b3 hP => ⟨y, ((layP x.2.1 pl).1, ((layP x.2.1 pl).2 : Int), ()), rfl, ?_⟩
  refine lay_of fun w4 hY4 b4 z4 => ?_
  refine lay_of fun w5 hE5 b5 z5 => ?_
  have hE5 : Blk w5 w4.heap.size 29 [.int .i64 0, .int .i64 0] := hE5
  refine st20 (x := y) (hY4.below b5) rfl fun w25 hY25 c25 => ?_
  refine st2 (c25.blk hE5 (by omega)) rfl fun w27 hE27 c27 => ?_
  have hY27 := c27.blk hY25 (by omega)
  have b327 : Below w3.heap.size w3 w27 := c27.below (c25.below (b4.on b5) (Nat.le_refl _)) (by omega)
  have b227 := b3.on b327
  have hb27 := hb2.on b227
  have hB27 := (hB1.below b2).below b227
  have hC27 := hC2.below b227
  have out : ∀ {w' : World} {a b : Int}, Below w27.heap.size w27 w' → (chk9P x.2.1 pl).1 = a → (((chk9P x.2.1 pl).2 : Nat) : Int) = b → Wr w' (blk w1.heap.size) ∧ Nw (w'.setCell (blk w1.heap.size) (.int .i64 a)) fun w7 => Wr w7 ((blk w1.heap.size).add 1) ∧
      Nw (w7.setCell ((blk w1.heap.size).add 1) (.int .i64 b)) fun w8 => ldI w8 ((blk w1.heap.size).add 0) .i64 fun x9 => ldI w8 ((blk w1.heap.size).add 1) .i64 fun x10 => R (.agg #[(.int .i64 x9), (.int .i64 x10)]) w8 := by
    intro w' a b hb e1 e2
    subst e1 e2
    exact st2 (hC27.below hb) rfl fun w8 h8 c8 => Sp.load h8 (hR w8 (c8.below (hb27.on hb) (by omega)))
  refine hE27.rI0 rfl (ifB_bne (fun e => ?_) (fun e => ?_))
  · have e' : (layP x.2.1 pl).1 ≠ 0 := e
    have hl := chk9_lay e'
    exact Sp.load hE27 (out (Below.refl _ _) (by rw [hl]) (by rw [hl]))
  have e0 : (layP x.2.1 pl).1 = 0 := e
  have e' : ¬ (layP x.2.1 pl).1 ≠ 0 := fun h => h e
  obtain ⟨hPT, hG⟩ := hP e0
  obtain ⟨q1, q2, q3, q4⟩ := hPT 7 (by omega)
  generalize hfr : (l20 y).getD (2 * 7) 0 = from_ at q1 q2 q4
  generalize hto : (l20 y).getD (2 * 7 + 1) 0 = to_ at q2 q3 q4
  refine hB27.rS (n := 2) (x := x.2.2.1) rfl ?_
  refine makers_spec (hN.below hb27) fun w30 L hM30 hMk hKN b30 => ⟨some w27.heap.size, rfl, ⟨by omega, by omega⟩, ?_⟩
  have hY30 := hY27.below b30
  refine hY30.rI2 (m := 7 * 2) (n := 0) (x := from_) (by rw [← hfr]; rfl) (hY30.rI2 (m := 7 * 2) (n := 1) (x := to_) (by rw [← hto]; rfl) ?_)
  refine box2 rfl fun w33 hG33 b33 z33 => ?_
  have b2733 := b30.on b33
  have hM33 := hM30.below b33
  have hB33 := hB27.below b2733
  refine hB33.rS (n := 2) (x := x.2.2.1) rfl ?_
  refine LoopW.count pl.length hN.bound (fun k w' => Below w33.heap.size w33 w' ∧ ∀ j, j < k → fltP pl j = 0) ⟨Below.refl _ _, fun j hj => by omega⟩ ?_
  rintro k w34 hk ⟨hb34, hj⟩ next hnext
  have hb2734 := b2733.on hb34
  have hN34 := hN.below (hb27.on hb2734)
  refine ifB_dec (fun h => ?_) (fun h => ?_)
  · have hlt : k < pl.length := by dsimp only at h; omega
    have eix : pl[k] = ix pl k := (ix_lt hlt).symm
    refine JoinW.cut (fun _ w' => Below w33.heap.size w33 w' ∧ fltP pl k = 0) ?_ ?_
    · refine elemPI hN34 hlt fun t ht => ?_
      refine box4 rfl fun w39 h39 b39 z39 => ?_
      have h39 : Blk w39 w34.heap.size 45 (inV (mkIn pl[k] t)) := h39
      have hb39 := hb34.on b39
      refine JoinW.cut (fun _ w' => w' = w39 ∧ ¬ 0 ≤ makerI pl (ix pl k).2.2.1 k) ?_ ?_
      · refine h39.rI (n := 2) rfl (ifB_bne (fun e1 => ?_) (fun e1 => ⟨rfl, fun g => ?_⟩))
        · have e1 : pl[k].2.2.1 ≠ 0 := e1
          refine h39.rI (n := 2) rfl (lookV_of uMapI uU32 zInt (hM33.below hb39) ?_)
          have hmk : mk1 pl (ix pl k).2.2.1 k = true := by unfold mk1; rw [← eix, getD_lt hlt, beq_self_eq_true, bne_iff_ne.2 e1]; rfl
          cases hl : lookL L pl[k].2.2.1 with
          | none =>
            have := (hMk pl[k].2.2.1).1 hl k (Nat.zero_le _) hlt
            rw [← eix] at hmk
            rw [hmk] at this
            cases this
          | some v =>
            have hv := hMk.lt hl k
            rw [eix] at hv
            refine ifB_dec (fun h => ?_) (fun h => ⟨rfl, fun g => h (hv.2 g)⟩)
            have hf : fltP pl k = 90 := by unfold fltP; rw [if_pos (hv.1 h)]
            have hb := chk9_bad e' hlt hj (by rw [hf]; decide)
            exact out (b2733.on hb39) (by rw [hb, hf]) (by rw [hb])
        · have e1 : pl[k].2.2.1 = 0 := e1
          rw [← eix, e1] at g
          obtain ⟨j, _, h2⟩ := makerI_iff.1 g
          rw [mk1_zero] at h2
          cases h2
      · rintro _ w42 ⟨rfl, n90⟩
        refine Ins.load h39 ?_
        have hfl : fltP pl k = if (idsAt pl k).any (fun id => decide (makerI pl id pl.length < 0)) = true then 91 else if partP (ix pl k) = 7 ∧ (idsAt pl k).any (fun id => decide (makerI pl id k < 0)) = true then 92 else 0 := by
          unfold fltP; rw [if_neg n90]
        refine Ids_spec (x := mkIn pl[k] t) (ht.below b39) (hp.args _ (List.getElem_mem hlt)) fun r w43 hO hF b43 => ⟨r, rfl, ?_⟩
        have hO : Own w43 22 1 r ((idsAt pl k).map (Value.int .u32)) := by unfold idsAt; rw [← eix]; exact hO
        generalize idsAt pl k = ids at hO hfl
        have hI := hO.isS
        have hrl := hI.len
        have hib := hI.bound
        have hb43 := hb39.on b43
        refine LoopW.ghost (fun j (st : Bool × Int × Unit) w' => ∃ (i : Nat), j = ids.length - i ∧ i ≤ ids.length ∧ w' = w43 ∧ st.2.1 = (i : Int) ∧ (∀ q (hq : q < ids.length), q < i → 0 ≤ makerI pl ids[q] pl.length) ∧ (st.1 = true ↔ ∃ q, ∃ hq : q < ids.length, q < i ∧ makerI pl ids[q] k < 0)) ids.length
          ⟨0, rfl, Nat.zero_le _, rfl, rfl, fun q hq h => by omega, ⟨fun h => (by cases h), fun ⟨q, hq, h, _⟩ => by omega⟩⟩ ?_
        rintro _ ⟨ah, _, _⟩ w44 ⟨i, rfl, hi, hw, e2, hmd, hah⟩ next2 hnext2
        dsimp only at e2 hah
        subst hw e2
        refine ifB_dec (fun h => ?_) (fun h => ?_)
        · have hil : i < ids.length := by dsimp only at h; omega
          refine JoinW.cut (fun (st : Bool × Unit) w' => w' = w44 ∧ 0 ≤ makerI pl ids[i] pl.length ∧ (st.1 = true ↔ ah = true ∨ makerI pl ids[i] k < 0)) ?_ ?_
          · refine elemU hI hil (lookOk_of uMapI uU32 zInt (hM33.below hb43) ?_)
            cases hl : lookL L ids[i] with
            | none =>
              refine ifB_true rfl ?_
              have hf : fltP pl k = 91 := by rw [hfl, if_pos (any_lt hil (decide_eq_true (hMk.none hl)))]
              have hb := chk9_bad e' hlt hj (by rw [hf]; decide)
              exact out (b2733.on hb43) (by rw [hb, hf]) (by rw [hb])
            | some v =>
              refine ifB_false rfl ?_
              have hv := hMk.lt hl k
              refine ifB_bool (fun hat => ⟨rfl, hMk.some hl, ⟨fun _ => .inl hat, fun _ => rfl⟩⟩) (fun haf => ⟨rfl, hMk.some hl, ?_⟩)
              show (decide (v ≥ (k : Int)) = true ↔ _)
              have haf : ah = false := haf
              rw [haf]
              constructor
              · intro g
                have := of_decide_eq_true g
                right
                rcases Int.lt_or_le (makerI pl ids[i] k) 0 with q | q
                · exact q
                · have := hv.2 q; omega
              · rintro (g | g)
                · cases g
                · refine decide_eq_true ?_
                  rcases Int.lt_or_le v k with q | q
                  · have := hv.1 q; omega
                  · exact q
          · rintro ⟨ah', _⟩ w47 ⟨hw, hmi, hah'⟩
            dsimp only at hah' ⊢
            subst hw
            rw [wrap64_succ (by omega)]
            refine hnext2 (ids.length - (i + 1)) _ _ (by omega) ⟨i + 1, rfl, hil, rfl, rfl, fun q hq h => ?_, ?_⟩
            · by_cases eq : q = i
              · subst eq; exact hmi
              · exact hmd q hq (by omega)
            · dsimp only
              rw [hah', hah]
              constructor
              · rintro (⟨q, hq, h1, h2⟩ | g)
                · exact ⟨q, hq, by omega, h2⟩
                · exact ⟨i, hil, by omega, g⟩
              · rintro ⟨q, hq, h1, h2⟩
                by_cases eq : q = i
                · subst eq; exact .inr h2
                · exact .inl ⟨q, hq, by omega, h2⟩
        · have hil : i = ids.length := by dsimp only at h; omega
          subst hil
          have n91 : ¬ ids.any (fun id => decide (makerI pl id pl.length < 0)) = true := by
            rw [any_none (p := fun id => decide (makerI pl id pl.length < 0)) fun q hq => decide_eq_false (by have := hmd q hq hq; omega)]
            decide
          rw [if_neg n91] at hfl
          have hany : ids.any (fun id => decide (makerI pl id k < 0)) = ah := by
            rw [Bool.eq_iff_iff, hah]
            constructor
            · intro g
              obtain ⟨y', y1, y2⟩ := List.any_eq_true.1 g
              obtain ⟨q, hq, rfl⟩ := List.mem_iff_getElem.1 y1
              exact ⟨q, hq, hq, of_decide_eq_true y2⟩
            · rintro ⟨q, hq, _, h2⟩
              exact any_lt hq (decide_eq_true h2)
          rw [hany] at hfl
          have hq4 := q4 k hlt
          have hG44 := hG33.below hb43
          refine JoinW.cut (fun _ w' => w' = w44 ∧ partP (ix pl k) = 7 ∧ ah = true) ?_ ?_
          · refine ifB_not (ifB_bool (fun hat => ?_) (fun haf => ⟨hb43, by have haf : ah = false := haf; rw [hfl, if_neg (fun g => by rw [haf] at g; cases g.2)]⟩))
            refine hG44.rI0 rfl (ifB_dec (fun h1 => ⟨hb43, ?_⟩) (fun h1 => ?_))
            · rw [hfl, if_neg (fun g => by have := hq4.2 g.1; dsimp only at h1; omega)]
            · refine hG44.rI (n := 1) rfl (ifB_dec (fun h2 => ⟨hb43, ?_⟩) (fun h2 => ⟨rfl, hq4.1 ⟨by dsimp only at h1; omega, by dsimp only at h2; omega⟩, hat⟩))
              rw [hfl, if_neg (fun g => by have := hq4.2 g.1; dsimp only at h2; omega)]
          · rintro _ w48 ⟨rfl, g1, g2⟩
            have hf : fltP pl k = 92 := by rw [hfl, if_pos ⟨g1, g2⟩]
            have hb := chk9_bad e' hlt hj (by rw [hf]; decide)
            exact out (b2733.on hb43) (by rw [hb, hf]) (by rw [hb])
    · rintro _ w51 ⟨hb51, hf⟩
      refine hnext w51 hlt ⟨hb51, fun j hjk => ?_⟩
      by_cases ej : j = k
      · subst ej; exact hf
      · exact hj j (by omega)
  · have hk' : k = pl.length := by dsimp only at h; omega
    have hg := chk9_good e' (fun j hj' => hj j (by omega))
    exact out hb2734 (by rw [hg]) (by rw [hg]; rfl)

/-! ### Two modules compared -/
noncomputable instance decPl (a b : List PI) : Decidable (a = b) := Classical.propDecidable _
theorem Module_spec {y : Mo} {ql : List PI} (hN : IsPl w x.2.2.1 pl) (hM : IsPl w y.2.2.1 ql) (hR : ∀ w', Below w.heap.size w w' → R (.bool (decide (x.1 = y.1 ∧ x.2.1 = y.2.1 ∧ pl = ql))) w') :
    callR Try.prog 13 #[moA x, moA y] w R := by
  refine callR.of (intagliokit_Module_calls x y R w ?_) fun _ _ h => h
  refine lay_of fun w1 hB1 b1 z1 => ?_
  have hB1 : Blk w1 w.heap.size 25 (moV x) := hB1
  refine lay_of fun w2 hC2 b2 z2 => ?_
  have hC2 : Blk w2 w1.heap.size 25 (moV y) := hC2
  have hB2 := hB1.below b2
  have hb2 := b1.on b2
  have hl1 := hN.len
  have hl2 := hM.len
  have no : ¬ (x.1 = y.1 ∧ x.2.1 = y.2.1 ∧ pl = ql) → ∀ {w'}, Below w.heap.size w w' → R (.bool false) w' := fun h {w'} hb => by
    have := hR w' hb
    rwa [decide_eq_false h] at this
  refine JoinW.cut (fun _ w' => w' = w2 ∧ x.1 = y.1 ∧ x.2.1 = y.2.1 ∧ pl.length = ql.length) ?_ ?_
  · refine hB2.rI0 rfl (hC2.rI0 rfl (ifB_bne (fun e => no (fun h => e h.1) hb2) (fun e1 => ?_)))
    refine hB2.rI (n := 1) rfl (hC2.rI (n := 1) rfl (ifB_bne (fun e => no (fun h => e h.2.1) hb2) (fun e2 => ?_)))
    refine hB2.rS (n := 2) (x := x.2.2.1) rfl (hC2.rS (n := 2) (x := y.2.2.1) rfl (ifB_bne (fun e => no (fun h => e (by rw [hl1, hl2, h.2.2])) hb2) (fun e3 => ⟨rfl, e1, e2, by omega⟩)))
  · rintro _ w3 ⟨rfl, e1, e2, e3⟩
    refine LoopW.count pl.length hN.bound (fun k w' => Below w3.heap.size w3 w' ∧ ∀ j (h1 : j < pl.length) (h2 : j < ql.length), j < k → pl[j] = ql[j]) ⟨Below.refl _ _, fun j _ _ h => by omega⟩ ?_
    rintro k w4 hk ⟨hb, hj⟩ next hnext
    have hB4 := hB2.below hb
    have hC4 := hC2.below hb
    have hbw := hb2.on hb
    have bd : Below w4.heap.size w4 w4.drew := (Below.refl _ _).drew
    refine hB4.rS (n := 2) (x := x.2.2.1) rfl (ifB_dec (fun h => ?_) (fun h => ?_))
    · have hlt : k < pl.length := by dsimp only at h; omega
      have hlq : k < ql.length := by omega
      refine hB4.drew.rS (n := 2) (x := x.2.2.1) rfl (elemPI (hN.below (hbw.on bd)) hlt fun t ht => hC4.drew.rS (n := 2) (x := y.2.2.1) rfl (elemPI (hM.below (hbw.on bd)) hlq fun u hu => ?_))
      refine Inst_spec (x := mkIn pl[k] t) (y := mkIn ql[k] u) ht hu fun w5 b5 => ⟨_, rfl, ?_⟩
      have hb5 := hb.on (bd.on b5)
      have same : (mkIn pl[k] t).1 = (mkIn ql[k] u).1 ∧ (mkIn pl[k] t).2.1 = (mkIn ql[k] u).2.1 ∧ (mkIn pl[k] t).2.2.1 = (mkIn ql[k] u).2.2.1 ∧ pl[k].2.2.2 = ql[k].2.2.2 ↔ pl[k] = ql[k] :=
        ⟨fun ⟨g1, g2, g3, g4⟩ => Prod.ext g1 (Prod.ext g2 (Prod.ext g3 g4)), fun g => by rw [g]; exact ⟨rfl, rfl, rfl, rfl⟩⟩
      refine ifB_not (ifB_bool (fun h1 => ?_) (fun h1 => ?_))
      · refine hnext w5 hlt ⟨hb5, fun j q1 q2 hjk => ?_⟩
        by_cases ej : j = k
        · subst ej; exact same.1 (of_decide_eq_true h1)
        · exact hj j q1 q2 (by omega)
      · refine no (fun g => of_decide_eq_false h1 (same.2 ?_)) (hb2.on hb5)
        obtain ⟨_, _, g⟩ := g
        subst g
        rfl
    · have hk' : k = pl.length := by dsimp only at h; omega
      have := hR w4 hbw
      rw [decide_eq_true ⟨e1, e2, List.ext_getElem e3 fun j q1 q2 => hj j q1 q2 (by omega)⟩] at this
      exact this

end
end Go.Proofs
