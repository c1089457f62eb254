/-
  ids: the laws that ask no document: IdsBack, IdsOne.
-/
import Derived.Test.YtpeonjpjphhenaaL09u
import Derived.Test.Ytpeonjpjphhenaa09y
namespace Go.Proofs
open Go.Gk Go.RowKit Go.Gm

/-! ### Plain -/
theorem PlOk.turn {g : Int → Int} {pl : List PI} (h : PlOk pl) (hg : ∀ n ∈ allP pl, 0 ≤ g n ∧ g n ≤ 4294967295) : PlOk (turnP g pl) := by
  have get : ∀ p ∈ turnP g pl, ∃ q ∈ pl, p = turnI g q := fun p hp => by
    obtain ⟨q, hq, e⟩ := List.mem_map.1 hp
    exact ⟨q, hq, e.symm⟩
  refine ⟨by rw [turnP_len]; exact h.len, fun p hp => ?_, fun p hp x hx => ?_, fun p hp => ?_⟩
  · obtain ⟨q, hq, rfl⟩ := get p hp
    have := h.args q hq
    unfold turnI
    dsimp only
    rw [List.length_map]
    exact this
  · obtain ⟨q, hq, rfl⟩ := get p hp
    obtain ⟨y, hy, rfl⟩ := List.mem_map.1 hx
    rw [turnA_t]
    exact h.text q hq y hy
  · obtain ⟨q, hq, rfl⟩ := get p hp
    refine ⟨hg _ (mem_allI hq (by simp [allI])), hg _ (mem_allI hq (by simp [allI])), fun x hx => ?_⟩
    obtain ⟨y, hy, rfl⟩ := List.mem_map.1 hx
    by_cases e : y.1 = 1
    · rw [turnA_id g e]
      refine hg _ (mem_allI hq ?_)
      simp only [allI, List.mem_cons]
      right; right
      exact List.mem_map.2 ⟨y, List.mem_filter.2 ⟨hy, by simp [e]⟩, rfl⟩
    · rw [turnA_no g e]
      exact (h.nums q hq).2.2 y hy
theorem TurnOk.plOk {g : Int → Int} {pl : List PI} {b' : Int} (h : TurnOk g pl b') (hp : PlOk pl) : PlOk (turnP g pl) := by
  refine hp.turn fun n hn => ?_
  have hb := h.pos
  by_cases e : n = 0
  · rw [e, h.zero]; omega
  · have := h.rng n hn e
    omega
/-- The one module that the law writes itself. -/
theorem one_ok : PlOk [(20, 0, 1, [])] := by
  constructor <;> simp
theorem one_shape : shapeP 2 [((20, 0, 1, []) : PI)] = (0, 0) := by decide +kernel
theorem one_way : WayP 2 [0, 1] := ⟨rfl, rfl, by decide⟩
/-- The place at which a number is given. -/
theorem cnt_hit (pl : List PI) {i : Nat} (h1 : 1 ≤ i) : ∀ n, i ≤ cntP pl n → ∃ k, k < n ∧ cntP pl (k + 1) = i ∧ cntP pl k = i - 1
  | 0, h => by simp only [cntP] at h; omega
  | n + 1, h => by
    by_cases e : i ≤ cntP pl n
    · obtain ⟨k, k1, k2⟩ := cnt_hit pl h1 n e
      exact ⟨k, by omega, k2⟩
    · refine ⟨n, by omega, ?_⟩
      have : cntP pl (n + 1) ≤ cntP pl n + 1 := by simp only [cntP]; split <;> omega
      omega
theorem Whole9.made_at {bd : Int} {pl : List PI} (h : Whole9 bd pl) {i : Nat} (h1 : 1 ≤ i) (h2 : i ≤ cntP pl pl.length) : ∃ k : Nat, makerI (newP pl) (i : Int) pl.length = (k : Int) ∧ cntP pl (k + 1) = i ∧ cntP pl k = i - 1 := by
  obtain ⟨k, k1, k2, k3⟩ := cnt_hit pl h1 _ h2
  have hr : (ix pl k).2.2.1 ≠ 0 := fun e => by
    simp only [cntP] at k2
    rw [if_neg (fun g => g e)] at k2
    omega
  have hz := rnP_zero pl pl.length
  have ixr : ∀ j, (ix (newP pl) j).2.2.1 = rnP pl pl.length (ix pl j).2.2.1 := fun j => by
    unfold newP
    rw [ix_turn hz]
    rfl
  refine ⟨k, ?_, k2, k3⟩
  unfold makerI
  rw [find_first k1]
  · unfold mk1
    rw [show (newP pl).getD k pi0 = ix (newP pl) k from rfl, ixr, h.rn_at k1 hr _ k1 (Nat.le_refl _), k2]
    simp; omega
  · intro j hj
    unfold mk1
    rw [show (newP pl).getD j pi0 = ix (newP pl) j from rfl, ixr]
    by_cases e : (ix pl j).2.2.1 = 0
    · rw [e, hz, beq_eq_false_iff_ne.2 (by omega), Bool.false_and]
    · rw [h.rn_at (by omega) e _ (show j < pl.length by omega) (Nat.le_refl _)]
      have := cntP_mono pl (show j + 1 ≤ k from hj)
      rw [beq_eq_false_iff_ne.2 (by omega), Bool.false_and]

/-! ### Small walks -/
section
variable {x : Mo} {pl : List PI} {w : World} {R : Value → World → Prop} {s : Sl} {T : List Int}
theorem boxMS {y : Mo} {e a : Int} {K : World → World → Prop} (hK : ∀ w1 w', w1.heap.size = w.heap.size + 1 → Blk w' w.heap.size 25 (moV y) → Blk w' w1.heap.size 29 [.int .i64 e, .int .i64 a] → Below w.heap.size w w' → w'.heap.size = w.heap.size + 2 → K w1 w') :
    Nw (w.alloc (.cells #[(.int .u32 (0 : Int)), (.int .u32 (0 : Int)), (.slice none 0 0)] 25)) fun w1 =>
    Nw (w1.alloc (.cells #[(.int .i64 (0 : Int)), (.int .i64 (0 : Int))] 29)) fun w2 =>
    Wr w2 (blk w.heap.size) ∧ Nw (w2.setCell (blk w.heap.size) (.int .u32 y.1)) fun w3 =>
    Wr w3 ((blk w.heap.size).add 1) ∧ Nw (w3.setCell ((blk w.heap.size).add 1) (.int .u32 y.2.1)) fun w4 =>
    Wr w4 ((blk w.heap.size).add 2) ∧ Nw (w4.setCell ((blk w.heap.size).add 2) (.slice y.2.2.1.a y.2.2.1.l y.2.2.1.c)) fun w5 =>
    Wr w5 (blk w1.heap.size) ∧ Nw (w5.setCell (blk w1.heap.size) (.int .i64 e)) fun w6 =>
    Wr w6 ((blk w1.heap.size).add 1) ∧ Nw (w6.setCell ((blk w1.heap.size).add 1) (.int .i64 a)) fun w7 => K w1 w7 := by
  refine lay_of fun w1 hM1 b1 z1 => ?_
  refine lay_of fun w2 hS2 b2 z2 => ?_
  refine st3 (hM1.below b2) rfl fun w3 hM3 c3 => ?_
  refine st2 (c3.blk hS2 (by omega)) rfl fun w5 hS5 c5 => ?_
  exact hK w1 w5 z1 (c5.blk hM3 (by omega)) hS5 (c5.below (c3.below (b1.on b2) (Nat.le_refl _)) (by omega)) (by rw [c5.size, c3.size]; omega)
theorem None_spec (hR : ∀ w', Below w.heap.size w w' → R (.bool true) w') (h1 : x.1 = 0) (h2 : x.2.1 = 0) (h3 : x.2.2.1.l = 0) : callR Try.prog 22 #[moA x] w R := by
  refine callR.of (intagliokit_None_calls x R w ?_) fun _ _ h => h
  refine lay_of fun w1 hB1 b1 z1 => ?_
  have hB1 : Blk w1 w.heap.size 25 (moV x) := hB1
  refine hB1.rI0 (x := x.1) rfl (ifB_beq (fun _ => ?_) (fun e => absurd h1 e))
  refine hB1.rI (n := 1) (x := x.2.1) rfl (ifB_beq (fun _ => ?_) (fun e => absurd h2 e))
  refine hB1.rS (n := 2) (x := x.2.2.1) rfl ?_
  have := hR w1 b1
  rw [h3]
  exact this

/-! ### IdsBack -/
theorem IdsBack_spec (hN : IsPl w x.2.2.1 pl) (hp : PlOk pl) (hbd : 0 ≤ x.2.1 ∧ x.2.1 ≤ 4294967295) (hs : IsS (Value.int .u32) w s T) (hmax : 4 * T.length ≤ 140737488351232) (hR : ∀ w', Below w.heap.size w w' → R (.bool true) w') :
    callR Try.prog 6 #[moA x, .slice s.a s.l s.c] w R := by
  refine callR.of (intagliolaw09_IdsBack_calls x s R w ?_) fun _ _ h => h
  refine lay_of fun w1 hB1 b1 z1 => ?_
  have hB1 : Blk w1 w.heap.size 25 (moV x) := hB1
  refine Mo.load hB1 ?_
  refine CopyModule_spec (x := x) (hN.below b1) hp fun c w2 _ _ hN2 b2 => ⟨(x.1, x.2.1, ⟨some (blk c), pl.length, pl.length⟩, ()), rfl, ?_⟩
  have hb2 := b1.on b2
  refine CopyWords_spec (hs.below hb2) hmax fun w3 hW3 b3 => ⟨⟨some (blk w2.heap.size), T.length, T.length⟩, rfl, ?_⟩
  refine Rename_spec (x := (x.1, x.2.1, ⟨some (blk c), pl.length, pl.length⟩, ())) (hN2.below b3) hp hbd.1 hW3.isS (by omega) fun y ql w4 b4 hO4 hy => ⟨y, ((rnmS x pl T).1, (rnmS x pl T).2, ()), rfl, ?_⟩
  have hb4 := (hb2.on b3).on b4
  refine boxMS (y := y) fun w5 w11 z5 hY11 hS11 b11 z11 => ?_
  have hb11 := hb4.on b11
  have b111 := ((b2.on b3).on b4).on b11
  have hB11 := hB1.below b111
  refine lay_of fun w12 hI12 b12 z12 => ?_
  have hI12 : Blk w12 w11.heap.size 45 (inV (mkIn (20, 0, 1, []) ⟨none, 0, 0⟩)) := hI12
  refine box3 rfl fun w16 hX16 b16 z16 => ?_
  have hX16 : Blk w16 w12.heap.size 25 (moV (0, 2, ⟨some (blk w11.heap.size), 1, 1⟩, ())) := hX16
  refine Mo.load hX16 ?_
  refine lay_of fun w17 hV17 b17 z17 => ?_
  have hV17 : Blk w17 w16.heap.size 22 (([0, 1] : List Int).map (Value.int .u32)) := hV17
  have b1217 := b16.on b17
  have hI17 := hI12.below b1217
  have hO17 : OwnPl w17 w11.heap.size ⟨some (blk w11.heap.size), 1, 1⟩ [(20, 0, 1, [])] := by
    refine ⟨[mkIn (20, 0, 1, []) ⟨none, 0, 0⟩], rfl, ⟨rfl, .inr ⟨_, _, rfl, hI17, Nat.le_refl _, (by dsimp only; omega), rfl, rfl⟩⟩, fun a ha => by cases ha; exact Nat.le_refl _, fun j hj hj' => ?_⟩
    have : j = 0 := by simp at hj; exact hj
    subst this
    exact ⟨⟨none, 0, 0⟩, rfl, Own.nil _ _ _, fun a ha => by cases ha⟩
  refine Rename_spec (x := (0, 2, ⟨some (blk w11.heap.size), 1, 1⟩, ())) (pl := [(20, 0, 1, [])]) (s := ⟨some (blk w16.heap.size), 2, 2⟩) (T := [0, 1]) hO17.isPl one_ok (by dsimp only; omega) (hV17.isS rfl rfl (Nat.le_refl _) (by dsimp only; omega)) (by decide) fun y1 ql1 w18 b18 hO18 hy1 => ⟨y1, ((rnmS (0, 2, ⟨some (blk w11.heap.size), 1, 1⟩, ()) [(20, 0, 1, [])] [0, 1]).1, (rnmS (0, 2, ⟨some (blk w11.heap.size), 1, 1⟩, ()) [(20, 0, 1, [])] [0, 1]).2, ()), rfl, ?_⟩
  have es1 : rnmS (0, 2, ⟨some (blk w11.heap.size), 1, 1⟩, ()) [(20, 0, 1, [])] [0, 1] = (0, 0) := by
    unfold rnmS
    dsimp only
    rw [one_shape, if_neg (fun h => h rfl), if_pos (wayB_true one_way)]
  have ep1 : rnmP (0, 2, ⟨some (blk w11.heap.size), 1, 1⟩, ()) [(20, 0, 1, [])] [0, 1] = (0, 2, [(20, 0, 1, [])]) := by
    unfold rnmP
    dsimp only
    rw [one_shape, if_neg (fun h => h rfl), if_pos (wayB_true one_way)]
    rfl
  rw [ep1, Prod.mk.injEq, Prod.mk.injEq] at hy1
  rw [es1]
  refine boxMS (y := y1) fun w19 w25 z19 hY25 hS25 b25 z25 => ?_
  have b1125 := ((b12.on b1217).on b18).on b25
  have hb25 := hb11.on b1125
  have b125 := b111.on b1125
  refine JoinW.cut (fun _ w' => Below w25.heap.size w25 w') ?_ ?_
  · refine hS25.rI0 rfl (ifB_bne (fun e => absurd rfl e) (fun _ => ?_))
    refine Mo.load hY25 (Mo.load (((hX16.below b17).below b18).below b25) ?_)
    refine Module_spec (x := y1) (y := (0, 2, ⟨some (blk w11.heap.size), 1, 1⟩, ())) (pl := ql1) (ql := [(20, 0, 1, [])]) (hO18.below b25).isPl ((hO17.isPl.below b18).below b25) fun w26 b26 => ⟨_, rfl, ?_⟩
    rw [decide_eq_true hy1]
    exact ifB_false rfl b26
  rintro _ w27 b27
  have hb27 := hb25.on b27
  have b127 := b125.on b27
  have b1127 := b1125.on b27
  have hY27 := hY11.below b1127
  have hS27 := hS11.below b1127
  have hB27 := hB1.below b127
  have hO27 := (hO4.below b11).below b1127
  refine hS27.rI0 rfl (ifB_bne (fun e => ?_) (fun e => ?_))
  · have ez : rnmP x pl T = (0, 0, []) := by
      unfold rnmS at e
      unfold rnmP
      by_cases e1 : (shapeP x.2.1 pl).1 ≠ 0
      · rw [if_pos e1]
      · rw [if_neg e1] at e ⊢
        by_cases e2 : wayB x.2.1 T = true
        · rw [if_pos e2] at e; exact absurd rfl e
        · rw [if_neg e2]
    have hy : (y.1, y.2.1, ql) = rnmP x pl T := hy
    rw [ez, Prod.mk.injEq, Prod.mk.injEq] at hy
    refine Mo.load hY27 ?_
    refine None_spec (x := y) (fun w28 b28 => ⟨_, rfl, hR w28 (hb27.on b28)⟩) hy.1 hy.2.1 ?_
    rw [hO4.isPl.len, hy.2.2]
    rfl
  have hsh : (shapeP x.2.1 pl).1 = 0 := by
    refine Classical.byContradiction fun e1 => ?_
    unfold rnmS at e
    rw [if_pos e1] at e
    exact e1 e
  have hway : WayP x.2.1 T := by
    refine Classical.byContradiction fun e1 => ?_
    unfold rnmS at e
    rw [if_neg (fun h => h hsh), if_neg (by rw [wayB_false e1]; simp)] at e
    cases e
  have nb := (shape_ok hsh).1
  have hturn := hway.turn hp hbd.1 hsh
  have hy : (y.1, y.2.1, ql) = (x.1, x.2.1, turnP (toG T) pl) := by
    have hy : (y.1, y.2.1, ql) = rnmP x pl T := hy
    rw [hy]
    unfold rnmP
    rw [if_neg (fun h => h hsh), if_pos (wayB_true hway)]
  rw [Prod.mk.injEq, Prod.mk.injEq] at hy
  obtain ⟨hy1', hy2', hy3'⟩ := hy
  subst hy3'
  have hpq := hturn.plOk hp
  have hlT := hway.len
  have hl := hs.len
  have hT : ∀ i (hi : i < T.length), 0 ≤ T[i] ∧ T[i] < T.length := fun i hi => mem_rngI.1 (hway.perm.mem_iff.1 (List.getElem_mem hi))
  rw [hl]
  refine ⟨⟨by omega, by omega, by omega, by omega⟩, Nw.gen fun w29 e29 => ?_⟩
  have hD29 : Blk w29 w27.heap.size 22 ((List.replicate T.length (0 : Int)).map (Value.int .u32)) := by rw [e29, List.map_replicate]; exact Blk.made w27 _ _ _
  have b29 : Below w27.heap.size w27 w29 := by rw [e29]; exact (Below.refl _ _).alloc (Nat.le_refl _) _
  clear e29
  refine LoopW.count T.length (by omega) (fun k w' => Below w27.heap.size w27 w' ∧ ∃ C : List Int, Blk w' w27.heap.size 22 (C.map (Value.int .u32)) ∧ C.length = T.length ∧ ∀ j (h : j < T.length), j < k → C.getD T[j].toNat 0 = (j : Int)) ⟨b29, _, hD29, by simp, fun j _ h => by omega⟩ ?_
  rintro k w30 hk ⟨b30, C, hC, hCl, hval⟩ next hnext
  refine ifB_dec (fun h => ?_) (fun h => ?_)
  · have hkl : k < T.length := by dsimp only at h; omega
    have hs30 := hs.below (hb27.on b30)
    obtain ⟨t1, t2⟩ := hT k hkl
    have el : ∀ {φ : Int → Prop}, φ T[k] → (0 ≤ (k : Int) ∧ (k : Int) < ((T.length : Nat) : Int)) ∧ derefP s.a fun a => ldI w30 (a.add (Int.toNat (k : Int))) .u32 φ := fun hφ => by
      have := elemU hs30 hkl hφ
      rw [hl] at this
      exact this
    refine el (ifB_dec (fun hge => ?_) (fun _ => el ?_))
    · rw [wrapU32_in (by omega) (by omega)] at hge
      omega
    · dsimp only
      rw [wrapU32_in (n := (k : Int)) (by omega) (by omega)]
      have c31 := Chg.set w27.heap.size T[k].toNat w30 (.int .u32 (k : Int))
      refine ⟨⟨t1, t2⟩, hC.wr (by rw [List.length_map]; omega), Nw.mk (hnext _ hkl ⟨c31.below b30 (Nat.le_refl _), C.set T[k].toNat (k : Int), by rw [List.map_set]; exact hC.set _ _, by rw [List.length_set]; exact hCl, fun j h1 h2 => ?_⟩)⟩
      by_cases e : j = k
      · subst e
        rw [getD_lt (by rw [List.length_set]; omega), List.getElem_set_self]
      · obtain ⟨u1, u2⟩ := hT j h1
        have hne : T[k].toNat ≠ T[j].toNat := fun g => e ((List.getElem_inj (h₀ := h1) (h₁ := hkl) hway.nodup).1 (by omega))
        have := hval j h1 (by omega)
        rw [getD_lt (by omega)] at this
        rw [getD_lt (by rw [List.length_set]; omega), List.getElem_set_ne hne]
        exact this
  · have hk' : k = T.length := by dsimp only at h; omega
    obtain ⟨hwb, hback⟩ := hway.back (by omega) hCl fun i hi => hval i hi (by omega)
    have hb30 := hb27.on b30
    have b130 := b127.on b30
    refine Mo.load (hY27.below b30) ?_
    refine CopyModule_spec (x := y) (hO27.below b30).isPl hpq fun cy w32 _ _ hN32 b32 => ⟨(y.1, y.2.1, ⟨some (blk cy), (turnP (toG T) pl).length, (turnP (toG T) pl).length⟩, ()), rfl, ?_⟩
    have hCs : IsS (Value.int .u32) w32 ⟨some (blk w27.heap.size), T.length, T.length⟩ C := (hC.below b32).isS rfl (by rw [hCl]) (Nat.le_refl _) (by dsimp only; omega)
    refine Rename_spec (x := (y.1, y.2.1, ⟨some (blk cy), (turnP (toG T) pl).length, (turnP (toG T) pl).length⟩, ())) (s := ⟨some (blk w27.heap.size), T.length, T.length⟩) (T := C) hN32 hpq (by dsimp only; omega) hCs (by omega) fun z qz w33 b33 hO33 hz => ⟨z, ((rnmS y (turnP (toG T) pl) C).1, (rnmS y (turnP (toG T) pl) C).2, ()), rfl, ?_⟩
    have hshq : (shapeP y.2.1 (turnP (toG T) pl)).1 = 0 := by rw [hy2', hturn.shape hsh]
    have hwq : wayB y.2.1 C = true := by rw [hy2']; exact wayB_true hwb
    have es : rnmS y (turnP (toG T) pl) C = (0, 0) := by unfold rnmS; rw [if_neg (fun h => h hshq), if_pos hwq]
    have hz : (z.1, z.2.1, qz) = (x.1, x.2.1, pl) := by
      have hz : (z.1, z.2.1, qz) = rnmP y (turnP (toG T) pl) C := hz
      rw [hz]
      unfold rnmP
      rw [if_neg (fun h => h hshq), if_pos hwq, turnP_turn, hy1', hy2']
      have : turnP (fun n => toG C (toG T n)) pl = turnP (fun n => n) pl := turnP_congr fun n hn => by
        obtain ⟨n1, n2⟩ := ids_range hp hbd.1 hsh n hn
        exact hback n n1 n2
      rw [this, turnP_id]
    rw [Prod.mk.injEq, Prod.mk.injEq] at hz
    rw [es]
    refine boxMS (y := z) fun w34 w40 z34 hZ40 hS40 b40 z40 => ?_
    have b3040 := (b32.on b33).on b40
    have hb40 := hb30.on b3040
    have bd : Below w40.heap.size w40 w40.drew := (Below.refl _ _).drew
    refine hS40.drew.rI0 rfl (ifB_beq (fun _ => ?_) (fun e => absurd rfl e))
    have b140 := b130.on b3040
    refine Mo.load hZ40.drew (Mo.load ((hB1.below b140).drew) ?_)
    refine Module_spec (x := z) (y := x) (pl := qz) (ql := pl) ((hO33.below b40).isPl.below bd) ((hN.below hb40).below bd) fun w41 b41 => ⟨_, rfl, ?_⟩
    rw [decide_eq_true hz]
    refine ifB_true rfl ?_
    have b4041 := bd.on b41
    have b2741 := (b30.on b3040).on b4041
    have b141 := b140.on b4041
    have hb41 := hb40.on b4041
    have hY41 := hY27.below b2741
    have hB41 := hB1.below b141
    have hO41 := (hO27.below b2741)
    refine Mo.load hY41 (Mo.load hB41 ?_)
    refine CopyModule_spec (x := y) hO41.isPl hpq fun cy' w42 _ _ hN42 b42 => ⟨(y.1, y.2.1, ⟨some (blk cy'), (turnP (toG T) pl).length, (turnP (toG T) pl).length⟩, ()), rfl, ?_⟩
    have hB42 := hB41.below b42
    refine ⟨hB42.cell (n := 0) rfl, hB42.cell (n := 1) rfl, hB42.cell (n := 2) rfl, ?_⟩
    refine Check_spec (x := (y.1, y.2.1, ⟨some (blk cy'), (turnP (toG T) pl).length, (turnP (toG T) pl).length⟩, ())) hN42 hpq fun w43 b43 => ⟨((chk9P y.2.1 (turnP (toG T) pl)).1, ((chk9P y.2.1 (turnP (toG T) pl)).2 : Int), ()), rfl, ?_⟩
    have hB43 := hB42.below b43
    refine ⟨hB43.cell (n := 0) rfl, hB43.cell (n := 1) rfl, hB43.cell (n := 2) rfl, ?_⟩
    have b4143 := b42.on b43
    have hb43 := hb41.on b4143
    refine CopyModule_spec (x := x) (hN.below hb43) hp fun cx w44 _ _ hN44 b44 => ⟨(x.1, x.2.1, ⟨some (blk cx), pl.length, pl.length⟩, ()), rfl, ?_⟩
    refine Check_spec (x := (x.1, x.2.1, ⟨some (blk cx), pl.length, pl.length⟩, ())) hN44 hp fun w45 b45 => ⟨((chk9P x.2.1 pl).1, ((chk9P x.2.1 pl).2 : Int), ()), rfl, ?_⟩
    have hck : chk9P y.2.1 (turnP (toG T) pl) = chk9P x.2.1 pl := by rw [hy2', hturn.chk9 hsh]
    rw [hck]
    refine ifB_true (by simp) ?_
    have b4145 := (b4143.on b44).on b45
    have hb45 := hb41.on b4145
    have hB45 := hB41.below b4145
    have hY45 := hY41.below b4145
    have hO45 := hO41.below b4145
    refine Mo.load hB45 (Mo.load hY45 ?_)
    refine CopyModule_spec (x := x) (hN.below hb45) hp fun cx' w46 _ _ hN46 b46 => ⟨(x.1, x.2.1, ⟨some (blk cx'), pl.length, pl.length⟩, ()), rfl, ?_⟩
    have hY46 := hY45.below b46
    refine ⟨hY46.cell (n := 0) rfl, hY46.cell (n := 1) rfl, hY46.cell (n := 2) rfl, ?_⟩
    refine CopyModule_spec (x := y) (hO45.below b46).isPl hpq fun cy2 w47 _ _ hN47 b47 => ⟨(y.1, y.2.1, ⟨some (blk cy2), (turnP (toG T) pl).length, (turnP (toG T) pl).length⟩, ()), rfl, ?_⟩
    have hal : AlikeP x pl y (turnP (toG T) pl) := TurnOk.alike (by rw [hy2']; exact hturn) hsh hy1'.symm
    refine Alike_spec (x := (x.1, x.2.1, ⟨some (blk cx'), pl.length, pl.length⟩, ())) (y := (y.1, y.2.1, ⟨some (blk cy2), (turnP (toG T) pl).length, (turnP (toG T) pl).length⟩, ())) (hN46.below b47) hN47 hp hpq hbd.1 (by dsimp only; omega) fun w48 b48 => ⟨_, rfl, ?_⟩
    rw [show alikeB (x.1, x.2.1, ⟨some (blk cx'), pl.length, pl.length⟩, ()) pl (y.1, y.2.1, ⟨some (blk cy2), (turnP (toG T) pl).length, (turnP (toG T) pl).length⟩, ()) (turnP (toG T) pl) = true from alike_yes hal]
    refine ifB_true rfl ?_
    have b4548 := (b46.on b47).on b48
    refine Mo.load (hY45.below b4548) (Mo.load (hB45.below b4548) ?_)
    refine Alike_spec (x := y) (y := x) (hO45.below b4548).isPl (hN.below (hb45.on b4548)) hpq hp (by omega) hbd.1 fun w49 b49 => ⟨_, rfl, ?_⟩
    rw [alike_yes hal.symm]
    exact hR w49 ((hb45.on b4548).on b49)

/-! ### IdsOne -/
theorem rnb_none (h : (chk9P x.2.1 pl).1 ≠ 0) : rnbP x pl = (0, 0, []) := by unfold rnbP; rw [if_pos h]
theorem rnb_some (h : chk9P x.2.1 pl = (0, 0)) : rnbP x pl = (x.1, bndP pl, newP pl) := by unfold rnbP; rw [if_neg (by rw [h]; simp)]
theorem IdsOne_spec (hN : IsPl w x.2.2.1 pl) (hp : PlOk pl) (hbd : 0 ≤ x.2.1 ∧ x.2.1 ≤ 4294967295) (hs : IsS (Value.int .u32) w s T) (hmax : 4 * T.length ≤ 140737488351232) (hR : ∀ w', Below w.heap.size w w' → R (.bool true) w') :
    callR Try.prog 7 #[moA x, .slice s.a s.l s.c] w R := by
  refine callR.of (intagliolaw09_IdsOne_calls x s R w ?_) fun _ _ h => h
  refine lay_of fun w1 hB1 b1 z1 => ?_
  have hB1 : Blk w1 w.heap.size 25 (moV x) := hB1
  refine Mo.load hB1 ?_
  refine CopyModule_spec (x := x) (hN.below b1) hp fun c w2 _ _ hN2 b2 => ⟨(x.1, x.2.1, ⟨some (blk c), pl.length, pl.length⟩, ()), rfl, ?_⟩
  refine Renumber_spec (x := (x.1, x.2.1, ⟨some (blk c), pl.length, pl.length⟩, ())) hN2 hp fun y ql w3 b3 hO3 hy => ⟨y, ((chk9P x.2.1 pl).1, ((chk9P x.2.1 pl).2 : Int), ()), rfl, ?_⟩
  have hy : (y.1, y.2.1, ql) = rnbP x pl := hy
  have b13 := b2.on b3
  refine boxMS (y := y) fun w4 w10 z4 hY10 hS10 b10 z10 => ?_
  have b110 := b13.on b10
  have hb10 := b1.on b110
  have hB10 := hB1.below b110
  have hO10 := hO3.below b10
  have bd : Below w10.heap.size w10 w10.drew := (Below.refl _ _).drew
  refine Sp.load hS10.drew (Mo.load hB10.drew ?_)
  refine CopyModule_spec (x := x) (hN.below (hb10.on bd)) hp fun c1 w11 _ _ hN11 b11 => ⟨(x.1, x.2.1, ⟨some (blk c1), pl.length, pl.length⟩, ()), rfl, ?_⟩
  have b1011 := bd.on b11
  have hS11 := hS10.below b1011
  refine ⟨hS11.cell (n := 0) rfl, hS11.cell (n := 1) rfl, ?_⟩
  refine Check_spec (x := (x.1, x.2.1, ⟨some (blk c1), pl.length, pl.length⟩, ())) hN11 hp fun w12 b12 => ⟨((chk9P x.2.1 pl).1, ((chk9P x.2.1 pl).2 : Int), ()), rfl, ?_⟩
  have hS12 := hS11.below b12
  refine ⟨hS12.cell (n := 0) rfl, hS12.cell (n := 1) rfl, ?_⟩
  refine ifB_not (ifB_true (by simp) ?_)
  have b1012 := b1011.on b12
  have hb12 := hb10.on b1012
  have hY12 := hY10.below b1012
  have hB12 := hB10.below b1012
  have hO12 := hO10.below b1012
  refine hS12.rI0 rfl (ifB_bne (fun e => ?_) (fun e => ?_))
  · have e : (chk9P x.2.1 pl).1 ≠ 0 := e
    rw [rnb_none e, Prod.mk.injEq, Prod.mk.injEq] at hy
    refine Mo.load hY12 ?_
    refine None_spec (x := y) (fun w13 b13' => ⟨_, rfl, hR w13 (hb12.on b13')⟩) hy.1 hy.2.1 ?_
    rw [hO12.isPl.len, hy.2.2]
    rfl
  have hck : (chk9P x.2.1 pl).1 = 0 := e
  have hw9 := Whole9.of hp hbd.1 hck
  have hok := hw9.ok
  have hturn := hw9.turn
  have hsh := hw9.shape
  rw [rnb_some hok, Prod.mk.injEq, Prod.mk.injEq] at hy
  obtain ⟨hy1, hy2, hy3⟩ := hy
  subst hy3
  have hpq : PlOk (newP pl) := hturn.plOk hp
  have hcq : chk9P y.2.1 (newP pl) = (0, 0) := by rw [hy2, show newP pl = turnP (rnP pl pl.length) pl from rfl, hturn.chk9 hsh, hok]
  have hnew := hturn.new
  have hbnd := hw9.bnd
  have hcnt := hw9.cnt
  have hlim := hw9.lim
  refine Mo.load hY12 ?_
  refine CopyModule_spec (x := y) hO12.isPl hpq fun c2 w14 _ _ hN14 b14 => ⟨(y.1, y.2.1, ⟨some (blk c2), (newP pl).length, (newP pl).length⟩, ()), rfl, ?_⟩
  refine Renumber_spec (x := (y.1, y.2.1, ⟨some (blk c2), (newP pl).length, (newP pl).length⟩, ())) hN14 hpq fun y2 ql2 w15 b15 hO15 hy' => ⟨y2, ((chk9P y.2.1 (newP pl)).1, ((chk9P y.2.1 (newP pl)).2 : Int), ()), rfl, ?_⟩
  have hy' : (y2.1, y2.2.1, ql2) = (y.1, y.2.1, newP pl) := by
    have hy' : (y2.1, y2.2.1, ql2) = rnbP y (newP pl) := hy'
    rw [hy', rnb_some hcq, show newP (newP pl) = newP pl from hnew.1, show bndP (newP pl) = bndP pl from hnew.2, hy2]
  rw [Prod.mk.injEq, Prod.mk.injEq] at hy'
  rw [hcq]
  have hal : AlikeP x pl y (newP pl) := TurnOk.alike (by rw [hy2]; exact hturn) hsh hy1.symm
  refine boxMS (y := y2) fun w16 w22 z16 hZ22 hS22 b22 z22 => ?_
  have b1222 := (b14.on b15).on b22
  have hb22 := hb12.on b1222
  refine JoinW.cut (fun _ w' => Below w22.heap.size w22 w') ?_ ?_
  · refine hS22.rI0 rfl (ifB_bne (fun e => absurd rfl e) (fun _ => ?_))
    refine Mo.load hZ22 (Mo.load (hY12.below b1222) ?_)
    refine Module_spec (x := y2) (y := y) (hO15.below b22).isPl (hO12.below b1222).isPl fun w23 b23 => ⟨_, rfl, ?_⟩
    rw [decide_eq_true hy']
    refine ifB_false rfl ?_
    have b1223 := b1222.on b23
    refine Mo.load (hB12.below b1223) (Mo.load (hY12.below b1223) ?_)
    refine Alike_spec (x := x) (y := y) (hN.below (hb12.on b1223)) (hO12.below b1223).isPl hp hpq hbd.1 (by omega) fun w24 b24 => ⟨_, rfl, ?_⟩
    rw [alike_yes hal]
    exact ifB_false rfl (b23.on b24)
  rintro _ w25 b25
  have b1225 := b1222.on b25
  have hb25 := hb12.on b1225
  have hY25 := hY12.below b1225
  have hB25 := hB12.below b1225
  have hO25 := hO12.below b1225
  refine Mo.load hY25 ?_
  refine CopyModule_spec (x := y) hO25.isPl hpq fun c3 w26 _ _ hN26 b26 => ⟨(y.1, y.2.1, ⟨some (blk c3), (newP pl).length, (newP pl).length⟩, ()), rfl, ?_⟩
  refine Made_spec (x := (y.1, y.2.1, ⟨some (blk c3), (newP pl).length, (newP pl).length⟩, ())) hN26 hpq (by dsimp only; omega) fun sm w27 hM27 b27 => ⟨sm, ((shapeP y.2.1 (newP pl)).1, ((shapeP y.2.1 (newP pl)).2 : Int), ()), rfl, ?_⟩
  have hM27 : IsI w27 sm (madeP y.2.1 (newP pl)) := hM27
  have hshq : shapeP y.2.1 (newP pl) = (0, 0) := by rw [hy2]; exact hturn.shape hsh
  have hlen : (newP pl).length = pl.length := turnP_len _ _
  have hmade : madeP y.2.1 (newP pl) = (List.range (cntP pl pl.length + 1)).map fun (id : Nat) => makerI (newP pl) (id : Int) pl.length := by
    unfold madeP
    rw [hshq, if_pos rfl, hlen, hy2, hbnd]
    congr 2
  have hml : (madeP y.2.1 (newP pl)).length = cntP pl pl.length + 1 := by rw [hmade]; simp
  have hat : ∀ i (h : i < (madeP y.2.1 (newP pl)).length), (madeP y.2.1 (newP pl))[i] = makerI (newP pl) (i : Int) pl.length := fun i h => by simp only [hmade, List.getElem_map, List.getElem_range]
  have hm0 : makerI (newP pl) 0 pl.length = -1 := by
    unfold makerI
    have : (List.range pl.length).find? (mk1 (newP pl) 0) = none := by
      rw [List.find?_eq_none]
      intro j _
      rw [mk1_zero]
      simp
    rw [this]
  refine box2 rfl fun w30 hS30 b30 z30 => ?_
  have b2530 := (b26.on b27).on b30
  have hb30 := hb25.on b2530
  have hM30 := hM27.below b30
  have hsl := hM30.len
  rw [hml] at hsl
  refine JoinW.cut (fun _ w' => w' = w30) ?_ ?_
  · refine hS30.rI0 (x := 0) (by rw [hshq]; rfl) (ifB_bne (fun e => absurd rfl e) (fun _ => ?_))
    refine (hY25.below b2530).rI (n := 1) (x := y.2.1) rfl ?_
    rw [wrap64_in (x := y.2.1) (by omega) (by omega), hsl]
    refine ifB_bne (fun e => absurd (by rw [hy2, hbnd]; omega) e) (fun _ => ?_)
    obtain ⟨a, ha⟩ := hM30.base (i := 0) (by rw [hml]; omega)
    refine ⟨⟨by omega, by omega⟩, derefP_some ha ⟨_, hM30.cell a ha 0 (by rw [hml]; omega), ?_⟩⟩
    rw [hat]
    exact ifB_bne (fun e => absurd hm0 e) (fun _ => rfl)
  rintro _ w31 rfl
  refine LoopW.ghost (fun k (st : Int × Unit) w' => ∃ i : Nat, st = ((i : Int), ()) ∧ k = cntP pl pl.length + 1 - i ∧ 1 ≤ i ∧ i ≤ cntP pl pl.length + 1 ∧ Below w31.heap.size w31 w') (cntP pl pl.length)
    ⟨1, rfl, rfl, Nat.le_refl _, by omega, Below.refl _ _⟩ ?_
  rintro _ _ w32 ⟨i, rfl, rfl, hi1, hi2, b32⟩ next hnext
  have hM32 := hM30.below b32
  refine ifB_dec (fun h => ?_) (fun h => ?_)
  · have hil : i < (madeP y.2.1 (newP pl)).length := by dsimp only at h; omega
    obtain ⟨k, k1, k2, k3⟩ := hw9.made_at hi1 (show i ≤ cntP pl pl.length by omega)
    have hMd : IsI w32.drew sm (madeP y.2.1 (newP pl)) := hM32.below (Below.refl _ _).drew
    refine JoinW.cut (fun _ w' => Below w31.heap.size w31 w') ?_ ?_
    · refine elemI hMd hil ?_
      rw [hat, k1]
      refine ifB_dec (fun h => by omega) (fun _ => ?_)
      refine ifB_dec (fun h1 => ?_) (fun _ => b32.drew)
      refine elemI hMd hil ?_
      have h1 : 1 < i := by dsimp only at h1; omega
      obtain ⟨k', q1, q2, q3⟩ := hw9.made_at (i := i - 1) (by omega) (show i - 1 ≤ cntP pl pl.length by omega)
      have ei : IntKind.i64.wrap (((i : Int), ()).1 - 1) = ((i - 1 : Nat) : Int) := wr64 (by dsimp only; omega) (by omega)
      rw [ei]
      refine elemI hMd (k := i - 1) (by omega) ?_
      rw [hat, hat, k1, q1]
      refine ifB_dec (fun hle => ?_) (fun _ => b32.drew)
      exfalso
      have := cntP_mono pl (show k + 1 ≤ k' + 1 by omega)
      omega
    · rintro _ w33 b33
      rw [wrap64_succ (by omega)]
      exact hnext (cntP pl pl.length + 1 - (i + 1)) _ _ (by omega) ⟨i + 1, rfl, rfl, by omega, by omega, b33⟩
  · have hb32 := hb30.on b32
    have b2532 := b2530.on b32
    have hB32 := hB25.below b2532
    refine Mo.load hB32 ?_
    refine CopyModule_spec (x := x) (hN.below hb32) hp fun c4 w34 _ _ hN34 b34 => ⟨(x.1, x.2.1, ⟨some (blk c4), pl.length, pl.length⟩, ()), rfl, ?_⟩
    refine CopyWords_spec (hs.below (hb32.on b34)) hmax fun w35 hW35 b35 => ⟨⟨some (blk w34.heap.size), T.length, T.length⟩, rfl, ?_⟩
    refine Rename_spec (x := (x.1, x.2.1, ⟨some (blk c4), pl.length, pl.length⟩, ())) (hN34.below b35) hp hbd.1 hW35.isS (by omega) fun z qz w36 b36 hO36 hz => ⟨z, ((rnmS x pl T).1, (rnmS x pl T).2, ()), rfl, ?_⟩
    have hz : (z.1, z.2.1, qz) = rnmP x pl T := hz
    refine boxMS (y := z) fun w37 w43 z37 hZ43 hS43 b43 z43 => ?_
    have b3243 := ((b34.on b35).on b36).on b43
    have hb43 := hb32.on b3243
    refine hS43.rI0 rfl (ifB_bne (fun _ => hR w43 hb43) (fun e => ?_))
    have hway : WayP x.2.1 T := by
      refine Classical.byContradiction fun e1 => ?_
      unfold rnmS at e
      rw [if_neg (fun h => h hsh), if_neg (by rw [wayB_false e1]; simp)] at e
      cases e
    have htz := hway.turn hp hbd.1 hsh
    have hz2 : rnmP x pl T = (x.1, x.2.1, turnP (toG T) pl) := by unfold rnmP; rw [if_neg (fun h => h hsh), if_pos (wayB_true hway)]
    rw [hz2, Prod.mk.injEq, Prod.mk.injEq] at hz
    obtain ⟨z1', z2', z3'⟩ := hz
    subst z3'
    have hpz := htz.plOk hp
    have hcz : chk9P z.2.1 (turnP (toG T) pl) = (0, 0) := by rw [z2', htz.chk9 hsh, hok]
    have hO43 := hO36.below b43
    refine Mo.load hZ43 ?_
    refine Renumber_spec (x := z) hO43.isPl hpz fun u qu w44 b44 hO44 hu => ⟨u, ((chk9P z.2.1 (turnP (toG T) pl)).1, ((chk9P z.2.1 (turnP (toG T) pl)).2 : Int), ()), rfl, ?_⟩
    have hu : (u.1, u.2.1, qu) = (y.1, y.2.1, newP pl) := by
      rw [hu, rnb_some hcz, htz.new.1, htz.new.2, z1', hy1, hy2]
    rw [Prod.mk.injEq, Prod.mk.injEq] at hu
    rw [hcz]
    refine boxMS (y := u) fun w45 w51 z45 hU51 hS51 b51 z51 => ?_
    have b4351 := b44.on b51
    have b2551 := (b2532.on b3243).on b4351
    refine hS51.rI0 rfl (ifB_beq (fun _ => ?_) (fun e => absurd rfl e))
    refine Mo.load hU51 (Mo.load (hY25.below b2551) ?_)
    refine Module_spec (x := u) (y := y) (hO44.below b51).isPl (hO25.below b2551).isPl fun w52 b52 => ⟨_, rfl, ?_⟩
    rw [decide_eq_true hu]
    exact hR w52 ((hb43.on b4351).on b52)
end
end Go.Proofs
