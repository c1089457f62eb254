/-
  Part 7 of what CallsRenamed is proved by: functions walked, and what they come to.
-/
import Derived.Test.YtogccbelnfgfhaaGreatPCallsRenamed6
namespace Go.Proofs
open Go.Gk Go.RowKit Go.Gm Go.Gr

theorem PlOk.turn' {g : Int → Int} {pl : List PI} (h : PlOk pl) (hg : ∀ n ∈ allP pl, 0 ≤ g n ∧ g n ≤ 4294967295) : PlOk (turnP g pl) := by
  have get : ∀ p ∈ turnP g pl, ∃ q ∈ pl, p = turnI g q := fun p hp => by
    obtain ⟨q, hq, e⟩ := List.mem_map.1 hp
    exact ⟨q, hq, e.symm⟩
  refine ⟨by rw [turnP_len]; exact h.len, fun p hp => ?_, fun p hp x hx => ?_, fun p hp => ?_⟩
  · obtain ⟨q, hq, rfl⟩ := get p hp
    have := h.args q hq
    unfold turnI
    dsimp only
    rw [List.length_map]
    exact this
  · obtain ⟨q, hq, rfl⟩ := get p hp
    obtain ⟨y, hy, rfl⟩ := List.mem_map.1 hx
    rw [turnA_t]
    exact h.text q hq y hy
  · obtain ⟨q, hq, rfl⟩ := get p hp
    obtain ⟨k, hk, rfl⟩ := List.getElem_of_mem hq
    obtain ⟨m1, m2, m3⟩ := mem_all hk
    refine ⟨hg _ m1, hg _ m2, fun y hy => ?_⟩
    obtain ⟨z, hz, rfl⟩ := List.mem_map.1 hy
    by_cases e : z.1 = 1
    · rw [turnA_id g e]
      exact hg _ (m3 z hz e)
    · rw [turnA_no g e]
      exact (h.nums _ hq).2.2 z hz
theorem LoopW.one1 {S : Type} {body : S → World → (S → World → Prop) → Prop} {s : S} {w : World} (h : ∀ next, body s w next) : LoopW body s w := by
  refine LoopW.ghost (fun _ s' w' => s' = s ∧ w' = w) 0 ⟨rfl, rfl⟩ ?_
  rintro k _ _ ⟨rfl, rfl⟩ next _
  exact h next
abbrev leastP : List PI := [((14, 0, 0, [(4, 0, bs []), (4, 0, bs [])]) : PI)]
theorem least_ok : chk9P 1 leastP = (0, 0) := by decide +kernel
theorem least_cut : cutF leastP 1 = [] := rfl
theorem least_new : cnwE 1 leastP = (0, 0) := by
  have h1 : firstC leastP = none := by
    unfold firstC
    rw [show cutF leastP leastP.length = [] from least_cut]
    rfl
  unfold cnwE
  rw [least_ok, if_neg (by decide), show cutF leastP leastP.length = [] from least_cut, if_neg (by decide), h1]
theorem least_plOk : PlOk leastP := by
  constructor
  · decide
  · intro p hp
    rw [List.mem_singleton.1 hp]
    decide
  · intro p hp x hx
    rw [List.mem_singleton.1 hp] at hx
    simp at hx
    rw [hx]
    decide
  · intro p hp
    rw [List.mem_singleton.1 hp]
    refine ⟨by decide, by decide, fun x hx => ?_⟩
    simp at hx
    rw [hx]
    decide
section
variable {g : Int → Int} {pl : List PI} {b b' : Int}
theorem TurnOk.cnw' (h : TurnOk g pl b') (hs : (shapeP b pl).1 = 0) : cnwE b' (turnP g pl) = cnwE b pl := by
  by_cases hl : (layP b pl).1 = 0
  · exact h.cnw hs hl
  · have e := chk9_lay (bound := b) (pl := pl) hl
    unfold cnwE
    rw [h.chk9 hs, e, if_pos hl, if_pos hl]
end
section
variable {x : Mo} {pl : List PI} {w : World} {R : Value → World → Prop}
/-- What calls.New hands out, as long as its world grows. -/
def CQ (bd : Int) (pl : List PI) (w : World) (p : Option Addr) : Prop :=
  ((cnwE bd pl).1 ≠ 0 ∧ p = none) ∨ (cnwE bd pl = (0, 0) ∧ (rowsC pl).length ≤ 4096 ∧ NoRound (riseLL (rowsC pl)) ∧ ∃ rc, p = some (Gk.blk rc) ∧ IsCl w rc (riseLL (rowsC pl)))
theorem CQ.below {w' : World} {bd : Int} {p : Option Addr} (h : CQ bd pl w p) (hb : Below w.heap.size w w') : CQ bd pl w' p := by
  rcases h with h | ⟨h1, h2, h3, rc, h4, h5⟩
  · exact .inl h
  · exact .inr ⟨h1, h2, h3, rc, h4, h5.below hb⟩
theorem cNew_q (hN : IsPl w x.2.2.1 pl) (hp : PlOk pl) (h0 : 0 ≤ x.2.1)
    (hR : ∀ w' p, Below w.heap.size w w' → CQ x.2.1 pl w' p → (∀ w'', (∀ k, w.heap.size ≤ k → k < w'.heap.size → w''.heap[k]? = w'.heap[k]?) → CQ x.2.1 pl w'' p) → R (.tuple #[.pointer p, .agg #[.int .i64 (cnwE x.2.1 pl).1, .int .i64 (cnwE x.2.1 pl).2]]) w') :
    callR Tryz.prog 19 #[moA x] w R := by
  refine cNew_spec (x := x) hN hp h0 (fun w' hne hb => hR w' none hb (.inl ⟨hne, rfl⟩) fun _ _ => .inl ⟨hne, rfl⟩) (fun w' rc h00 hb hmax hn hK => ?_)
  have hmax' : (rowsC pl).length ≤ 4096 := by rw [rowsC_len]; exact hmax
  have := hR w' (some (Gk.blk rc)) hb (.inr ⟨h00, hmax', hn, rc, rfl, hK.now⟩) fun w'' hk => .inr ⟨h00, hmax', hn, rc, rfl, hK w'' hk⟩
  rw [h00] at this
  exact this
variable {p : Option Addr} {bd : Int}
theorem CQ.len (h : CQ bd pl w p) (hR : R (.int .i64 (if (cnwE bd pl).1 = 0 then ((rowsC pl).length : Int) else 0)) w) : callR Tryz.prog 25 #[.pointer p] w R := by
  rcases h with ⟨hne, rfl⟩ | ⟨h00, _, _, rc, rfl, hC⟩
  · rw [if_neg hne] at hR
    exact callR.of (calls_Calls_Len_calls none R w (ifB_true rfl hR)) fun _ _ h => h
  · rw [h00, if_pos rfl] at hR
    refine cLen_spec hC ?_
    rw [riseLL_len]
    exact hR
theorem CQ.order (h : CQ bd pl w p) (hR : ∀ r w', Below w.heap.size w w' → Own w' 3 1 r (((if (cnwE bd pl).1 = 0 then ordD (rowsC pl).length (dep (riseLL (rowsC pl))) (rowsC pl).length else []) : List Nat).map iN) → R (.slice r.a r.l r.c) w') : callR Tryz.prog 29 #[.pointer p] w R := by
  rcases h with ⟨hne, rfl⟩ | ⟨h00, hmax, hn, rc, rfl, hC⟩
  · refine callR.of (calls_Calls_Order_calls none _ w ?_) fun _ _ h => h
    refine lay_of fun w1 hB b1 z1 => ?_
    refine ⟨none, hB.cell0 rfl, callR.of (calls_Calls_Len_calls none _ w1 (ifB_true rfl ⟨_, rfl, ?_⟩)) fun _ _ h => h⟩
    refine LoopW.one1 fun next => ifB_false rfl ?_
    refine callR.of (slices_SortStableFunc_sint_int_calls ⟨none, 0, 0⟩ _ _ w1 ?_) fun _ _ h => h
    refine callR.of (slices_stableCmpFunc_int_calls ⟨none, 0, 0⟩ 0 _ _ w1 ?_) fun _ _ h => h
    refine LoopW.one1 fun next => ifB_false rfl ?_
    refine callR.of (slices_insertionSortCmpFunc_int_calls ⟨none, 0, 0⟩ 0 0 _ _ w1 ?_) fun _ _ h => h
    refine LoopW.one1 fun next => ifB_false rfl ⟨rfl, LoopW.one1 fun next => ifB_false rfl ⟨rfl, rfl, ?_⟩⟩
    refine hR ⟨none, 0, 0⟩ w1 b1 ?_
    rw [if_neg hne]
    exact Own.nil _ _ _
  · refine cOrder_specO (by rw [riseLL_len]; exact hmax) hn riseLL_lt hC fun r w' b hO => hR r w' b ?_
    rw [h00, if_pos rfl]
    rw [riseLL_len] at hO
    exact hO
theorem kEnum_spec {n : Int} (hR : ∀ w', Below w.heap.size w w' → R (.agg #[.int .u8 4, .int .u32 n, .string (bs [])]) w') : callR Tryz.prog 24 #[.int .u32 n] w R := by
  refine callR.of (intagliokit_Enum_calls n R w ?_) fun _ _ h => h
  refine box3 rfl fun w4 h4 b4 z4 => ?_
  exact h4.rI (n := 0) (x := 4) rfl (h4.rI (n := 1) (x := n) rfl (h4.rT (n := 2) (x := bs []) rfl (hR w4 b4)))
theorem boxMS' {y : Mo} {e a : Int} {K : World → World → Prop} (hK : ∀ w1 w', w1.heap.size = w.heap.size + 1 → Blk w' w.heap.size 25 (moV y) → Blk w' w1.heap.size 33 [.int .i64 e, .int .i64 a] → Below w.heap.size w w' → w'.heap.size = w.heap.size + 2 → K w1 w') :
    Nw (w.alloc (.cells #[(.int .u32 (0 : Int)), (.int .u32 (0 : Int)), (.slice none 0 0)] 25)) fun w1 =>
    Nw (w1.alloc (.cells #[(.int .i64 (0 : Int)), (.int .i64 (0 : Int))] 33)) fun w2 =>
    Wr w2 (blk w.heap.size) ∧ Nw (w2.setCell (blk w.heap.size) (.int .u32 y.1)) fun w3 =>
    Wr w3 ((blk w.heap.size).add 1) ∧ Nw (w3.setCell ((blk w.heap.size).add 1) (.int .u32 y.2.1)) fun w4 =>
    Wr w4 ((blk w.heap.size).add 2) ∧ Nw (w4.setCell ((blk w.heap.size).add 2) (.slice y.2.2.1.a y.2.2.1.l y.2.2.1.c)) fun w5 =>
    Wr w5 (blk w1.heap.size) ∧ Nw (w5.setCell (blk w1.heap.size) (.int .i64 e)) fun w6 =>
    Wr w6 ((blk w1.heap.size).add 1) ∧ Nw (w6.setCell ((blk w1.heap.size).add 1) (.int .i64 a)) fun w7 => K w1 w7 := by
  refine lay_of fun w1 hM1 b1 z1 => ?_
  refine lay_of fun w2 hS2 b2 z2 => ?_
  refine st3 (hM1.below b2) rfl fun w3 hM3 c3 => ?_
  refine st2 (c3.blk hS2 (by omega)) rfl fun w5 hS5 c5 => ?_
  exact hK w1 w5 z1 (c5.blk hM3 (by omega)) hS5 (c5.below (c3.below (b1.on b2) (Nat.le_refl _)) (by omega)) (by rw [c5.size, c3.size]; omega)
variable {s : Sl} {T : List Int}
set_option maxHeartbeats 1000000 in
set_option maxRecDepth 4000 in
theorem CallsRenamed_spec (hN : IsPl w x.2.2.1 pl) (hp : PlOk pl) (hbd : 0 ≤ x.2.1 ∧ x.2.1 ≤ 4294967295) (hs : IsS (Value.int .u32) w s T) (hmax : 4 * T.length ≤ 140737488351232) (hR : ∀ w', Below w.heap.size w w' → R (.bool true) w') :
    callR Tryz.prog 7 #[moA x, .slice s.a s.l s.c] w R := by
  refine callR.of (intagliolaw17_CallsRenamed_calls x s R w ?_) fun _ _ h => h
  refine lay_of fun w1 hB1 b1 z1 => ?_
  have hB1 : Blk w1 w.heap.size 25 (moV x) := hB1
  refine Mo.load hB1 ?_
  refine CopyModule_spec (x := x) (hN.below b1) hp fun ca w2 _ _ hC2 b2 => ⟨(x.1, x.2.1, ⟨some (blk ca), pl.length, pl.length⟩, ()), rfl, ?_⟩
  have hb2 := b1.on b2
  refine CopyWords_spec (hs.below hb2) hmax fun w3 hW3 b3 => ⟨⟨some (blk w2.heap.size), T.length, T.length⟩, rfl, ?_⟩
  refine Rename_spec (x := (x.1, x.2.1, ⟨some (blk ca), pl.length, pl.length⟩, ())) (hC2.below b3) hp hbd.1 hW3.isS (by omega) fun y ql w4 b4 hO4 hy => ⟨y, ((rnmS x pl T).1, (rnmS x pl T).2, ()), rfl, ?_⟩
  have hy : (y.1, y.2.1, ql) = rnmP x pl T := hy
  refine boxMS' (y := y) fun w5 w11 z5 hY11 hS11 b11 z11 => ?_
  have b411 : Below w4.heap.size w4 w11 := b11
  have b111 := ((b2.on b3).on b4).on b11
  have hb11 := b1.on b111
  refine kEnum_spec fun w12 b12 => ⟨(4, 0, bs [], ()), rfl, ?_⟩
  refine kEnum_spec fun w13 b13 => ⟨(4, 0, bs [], ()), rfl, ?_⟩
  refine lay_of fun w14 hA14 b14 z14 => ?_
  have hA14 : Blk w14 w13.heap.size 61 (flat agV [(4, 0, bs []), (4, 0, bs [])]) := hA14
  refine lay_of fun w15 hI15 b15 z15 => ?_
  have hI15 : Blk w15 w14.heap.size 41 (flat inV [mkIn (14, 0, 0, [(4, 0, bs []), (4, 0, bs [])]) ⟨some (blk w13.heap.size), 2, 2⟩]) := hI15
  refine box3 rfl fun w19 hM19 b19 z19 => ?_
  have hM19 : Blk w19 w15.heap.size 25 (moV (0, 1, ⟨some (blk w14.heap.size), 1, 1⟩, ())) := hM19
  have hA15 := hA14.below b15
  have hL15 : IsPl w15 ⟨some (blk w14.heap.size), 1, 1⟩ leastP := by
    refine ⟨rfl, Nat.le_refl _, by show 1 ≤ _; omega, fun h => (by cases h), fun a ha k hk => ?_⟩
    cases ha
    have hk0 : k = 0 := by have : k < 1 := hk; omega
    subst hk0
    refine ⟨⟨some (blk w13.heap.size), 2, 2⟩, fun j hj => ?_, Blk.isC agV_len (by omega) hA15 (by simp)⟩
    have hj4 : j = 0 ∨ j = 1 ∨ j = 2 ∨ j = 3 := by omega
    rcases hj4 with rfl | rfl | rfl | rfl <;> exact hI15.cell rfl
  refine Mo.load hM19 ?_
  refine cNew_q (x := (0, 1, ⟨some (blk w14.heap.size), 1, 1⟩, ())) (pl := leastP) (hL15.below b19) least_plOk (show (0 : Int) ≤ 1 by decide) fun w20 p0 b20 hQ0 _ => ?_
  have hQ0 : CQ 1 leastP w20 p0 := hQ0
  rw [show cnwE (0, 1, (⟨some (blk w14.heap.size), 1, 1⟩ : Sl), ()).2.1 leastP = (0, 0) from least_new]
  refine ⟨p0, (0, 0, ()), rfl, ?_⟩
  refine box2 rfl fun w23 hS23 b23 z23 => ?_
  have b1123 := (((((b12.on b13).on b14).on b15).on b19).on b20).on b23
  have hb23 := hb11.on b1123
  have hB23 := (hB1.below b111).below b1123
  have hY23 := hY11.below b1123
  have hS23' := hS11.below b1123
  have hlr : (rowsC leastP).length = 0 := by rw [rowsC_len, show cutF leastP leastP.length = [] from least_cut]; rfl
  refine JoinW.cut (fun (_ : Unit) w' => Below w23.heap.size w23 w') ?_ ?_
  · refine hS23.rI0 rfl (ifB_false rfl ?_)
    have hnn : p0.isNone = false := by
      rcases hQ0 with ⟨hne, _⟩ | ⟨_, _, _, rc, rfl, _⟩
      · rw [least_new] at hne; exact absurd rfl hne
      · rfl
    refine ifB_false hnn ?_
    refine CQ.len (hQ0.below b23) ⟨_, rfl, ?_⟩
    rw [least_new, if_pos rfl, hlr]
    exact ifB_false rfl (Below.refl _ _)
  rintro _ w25 b25
  have b1125 := b1123.on b25
  have hb25 := hb11.on b1125
  refine (hS23'.below b25).rI0 rfl (ifB_bne (fun _ => hR w25 hb25) (fun he => ?_))
  have he : (rnmS x pl T).1 = 0 := he
  -- the renamed module
  have hsh : (shapeP x.2.1 pl).1 = 0 := by
    unfold rnmS at he
    by_cases h : (shapeP x.2.1 pl).1 ≠ 0
    · rw [if_pos h] at he; exact absurd he h
    · exact Classical.not_not.1 h
  have hway : wayB x.2.1 T = true := by
    unfold rnmS at he
    rw [if_neg (fun h => h hsh)] at he
    by_cases h : wayB x.2.1 T = true
    · exact h
    · rw [if_neg h] at he; exact absurd (show (2 : Int) = 0 from he) (by decide)
  have hy2 : rnmP x pl T = (x.1, x.2.1, turnP (toG T) pl) := by
    unfold rnmP
    rw [if_neg (fun h => h hsh), if_pos hway]
  rw [hy2, Prod.mk.injEq, Prod.mk.injEq] at hy
  obtain ⟨hy1, hy2, hy3⟩ := hy
  subst hy3
  have hturn0 := (wayB_iff.1 hway).turn hp hbd.1 hsh
  have hturn : TurnOk (toG T) pl y.2.1 := by rw [hy2]; exact hturn0
  have hcn : cnwE y.2.1 (turnP (toG T) pl) = cnwE x.2.1 pl := hturn.cnw' hsh
  have hpq : PlOk (turnP (toG T) pl) := hp.turn' fun n hn => by
    have hb := hturn.pos
    by_cases e : n = 0
    · rw [e, hturn.zero]; omega
    · have := hturn.rng n hn e
      omega
  refine Mo.load (hB23.below b25) ?_
  refine CopyModule_spec (x := x) (hN.below hb25) hp fun cb w26 _ _ hC26 b26 => ⟨(x.1, x.2.1, ⟨some (blk cb), pl.length, pl.length⟩, ()), rfl, ?_⟩
  refine cNew_q (x := (x.1, x.2.1, ⟨some (blk cb), pl.length, pl.length⟩, ())) hC26 hp hbd.1 fun w27 p b27 hQ27 hk27 => ⟨p, ((cnwE x.2.1 pl).1, (cnwE x.2.1 pl).2, ()), rfl, ?_⟩
  have hk27 : ∀ w'', (∀ k, w26.heap.size ≤ k → k < w27.heap.size → w''.heap[k]? = w27.heap[k]?) → CQ x.2.1 pl w'' p := hk27
  have b2327 := (b25.on b26).on b27
  have hS27 := hS23.below b2327
  refine st2 hS27 rfl fun w29 hS29 c29 => ?_
  have s26 := (b25.on b26).size
  have lS := hS23.lt
  have hQ29 : CQ x.2.1 pl w29 p := hk27 w29 fun k h1 h2 => c29.block k (by omega)
  have hb27 := hb23.on b2327
  have s20 := b1123.size
  have s23 := b23.size
  have b1129 : Below w11.heap.size w11 w29 := c29.below (b1123.on b2327) (by have := (((((b12.on b13).on b14).on b15).on b19).on b20).size; omega)
  have hb29 := hb11.on b1129
  have hY29 := hY11.below b1129
  refine Mo.load hY29 ?_
  refine cNew_q (x := y) (((hO4.isPl).below b411).below b1129) hpq (by rw [hy2]; exact hbd.1) fun w30 q b30 hQ30 _ => ?_
  rw [hcn]
  refine ⟨q, ((cnwE x.2.1 pl).1, (cnwE x.2.1 pl).2, ()), rfl, ?_⟩
  refine box2 rfl fun w33 hS33 b33 z33 => ?_
  have b2933 := b30.on b33
  have hb33 := hb29.on b2933
  have hP33 := hQ29.below b2933
  have hQ33 := hQ30.below b33
  refine Sp.load (hS29.below b2933) (Sp.load hS33 (ifB_not (ifB_true (by simp) ?_)))
  have hlq : (if (cnwE y.2.1 (turnP (toG T) pl)).1 = 0 then ((rowsC (turnP (toG T) pl)).length : Int) else 0) = (if (cnwE x.2.1 pl).1 = 0 then ((rowsC pl).length : Int) else 0) := by
    rw [hcn, rowsC_len, rowsC_len, hturn.cut, List.length_map]
  -- by what stands
  by_cases h0 : (cnwE x.2.1 pl).1 = 0
  · have hlay : (layP x.2.1 pl).1 = 0 := by
      have : (chk9P x.2.1 pl).1 = 0 := by
        unfold cnwE at h0
        by_cases h : (chk9P x.2.1 pl).1 ≠ 0
        · rw [if_pos h] at h0; exact absurd h0 h
        · exact Classical.not_not.1 h
      exact (chk9_ok this).2.1
    have hrc := hturn.rowsC hsh hlay
    have hP : ∃ rc, p = some (Gk.blk rc) ∧ IsCl w33 rc (riseLL (rowsC pl)) := by
      rcases hP33 with ⟨hne, _⟩ | ⟨_, _, _, rc, e, hC⟩
      · exact absurd h0 hne
      · exact ⟨rc, e, hC⟩
    have hmx : (rowsC pl).length ≤ 4096 ∧ NoRound (riseLL (rowsC pl)) := by
      rcases hP33 with ⟨hne, _⟩ | ⟨_, h1, h2, _⟩
      · exact absurd h0 hne
      · exact ⟨h1, h2⟩
    have hQ : ∃ rd, q = some (Gk.blk rd) ∧ IsCl w33 rd (riseLL (rowsC pl)) := by
      rcases hQ33 with ⟨hne, _⟩ | ⟨_, _, _, rd, e, hC⟩
      · rw [hcn] at hne; exact absurd h0 hne
      · rw [hrc] at hC; exact ⟨rd, e, hC⟩
    obtain ⟨rc, rfl, hC⟩ := hP
    obtain ⟨rd, rfl, hD⟩ := hQ
    have hrl : ∀ i, ((riseLL (rowsC pl)).getD i []).length ≤ 4096 := fun i => by
      by_cases e : i < (rowsC pl).length
      · rw [riseLL_get e]
        have := riseL_le (rowsC pl).length (((rowsC pl)[i]).map Int.toNat)
        omega
      · simp [List.getD, List.getElem?_eq_none (show (rowsC pl).length ≤ i by omega)]
    have hmax' : (riseLL (rowsC pl)).length ≤ 4096 := by rw [riseLL_len]; exact hmx.1
    have same : ∀ {w' : World} {r t : Sl} {l : List Nat} {K : Value → World → Prop}, Own w' 3 1 r (l.map iN) → Own w' 3 1 t (l.map iN) → (∀ w'', Below w'.heap.size w' w'' → K (.bool true) w'') → callR Tryz.prog 26 #[.slice r.a r.l r.c, .slice t.a t.l t.c] w' K := fun hr ht hK =>
      Ints_spec (IsS.toI (Own.isS hr)) (IsS.toI (Own.isS ht)) fun w'' _ hb => by rw [decide_eq_true rfl]; exact hK w'' hb
    refine LoopW.count (rowsC pl).length (by omega) (fun k w' => Below w33.heap.size w33 w') (Below.refl _ _) ?_
    intro k w34 hk b34 next hnext
    have hC34 := hC.below b34
    have hD34 := hD.below b34
    refine cLen_spec hC34 ⟨_, rfl, ifB_dec (fun h => ?_) (fun h => ?_)⟩
    · have hkl : k < (rowsC pl).length := by rw [riseLL_len] at h; dsimp only at h; omega
      refine JoinW.cut (fun (_ : Unit) w' => Below w33.heap.size w33 w') ?_ (fun _ w42 hw => hnext w42 hkl hw)
      refine cCalls_specI hrl hC34 fun r w36 b36 hO36 _ => ⟨r, rfl, ?_⟩
      refine cCalls_specI hrl (hD34.below b36) fun r2 w37 b37 hO37 _ => ⟨r2, rfl, ?_⟩
      have b3437 := b36.on b37
      refine same (hO36.below b37) hO37 fun w38 b38 => ⟨true, rfl, ifB_false rfl ?_⟩
      have b3438 := b3437.on b38
      refine cReached_specI hmax' (hC34.below b3438) fun r3 w39 b39 hO39 => ⟨r3, rfl, ?_⟩
      refine cReached_specI hmax' ((hD34.below b3438).below b39) fun r4 w40 b40 hO40 => ⟨r4, rfl, ?_⟩
      refine same (hO39.below b40) hO40 fun w41 b41 => ⟨true, rfl, ifB_false rfl ?_⟩
      exact b34.on (((b3438.on b39).on b40).on b41)
    · refine cLen_spec hC34 ⟨_, rfl, cLen_spec hD34 ⟨_, rfl, ifB_true (by simp) ?_⟩⟩
      refine CQ.order (hP33.below b34) fun r w45 b45 hO45 => ⟨r, rfl, ?_⟩
      refine CQ.order ((hQ33.below b34).below b45) fun r2 w46 b46 hO46 => ⟨r2, rfl, ?_⟩
      rw [hcn, hrc] at hO46
      refine same (hO45.below b46) hO46 fun w47 b47 => ⟨true, rfl, hR w47 (hb33.on (b34.on ((b45.on b46).on b47)))⟩
  · refine LoopW.one1 fun next => ?_
    refine CQ.len hP33 ⟨_, rfl, ?_⟩
    rw [if_neg h0]
    refine ifB_false rfl ?_
    refine CQ.len hP33 ⟨_, rfl, CQ.len hQ33 ⟨_, rfl, ?_⟩⟩
    rw [hlq]
    refine ifB_true (by simp) ?_
    refine CQ.order hP33 fun r w45 b45 hO45 => ⟨r, rfl, ?_⟩
    refine CQ.order (hQ33.below b45) fun r2 w46 b46 hO46 => ⟨r2, rfl, ?_⟩
    rw [hcn, if_neg h0] at hO46
    rw [if_neg h0] at hO45
    refine Ints_spec (IsS.toI (Own.isS (hO45.below b46))) (IsS.toI (Own.isS hO46)) fun w47 _ b47 => ?_
    rw [decide_eq_true rfl]
    exact ⟨true, rfl, hR w47 (hb33.on ((b45.on b46).on b47))⟩
end
end Go.Proofs
