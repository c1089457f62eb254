/-
  ids: Rename, the program's and the document's; the law IdsRenames.
-/
import Derived.Test.YtpeonjpjphhenaaL09t
import Derived.Test.Ytpeonjpjphhenaa09x
import Derived.Test.Ytpeonjpjphhenaa09q
namespace Go.Proofs
open Go.Gk Go.RowKit Go.Gm

/-- What Rename comes to. -/
noncomputable def rnmP (x : Mo) (pl : List PI) (T : List Int) : Int × Int × List PI := if (shapeP x.2.1 pl).1 ≠ 0 then (0, 0, []) else if wayB x.2.1 T = true then (x.1, x.2.1, turnP (toG T) pl) else (0, 0, [])
noncomputable def rnmS (x : Mo) (pl : List PI) (T : List Int) : Int × Int := if (shapeP x.2.1 pl).1 ≠ 0 then ((shapeP x.2.1 pl).1, ((shapeP x.2.1 pl).2 : Int)) else if wayB x.2.1 T = true then (0, 0) else (2, 0)
theorem count_step {T : List Int} {k : Nat} (h1 : 1 ≤ k) (hk : k < T.length) (v : Int) : ((T.take (k + 1)).drop 1).count v = ((T.take k).drop 1).count v + (if T[k] = v then 1 else 0) := by
  rw [List.take_succ_eq_append_getElem hk, List.drop_append_of_le_length (by rw [List.length_take]; omega), List.count_append, List.count_singleton]
  congr 1
  by_cases e : T[k] = v
  · rw [if_pos e, if_pos (by simpa using e)]
  · rw [if_neg e, if_neg (by simpa using e)]
section
variable {x : Mo} {pl : List PI} {w : World} {R : Value → World → Prop} {s : Sl} {T : List Int}
theorem Way_spec {bd : Int} (hs : IsS (Value.int .u32) w s T) (hmax : T.length ≤ 35184372088832) (hb : 0 < bd) (hb2 : bd ≤ 4294967295) (hR : R (.bool (wayB bd T)) w) :
    callR Try.prog 47 #[.int .u32 bd, .slice s.a s.l s.c] w R := by
  refine callR.of (intaglioref09_Way_calls bd s R w ?_) fun _ _ h => h
  have hl := hs.len
  unfold L_intaglioref09_Way
  rw [wrap64_in (x := bd) (by omega) (by omega)]
  refine JoinW.cut (fun _ w' => w' = w ∧ (T.length : Int) = bd ∧ T.getD 0 1 = 0) ?_ ?_
  · refine ifB_bne (fun e => ?_) (fun e => ?_)
    · rw [wayB_false (fun h => e (by rw [hl]; exact h.len))] at hR
      exact hR
    · have h0 : 0 < T.length := by omega
      obtain ⟨a, ha⟩ := hs.base h0
      refine ⟨⟨by omega, by omega⟩, derefP_some ha ⟨T[0], hs.cell a ha 0 h0, ifB_bne (fun e0 => ?_) (fun e0 => ⟨rfl, by omega, ?_⟩)⟩⟩
      · rw [wayB_false (fun h => e0 (by have := h.zero; rwa [getD_lt h0] at this))] at hR
        exact hR
      · rw [getD_lt h0]; exact e0
  rintro _ w ⟨rfl, e1, e2⟩
  have hiff := way_iff e1 e2
  refine LoopW.ghost (fun k (st : Int × Unit) w' => ∃ id : Nat, st = ((id : Int), ()) ∧ k = T.length - id ∧ 1 ≤ id ∧ w' = w ∧ ∀ j : Nat, 1 ≤ j → j < id → j < T.length → (T.drop 1).count (j : Int) = 1) (T.length - 1)
    ⟨1, rfl, rfl, Nat.le_refl _, rfl, fun j h1 h2 => by omega⟩ ?_
  rintro _ _ w ⟨id, rfl, rfl, hid, rfl, hall⟩ next hnext
  refine ifB_dec (fun h => ?_) (fun h => ?_)
  · have hil : id < T.length := by dsimp only at h; omega
    refine LoopW.ghost (fun k (st : Int × Int × Unit) w' => ∃ i : Nat, st = (((((T.take i).drop 1).count (id : Int) : Nat) : Int), (i : Int), ()) ∧ k = T.length - i ∧ 1 ≤ i ∧ i ≤ T.length ∧ w' = w) (T.length - 1)
      ⟨1, by rw [show (List.drop 1 (List.take 1 T)) = [] from List.eq_nil_of_length_eq_zero (by rw [List.length_drop, List.length_take]; omega)]; rfl, rfl, Nat.le_refl _, by omega, rfl⟩ ?_
    rintro _ _ w ⟨i, rfl, rfl, hi1, hi2, rfl⟩ next2 hnext2
    refine ifB_dec (fun h => ?_) (fun h => ?_)
    · have hiT : i < T.length := by dsimp only at h; omega
      refine JoinW.cut (fun (st : Int × Unit) w' => st = (((((T.take (i + 1)).drop 1).count (id : Int) : Nat) : Int), ()) ∧ w' = w) ?_ ?_
      · refine elemU hs hiT ?_
        have hcl := List.count_le_length (a := (id : Int)) (l := (T.take i).drop 1)
        rw [List.length_drop, List.length_take] at hcl
        rw [wrapU32_in (n := (((id : Int), ()) : Int × Unit).1) (by dsimp only; omega) (by dsimp only; omega)]
        refine ifB_beq (fun e => ⟨?_, rfl⟩) (fun e => ⟨?_, rfl⟩)
        · rw [count_step hi1 hiT, if_pos e]
          dsimp only
          rw [wrap64_succ (by omega)]
        · rw [count_step hi1 hiT, if_neg e]
          rfl
      · rintro _ w ⟨rfl, rfl⟩
        dsimp only
        rw [wrap64_succ (by omega)]
        exact hnext2 (T.length - (i + 1)) _ _ (by omega) ⟨i + 1, rfl, rfl, by omega, by omega, rfl⟩
    · have hi : i = T.length := by dsimp only at h; omega
      subst hi
      rw [List.take_length]
      refine ifB_bne (fun e => ?_) (fun e => ?_)
      · rw [wayB_false (fun hw => e (by have := hiff.1 hw id hid hil; dsimp only; omega))] at hR
        exact hR
      · dsimp only at e ⊢
        rw [wrap64_succ (by omega)]
        refine hnext (T.length - (id + 1)) _ _ (by omega) ⟨id + 1, rfl, rfl, by omega, rfl, fun j h1 h2 h3 => ?_⟩
        by_cases ej : j = id
        · subst ej; omega
        · exact hall j h1 (by omega) h3
  · rw [wayB_true (hiff.2 fun j h1 h2 => hall j h1 (by dsimp only at h; omega) h2)] at hR
    exact hR
theorem CopyWords_spec (hs : IsS (Value.int .u32) w s T) (hmax : 4 * T.length ≤ 140737488351232)
    (hR : ∀ w', Own w' 22 1 ⟨some (blk w.heap.size), T.length, T.length⟩ (T.map (Value.int .u32)) → Below w.heap.size w w' → R (.slice (some (blk w.heap.size)) T.length T.length) w') :
    callR Try.prog 18 #[.slice s.a s.l s.c] w R := by
  refine callR.of (intagliokit_CopyWords_calls s R w ?_) fun _ _ h => h
  have hl := hs.len
  unfold L_intagliokit_CopyWords
  rw [hl]
  refine ⟨⟨by omega, by omega, by omega, by omega⟩, Nw.gen fun w1 e1 => ?_⟩
  have hD1 : Blk w1 w.heap.size 22 ((List.replicate T.length (0 : Int)).map (Value.int .u32)) := by rw [e1, List.map_replicate]; exact Blk.made w _ _ _
  have b1 : Below w.heap.size w w1 := by rw [e1]; exact (Below.refl _ _).alloc (Nat.le_refl _) _
  clear e1
  refine LoopW.count T.length (by omega) (fun k w' => Below w.heap.size w w' ∧ ∃ C : List Int, Blk w' w.heap.size 22 (C.map (Value.int .u32)) ∧ C.length = T.length ∧ ∀ j (h : j < C.length) (h' : j < T.length), j < k → C[j] = T[j]) ⟨b1, _, hD1, by simp, fun j _ _ h => by omega⟩ ?_
  rintro k w2 hk ⟨hb, C, hC, hCl, hval⟩ next hnext
  refine ifB_dec (fun h => ?_) (fun h => ?_)
  · have hlt : k < T.length := by dsimp only at h; omega
    have hel := elemU (hs.below hb) hlt (φ := fun x => (0 ≤ (k : Int) ∧ (k : Int) < ((T.length : Nat) : Int)) ∧ Wr w2 ((blk w.heap.size).add (Int.toNat (k : Int))) ∧ Nw (w2.setCell ((blk w.heap.size).add (Int.toNat (k : Int))) (.int .u32 x)) fun w3 => next ((IntKind.i64.wrap ((k : Int) + 1)), ()) w3) ?_
    · rw [hl] at hel
      exact hel
    · have c3 := Chg.set w.heap.size k w2 (.int .u32 T[k])
      refine ⟨⟨by omega, by omega⟩, hC.wr (by rw [List.length_map]; omega), Nw.mk (hnext _ hlt ⟨c3.below hb (Nat.le_refl _), C.set k T[k], ?_, by rw [List.length_set]; exact hCl, fun j h1 h2 h3 => ?_⟩)⟩
      · rw [List.map_set]; exact hC.set _ _
      · by_cases e : k = j
        · subst e; rw [List.getElem_set_self]
        · rw [List.getElem_set_ne e]
          exact hval j (by rw [List.length_set] at h1; exact h1) h2 (by omega)
  · have hk' : k = T.length := by dsimp only at h; omega
    have e : C = T := List.ext_getElem hCl fun j h1 h2 => hval j h1 h2 (by omega)
    subst e
    exact hR w2 ⟨by rw [List.length_map, Nat.mul_one], .inr ⟨_, _, rfl, hC, Nat.le_refl _, (by dsimp only; omega), by rw [List.length_map, Nat.mul_one], by rw [Nat.mul_one]; exact List.take_of_length_le (by rw [List.length_map]; exact Nat.le_refl _)⟩⟩ hb
theorem outMS {bm bs : Nat} {cs ds : List Value} {g bd e a : Int} {t : Sl} {K : Int → Int → Sl → Int → Int → World → Prop} (hM : Blk w bm 25 cs) (hS : Blk w bs 29 ds) (h3 : cs.length = 3) (h2 : ds.length = 2)
    (hK : ∀ w', Chg bm w w' → ∀ w'', Chg bs w' w'' → K g bd t e a w'') :
    Wr w (blk bm) ∧ Nw (w.setCell (blk bm) (.int .u32 g)) fun w1 => Wr w1 ((blk bm).add 1) ∧ Nw (w1.setCell ((blk bm).add 1) (.int .u32 bd)) fun w2 => Wr w2 ((blk bm).add 2) ∧ Nw (w2.setCell ((blk bm).add 2) (.slice t.a t.l t.c)) fun w3 =>
    Wr w3 (blk bs) ∧ Nw (w3.setCell (blk bs) (.int .i64 e)) fun w4 => Wr w4 ((blk bs).add 1) ∧ Nw (w4.setCell ((blk bs).add 1) (.int .i64 a)) fun w5 =>
    ldI w5 ((blk bm).add 0) .u32 fun x1 => ldI w5 ((blk bm).add 1) .u32 fun x2 => ldS w5 ((blk bm).add 2) fun x3 => ldI w5 ((blk bs).add 0) .i64 fun x4 => ldI w5 ((blk bs).add 1) .i64 fun x5 => K x1 x2 x3 x4 x5 w5 := by
  have hne : bs ≠ bm := Blk.apart hS hM (by decide)
  refine st3 hM h3 fun w3 hM3 c3 => st2 (c3.blk hS hne) h2 fun w5 hS5 c5 => ?_
  exact Mo.load (x := (g, bd, t, ())) (c5.blk hM3 hne.symm) (Sp.load hS5 (hK w3 c3 w5 c5))
theorem Rename_spec (hN : IsPl w x.2.2.1 pl) (hp : PlOk pl) (h0 : 0 ≤ x.2.1) (hs : IsS (Value.int .u32) w s T) (hmax : T.length ≤ 35184372088832)
    (hR : ∀ (y : Mo) ql w', Below w.heap.size w w' → OwnPl w' w.heap.size y.2.2.1 ql → (y.1, y.2.1, ql) = rnmP x pl T → R (.tuple #[moA y, .agg #[.int .i64 (rnmS x pl T).1, .int .i64 (rnmS x pl T).2]]) w') :
    callR Try.prog 19 #[moA x, .slice s.a s.l s.c] w R := by
  refine callR.of (ids_Rename_calls x s R w ?_) fun _ _ h => h
  refine lay_of fun w1 hB1 b1 z1 => ?_
  have hB1 : Blk w1 w.heap.size 25 (moV x) := hB1
  refine lay_of fun w2 hV2 b2 z2 => ?_
  have hV2 : Blk w2 w1.heap.size 36 [.slice s.a s.l s.c] := hV2
  refine lay_of fun w3 hM3 b3 z3 => ?_
  have hM3 : Blk w3 w2.heap.size 25 [.int .u32 0, .int .u32 0, .slice none 0 0] := hM3
  refine lay_of fun w4 hS4 b4 z4 => ?_
  have hS4 : Blk w4 w3.heap.size 29 [.int .i64 0, .int .i64 0] := hS4
  have b14 := (b2.on b3).on b4
  have hb4 := b1.on b14
  refine Mo.load (hB1.below b14) ?_
  refine Shape_spec (x := x) (hN.below hb4) hp fun w5 b5 => ⟨((shapeP x.2.1 pl).1, ((shapeP x.2.1 pl).2 : Int), ()), rfl, ?_⟩
  refine box2 rfl fun w8 h8 b8 z8 => ?_
  have s5 := b5.size
  have b48 := b5.on b8
  have hb8 := hb4.on b48
  have hB8 := (hB1.below b14).below b48
  have hV8 := ((hV2.below b3).below b4).below b48
  have hM8 := (hM3.below b4).below b48
  have hS8 := hS4.below b48
  refine h8.rI0 rfl (ifB_bne (fun e => ?_) (fun e => ?_))
  · have e' : (shapeP x.2.1 pl).1 ≠ 0 := e
    have er : rnmS x pl T = ((shapeP x.2.1 pl).1, ((shapeP x.2.1 pl).2 : Int)) := by unfold rnmS; rw [if_pos e']
    rw [er] at hR
    refine Sp.load h8.drew ?_
    refine st3 hM8.drew rfl fun w9 hM9 c9 => ?_
    have h9 := c9.blk h8.drew (by omega)
    refine ⟨h9.cell (n := 0) rfl, h9.cell (n := 1) rfl, ?_⟩
    refine st2 (c9.blk hS8.drew (by omega)) rfl fun w10 hS10 c10 => ?_
    refine Mo.load (x := (0, 0, ⟨none, 0, 0⟩, ())) (c10.blk hM9 (by omega)) (Sp.load hS10 ?_)
    exact hR (0, 0, ⟨none, 0, 0⟩, ()) [] w10 (c10.below (c9.below hb8.drew (by omega)) (by omega)) (OwnPl.nil _ _) (by unfold rnmP; rw [if_pos e'])
  have e' : ¬ (shapeP x.2.1 pl).1 ≠ 0 := fun h => h e
  have hsh : (shapeP x.2.1 pl).1 = 0 := e
  have nb := (shape_ok hsh).1
  have hrg := ids_range hp h0 hsh
  refine hV8.cell0 rfl |> fun hc => ⟨s, hc, ?_⟩
  refine callR.of (slices_Values_suint32_uint32_calls s _ w8 ?_) fun _ _ h => h
  refine lay_of fun w14 hW14 b14' z14 => ⟨_, rfl, ?_⟩
  have hs14 := hs.below (hb8.on b14')
  refine Sorted_spec (s := s) (T := T) hs14 hW14 hmax fun r A w15 hA15 hP hA b15 => ⟨r, rfl, ?_⟩
  have b815 := b14'.on b15
  have hb15 := hb8.on b815
  have hB15 := hB8.below b815
  have hV15 := hV8.below b815
  have hM15 := hM8.below b815
  have hS15 := hS8.below b815
  have hs15 := hs.below hb15
  have hl := hs.len
  have hAl : A.length = T.length := hP.length_eq
  have hrs := hA15.isS
  have hrl := hrs.len
  refine JoinW.cut (fun (st : Bool × Unit) w' => w' = w15 ∧ (st.1 = true ↔ (T.length : Int) = x.2.1 ∧ T.getD 0 1 = 0)) ?_ ?_
  · refine hV15.cell0 rfl |> fun hc => ⟨s, hc, hB15.rI (n := 1) (x := x.2.1) rfl ?_⟩
    rw [wrap64_in (x := x.2.1) (by omega) (by omega)]
    refine ifB_beq (fun e1 => ?_) (fun e1 => ⟨rfl, ⟨fun h => (by cases h), fun h => absurd (by omega) e1⟩⟩)
    refine hV15.cell0 rfl |> fun hc => ⟨s, hc, ?_⟩
    have hT0 : 0 < T.length := by omega
    obtain ⟨a, ha⟩ := hs15.base hT0
    refine ⟨⟨by omega, by omega⟩, derefP_some ha ⟨T[0], hs15.cell a ha 0 hT0, rfl, ?_⟩⟩
    dsimp only
    rw [getD_lt hT0, beq_iff_eq]
    exact ⟨fun h => ⟨by omega, h⟩, fun h => h.2⟩
  rintro ⟨ok0, _⟩ w15 ⟨rfl, hok0⟩
  dsimp only at hok0 ⊢
  refine LoopW.ghost (fun k (st : Bool × Int × Unit) w' => ∃ n : Nat, st.2.1 = (n : Int) ∧ k = A.length - n ∧ n ≤ A.length ∧ w' = w15 ∧ (st.1 = true ↔ ok0 = true ∧ ∀ j (h : j < A.length), j < n → A[j] = (j : Int))) A.length
    ⟨0, rfl, rfl, Nat.zero_le _, rfl, ⟨fun h => ⟨h, fun j _ h => by omega⟩, fun h => h.1⟩⟩ ?_
  rintro _ ⟨ok, _, _⟩ w15 ⟨n, e2, rfl, hn, rfl, hok⟩ next hnext
  dsimp only at e2 hok
  subst e2
  refine ifB_dec (fun h => ?_) (fun h => ?_)
  · have hnl : n < A.length := by dsimp only at h; omega
    refine JoinW.cut (fun (st : Bool × Unit) w' => w' = w15 ∧ (st.1 = true ↔ ok0 = true ∧ ∀ j (h : j < A.length), j < n + 1 → A[j] = (j : Int))) ?_ ?_
    · refine elemU hrs hnl ?_
      refine ifB_bool (fun ht => ⟨rfl, ?_⟩) (fun hf => ⟨rfl, ?_⟩)
      · obtain ⟨k1, k2⟩ := hok.1 ht
        obtain ⟨k3, _⟩ := hok0.1 k1
        dsimp only
        rw [wrapU32_in (by omega) (by omega), beq_iff_eq]
        constructor
        · intro g
          refine ⟨k1, fun j hj hjn => ?_⟩
          by_cases ej : j = n
          · subst ej; exact g
          · exact k2 j hj (by omega)
        · intro g
          exact g.2 n hnl (by omega)
      · dsimp only
        constructor
        · intro g; cases g
        · intro g
          have hf : ok = false := hf
          rw [hok.2 ⟨g.1, fun j hj hjn => g.2 j hj (by omega)⟩] at hf
          cases hf
    · rintro ⟨ok', _⟩ w15 ⟨rfl, hok'⟩
      dsimp only at hok' ⊢
      rw [wrap64_succ (by omega)]
      exact hnext (A.length - (n + 1)) _ _ (by omega) ⟨n + 1, rfl, rfl, by omega, rfl, hok'⟩
  · have hn' : n = A.length := by dsimp only at h; omega
    subst hn'
    have hway : ok = true ↔ WayP x.2.1 T := by
      rw [hok, hok0]
      constructor
      · rintro ⟨⟨g1, g2⟩, g3⟩
        exact ⟨g1, g2, (sorted_iff hP hA).2 fun j hj => g3 j hj hj⟩
      · intro g
        exact ⟨⟨g.len, g.zero⟩, fun j hj _ => (sorted_iff hP hA).1 g.perm j hj⟩
    have l2 := hM8.lt
    have l3 := hS8.lt
    have s15 := b815.size
    refine ifB_not (ifB_bool (fun hok1 => ?_) (fun hok1 => ?_))
    · have hw : WayP x.2.1 T := hway.1 hok1
      have er : rnmS x pl T = (0, 0) := by unfold rnmS; rw [if_neg e', if_pos (wayB_true hw)]
      rw [er] at hR
      refine Mo.load hB15 ?_
      have hcf : Try.fs.contains 51 = true := by kernel_rfl
      refine turned_spec (x := x) (g := toG T) (hN.below hb15) hp (fun w' hb' m hm => ?_) fun t w16 hO16 b16 => ⟨(x.1, x.2.1, t, ()), rfl, ?_⟩
      · unfold callV
        simp only [hcf]
        refine callR.of (ids_Rename_1_calls m (blk w1.heap.size) _ w' ?_) fun _ _ h => h
        obtain ⟨m1, m2⟩ := hrg m hm
        have hmT : m.toNat < T.length := by have := hw.len; omega
        refine (hV15.below hb').cell0 rfl |> fun hc => ⟨s, hc, ?_⟩
        have hel := elemU (hs15.below hb') hmT (φ := fun v => (fun v w'' => v = Value.int .u32 (toG T m) ∧ Below w'.heap.size w' w'') (Value.int .u32 v) w') ⟨by unfold toG; rw [getD_lt hmT], Below.refl _ _⟩
        rw [show ((m.toNat : Nat) : Int) = m by omega] at hel
        exact hel
      refine outMS (g := x.1) (bd := x.2.1) (t := t) (e := 0) (a := 0) (hM15.below b16) (hS15.below b16) rfl rfl fun w17 c17 w18 c18 => ?_
      have s16 := b16.size
      refine hR (x.1, x.2.1, t, ()) (turnP (toG T) pl) w18 (c18.below (c17.below (hb15.on b16) (by omega)) (by omega)) ?_ (by unfold rnmP; rw [if_neg e', if_pos (wayB_true hw)])
      exact ((hO16.chg c17 (by omega)).chg c18 (by omega)).lower (by omega)
    · have hw : ¬ WayP x.2.1 T := fun h => by rw [hway.2 h] at hok1; cases hok1
      have er : rnmS x pl T = (2, 0) := by unfold rnmS; rw [if_neg e', if_neg (by rw [wayB_false hw]; simp)]
      rw [er] at hR
      refine outMS (g := 0) (bd := 0) (t := ⟨none, 0, 0⟩) (e := 2) (a := 0) hM15 hS15 rfl rfl fun w17 c17 w18 c18 => ?_
      exact hR (0, 0, ⟨none, 0, 0⟩, ()) [] w18 (c18.below (c17.below hb15 (by omega)) (by omega)) (OwnPl.nil _ _) (by unfold rnmP; rw [if_neg e', if_neg (by rw [wayB_false hw]; simp)])
theorem rRename_spec (hN : IsPl w x.2.2.1 pl) (hp : PlOk pl) (h0 : 0 ≤ x.2.1) (hs : IsS (Value.int .u32) w s T) (hmax : T.length ≤ 35184372088832)
    (hR : ∀ (y : Mo) ql w', Below w.heap.size w w' → OwnPl w' w.heap.size y.2.2.1 ql → (y.1, y.2.1, ql) = rnmP x pl T → R (.tuple #[moA y, .agg #[.int .i64 (rnmS x pl T).1, .int .i64 (rnmS x pl T).2]]) w') :
    callR Try.prog 17 #[moA x, .slice s.a s.l s.c] w R := by
  refine callR.of (intaglioref09_Rename_calls x s R w ?_) fun _ _ h => h
  refine lay_of fun w1 hB1 b1 z1 => ?_
  have hB1 : Blk w1 w.heap.size 25 (moV x) := hB1
  refine lay_of fun w3 hM3 b3 z3 => ?_
  have hM3 : Blk w3 w1.heap.size 25 [.int .u32 0, .int .u32 0, .slice none 0 0] := hM3
  refine lay_of fun w4 hS4 b4 z4 => ?_
  have hS4 : Blk w4 w3.heap.size 29 [.int .i64 0, .int .i64 0] := hS4
  have b14 := b3.on b4
  have hb4 := b1.on b14
  refine Mo.load (hB1.below b14) ?_
  refine rShape_spec (x := x) (hN.below hb4) hp fun w5 b5 => ⟨((shapeP x.2.1 pl).1, ((shapeP x.2.1 pl).2 : Int), ()), rfl, ?_⟩
  refine box2 rfl fun w8 h8 b8 z8 => ?_
  have s5 := b5.size
  have b48 := b5.on b8
  have hb8 := hb4.on b48
  have hB8 := (hB1.below b14).below b48
  have hM8 := (hM3.below b4).below b48
  have hS8 := hS4.below b48
  have l2 := hM8.lt
  have l3 := hS8.lt
  refine h8.rI0 rfl (ifB_bne (fun e => ?_) (fun e => ?_))
  · have e' : (shapeP x.2.1 pl).1 ≠ 0 := e
    have er : rnmS x pl T = ((shapeP x.2.1 pl).1, ((shapeP x.2.1 pl).2 : Int)) := by unfold rnmS; rw [if_pos e']
    rw [er] at hR
    refine Sp.load h8.drew ?_
    refine st3 hM8.drew rfl fun w9 hM9 c9 => ?_
    have h9 := c9.blk h8.drew (by omega)
    refine ⟨h9.cell (n := 0) rfl, h9.cell (n := 1) rfl, ?_⟩
    refine st2 (c9.blk hS8.drew (by omega)) rfl fun w10 hS10 c10 => ?_
    refine Mo.load (x := (0, 0, ⟨none, 0, 0⟩, ())) (c10.blk hM9 (by omega)) (Sp.load hS10 ?_)
    exact hR (0, 0, ⟨none, 0, 0⟩, ()) [] w10 (c10.below (c9.below hb8.drew (by omega)) (by omega)) (OwnPl.nil _ _) (by unfold rnmP; rw [if_pos e'])
  have e' : ¬ (shapeP x.2.1 pl).1 ≠ 0 := fun h => h e
  have hsh : (shapeP x.2.1 pl).1 = 0 := e
  have nb := (shape_ok hsh).1
  have hrg := ids_range hp h0 hsh
  refine hB8.rI (n := 1) (x := x.2.1) rfl ?_
  refine Way_spec (hs.below hb8) hmax (by omega) (by omega) ⟨_, rfl, ?_⟩
  refine ifB_not (ifB_bool (fun hok1 => ?_) (fun hok1 => ?_))
  · have hw : WayP x.2.1 T := wayB_iff.1 hok1
    have er : rnmS x pl T = (0, 0) := by unfold rnmS; rw [if_neg e', if_pos hok1]
    rw [er] at hR
    have bd8 : Below w8.heap.size w8 w8.drew := (Below.refl _ _).drew
    refine Mo.load hB8.drew (Sp.load h8.drew ?_)
    refine rTurn_spec (x := x) (T := T) ((hN.below hb8).below bd8) hp ((hs.below hb8).below bd8) (fun m hm => by have := hrg m hm; have := hw.len; omega) fun t w16 hO16 b16 => ⟨(x.1, x.2.1, t, ()), rfl, ?_⟩
    have b816 := bd8.on b16
    have h16 := h8.below b816
    refine ⟨h16.cell (n := 0) rfl, h16.cell (n := 1) rfl, ?_⟩
    have s16 := b816.size
    refine st3 (hM8.below b816) rfl fun w17 hM17 c17 => ?_
    have h17 := c17.blk h16 (by omega)
    refine ⟨h17.cell (n := 0) rfl, h17.cell (n := 1) rfl, ?_⟩
    refine st2 (c17.blk (hS8.below b816) (by omega)) rfl fun w18 hS18 c18 => ?_
    refine Mo.load (x := (x.1, x.2.1, t, ())) (c18.blk hM17 (by omega)) (Sp.load hS18 ?_)
    have hO18 : OwnPl w18 w8.heap.size t (turnP (toG T) pl) := (hO16.chg c17 (show w1.heap.size < w8.heap.size by omega)).chg c18 (show w3.heap.size < w8.heap.size by omega)
    have hr2 := hR (x.1, x.2.1, t, ()) (turnP (toG T) pl) w18 (c18.below (c17.below (hb8.on b816) (by omega)) (by omega)) (hO18.lower (by omega)) (by unfold rnmP; rw [if_neg e', if_pos hok1])
    rw [shape_zero hsh]
    exact hr2
  · have hok1 : wayB x.2.1 T = false := hok1
    have er : rnmS x pl T = (2, 0) := by unfold rnmS; rw [if_neg e', if_neg (by rw [hok1]; simp)]
    rw [er] at hR
    refine outMS (g := 0) (bd := 0) (t := ⟨none, 0, 0⟩) (e := 2) (a := 0) hM8 hS8 rfl rfl fun w17 c17 w18 c18 => ?_
    exact hR (0, 0, ⟨none, 0, 0⟩, ()) [] w18 (c18.below (c17.below hb8 (by omega)) (by omega)) (OwnPl.nil _ _) (by unfold rnmP; rw [if_neg e', if_neg (by rw [hok1]; simp)])

end
end Go.Proofs
