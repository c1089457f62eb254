/-
  ids: Renumber, the program's and the document's; the law; ids: the document's Turn and Renumber; the law IdsRenumbers.
-/
import Derived.Test.Ytpeonjpjphhenaa09i
/-!
  ids: Renumber, the program's and the document's; the law.
-/
namespace Go.Proofs
open Go.Gk Go.RowKit Go.Gm

/-- What Renumber comes to. -/
def rnbP (x : Mo) (pl : List PI) : Int × Int × List PI := if (chk9P x.2.1 pl).1 ≠ 0 then (0, 0, []) else (x.1, bndP pl, newP pl)
section
variable {x : Mo} {pl : List PI} {w : World} {R : Value → World → Prop}
theorem Renumber_spec (hN : IsPl w x.2.2.1 pl) (hp : PlOk pl)
    (hR : ∀ (y : Mo) ql w', Below w.heap.size w w' → OwnPl w' w.heap.size y.2.2.1 ql → (y.1, y.2.1, ql) = rnbP x pl → R (.tuple #[moA y, .agg #[.int .i64 (chk9P x.2.1 pl).1, .int .i64 ((chk9P x.2.1 pl).2 : Int)]]) w') :
    callR Try.prog 15 #[moA x] w R := by
  refine callR.of (ids_Renumber_calls x R w ?_) fun _ _ h => h
  refine lay_of fun w1 hB1 b1 z1 => ?_
  have hB1 : Blk w1 w.heap.size 25 (moV x) := hB1
  refine lay_of fun w2 hM2 b2 z2 => ?_
  have hM2 : Blk w2 w1.heap.size 25 [.int .u32 0, .int .u32 0, .slice none 0 0] := hM2
  refine lay_of fun w3 hS3 b3 z3 => ?_
  have hS3 : Blk w3 w2.heap.size 29 [.int .i64 0, .int .i64 0] := hS3
  have b13 := b2.on b3
  have hb3 := b1.on b13
  refine Mo.load (hB1.below b13) ?_
  refine Check_spec (x := x) (hN.below hb3) hp fun w4 b4 => ⟨((chk9P x.2.1 pl).1, ((chk9P x.2.1 pl).2 : Int), ()), rfl, ?_⟩
  refine box2 rfl fun w7 h7 b7 z7 => ?_
  have s4 := b4.size
  have b37 := b4.on b7
  have hb7 := hb3.on b37
  have hB7 := (hB1.below b13).below b37
  have hM7 := (hM2.below b3).below b37
  have hS7 := hS3.below b37
  refine h7.rI0 rfl (ifB_bne (fun e => ?_) (fun e => ?_))
  · have e' : (chk9P x.2.1 pl).1 ≠ 0 := e
    refine Sp.load h7.drew ?_
    refine st3 hM7.drew rfl fun w8 hM8 c8 => ?_
    have h8 := c8.blk h7.drew (by omega)
    refine ⟨h8.cell (n := 0) rfl, h8.cell (n := 1) rfl, ?_⟩
    refine st2 (c8.blk hS7.drew (by omega)) rfl fun w9 hS9 c9 => ?_
    refine Mo.load (x := (0, 0, ⟨none, 0, 0⟩, ())) (c9.blk hM8 (by omega)) (Sp.load hS9 ?_)
    exact hR (0, 0, ⟨none, 0, 0⟩, ()) [] w9 (c9.below (c8.below hb7.drew (by omega)) (by omega)) (OwnPl.nil _ _) (by unfold rnbP; rw [if_pos e'])
  have e' : (chk9P x.2.1 pl).1 = 0 := e
  obtain ⟨k1, k2, k3⟩ := chk9_ok e'
  refine Nw.gen fun w8 e8 => ?_
  have m8 : IsMp w8 w7.heap.size .u32 [] := by rw [e8]; exact IsMp.new _ _
  have b8 : Below w7.heap.size w7 w8 := by rw [e8]; exact (Below.refl _ _).alloc (Nat.le_refl _) _
  have z8 : w8.heap.size = w7.heap.size + 1 := by rw [e8]; simp
  clear e8
  refine updW_of uMap uU32 m8 fun w9 m9 c9 => ?_
  have z9 := c9.size
  refine Nw.gen fun w10 e10 => ?_
  have hP10 : Blk w10 w9.heap.size 83 [.map none] := by rw [e10]; exact Blk.new _ _ _
  have b10 : Below w9.heap.size w9 w10 := by rw [e10]; exact (Below.refl _ _).alloc (Nat.le_refl _) _
  have z10 : w10.heap.size = w9.heap.size + 1 := by rw [e10]; simp
  clear e10
  refine ⟨hP10.wr0 (by simp), Nw.gen fun w11 e11 => ?_⟩
  have c11 : Chg w9.heap.size w10 w11 := by rw [e11]; exact Chg.set w9.heap.size 0 w10 _
  have hP11 : Blk w11 w9.heap.size 83 [.map (some w7.heap.size)] := by rw [e11]; exact hP10.set0 _
  clear e11
  have m11 := (m9.below b10).of_block (c11.block _ (by omega))
  have hb11 : Below w.heap.size w w11 := c11.below ((c9.below (hb7.on b8) (by have := hb7.size; omega)).on b10) (by have := hb7.size; omega)
  have up : ∀ {k T cs}, k < w7.heap.size → Blk w7 k T cs → Blk w11 k T cs := fun hk h => c11.blk ((c9.blk (h.below b8) (by omega)).below b10) (by omega)
  have hB11 := up (by have := hB7.lt; omega) hB7
  have hM11 := up (by have := hM7.lt; omega) hM7
  have hS11 := up (by have := hS7.lt; omega) hS7
  have z11 := c11.size
  have s7 := hb7.size
  refine hB11.rS (n := 2) (x := x.2.2.1) rfl ?_
  have hl := hN.len
  have h40 := hp.len
  refine LoopW.count pl.length hN.bound (fun k w' => Below w.heap.size w w' ∧ w11.heap.size ≤ w'.heap.size ∧ Blk w' w.heap.size 25 (moV x) ∧ Blk w' w1.heap.size 25 [.int .u32 0, .int .u32 0, .slice none 0 0] ∧ Blk w' w2.heap.size 29 [.int .i64 0, .int .i64 0] ∧
    Blk w' w9.heap.size 83 [.map (some w7.heap.size)] ∧ ∃ L, IsMp w' w7.heap.size .u32 L ∧ RnOk L pl k) ⟨hb11, Nat.le_refl _, hB11, hM11, hS11, hP11, _, m11, RnOk.start pl⟩ ?_
  rintro k w12 hk ⟨hb, hz, hB, hM, hS, hP, L, hL, hRn⟩ next hnext
  refine ifB_dec (fun h => ?_) (fun h => ?_)
  · have hlt : k < pl.length := by dsimp only at h; omega
    have eix : ix pl k = pl[k] := ix_lt hlt
    refine JoinW.cut (fun _ w' => Below w.heap.size w w' ∧ w11.heap.size ≤ w'.heap.size ∧ Blk w' w.heap.size 25 (moV x) ∧ Blk w' w1.heap.size 25 [.int .u32 0, .int .u32 0, .slice none 0 0] ∧ Blk w' w2.heap.size 29 [.int .i64 0, .int .i64 0] ∧
      Blk w' w9.heap.size 83 [.map (some w7.heap.size)] ∧ ∃ L, IsMp w' w7.heap.size .u32 L ∧ RnOk L pl (k + 1)) ?_ (fun _ w' hP => hnext w' hlt hP)
    refine elemPI (hN.below hb) hlt fun t ht => ?_
    refine box4 rfl fun w13 hI13 b13' z13 => ?_
    have hI13 : Blk w13 w12.heap.size 45 (inV (mkIn pl[k] t)) := hI13
    have hb13 := hb.on b13'
    have hP13 := hP.below b13'
    have hL13 := hL.below b13'
    have s13 := b13'.size
    refine hI13.rI (n := 2) (x := pl[k].2.2.1) rfl (ifB_bne (fun e0 => ?_) (fun e0 => ?_))
    · refine hP13.rM0 rfl (hI13.rI (n := 2) (x := pl[k].2.2.1) rfl (hP13.rM0 rfl (lenW_of uMap hL13 ?_)))
      refine updW_of uMap uU32 hL13 fun w14 m14 c14 => ?_
      have hst := hRn.step (by rw [eix]; exact e0) (fun j hj => flt_new (k3 k hlt) (by rw [eix]; exact e0) j hj (by omega))
      rw [eix] at hst
      have s14 := c14.size
      exact ⟨c14.below hb13 (by omega), by omega, c14.blk (hB.below b13') (by omega), c14.blk (hM.below b13') (by have := hM7.lt; omega), c14.blk (hS.below b13') (by have := hS7.lt; omega), c14.blk hP13 (by omega), _, m14, hst⟩
    · exact ⟨hb13, by omega, hB.below b13', hM.below b13', hS.below b13', hP13, L, hL13, hRn.skip (by rw [eix]; exact e0)⟩
  · have hk' : k = pl.length := by dsimp only at h; omega
    subst hk'
    refine Mo.load hB ?_
    have hcf : Try.fs.contains 45 = true := by kernel_rfl
    refine turned_spec (x := x) (g := rnP pl pl.length) (hN.below hb) hp (fun w' hb' n hn => ?_) fun s w13 hO13 b13' => ⟨(x.1, x.2.1, s, ()), rfl, ?_⟩
    · unfold callV
      simp only [hcf]
      refine callR.of (ids_Renumber_1_calls n (blk w9.heap.size) _ w' ?_) fun _ _ h => h
      refine (hP.below hb').rM0 rfl (lookV_of uMap uU32 zU32 (hL.below hb') ?_)
      exact ⟨by rw [hRn.look], Below.refl _ _⟩
    have s13 := b13'.size
    have hB13 := hB.below b13'
    have hM13 := hM.below b13'
    have hS13 := hS.below b13'
    have hP13 := hP.below b13'
    have hL13 := hL.below b13'
    have hb13 := hb.on b13'
    have hlt1 := hM7.lt
    have hlt2 := hS7.lt
    refine st3 hB13 rfl fun w14 hB14 c14 => ?_
    refine (c14.blk hP13 (by omega)).rM0 rfl (lenW_of uMap (hL13.of_block (c14.block _ (by omega))) ?_)
    have c15 := Chg.set w.heap.size 1 w14 (.int .u32 (IntKind.u32.wrap (L.length : Int)))
    refine ⟨hB14.wr (n := 1) (by simp), Nw.mk ?_⟩
    have hB15 : Blk _ w.heap.size 25 (moV (x.1, IntKind.u32.wrap (L.length : Int), s, ())) := hB14.set 1 (.int .u32 (IntKind.u32.wrap (L.length : Int)))
    refine Mo.load hB15 ?_
    refine st3 (c15.blk (c14.blk hM13 (by omega)) (by omega)) rfl fun w16 hM16 c16 => ?_
    refine st2 (c16.blk (c15.blk (c14.blk hS13 (by omega)) (by omega)) (by omega)) rfl fun w17 hS17 c17 => ?_
    refine Mo.load (x := (x.1, IntKind.u32.wrap (L.length : Int), s, ())) (c17.blk hM16 (by omega)) (Sp.load hS17 ?_)
    have hO17 := (((hO13.chg c14 (by omega)).chg c15 (by omega)).chg c16 (by omega)).chg c17 (by omega)
    have hb17 := c17.below (c16.below (c15.below (c14.below hb13 (Nat.le_refl _)) (Nat.le_refl _)) (by omega)) (by omega)
    have := hR (x.1, IntKind.u32.wrap (L.length : Int), s, ()) (newP pl) w17 hb17 (hO17.lower (by omega)) (by
      unfold rnbP
      rw [if_neg (fun h => h e'), hRn.len]
      rfl)
    rw [k1] at this
    exact this

/-! ### The document's -/
theorem rTurned_spec {op : Int} {ty re : Nat} {q s : Sl} {al : List Ag} {T : List Int} (hI : IsAg w q al) (h24 : 24 * al.length ≤ 140737488351232) (hs : IsS (Value.int .u32) w s T) (hty : ty < T.length) (hre : re < T.length)
    (hal : ∀ a ∈ al, a.1 = 1 → 0 ≤ a.2.1 ∧ a.2.1 < T.length)
    (hR : ∀ t w', Own w' 87 3 t (flat agV (al.map (turnA (toG T)))) → Fresh w.heap.size t → Below w.heap.size w w' → R (inA (op, T[ty], T[re], t, ())) w') :
    callR Try.prog 72 #[inA (op, (ty : Int), (re : Int), q, ()), .slice s.a s.l s.c] w R := by
  refine callR.of (intaglioref09_Turned_calls (op, (ty : Int), (re : Int), q, ()) s R w ?_) fun _ _ h => h
  refine lay_of fun w1 hB1 b1 z1 => ?_
  have hB1 : Blk w1 w.heap.size 45 (inV (op, (ty : Int), (re : Int), q, ())) := hB1
  refine lay_of fun w2 hC2 b2 z2 => ?_
  have hC2 : Blk w2 w1.heap.size 45 [.int .u16 0, .int .u32 0, .int .u32 0, .slice none 0 0] := hC2
  have bd : Below w2.heap.size w2 w2.drew := (Below.refl _ _).drew
  have hb2 := (b1.on b2).on bd
  have hBd := (hB1.below b2).below bd
  have hsd := hs.below hb2
  refine hBd.rI0 (x := op) rfl (hBd.rI (n := 1) (x := (ty : Int)) rfl ?_)
  refine hsd.addr hty fun a1 ha1 hc1 => ⟨_, hc1, ?_⟩
  refine hBd.rI (n := 2) (x := (re : Int)) rfl ?_
  refine hsd.addr hre fun a2 ha2 hc2 => ⟨_, hc2, ?_⟩
  refine lay_of fun w3 hI3 b3 z3 => ?_
  have hB3 := hBd.below b3
  have hC3 := (hC2.below bd).below b3
  have hb3 := hb2.on b3
  refine ⟨cell_keep b3 hc2, hB3.cell (n := 2) rfl, cell_keep b3 hc1, hB3.cell (n := 1) rfl, hB3.cell0 rfl, ?_⟩
  refine st4 hI3 rfl fun w4 hI4 c4 => ?_
  have zd : w2.drew.heap.size = w2.heap.size := rfl
  have hB4 := c4.blk hB3 (by omega)
  have hC4 := c4.blk hC3 (by omega)
  have hb4 := c4.below hb3 (by omega)
  have hql := hI.len
  have z4 := c4.size
  refine LoopW.count al.length (by omega) (fun i w' => Below w.heap.size w w' ∧ w4.heap.size ≤ w'.heap.size ∧ Blk w' w.heap.size 45 (inV (op, (ty : Int), (re : Int), q, ())) ∧ Blk w' w1.heap.size 45 [.int .u16 0, .int .u32 0, .int .u32 0, .slice none 0 0] ∧
    ∃ t, Blk w' w2.drew.heap.size 45 (inV (op, T[ty], T[re], t, ())) ∧ Own w' 87 3 t (flat agV ((al.take i).map (turnA (toG T)))) ∧ Fresh w.heap.size t) ⟨hb4, Nat.le_refl _, hB4, hC4, ⟨none, 0, 0⟩, hI4, Own.nil _ _ _, fun a ha => by (cases ha)⟩ ?_
  rintro i w5 hi ⟨hb5, hz5, hB5, hC5, t, hI5, ht5, htF⟩ next hnext
  refine hB5.rS (n := 3) (x := q) rfl (ifB_dec (fun h => ?_) (fun h => ?_))
  · have hil : i < al.length := by dsimp only at h; omega
    refine hB5.rS (n := 3) (x := q) rfl (elemA3 (hI.below hb5) hil ?_)
    refine box3 rfl fun w6 hA6 b6 z6 => ?_
    refine JoinW.cut (fun _ w' => Blk w' w5.heap.size 87 (agV (turnA (toG T) al[i])) ∧ Chg w5.heap.size w6 w') ?_ ?_
    · refine hA6.rI0 rfl (ifB_beq (fun e => ?_) (fun e => ?_))
      · obtain ⟨n1, n2⟩ := hal _ (List.getElem_mem hil) e
        have hs6 := hs.below (hb5.on b6)
        refine hA6.rI (n := 1) (x := al[i].2.1) rfl ?_
        rw [show al[i].2.1 = ((al[i].2.1.toNat : Nat) : Int) by omega]
        refine hs6.addr (k := al[i].2.1.toNat) (by omega) fun a3 _ hc3 => ⟨_, hc3, hA6.wr (n := 1) (by simp), Nw.mk ⟨?_, Chg.set w5.heap.size 1 w6 _⟩⟩
        have hA7 := hA6.set 1 (.int .u32 (T[al[i].2.1.toNat]'(by omega)))
        have e7 : turnA (toG T) al[i] = (al[i].1, T[al[i].2.1.toNat]'(by omega), al[i].2.2) := by
          unfold turnA toG
          rw [if_pos e, getD_lt (by omega)]
        rw [e7]
        exact hA7
      · rw [turnA_no _ e]
        exact ⟨hA6, Chg.refl _ _⟩
    · rintro _ w7 ⟨hA7, c7⟩
      have s6 := b6.size
      have b57 : Below w5.heap.size w5 w7 := c7.below b6 (Nat.le_refl _)
      have hI7 := hI5.below b57
      refine hI7.rS (n := 3) (x := t) rfl ?_
      refine hA7.rI (n := 0) (x := (turnA (toG T) al[i]).1) rfl (hA7.rI (n := 1) (x := (turnA (toG T) al[i]).2.1) rfl (hA7.rT (n := 2) (x := (turnA (toG T) al[i]).2.2) rfl ?_))
      refine lay_of fun w8 hD8 b8 z8 => ?_
      have hD8 : Blk w8 w7.heap.size 87 (agV (turnA (toG T) al[i])) := hD8
      have b58 := b57.on b8
      have ht8 := ht5.below b58
      have htl : t.l = i := by
        have := ht5.1
        rw [flat_length agV_len, List.length_map, List.length_take] at this
        omega
      refine push_keep eArg ht8 (hb5.on b58) htF rfl (by simp [Value.oneCell']) hD8 (by omega) (by omega) fun r w9 k1 k2 k3 k4 k5 => ?_
      have kb : ∀ {j cs}, Blk w5 j 45 cs → Blk w9 j 45 cs := fun hj => (hj.below b58).of_block (k5 _ (hj.below b58).lt (own_notBlk ht8 (hj.below b58) (by decide)))
      have hI9 := kb hI5
      have c10 := Chg.set w2.drew.heap.size 3 w9 (.slice r.a r.l r.c)
      have s58 := b58.size
      refine ⟨hI9.wr (n := 3) (by simp), Nw.mk (hnext _ hil ⟨c10.below k2 (by omega), by rw [c10.size]; omega, c10.blk (kb hB5) (by omega), c10.blk (kb hC5) (by omega), r, hI9.set 3 _, ?_, k3⟩)⟩
      rw [List.take_succ_eq_append_getElem hil, List.map_append]
      have k1' : Own w9 87 3 r (flat agV ((al.take i).map (turnA (toG T)) ++ [turnA (toG T) al[i]])) := by simpa [flat] using k1
      refine k1'.of_block fun a ha => c10.block _ ?_
      obtain ⟨cs, hc⟩ := k1'.type ha
      exact Blk.apart hc hI9 (by decide)
  · have hi' : i = al.length := by dsimp only at h; omega
    subst hi'
    rw [List.take_length] at ht5
    refine Ins.load hI5 ?_
    refine st4 hC5 rfl fun w6 hC6 c6 => ?_
    refine Ins.load (x := (op, T[ty], T[re], t, ())) hC6 ?_
    refine hR t w6 (ht5.of_block fun a ha => c6.block _ ?_) htF (c6.below hb5 (by omega))
    obtain ⟨cs, hc⟩ := ht5.type ha
    exact Blk.apart hc hC5 (by decide)
end
end Go.Proofs

/-!
  ids: the document's Turn and Renumber; the law IdsRenumbers.
-/
namespace Go.Proofs
open Go.Gk Go.RowKit Go.Gm

theorem OwnPl.chgT {w w' : World} {B b : Nat} {s : Sl} {pl : List PI} {T : TypeId} {cs : List Value} (h : OwnPl w B s pl) (hB : Blk w b T cs) (h1 : T ≠ 45) (h2 : T ≠ 87) (c : Chg b w w') : OwnPl w' B s pl := by
  obtain ⟨hs, k1, k2, k3, k4⟩ := h
  refine ⟨hs, k1, k2.of_block fun a ha => ?_, k3, fun j hj hj' => ?_⟩
  · obtain ⟨cs', hc⟩ := k2.type ha
    exact c.block _ (Blk.apart hc hB h1.symm)
  · obtain ⟨t, e, k5, k6⟩ := k4 j hj hj'
    refine ⟨t, e, k5.of_block fun a ha => ?_, k6⟩
    obtain ⟨cs', hc⟩ := k5.type ha
    exact c.block _ (Blk.apart hc hB h2.symm)
section
variable {x : Mo} {pl : List PI} {w : World} {R : Value → World → Prop}
theorem SpoilC_spec {lo hi b : Nat} {g bd : Int} (hS : SpR w lo hi b (pl.map (·.2.2.2.length)) 0) (hlo : lo ≤ b) (hhi : b < hi) (hm : pl.length ≤ 9223372036854775807) (hp : PlOk pl)
    (hR : ∀ w', Fr w.heap.size (fun k => lo ≤ k ∧ k < hi) w w' → R (.tuple #[]) w') : callR Try.prog 16 #[moA (g, bd, ⟨some (blk b), pl.length, pl.length⟩, ())] w R := by
  have hns : (pl.map (·.2.2.2.length)).length = pl.length := List.length_map _
  have sp := SpoilM_spec (g := g) (bd := bd) (R := R) hS hlo hhi (by rw [hns]; exact hm) (fun n hn => by
    obtain ⟨p, hp', rfl⟩ := List.mem_map.1 hn
    have := hp.args p hp'
    omega) hR
  rwa [hns] at sp
theorem rTurn_spec {s : Sl} {T : List Int} (hN : IsPl w x.2.2.1 pl) (hp : PlOk pl) (hs : IsS (Value.int .u32) w s T) (hrng : ∀ n ∈ allP pl, 0 ≤ n ∧ n < T.length)
    (hR : ∀ t w', OwnPl w' w.heap.size t (turnP (toG T) pl) → Below w.heap.size w w' → R (moA (x.1, x.2.1, t, ())) w') : callR Try.prog 43 #[moA x, .slice s.a s.l s.c] w R := by
  refine callR.of (intaglioref09_Turn_calls x s R w ?_) fun _ _ h => h
  refine lay_of fun w1 hB1 b1 z1 => ?_
  have hB1 : Blk w1 w.heap.size 25 (moV x) := hB1
  refine lay_of fun w2 hC2 b2 z2 => ?_
  have hC2 : Blk w2 w1.heap.size 25 [.int .u32 0, .int .u32 0, .slice none 0 0] := hC2
  have hB2 := hB1.below b2
  refine hB2.rI0 (x := x.1) rfl (hB2.rI (n := 1) (x := x.2.1) rfl ?_)
  refine box3 rfl fun w6 hX6 b6 z6 => ?_
  have hX6 : Blk w6 w2.heap.size 25 (moV (x.1, x.2.1, ⟨none, 0, 0⟩, ())) := hX6
  have hb6 := (b1.on b2).on b6
  have hl := hN.len
  have h40 := hp.len
  refine LoopW.count pl.length hN.bound (fun k w' => Below w.heap.size w w' ∧ w6.heap.size ≤ w'.heap.size ∧ Blk w' w.heap.size 25 (moV x) ∧ Blk w' w1.heap.size 25 [.int .u32 0, .int .u32 0, .slice none 0 0] ∧
    ∃ r, Blk w' w2.heap.size 25 (moV (x.1, x.2.1, r, ())) ∧ OwnPl w' w.heap.size r (turnP (toG T) (pl.take k))) ⟨hb6, Nat.le_refl _, hB2.below b6, hC2.below b6, _, hX6, OwnPl.nil _ _⟩ ?_
  rintro k w7 hk ⟨hb, hz, hB, hC, r, hX, hO⟩ next hnext
  refine hB.rS (n := 2) (x := x.2.2.1) rfl (ifB_dec (fun h => ?_) (fun h => ?_))
  · have hlt : k < pl.length := by dsimp only at h; omega
    obtain ⟨m1, m2, m3⟩ := mem_all hlt
    have bd : Below w7.heap.size w7 w7.drew := (Below.refl _ _).drew
    refine hX.drew.rS (n := 2) (x := r) rfl (hB.drew.rS (n := 2) (x := x.2.2.1) rfl (elemPI (hN.below (hb.on bd)) hlt fun t ht => ?_))
    obtain ⟨r1, r2⟩ := hrng _ m1
    obtain ⟨r3, r4⟩ := hrng _ m2
    obtain ⟨ty, hty⟩ : ∃ n : Nat, pl[k].2.1 = (n : Int) := ⟨pl[k].2.1.toNat, by omega⟩
    obtain ⟨re, hre⟩ : ∃ n : Nat, pl[k].2.2.1 = (n : Int) := ⟨pl[k].2.2.1.toNat, by omega⟩
    have hti : turnI (toG T) pl[k] = (pl[k].1, T[ty]'(by omega), T[re]'(by omega), pl[k].2.2.2.map (turnA (toG T))) := by
      unfold turnI toG
      rw [hty, hre, Int.toNat_natCast, Int.toNat_natCast, getD_lt (show ty < T.length by omega), getD_lt (show re < T.length by omega)]
    rw [hty, hre]
    refine rTurned_spec (q := t) (ht) (hp.args _ (List.getElem_mem hlt)) (hs.below (hb.on bd)) (by omega) (by omega) (fun a ha e => hrng _ (m3 a ha e)) fun q w8 hq hqF b8 => ⟨(pl[k].1, T[ty]'(by omega), T[re]'(by omega), q, ()), rfl, ?_⟩
    have b78 := bd.on b8
    have hX8 := hX.below b78
    refine ⟨hX8.cell (n := 2) rfl, ?_⟩
    refine lay_of fun w9 hD9 b9 z9 => ?_
    have hD9 : Blk w9 w8.heap.size 45 (inV (mkIn (turnI (toG T) pl[k]) q)) := by rw [hti]; exact hD9
    have b79 := b78.on b9
    refine ⟨(hX8.below b9).cell (n := 2) rfl, ?_⟩
    have s7 := hb.size
    refine OwnPl.push (w0 := w) (p := turnI (toG T) pl[k]) (t := q) (hO.below b79) (hb.on b79) (by rw [hti]; exact hq.below b9) (fun a ha => by have := hqF a ha; have : w7.drew.heap.size = w7.heap.size := rfl; omega) hD9 (by rw [turnP_len, List.length_take]; omega) fun r' w10 hO10 hb10 hz10 hk10 => ?_
    rw [← turnP_succ _ hlt] at hO10
    have kb : ∀ {j cs}, Blk w7 j 25 cs → Blk w10 j 25 cs := fun hj => (hj.below b79).of_block (hk10 _ _ _ (hj.below b79) (by decide))
    have c11 := Chg.set w2.heap.size 2 w10 (.slice r'.a r'.l r'.c)
    have s79 := b79.size
    refine ⟨(kb hX).wr (n := 2) (by simp), Nw.mk (hnext _ hlt ⟨c11.below hb10 (by omega), by rw [c11.size]; omega, c11.blk (kb hB) (by omega), c11.blk (kb hC) (by omega), r', (kb hX).set 2 _, hO10.chgT (kb hX) (by decide) (by decide) c11⟩)⟩
  · have hk' : k = pl.length := by dsimp only at h; omega
    subst hk'
    rw [List.take_length] at hO
    refine Mo.load hX ?_
    refine st3 hC rfl fun w8 hC8 c8 => ?_
    refine Mo.load (x := (x.1, x.2.1, r, ())) hC8 ?_
    exact hR r w8 (hO.chgT hC (by decide) (by decide) c8) (c8.below hb (by omega))
theorem rRenumber_spec (hN : IsPl w x.2.2.1 pl) (hp : PlOk pl) (h0 : 0 ≤ x.2.1)
    (hR : ∀ (y : Mo) ql w', Below w.heap.size w w' → OwnPl w' w.heap.size y.2.2.1 ql → (y.1, y.2.1, ql) = rnbP x pl → R (.tuple #[moA y, .agg #[.int .i64 (chk9P x.2.1 pl).1, .int .i64 ((chk9P x.2.1 pl).2 : Int)]]) w') :
    callR Try.prog 14 #[moA x] w R := by
  refine callR.of (intaglioref09_Renumber_calls x R w ?_) fun _ _ h => h
  refine lay_of fun w1 hB1 b1 z1 => ?_
  have hB1 : Blk w1 w.heap.size 25 (moV x) := hB1
  refine lay_of fun w2 hM2 b2 z2 => ?_
  have hM2 : Blk w2 w1.heap.size 25 [.int .u32 0, .int .u32 0, .slice none 0 0] := hM2
  refine lay_of fun w3 hS3 b3 z3 => ?_
  have hS3 : Blk w3 w2.heap.size 29 [.int .i64 0, .int .i64 0] := hS3
  have b13 := b2.on b3
  have hb3 := b1.on b13
  refine Mo.load (hB1.below b13) ?_
  refine r9Check_spec (x := x) (hN.below hb3) hp fun w4 b4 => ⟨((chk9P x.2.1 pl).1, ((chk9P x.2.1 pl).2 : Int), ()), rfl, ?_⟩
  refine box2 rfl fun w7 h7 b7 z7 => ?_
  have s4 := b4.size
  have b37 := b4.on b7
  have hb7 := hb3.on b37
  have hB7 := (hB1.below b13).below b37
  have hM7 := (hM2.below b3).below b37
  have hS7 := hS3.below b37
  refine h7.rI0 rfl (ifB_bne (fun e => ?_) (fun e => ?_))
  · have e' : (chk9P x.2.1 pl).1 ≠ 0 := e
    refine Sp.load h7.drew ?_
    refine st3 hM7.drew rfl fun w8 hM8 c8 => ?_
    have h8 := c8.blk h7.drew (by omega)
    refine ⟨h8.cell (n := 0) rfl, h8.cell (n := 1) rfl, ?_⟩
    refine st2 (c8.blk hS7.drew (by omega)) rfl fun w9 hS9 c9 => ?_
    refine Mo.load (x := (0, 0, ⟨none, 0, 0⟩, ())) (c9.blk hM8 (by omega)) (Sp.load hS9 ?_)
    exact hR (0, 0, ⟨none, 0, 0⟩, ()) [] w9 (c9.below (c8.below hb7.drew (by omega)) (by omega)) (OwnPl.nil _ _) (by unfold rnbP; rw [if_pos e'])
  have e' : (chk9P x.2.1 pl).1 = 0 := e
  obtain ⟨k1, k2, k3⟩ := chk9_ok e'
  have hsh := lay_shape k2
  have nb := (shape_ok hsh).1
  have hrg := ids_range hp h0 hsh
  obtain ⟨n, hn⟩ : ∃ n : Nat, x.2.1 = (n : Int) := ⟨x.2.1.toNat, by omega⟩
  refine hB7.rI (n := 1) (x := x.2.1) rfl ?_
  rw [hn, wrap64_in (by omega) (by omega), Int.toNat_natCast]
  refine ⟨⟨by omega, by omega, by omega, by omega⟩, Nw.gen fun w8 e8 => ?_⟩
  have hD8 : Blk w8 w7.heap.size 22 ((List.replicate n (0 : Int)).map (Value.int .u32)) := by rw [e8, List.map_replicate]; exact Blk.made w7 _ _ _
  have b8 : Below w7.heap.size w7 w8 := by rw [e8]; exact (Below.refl _ _).alloc (Nat.le_refl _) _
  have z8 : w8.heap.size = w7.heap.size + 1 := by rw [e8]; simp
  clear e8
  have s7 := hb7.size
  have l1 := hM7.lt
  have l2 := hS7.lt
  have hl := hN.len
  have h40 := hp.len
  have hc0 : (0 : Int) = IntKind.u32.wrap ((cntP pl 0 : Nat) : Int) := by show (0 : Int) = IntKind.u32.wrap ((0 : Nat) : Int); decide
  refine LoopW.ghost (fun j (st : Int × Int × Unit) w' => ∃ k : Nat, k ≤ pl.length ∧ j = pl.length - k ∧ st.1 = IntKind.u32.wrap ((cntP pl k : Nat) : Int) ∧ st.2.1 = (k : Int) ∧ Below w.heap.size w w' ∧ w8.heap.size ≤ w'.heap.size ∧ Blk w' w.heap.size 25 (moV x) ∧ Blk w' w1.heap.size 25 [.int .u32 0, .int .u32 0, .slice none 0 0] ∧
    Blk w' w2.heap.size 29 [.int .i64 0, .int .i64 0] ∧ Blk w' w4.heap.size 29 [.int .i64 (chk9P x.2.1 pl).1, .int .i64 ((chk9P x.2.1 pl).2 : Int)] ∧ ∃ T : List Int, Blk w' w7.heap.size 22 (T.map (Value.int .u32)) ∧ T.length = n ∧ RtOk T pl k) pl.length
    ⟨0, Nat.zero_le _, rfl, hc0, rfl, hb7.on b8, Nat.le_refl _, hB7.below b8, hM7.below b8, hS7.below b8, h7.below b8, _, hD8, by simp, RtOk.start pl n⟩ ?_
  rintro _ ⟨cn, kk, _⟩ w9 ⟨k, hk, rfl, ecn, ek, hb, hz, hB, hM, hS, h4, T, hT, hTl, hRt⟩ next hnext
  dsimp only at ecn ek
  subst ecn ek
  refine hB.rS (n := 2) (x := x.2.2.1) rfl (ifB_dec (fun h => ?_) (fun h => ?_))
  · have hlt : k < pl.length := by dsimp only at h; omega
    have eix : ix pl k = pl[k] := ix_lt hlt
    obtain ⟨m1, m2, m3⟩ := mem_all hlt
    obtain ⟨r1, r2⟩ := hrg _ m2
    refine JoinW.cut (fun (st : Int × Unit) w' => st.1 = IntKind.u32.wrap ((cntP pl (k + 1) : Nat) : Int) ∧ Below w.heap.size w w' ∧ w8.heap.size ≤ w'.heap.size ∧ Blk w' w.heap.size 25 (moV x) ∧ Blk w' w1.heap.size 25 [.int .u32 0, .int .u32 0, .slice none 0 0] ∧
      Blk w' w2.heap.size 29 [.int .i64 0, .int .i64 0] ∧ Blk w' w4.heap.size 29 [.int .i64 (chk9P x.2.1 pl).1, .int .i64 ((chk9P x.2.1 pl).2 : Int)] ∧ ∃ T : List Int, Blk w' w7.heap.size 22 (T.map (Value.int .u32)) ∧ T.length = n ∧ RtOk T pl (k + 1)) ?_ ?_
    · refine hB.rS (n := 2) (x := x.2.2.1) rfl (elemPr (hN.below hb) hlt (ifB_bne (fun e0 => ?_) (fun e0 => ?_)))
      · refine hB.rS (n := 2) (x := x.2.2.1) rfl (elemPr (hN.below hb) hlt ?_)
        obtain ⟨re, hre⟩ : ∃ m : Nat, pl[k].2.2.1 = (m : Int) := ⟨pl[k].2.2.1.toNat, by omega⟩
        have hst := hRt.step (r := re) (by rw [eix, hre]) (by rw [eix]; exact e0)
        rw [hre, Int.toNat_natCast, wrapU32_wrap]
        have hcn : ((cntP pl k : Nat) : Int) + 1 = ((cntP pl (k + 1) : Nat) : Int) := by
          simp only [cntP]
          rw [if_pos (by rw [eix]; exact e0)]
          omega
        rw [hcn]
        have c10 := Chg.set w7.heap.size re w9 (.int .u32 (IntKind.u32.wrap ((cntP pl (k + 1) : Nat) : Int)))
        refine ⟨⟨by omega, by omega⟩, hT.wr (by rw [List.length_map]; omega), Nw.mk ⟨rfl, c10.below hb (by omega), by rw [c10.size]; omega, c10.blk hB (by omega), c10.blk hM (by omega), c10.blk hS (by omega), c10.blk h4 (by omega), _, ?_, ?_, hst⟩⟩
        · rw [List.map_set]; exact hT.set _ _
        · rw [List.length_set]; exact hTl
      · refine ⟨?_, hb, hz, hB, hM, hS, h4, T, hT, hTl, hRt.skip (by rw [eix]; exact e0)⟩
        simp only [cntP]
        rw [if_neg (fun g => g (by rw [eix]; exact e0))]
        rfl
    · rintro ⟨cn', _⟩ w10 ⟨e1, hb', hz', hB', hM', hS', h4', T', hT', hTl', hRt'⟩
      dsimp only at e1 ⊢
      subst e1
      rw [wrap64_succ (by omega)]
      exact hnext (pl.length - (k + 1)) _ _ (by omega) ⟨k + 1, hlt, rfl, rfl, rfl, hb', hz', hB', hM', hS', h4', T', hT', hTl', hRt'⟩
  · have hk' : k = pl.length := by dsimp only at h; omega
    subst hk'
    refine Mo.load hB ?_
    have hsl : IsS (Value.int .u32) w9 ⟨some (blk w7.heap.size), n, n⟩ T := hT.isS rfl (by rw [hTl]) (Nat.le_refl _) (by dsimp only; omega)
    refine rTurn_spec (x := x) (s := ⟨some (blk w7.heap.size), n, n⟩) (T := T) (hN.below hb) hp hsl (fun m hm => by have := hrg m hm; omega) fun t w10 hO10 b10 => ⟨(x.1, x.2.1, t, ()), rfl, ?_⟩
    refine box3 rfl fun w11 hY11 b11 z11 => ?_
    have b911 := b10.on b11
    have s10 := b10.size
    have c12 := Chg.set w10.heap.size 1 w11 (.int .u32 (bndP pl))
    rw [wrapU32_wrap, show IntKind.u32.wrap (((cntP pl pl.length : Nat) : Int) + 1) = bndP pl from rfl]
    refine ⟨hY11.wr (n := 1) (by simp), Nw.mk ?_⟩
    have hY12 : Blk _ w10.heap.size 25 (moV (x.1, bndP pl, t, ())) := hY11.set 1 (.int .u32 (bndP pl))
    have l4 := h4.lt
    have hM12 := c12.blk (hM.below b911) (by omega)
    have hS12 := c12.blk (hS.below b911) (by omega)
    have h412 := c12.blk (h4.below b911) (by omega)
    have hO12 := (hO10.below b11).chgT hY11 (by decide) (by decide) c12
    refine Mo.load hY12.drew (Sp.load h412.drew ?_)
    refine st3 hM12.drew rfl fun w13 hM13 c13 => ?_
    have h413 := c13.blk h412.drew (by omega)
    refine ⟨h413.cell (n := 0) rfl, h413.cell (n := 1) rfl, ?_⟩
    refine st2 (c13.blk hS12.drew (by omega)) rfl fun w14 hS14 c14 => ?_
    refine Mo.load (x := (x.1, bndP pl, t, ())) (c14.blk hM13 (by omega)) (Sp.load hS14 ?_)
    have hd : OwnPl (World.drew _) w9.heap.size t (turnP (toG T) pl) := hO12.below (Below.refl _ _).drew
    have hO14 := (hd.chg c13 (by omega)).chg c14 (by omega)
    have e2 : turnP (toG T) pl = newP pl := turnP_congr fun m hm => by
      obtain ⟨q1, q2⟩ := hrg m hm
      have := hRt.look m.toNat (by omega)
      unfold toG
      rw [getD_lt (by omega), this, show ((m.toNat : Nat) : Int) = m by omega]
    rw [e2] at hO14
    have hb14 := c14.below (c13.below (c12.below (hb.on b911) (by omega)).drew (by omega)) (by omega)
    exact hR (x.1, bndP pl, t, ()) (newP pl) w14 hb14 (hO14.lower (by omega)) (by unfold rnbP; rw [if_neg (fun h => h e')])

end
end Go.Proofs
