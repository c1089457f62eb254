/-
  Part 6 of what GraphRenamed is proved by: functions walked, and what they come to.
-/
import Derived.Test.YtogccbelnfgfhaaPGraphRenamed5
namespace Go.Proofs
open Go.Gk Go.RowKit Go.Gm

/-- What Renumber comes to. -/
def rnbP (x : Mo) (pl : List PI) : Int × Int × List PI := if (chk9P x.2.1 pl).1 ≠ 0 then (0, 0, []) else (x.1, bndP pl, newP pl)
section
variable {x : Mo} {pl : List PI} {w : World} {R : Value → World → Prop}
theorem Renumber_spec (hN : IsPl w x.2.2.1 pl) (hp : PlOk pl)
    (hR : ∀ (y : Mo) ql w', Below w.heap.size w w' → OwnPl w' w.heap.size y.2.2.1 ql → (y.1, y.2.1, ql) = rnbP x pl → R (.tuple #[moA y, .agg #[.int .i64 (chk9P x.2.1 pl).1, .int .i64 ((chk9P x.2.1 pl).2 : Int)]]) w') :
    callR Try.prog 15 #[moA x] w R := by
  refine callR.of (ids_Renumber_calls x R w ?_) fun _ _ h => h
  refine lay_of fun w1 hB1 b1 z1 => ?_
  have hB1 : Blk w1 w.heap.size 25 (moV x) := hB1
  refine lay_of fun w2 hM2 b2 z2 => ?_
  have hM2 : Blk w2 w1.heap.size 25 [.int .u32 0, .int .u32 0, .slice none 0 0] := hM2
  refine lay_of fun w3 hS3 b3 z3 => ?_
  have hS3 : Blk w3 w2.heap.size 29 [.int .i64 0, .int .i64 0] := hS3
  have b13 := b2.on b3
  have hb3 := b1.on b13
  refine Mo.load (hB1.below b13) ?_
  refine Check_spec (x := x) (hN.below hb3) hp fun w4 b4 => ⟨((chk9P x.2.1 pl).1, ((chk9P x.2.1 pl).2 : Int), ()), rfl, ?_⟩
  refine box2 rfl fun w7 h7 b7 z7 => ?_
  have s4 := b4.size
  have b37 := b4.on b7
  have hb7 := hb3.on b37
  have hB7 := (hB1.below b13).below b37
  have hM7 := (hM2.below b3).below b37
  have hS7 := hS3.below b37
  refine h7.rI0 rfl (ifB_bne (fun e => ?_) (fun e => ?_))
  · have e' : (chk9P x.2.1 pl).1 ≠ 0 := e
    refine Sp.load h7.drew ?_
    refine st3 hM7.drew rfl fun w8 hM8 c8 => ?_
    have h8 := c8.blk h7.drew (by omega)
    refine ⟨h8.cell (n := 0) rfl, h8.cell (n := 1) rfl, ?_⟩
    refine st2 (c8.blk hS7.drew (by omega)) rfl fun w9 hS9 c9 => ?_
    refine Mo.load (x := (0, 0, ⟨none, 0, 0⟩, ())) (c9.blk hM8 (by omega)) (Sp.load hS9 ?_)
    exact hR (0, 0, ⟨none, 0, 0⟩, ()) [] w9 (c9.below (c8.below hb7.drew (by omega)) (by omega)) (OwnPl.nil _ _) (by unfold rnbP; rw [if_pos e'])
  have e' : (chk9P x.2.1 pl).1 = 0 := e
  obtain ⟨k1, k2, k3⟩ := chk9_ok e'
  refine Nw.gen fun w8 e8 => ?_
  have m8 : IsMp w8 w7.heap.size .u32 [] := by rw [e8]; exact IsMp.new _ _
  have b8 : Below w7.heap.size w7 w8 := by rw [e8]; exact (Below.refl _ _).alloc (Nat.le_refl _) _
  have z8 : w8.heap.size = w7.heap.size + 1 := by rw [e8]; simp
  clear e8
  refine updW_of uMap uU32 m8 fun w9 m9 c9 => ?_
  have z9 := c9.size
  refine Nw.gen fun w10 e10 => ?_
  have hP10 : Blk w10 w9.heap.size 97 [.map none] := by rw [e10]; exact Blk.new _ _ _
  have b10 : Below w9.heap.size w9 w10 := by rw [e10]; exact (Below.refl _ _).alloc (Nat.le_refl _) _
  have z10 : w10.heap.size = w9.heap.size + 1 := by rw [e10]; simp
  clear e10
  refine ⟨hP10.wr0 (by simp), Nw.gen fun w11 e11 => ?_⟩
  have c11 : Chg w9.heap.size w10 w11 := by rw [e11]; exact Chg.set w9.heap.size 0 w10 _
  have hP11 : Blk w11 w9.heap.size 97 [.map (some w7.heap.size)] := by rw [e11]; exact hP10.set0 _
  clear e11
  have m11 := (m9.below b10).of_block (c11.block _ (by omega))
  have hb11 : Below w.heap.size w w11 := c11.below ((c9.below (hb7.on b8) (by have := hb7.size; omega)).on b10) (by have := hb7.size; omega)
  have up : ∀ {k T cs}, k < w7.heap.size → Blk w7 k T cs → Blk w11 k T cs := fun hk h => c11.blk ((c9.blk (h.below b8) (by omega)).below b10) (by omega)
  have hB11 := up (by have := hB7.lt; omega) hB7
  have hM11 := up (by have := hM7.lt; omega) hM7
  have hS11 := up (by have := hS7.lt; omega) hS7
  have z11 := c11.size
  have s7 := hb7.size
  refine hB11.rS (n := 2) (x := x.2.2.1) rfl ?_
  have hl := hN.len
  have h40 := hp.len
  refine LoopW.count pl.length hN.bound (fun k w' => Below w.heap.size w w' ∧ w11.heap.size ≤ w'.heap.size ∧ Blk w' w.heap.size 25 (moV x) ∧ Blk w' w1.heap.size 25 [.int .u32 0, .int .u32 0, .slice none 0 0] ∧ Blk w' w2.heap.size 29 [.int .i64 0, .int .i64 0] ∧
    Blk w' w9.heap.size 97 [.map (some w7.heap.size)] ∧ ∃ L, IsMp w' w7.heap.size .u32 L ∧ RnOk L pl k) ⟨hb11, Nat.le_refl _, hB11, hM11, hS11, hP11, _, m11, RnOk.start pl⟩ ?_
  rintro k w12 hk ⟨hb, hz, hB, hM, hS, hP, L, hL, hRn⟩ next hnext
  refine ifB_dec (fun h => ?_) (fun h => ?_)
  · have hlt : k < pl.length := by dsimp only at h; omega
    have eix : ix pl k = pl[k] := ix_lt hlt
    refine JoinW.cut (fun _ w' => Below w.heap.size w w' ∧ w11.heap.size ≤ w'.heap.size ∧ Blk w' w.heap.size 25 (moV x) ∧ Blk w' w1.heap.size 25 [.int .u32 0, .int .u32 0, .slice none 0 0] ∧ Blk w' w2.heap.size 29 [.int .i64 0, .int .i64 0] ∧
      Blk w' w9.heap.size 97 [.map (some w7.heap.size)] ∧ ∃ L, IsMp w' w7.heap.size .u32 L ∧ RnOk L pl (k + 1)) ?_ (fun _ w' hP => hnext w' hlt hP)
    refine elemPI (hN.below hb) hlt fun t ht => ?_
    refine box4 rfl fun w13 hI13 b13' z13 => ?_
    have hI13 : Blk w13 w12.heap.size 48 (inV (mkIn pl[k] t)) := hI13
    have hb13 := hb.on b13'
    have hP13 := hP.below b13'
    have hL13 := hL.below b13'
    have s13 := b13'.size
    refine hI13.rI (n := 2) (x := pl[k].2.2.1) rfl (ifB_bne (fun e0 => ?_) (fun e0 => ?_))
    · refine hP13.rM0 rfl (hI13.rI (n := 2) (x := pl[k].2.2.1) rfl (hP13.rM0 rfl (lenW_of uMap hL13 ?_)))
      refine updW_of uMap uU32 hL13 fun w14 m14 c14 => ?_
      have hst := hRn.step (by rw [eix]; exact e0) (fun j hj => flt_new (k3 k hlt) (by rw [eix]; exact e0) j hj (by omega))
      rw [eix] at hst
      have s14 := c14.size
      exact ⟨c14.below hb13 (by omega), by omega, c14.blk (hB.below b13') (by omega), c14.blk (hM.below b13') (by have := hM7.lt; omega), c14.blk (hS.below b13') (by have := hS7.lt; omega), c14.blk hP13 (by omega), _, m14, hst⟩
    · exact ⟨hb13, by omega, hB.below b13', hM.below b13', hS.below b13', hP13, L, hL13, hRn.skip (by rw [eix]; exact e0)⟩
  · have hk' : k = pl.length := by dsimp only at h; omega
    subst hk'
    refine Mo.load hB ?_
    have hcf : Try.fs.contains 35 = true := by kernel_rfl
    refine turned_spec (x := x) (g := rnP pl pl.length) (hN.below hb) hp (fun w' hb' n hn => ?_) fun s w13 hO13 b13' => ⟨(x.1, x.2.1, s, ()), rfl, ?_⟩
    · unfold callV
      simp only [hcf]
      refine callR.of (ids_Renumber_1_calls n (blk w9.heap.size) _ w' ?_) fun _ _ h => h
      refine (hP.below hb').rM0 rfl (lookV_of uMap uU32 zU32 (hL.below hb') ?_)
      exact ⟨by rw [hRn.look], Below.refl _ _⟩
    have s13 := b13'.size
    have hB13 := hB.below b13'
    have hM13 := hM.below b13'
    have hS13 := hS.below b13'
    have hP13 := hP.below b13'
    have hL13 := hL.below b13'
    have hb13 := hb.on b13'
    have hlt1 := hM7.lt
    have hlt2 := hS7.lt
    refine st3 hB13 rfl fun w14 hB14 c14 => ?_
    refine (c14.blk hP13 (by omega)).rM0 rfl (lenW_of uMap (hL13.of_block (c14.block _ (by omega))) ?_)
    have c15 := Chg.set w.heap.size 1 w14 (.int .u32 (IntKind.u32.wrap (L.length : Int)))
    refine ⟨hB14.wr (n := 1) (by simp), Nw.mk ?_⟩
    have hB15 : Blk _ w.heap.size 25 (moV (x.1, IntKind.u32.wrap (L.length : Int), s, ())) := hB14.set 1 (.int .u32 (IntKind.u32.wrap (L.length : Int)))
    refine Mo.load hB15 ?_
    refine st3 (c15.blk (c14.blk hM13 (by omega)) (by omega)) rfl fun w16 hM16 c16 => ?_
    refine st2 (c16.blk (c15.blk (c14.blk hS13 (by omega)) (by omega)) (by omega)) rfl fun w17 hS17 c17 => ?_
    refine Mo.load (x := (x.1, IntKind.u32.wrap (L.length : Int), s, ())) (c17.blk hM16 (by omega)) (Sp.load hS17 ?_)
    have hO17 := (((hO13.chg c14 (by omega)).chg c15 (by omega)).chg c16 (by omega)).chg c17 (by omega)
    have hb17 := c17.below (c16.below (c15.below (c14.below hb13 (Nat.le_refl _)) (Nat.le_refl _)) (by omega)) (by omega)
    have := hR (x.1, IntKind.u32.wrap (L.length : Int), s, ()) (newP pl) w17 hb17 (hO17.lower (by omega)) (by
      unfold rnbP
      rw [if_neg (fun h => h e'), hRn.len]
      rfl)
    rw [k1] at this
    exact this

end
end Go.Proofs

namespace Go.Proofs
open Go.Gk Go.RowKit Go.Gm

end Go.Proofs
namespace Go.Proofs
open Go.Gk Go.RowKit Go.Gm

theorem PlOk.turn {g : Int → Int} {pl : List PI} (h : PlOk pl) (hg : ∀ n ∈ allP pl, 0 ≤ g n ∧ g n ≤ 4294967295) : PlOk (turnP g pl) := by
  have get : ∀ p ∈ turnP g pl, ∃ q ∈ pl, p = turnI g q := fun p hp => by
    obtain ⟨q, hq, e⟩ := List.mem_map.1 hp
    exact ⟨q, hq, e.symm⟩
  refine ⟨by rw [turnP_len]; exact h.len, fun p hp => ?_, fun p hp x hx => ?_, fun p hp => ?_⟩
  · obtain ⟨q, hq, rfl⟩ := get p hp
    have := h.args q hq
    unfold turnI
    dsimp only
    rw [List.length_map]
    exact this
  · obtain ⟨q, hq, rfl⟩ := get p hp
    obtain ⟨y, hy, rfl⟩ := List.mem_map.1 hx
    rw [turnA_t]
    exact h.text q hq y hy
  · obtain ⟨q, hq, rfl⟩ := get p hp
    refine ⟨hg _ (mem_allI hq (by simp [allI])), hg _ (mem_allI hq (by simp [allI])), fun x hx => ?_⟩
    obtain ⟨y, hy, rfl⟩ := List.mem_map.1 hx
    by_cases e : y.1 = 1
    · rw [turnA_id g e]
      refine hg _ (mem_allI hq ?_)
      simp only [allI, List.mem_cons]
      right; right
      exact List.mem_map.2 ⟨y, List.mem_filter.2 ⟨hy, by simp [e]⟩, rfl⟩
    · rw [turnA_no g e]
      exact (h.nums q hq).2.2 y hy
theorem TurnOk.plOk {g : Int → Int} {pl : List PI} {b' : Int} (h : TurnOk g pl b') (hp : PlOk pl) : PlOk (turnP g pl) := by
  refine hp.turn fun n hn => ?_
  have hb := h.pos
  by_cases e : n = 0
  · rw [e, h.zero]; omega
  · have := h.rng n hn e
    omega
section
variable {x : Mo} {pl : List PI} {w : World} {R : Value → World → Prop} {s : Sl} {T : List Int}
theorem boxMS {y : Mo} {e a : Int} {K : World → World → Prop} (hK : ∀ w1 w', w1.heap.size = w.heap.size + 1 → Blk w' w.heap.size 25 (moV y) → Blk w' w1.heap.size 29 [.int .i64 e, .int .i64 a] → Below w.heap.size w w' → w'.heap.size = w.heap.size + 2 → K w1 w') :
    Nw (w.alloc (.cells #[(.int .u32 (0 : Int)), (.int .u32 (0 : Int)), (.slice none 0 0)] 25)) fun w1 =>
    Nw (w1.alloc (.cells #[(.int .i64 (0 : Int)), (.int .i64 (0 : Int))] 29)) fun w2 =>
    Wr w2 (blk w.heap.size) ∧ Nw (w2.setCell (blk w.heap.size) (.int .u32 y.1)) fun w3 =>
    Wr w3 ((blk w.heap.size).add 1) ∧ Nw (w3.setCell ((blk w.heap.size).add 1) (.int .u32 y.2.1)) fun w4 =>
    Wr w4 ((blk w.heap.size).add 2) ∧ Nw (w4.setCell ((blk w.heap.size).add 2) (.slice y.2.2.1.a y.2.2.1.l y.2.2.1.c)) fun w5 =>
    Wr w5 (blk w1.heap.size) ∧ Nw (w5.setCell (blk w1.heap.size) (.int .i64 e)) fun w6 =>
    Wr w6 ((blk w1.heap.size).add 1) ∧ Nw (w6.setCell ((blk w1.heap.size).add 1) (.int .i64 a)) fun w7 => K w1 w7 := by
  refine lay_of fun w1 hM1 b1 z1 => ?_
  refine lay_of fun w2 hS2 b2 z2 => ?_
  refine st3 (hM1.below b2) rfl fun w3 hM3 c3 => ?_
  refine st2 (c3.blk hS2 (by omega)) rfl fun w5 hS5 c5 => ?_
  exact hK w1 w5 z1 (c5.blk hM3 (by omega)) hS5 (c5.below (c3.below (b1.on b2) (Nat.le_refl _)) (by omega)) (by rw [c5.size, c3.size]; omega)
theorem None_spec (hR : ∀ w', Below w.heap.size w w' → R (.bool true) w') (h1 : x.1 = 0) (h2 : x.2.1 = 0) (h3 : x.2.2.1.l = 0) : callR Try.prog 16 #[moA x] w R := by
  refine callR.of (intagliokit_None_calls x R w ?_) fun _ _ h => h
  refine lay_of fun w1 hB1 b1 z1 => ?_
  have hB1 : Blk w1 w.heap.size 25 (moV x) := hB1
  refine hB1.rI0 (x := x.1) rfl (ifB_beq (fun _ => ?_) (fun e => absurd h1 e))
  refine hB1.rI (n := 1) (x := x.2.1) rfl (ifB_beq (fun _ => ?_) (fun e => absurd h2 e))
  refine hB1.rS (n := 2) (x := x.2.2.1) rfl ?_
  have := hR w1 b1
  rw [h3]
  exact this

theorem rnb_none (h : (chk9P x.2.1 pl).1 ≠ 0) : rnbP x pl = (0, 0, []) := by unfold rnbP; rw [if_pos h]
theorem rnb_some (h : chk9P x.2.1 pl = (0, 0)) : rnbP x pl = (x.1, bndP pl, newP pl) := by unfold rnbP; rw [if_neg (by rw [h]; simp)]
end
end Go.Proofs
namespace Go.Proofs
open Go.Gk Go.RowKit Go.Gm Go.Gr

section
variable {x : Mo} {pl : List PI} {w : World} {R : Value → World → Prop} {v : Fv} {f : FnL}
/-- What graph.New of a copied module comes to. -/
def NewR (x : Mo) (pl : List PI) (f : FnL) (w0 : World) (st : (Option Addr) × Sl × Addr × Unit) (w' : World) : Prop :=
  ∃ (p : Option Addr) (ms : Sl) (sb : Nat), st = (p, ms, blk sb, ()) ∧ Blk w' sb 29 [.int .i64 (gnwE x pl f).1, .int .i64 (gnwE x pl f).2] ∧ GP w' p (nxE x pl f) ∧ IsM w' ms (mvE x pl f) ∧ Below w0.heap.size w0 w'
/-- graph.New of a copied module, in whatever order. -/
theorem newReg {bm : Nat} {c0 c1 c2 c3 c4 : Addr} (hB : Blk w bm 25 (moV x)) (hN : IsPl w x.2.2.1 pl) (hp : PlOk pl) (h0 : 0 ≤ x.2.1) (hF : IsFn w v f)
    (k0 : w.cell? c0 = some (.int .u32 v.1)) (k1 : w.cell? c1 = some (.int .i64 v.2.1)) (k2 : w.cell? c2 = some (.slice v.2.2.1.a v.2.2.1.l v.2.2.1.c)) (k3 : w.cell? c3 = some (.slice v.2.2.2.1.a v.2.2.2.1.l v.2.2.2.1.c)) (k4 : w.cell? c4 = some (.int .i64 v.2.2.2.2.1))
    {M : (Option Addr) × Sl × Addr × Unit → World → Prop}
    (hM : ∀ w' p ms sb, Below w.heap.size w w' → Blk w' sb 29 [.int .i64 (gnwE x pl f).1, .int .i64 (gnwE x pl f).2] → GP w' p (nxE x pl f) → IsM w' ms (mvE x pl f) → M (p, ms, blk sb, ()) w') :
    (callR Try.prog 6 #[(.agg #[(.int .u32 x.1), (.int .u32 x.2.1), (.slice x.2.2.1.a x.2.2.1.l x.2.2.1.c)])] w fun v50 w25 =>
    ∃ x51 : (Int × Int × Sl × Unit), v50 = (.agg #[(.int .u32 x51.1), (.int .u32 x51.2.1), (.slice x51.2.2.1.a x51.2.2.1.l x51.2.2.1.c)]) ∧
    w25.cell? c0 = some (.int .u32 v.1) ∧
    w25.cell? c1 = some (.int .i64 v.2.1) ∧
    w25.cell? c2 = some (.slice v.2.2.1.a v.2.2.1.l v.2.2.1.c) ∧
    w25.cell? c3 = some (.slice v.2.2.2.1.a v.2.2.2.1.l v.2.2.2.1.c) ∧
    w25.cell? c4 = some (.int .i64 v.2.2.2.2.1) ∧
    (callR Try.prog 7 #[(.agg #[(.int .u32 x51.1), (.int .u32 x51.2.1), (.slice x51.2.2.1.a x51.2.2.1.l x51.2.2.1.c)]), (.agg #[(.int .u32 v.1), (.int .i64 v.2.1), (.slice v.2.2.1.a v.2.2.1.l v.2.2.1.c), (.slice v.2.2.2.1.a v.2.2.2.1.l v.2.2.2.1.c), (.int .i64 v.2.2.2.2.1)])] w25 fun v52 w26 =>
    ∃ x53 : Option Addr, ∃ x54 : Sl, ∃ x55 : (Int × Int × Unit), v52 = (.tuple #[(.pointer x53), (.slice x54.a x54.l x54.c), (.agg #[(.int .i64 x55.1), (.int .i64 x55.2.1)])]) ∧
    Nw (w26.alloc (.cells #[(.int .i64 (0 : Int)), (.int .i64 (0 : Int))] 29)) fun w27 =>
    Wr w27 (blk w26.heap.size) ∧
    Nw (w27.setCell (blk w26.heap.size) (.int .i64 x55.1)) fun w28 =>
    Wr w28 ((blk w26.heap.size).add 1) ∧
    Nw (w28.setCell ((blk w26.heap.size).add 1) (.int .i64 x55.2.1)) fun w29 =>
    M (x53, x54, (blk w26.heap.size), ()) w29) ∧
    Nw (w25.alloc (.cells #[(.int .i64 (0 : Int)), (.int .i64 (0 : Int))] 29)) fun w30 =>
    w30.cell? c0 = some (.int .u32 v.1) ∧
    w30.cell? c1 = some (.int .i64 v.2.1) ∧
    w30.cell? c2 = some (.slice v.2.2.1.a v.2.2.1.l v.2.2.1.c) ∧
    w30.cell? c3 = some (.slice v.2.2.2.1.a v.2.2.2.1.l v.2.2.2.1.c) ∧
    w30.cell? c4 = some (.int .i64 v.2.2.2.2.1) ∧
    callR Try.prog 7 #[(.agg #[(.int .u32 x51.1), (.int .u32 x51.2.1), (.slice x51.2.2.1.a x51.2.2.1.l x51.2.2.1.c)]), (.agg #[(.int .u32 v.1), (.int .i64 v.2.1), (.slice v.2.2.1.a v.2.2.1.l v.2.2.1.c), (.slice v.2.2.2.1.a v.2.2.2.1.l v.2.2.2.1.c), (.int .i64 v.2.2.2.2.1)])] w30 fun v56 w31 =>
    ∃ x57 : Option Addr, ∃ x58 : Sl, ∃ x59 : (Int × Int × Unit), v56 = (.tuple #[(.pointer x57), (.slice x58.a x58.l x58.c), (.agg #[(.int .i64 x59.1), (.int .i64 x59.2.1)])]) ∧
    Wr w31 (blk w25.heap.size) ∧
    Nw (w31.setCell (blk w25.heap.size) (.int .i64 x59.1)) fun w32 =>
    Wr w32 ((blk w25.heap.size).add 1) ∧
    Nw (w32.setCell ((blk w25.heap.size).add 1) (.int .i64 x59.2.1)) fun w33 =>
    M (x57, x58, (blk w25.heap.size), ()) w33) ∧
    Nw (w.alloc (.cells #[(.int .i64 (0 : Int)), (.int .i64 (0 : Int))] 29)) fun w34 =>
    w34.cell? c0 = some (.int .u32 v.1) ∧
    w34.cell? c1 = some (.int .i64 v.2.1) ∧
    w34.cell? c2 = some (.slice v.2.2.1.a v.2.2.1.l v.2.2.1.c) ∧
    w34.cell? c3 = some (.slice v.2.2.2.1.a v.2.2.2.1.l v.2.2.2.1.c) ∧
    w34.cell? c4 = some (.int .i64 v.2.2.2.2.1) ∧
    w34.cell? ((blk bm).add 0) = some (.int .u32 x.1) ∧
    w34.cell? ((blk bm).add 1) = some (.int .u32 x.2.1) ∧
    w34.cell? ((blk bm).add 2) = some (.slice x.2.2.1.a x.2.2.1.l x.2.2.1.c) ∧
    callR Try.prog 6 #[(.agg #[(.int .u32 x.1), (.int .u32 x.2.1), (.slice x.2.2.1.a x.2.2.1.l x.2.2.1.c)])] w34 fun v60 w35 =>
    ∃ x61 : (Int × Int × Sl × Unit), v60 = (.agg #[(.int .u32 x61.1), (.int .u32 x61.2.1), (.slice x61.2.2.1.a x61.2.2.1.l x61.2.2.1.c)]) ∧
    w35.cell? c0 = some (.int .u32 v.1) ∧
    w35.cell? c1 = some (.int .i64 v.2.1) ∧
    w35.cell? c2 = some (.slice v.2.2.1.a v.2.2.1.l v.2.2.1.c) ∧
    w35.cell? c3 = some (.slice v.2.2.2.1.a v.2.2.2.1.l v.2.2.2.1.c) ∧
    w35.cell? c4 = some (.int .i64 v.2.2.2.2.1) ∧
    callR Try.prog 7 #[(.agg #[(.int .u32 x61.1), (.int .u32 x61.2.1), (.slice x61.2.2.1.a x61.2.2.1.l x61.2.2.1.c)]), (.agg #[(.int .u32 v.1), (.int .i64 v.2.1), (.slice v.2.2.1.a v.2.2.1.l v.2.2.1.c), (.slice v.2.2.2.1.a v.2.2.2.1.l v.2.2.2.1.c), (.int .i64 v.2.2.2.2.1)])] w35 fun v62 w36 =>
    ∃ x63 : Option Addr, ∃ x64 : Sl, ∃ x65 : (Int × Int × Unit), v62 = (.tuple #[(.pointer x63), (.slice x64.a x64.l x64.c), (.agg #[(.int .i64 x65.1), (.int .i64 x65.2.1)])]) ∧
    Wr w36 (blk w.heap.size) ∧
    Nw (w36.setCell (blk w.heap.size) (.int .i64 x65.1)) fun w37 =>
    Wr w37 ((blk w.heap.size).add 1) ∧
    Nw (w37.setCell ((blk w.heap.size).add 1) (.int .i64 x65.2.1)) fun w38 =>
    M (x63, x64, (blk w.heap.size), ()) w38 := by
  have gn : ∀ {w'} (ca : Nat) {R' : Value → World → Prop}, Below w.heap.size w w' → IsPl w' ⟨some (blk ca), pl.length, pl.length⟩ pl → (∀ w'' p ms, Below w'.heap.size w' w'' → GP w'' p (nxE x pl f) → IsM w'' ms (mvE x pl f) → R' (.tuple #[.pointer p, .slice ms.a ms.l ms.c, .agg #[.int .i64 (gnwE x pl f).1, .int .i64 (gnwE x pl f).2]]) w'') →
      callR Try.prog 7 #[moA (x.1, x.2.1, ⟨some (blk ca), pl.length, pl.length⟩, ()), fvA v] w' R' := fun {w'} ca {R'} hb hC hR' => by
    refine gNew_all (x := (x.1, x.2.1, ⟨some (blk ca), pl.length, pl.length⟩, ())) (v := v) (f := f) hC hp h0 (hF.below hb) fun w'' p ms hb' hG hM => ?_
    exact hR' w'' p ms hb' hG hM
  have kp : ∀ {w'}, Below w.heap.size w w' → w'.cell? c0 = some (.int .u32 v.1) ∧ w'.cell? c1 = some (.int .i64 v.2.1) ∧ w'.cell? c2 = some (.slice v.2.2.1.a v.2.2.1.l v.2.2.1.c) ∧ w'.cell? c3 = some (.slice v.2.2.2.1.a v.2.2.2.1.l v.2.2.2.1.c) ∧ w'.cell? c4 = some (.int .i64 v.2.2.2.2.1) := fun hb =>
    ⟨cell_keep hb k0, cell_keep hb k1, cell_keep hb k2, cell_keep hb k3, cell_keep hb k4⟩
  refine ⟨?_, ?_⟩
  · refine CopyModule_spec (x := x) hN hp fun cb w15 _ _ hC15 b15 => ⟨(x.1, x.2.1, ⟨some (blk cb), pl.length, pl.length⟩, ()), rfl, ?_⟩
    obtain ⟨g0, g1, g2, g3, g4⟩ := kp b15
    refine ⟨g0, g1, g2, g3, g4, ?_, ?_⟩
    · refine gn cb b15 hC15 fun w16 p ms b16 hG hM' => ⟨p, ms, ((gnwE x pl f).1, (gnwE x pl f).2, ()), rfl, ?_⟩
      refine box2 rfl fun w19 hS19 b19 z19 => hM w19 p ms w16.heap.size ((b15.on b16).on b19) hS19 (hG.below b19) (IsC.below mgV_len hM' b19)
    · refine lay_of fun w20 hD20 b20 z20 => ?_
      have hD20 : Blk w20 w15.heap.size 29 [.int .i64 0, .int .i64 0] := hD20
      have b1420 := b15.on b20
      obtain ⟨g0, g1, g2, g3, g4⟩ := kp b1420
      refine ⟨g0, g1, g2, g3, g4, ?_⟩
      refine gn cb b1420 (hC15.below b20) fun w21 p ms b21 hG hM' => ⟨p, ms, ((gnwE x pl f).1, (gnwE x pl f).2, ()), rfl, ?_⟩
      have hD21 := hD20.below b21
      refine st2 hD21 rfl fun w23 hS23 c23 => ?_
      obtain ⟨q1, q2⟩ := new_spot c23 hD21 hS23 hG hM'
      exact hM w23 p ms w15.heap.size (c23.below (b1420.on b21) b15.size) hS23 q1 q2
  · refine lay_of fun w24 hD24 b24 z24 => ?_
    have hD24 : Blk w24 w.heap.size 29 [.int .i64 0, .int .i64 0] := hD24
    have hB24 := hB.below b24
    obtain ⟨g0, g1, g2, g3, g4⟩ := kp b24
    refine ⟨g0, g1, g2, g3, g4, hB24.cell (n := 0) rfl, hB24.cell (n := 1) rfl, hB24.cell (n := 2) rfl, ?_⟩
    refine CopyModule_spec (x := x) (hN.below b24) hp fun cb w25 _ _ hC25 b25 => ⟨(x.1, x.2.1, ⟨some (blk cb), pl.length, pl.length⟩, ()), rfl, ?_⟩
    have b1425 := b24.on b25
    obtain ⟨g0, g1, g2, g3, g4⟩ := kp b1425
    refine ⟨g0, g1, g2, g3, g4, ?_⟩
    refine gn cb b1425 hC25 fun w26 p ms b26' hG hM' => ⟨p, ms, ((gnwE x pl f).1, (gnwE x pl f).2, ()), rfl, ?_⟩
    have hD26 := (hD24.below b25).below b26'
    refine st2 hD26 rfl fun w28 hS28 c28 => ?_
    obtain ⟨q1, q2⟩ := new_spot c28 hD26 hS28 hG hM'
    exact hM w28 p ms w.heap.size (c28.below (b1425.on b26') (Nat.le_refl _)) hS28 q1 q2
theorem elemFnC {fs : Sl} {L : List Fe} (h : Fns w fs L) {k : Nat} (hk : k < L.length) {φ : Addr → Int → Int → Sl → Sl → Int → Prop}
    (hφ : ∀ a, (∀ j u, j < 5 → (feV L[k])[j]? = some u → w.cell? ((a.add (Int.toNat (k : Int) * 5)).add j) = some u) → φ a L[k].1.id L[k].1.at_ L[k].2.1 L[k].2.2 L[k].1.en) :
    (0 ≤ (k : Int) ∧ (k : Int) < (fs.l : Int)) ∧ derefP fs.a fun a => ldI w ((a.add (Int.toNat (k : Int) * 5)).add 0) .u32 fun x1 => ldI w ((a.add (Int.toNat (k : Int) * 5)).add 1) .i64 fun x2 => ldS w ((a.add (Int.toNat (k : Int) * 5)).add 2) fun x3 => ldS w ((a.add (Int.toNat (k : Int) * 5)).add 3) fun x4 => ldI w ((a.add (Int.toNat (k : Int) * 5)).add 4) .i64 fun x5 => φ a x1 x2 x3 x4 x5 := by
  have hc : IsC 5 feV w fs L := Own.isC feV_len (by omega) h.own
  obtain ⟨a, ha⟩ := hc.base hk
  have hcell : ∀ j u, j < 5 → (feV L[k])[j]? = some u → w.cell? ((a.add (Int.toNat (k : Int) * 5)).add j) = some u := fun j u hj hu => by rw [add_add']; exact (hc.cell a ha k hk j hj).trans hu
  exact ⟨⟨by omega, by have := h.len; omega⟩, derefP_some ha ⟨_, hcell 0 _ (by omega) rfl, _, hcell 1 _ (by omega) rfl, _, hcell 2 _ (by omega) rfl, _, hcell 3 _ (by omega) rfl, _, hcell 4 _ (by omega) rfl, hφ a hcell⟩⟩
theorem TurnOk.nxE {g : Int → Int} {y : Mo} (h : TurnOk g pl y.2.1) (hs : (shapeP x.2.1 pl).1 = 0) (hl : (layP x.2.1 pl).1 = 0) (hf : f ∈ cutF pl pl.length) :
    gnwE y (turnP g pl) (turnF g f) = gnwE x pl f ∧ Go.Proofs.nxE y (turnP g pl) (turnF g f) = Go.Proofs.nxE x pl f ∧ mvE y (turnP g pl) (turnF g f) = mvE x pl f := by
  have e := h.gnw (x := x) hs hl hf
  obtain ⟨r1, r2⟩ := h.rows hs (cut_ok hl f hf)
  refine ⟨e, ?_, ?_⟩
  · unfold Go.Proofs.nxE
    rw [e, r1]
  · unfold mvE
    rw [e, r2]
set_option maxHeartbeats 1000000 in
theorem GraphRenamed_spec (hN : IsPl w x.2.2.1 pl) (hp : PlOk pl) (hbd : 0 ≤ x.2.1 ∧ x.2.1 ≤ 4294967295) (hR : ∀ w', Below w.heap.size w w' → R (.bool true) w') :
    callR Try.prog 4 #[moA x] w R := by
  refine callR.of (intagliolaw14_GraphRenamed_calls x R w ?_) fun _ _ h => h
  refine lay_of fun w1 hB1 b1 z1 => ?_
  have hB1 : Blk w1 w.heap.size 25 (moV x) := hB1
  refine Mo.load hB1 ?_
  refine CopyModule_spec (x := x) (hN.below b1) hp fun ca w2 _ _ hC2 b2 => ⟨(x.1, x.2.1, ⟨some (blk ca), pl.length, pl.length⟩, ()), rfl, ?_⟩
  have hb2 := b1.on b2
  refine Renumber_spec (x := (x.1, x.2.1, ⟨some (blk ca), pl.length, pl.length⟩, ())) hC2 hp fun y ql w3 b3 hO3 hy => ⟨y, ((chk9P x.2.1 pl).1, ((chk9P x.2.1 pl).2 : Int), ()), rfl, ?_⟩
  have hy : (y.1, y.2.1, ql) = rnbP x pl := hy
  refine boxMS (y := y) fun w4 w10 z4 hY10 hS10 b10 z10 => ?_
  have b110 := (b2.on b3).on b10
  have hb10 := b1.on b110
  have hB10 := hB1.below b110
  have hO10 := hO3.below b10
  refine hS10.rI0 rfl (ifB_bne (fun e => ?_) (fun e => ?_))
  · have e : (chk9P x.2.1 pl).1 ≠ 0 := e
    rw [rnb_none e, Prod.mk.injEq, Prod.mk.injEq] at hy
    refine Mo.load hY10 ?_
    refine None_spec (x := y) (fun w11 b11 => ⟨_, rfl, ifB_true rfl ?_⟩) hy.1 hy.2.1 ?_
    · exact awake_spec fun w12 b12 => ⟨true, rfl, hR w12 ((hb10.on b11).on b12)⟩
    · rw [hO10.isPl.len, hy.2.2]
      rfl
  have e : (chk9P x.2.1 pl).1 = 0 := e
  obtain ⟨hok, hlay, _⟩ := chk9_ok e
  have hsh := lay_shape hlay
  have hw9 := Whole9.of hp hbd.1 e
  rw [rnb_some hok, Prod.mk.injEq, Prod.mk.injEq] at hy
  obtain ⟨hy1, hy2, hy3⟩ := hy
  have hturn0 := hw9.turn
  have hturn : TurnOk (rnP pl pl.length) pl y.2.1 := by rw [hy2]; exact hturn0
  have hql : ql = turnP (rnP pl pl.length) pl := hy3
  generalize rnP pl pl.length = g at *
  subst hql
  have hpq : PlOk (turnP g pl) := hturn.plOk hp
  have h0y : 0 ≤ y.2.1 := by have := hturn.pos; omega
  have hN10 : IsPl w10 y.2.2.1 (turnP g pl) := hO10.isPl
  have hqlay : (layP y.2.1 (turnP g pl)).1 = 0 := by
    have := hturn.chk9 hsh
    rw [hok] at this
    exact (chk9_ok (bd := y.2.1) (pl := turnP g pl) (by rw [this])).2.1
  refine Mo.load hB10 ?_
  refine CopyModule_spec (x := x) (hN.below hb10) hp fun cb w13 _ _ hC13 b13 => ⟨(x.1, x.2.1, ⟨some (blk cb), pl.length, pl.length⟩, ()), rfl, ?_⟩
  refine Cut_spec (x := (x.1, x.2.1, ⟨some (blk cb), pl.length, pl.length⟩, ())) hC13 hp (fun fs L w14 _ b14 hL14 hLm => ⟨fs, (0, 0, ()), rfl, ?_⟩) (fun w14 hne _ => absurd hlay hne)
  refine box2 rfl fun w17 hS17 b17 z17 => ?_
  have b1017 := (b13.on b14).on b17
  refine Mo.load (hY10.below b1017) ?_
  refine CopyModule_spec (x := y) (hN10.below b1017) hpq fun cc w18 _ _ hC18 b18 => ⟨(y.1, y.2.1, ⟨some (blk cc), (turnP g pl).length, (turnP g pl).length⟩, ()), rfl, ?_⟩
  refine Cut_spec (x := (y.1, y.2.1, ⟨some (blk cc), (turnP g pl).length, (turnP g pl).length⟩, ())) hC18 hpq (fun ft L2 w19 _ b19 hL19 hLm2 => ⟨ft, (0, 0, ()), rfl, ?_⟩) (fun w19 hne _ => absurd hqlay hne)
  refine box2 rfl fun w22 hS22 b22 z22 => ?_
  have b1722 := (b18.on b19).on b22
  have b1022 := b1017.on b1722
  have hb22 := hb10.on b1022
  have hL22 := hL14.below (b17.on b1722)
  have hL22' := hL19.below b22
  have hB22 := hB10.below b1022
  have hY22 := hY10.below b1022
  have hcf : cutF (turnP g pl) (turnP g pl).length = (cutF pl pl.length).map (turnF g) := by rw [turnP_len]; exact cutF_turn hturn.zero pl _
  have hlen2 : L2.length = L.length := by
    have h1 := congrArg List.length hLm
    have h2 := congrArg List.length hLm2
    rw [List.length_map] at h1 h2
    rw [hcf, List.length_map] at h2
    omega
  have hll := hL14.len
  have hll2 := hL19.len
  have hc5 : IsC 5 feV w22 fs L := Own.isC feV_len (by omega) hL22.own
  have hbd5 := hc5.bound
  refine JoinW.cut (fun (_ : Unit) w' => w' = w22) ?_ ?_
  · refine (hS17.below b1722).rI0 rfl (ifB_false rfl (hS22.rI0 rfl (ifB_false rfl (ifB_false ?_ rfl))))
    rw [← hll, ← hll2, hlen2]
    simp
  rintro _ w23 rfl
  refine LoopW.count L.length hbd5 (fun k w' => Below w23.heap.size w23 w') (Below.refl _ _) ?_
  intro n w24 hn b24 next hnext
  have hb24 := hb22.on b24
  refine ifB_dec (fun h => ?_) (fun h => ?_)
  rotate_left
  · exact awake_spec fun w64 b64 => ⟨true, rfl, hR w64 (hb24.on b64)⟩
  have hlt : n < L.length := by dsimp only at h; omega
  have hlt2 : n < L2.length := by omega
  have hin : L[n].1 ∈ cutF pl pl.length := by rw [← hLm]; exact List.mem_map.2 ⟨_, List.getElem_mem hlt, rfl⟩
  have hfe : L2[n].1 = turnF g L[n].1 := by
    have h1 : (L2.map (·.1))[n]'(by rw [List.length_map]; exact hlt2) = ((L.map (·.1)).map (turnF g))[n]'(by rw [List.length_map, List.length_map]; exact hlt) := by
      congr 1
      rw [hLm2, hLm]
      exact hcf
    simp only [List.getElem_map] at h1
    exact h1
  obtain ⟨te, tn, tm⟩ := hturn.nxE (x := x) hsh hlay hin
  have bd : Below w24.heap.size w24 w24.drew := (Below.refl _ _).drew
  have b24d := b24.on bd
  have hL24 := hL22.below b24d
  refine JoinW.cut (NewR x pl L[n].1 w23) ?_ ?_
  · refine Mo.load (hB22.below b24d) (elemFnC hL24 hlt fun a hcell => ?_)
    refine newReg (M := NewR x pl L[n].1 w23) (x := x) (v := (L[n].1.id, L[n].1.at_, L[n].2.1, L[n].2.2, L[n].1.en, ())) (hB22.below b24d) (hN.below (hb22.on b24d)) hp hbd.1 (hL24.isFn (List.getElem_mem hlt)) (hcell 0 _ (by omega) rfl) (hcell 1 _ (by omega) rfl) (hcell 2 _ (by omega) rfl) (hcell 3 _ (by omega) rfl) (hcell 4 _ (by omega) rfl) fun w' p ms sb hb hS hG hM => ⟨p, ms, sb, rfl, hS, hG, hM, b24d.on hb⟩
  rintro _ w39 ⟨p, ms, sb, rfl, hS39, hG39, hM39, b39⟩
  have bd9 : Below w39.heap.size w39 w39.drew := (Below.refl _ _).drew
  have b39d := b39.on bd9
  have hL39 := hL22'.below b39d
  refine JoinW.cut (NewR x pl L[n].1 w39) ?_ ?_
  · refine Mo.load (hY22.below b39d) (elemFnC hL39 hlt2 fun a hcell => ?_)
    refine newReg (M := NewR x pl L[n].1 w39) (x := y) (pl := turnP g pl) (f := L2[n].1) (v := (L2[n].1.id, L2[n].1.at_, L2[n].2.1, L2[n].2.2, L2[n].1.en, ())) (hY22.below b39d) (hN10.below (b1022.on b39d)) hpq h0y (hL39.isFn (List.getElem_mem hlt2)) (hcell 0 _ (by omega) rfl) (hcell 1 _ (by omega) rfl) (hcell 2 _ (by omega) rfl) (hcell 3 _ (by omega) rfl) (hcell 4 _ (by omega) rfl) fun w' p' ms' sb' hb hS hG hM => ?_
    rw [hfe, te] at hS
    rw [hfe, tn] at hG
    rw [hfe, tm] at hM
    exact ⟨p', ms', sb', rfl, hS, hG, hM, bd9.on hb⟩
  rintro _ w54 ⟨p', ms', sb', rfl, hS54, hG54, hM54, b54⟩
  have b2354 := b39.on b54
  have hG54' := hG39.below b54
  refine JoinW.cut (fun (_ : Unit) w' => Below w54.heap.size w54 w') ?_ ?_
  · refine Sp.load (hS39.below b54) (Sp.load hS54 (ifB_not (ifB_true (by simp) ?_)))
    refine EqM_spec (IsC.below mgV_len hM39 b54) hM54 fun w55 b55 => ⟨_, rfl, ifB_not (ifB_true (decide_eq_true rfl) ?_)⟩
    refine GP.len (hG54'.below b55) ⟨_, rfl, GP.len (hG54.below b55) ⟨_, rfl, ifB_bne (fun e => absurd rfl e) (fun _ => b55)⟩⟩
  rintro _ w58 b58
  have hnm : (nxE x pl L[n].1).length ≤ 4096 := by
    rcases hG54 with ⟨_, e⟩ | ⟨gb, _, hNx, _⟩
    · rw [e]; simp
    · exact hNx.max
  refine LoopW.count (nxE x pl L[n].1).length (by omega) (fun k w' => Below w54.heap.size w54 w') b58 ?_
  intro k w59 hk b59 next2 hnext2
  refine GP.len (hG54'.below b59) ⟨_, rfl, ifB_dec (fun h => ?_) (fun h => hnext w59 hlt (b2354.on b59))⟩
  have hkl : k < (nxE x pl L[n].1).length := by dsimp only at h; omega
  refine GP.next (hG54'.below b59) (i := (k : Int)) fun r w61 hO61 _ b61 => ⟨r, rfl, ?_⟩
  refine GP.next ((hG54.below b59).below b61) (i := (k : Int)) fun r2 w62 hO62 _ b62 => ⟨r2, rfl, ?_⟩
  refine same_spec ((hO61.below b62).isS) hO62.isS fun w63 b63 => ⟨true, rfl, ifB_false rfl (hnext2 w63 hkl (((b59.on b61).on b62).on b63))⟩
end
end Go.Proofs
