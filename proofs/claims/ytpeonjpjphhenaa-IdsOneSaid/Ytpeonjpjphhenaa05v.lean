/-
  layout: read and Parts.
-/
import Derived.Test.YtpeonjpjphhenaaT20
namespace Go.Proofs
open Go.Gk Go.RowKit Go.Gm

theorem Fns.chg {w w' : World} {fs : Sl} {L : List Fe} {b : Nat} {T : TypeId} {cs : List Value} (h : Fns w fs L) (c : Chg b w w') (hB : Blk w b T cs) (h1 : 54 ≠ T) (h2 : 3 ≠ T) (h3 : 63 ≠ T) : Fns w' fs L := by
  have f : Fr w.heap.size (fun k => k = b) w w' := c.fr
  exact ⟨f.own h.own fun b e e2 => by subst e2; exact own_apart h.own hB h1 e, fun x hx =>
    ⟨f.own (h.row x hx).1 fun b e e2 => by subst e2; exact own_apart (h.row x hx).1 hB h2 e, f.own (h.row x hx).2 fun b e e2 => by subst e2; exact own_apart (h.row x hx).2 hB h3 e⟩⟩
section
variable {x : Mo} {pl : List PI} {w : World} {R : Value → World → Prop}
theorem read_spec (hN : IsPl w x.2.2.1 pl) (hp : PlOk pl)
    (hok : ∀ bc ps fs L w', layP x.2.1 pl = (0, 0) → Ct w w' bc x.2.2.1 pl.length ps fs → PartsTo pl 10 pl.length ps → Fns w' fs L → Fresh w.heap.size fs → cutF pl pl.length = L.map (·.1) → GoodL pl pl.length →
      R (.tuple #[.pointer (some (blk bc)), .agg #[.int .i64 0, .int .i64 0]]) w')
    (hbad : ∀ w', Below w.heap.size w w' → (layP x.2.1 pl).1 ≠ 0 → R (.tuple #[.pointer none, .agg #[.int .i64 (layP x.2.1 pl).1, .int .i64 ((layP x.2.1 pl).2 : Int)]]) w') :
    callR Try.prog 54 #[moA x] w R := by
  refine callR.of (layout_read_calls x R w ?_) fun _ _ h => h
  refine lay_of fun w1 hB1 b1 z1 => ?_
  have hB1 : Blk w1 w.heap.size 25 (moV x) := hB1
  refine lay_of fun w2 hC2 b2 z2 => ?_
  have hC2 : Blk w2 w1.heap.size 29 [.int .i64 0, .int .i64 0] := hC2
  have hb2 := b1.on b2
  have s1 := b1.size
  have hlen := hN.len
  have h40 := hp.len
  refine Mo.load (hB1.below b2) ?_
  refine Shape_spec (x := x) (hN.below hb2) hp fun w3 b3 => ⟨((shapeP x.2.1 pl).1, ((shapeP x.2.1 pl).2 : Int), ()), rfl, ?_⟩
  refine box2 rfl fun w4 h4 b4 z4 => ?_
  have b24 := b3.on b4
  have hb4 := hb2.on b24
  have hB4 := (hB1.below b2).below b24
  have hC4 := hC2.below b24
  have s24 := b24.size
  refine h4.rI0 rfl (ifB_bne (fun e => ?_) (fun e => ?_))
  · have e' : (shapeP x.2.1 pl).1 ≠ 0 := e
    have hl : layP x.2.1 pl = shapeP x.2.1 pl := if_pos e'
    rw [hl] at hbad
    refine Sp.load h4.drew ?_
    refine st2 hC4.drew rfl fun w5 h5 c5 => Sp.load h5 ?_
    exact hbad w5 (c5.below hb4.drew (by omega)) e'
  · have e' : (shapeP x.2.1 pl).1 = 0 := e
    have hl : layP x.2.1 pl = chkP pl := if_neg (fun h => h e')
    refine hB4.rS (n := 2) (x := x.2.2.1) rfl ?_
    refine lay_of fun w9 h9 b9 z9 => ?_
    have h9 : Blk w9 w4.heap.size 100 (ctV x.2.2.1 (0 : Nat) (List.replicate 20 0) ⟨none, 0, 0⟩) := h9
    have hCt : Ct w4 w9 w4.heap.size x.2.2.1 0 (List.replicate 20 0) ⟨none, 0, 0⟩ := ⟨Nat.le_refl _, b9, h9, List.length_replicate⟩
    have s4 := hb4.size
    generalize hbc : w4.heap.size = bc at hCt z9
    refine cut_spec hCt (hN.below hb4) h40 (fun ps fs L w10 hC10 f10 hg ho hP hL hF hcut => ?_) (fun n ps fs w10 hC10 f10 hS => ?_)
    · refine ⟨true, rfl, ifB_true rfl ?_⟩
      have hlay : layP x.2.1 pl = (0, 0) := by rw [hl, chk_end hg, if_neg (by rw [ho]; decide)]
      have hR1 := hC4.below hC10.b0
      have hCw : Ct w w10 bc x.2.2.1 pl.length ps fs := ⟨by omega, hb4.on hC10.b0, hC10.blk, hC10.len⟩
      refine st2 hR1 rfl fun w12 h12 c12 => Sp.load h12 ?_
      exact hok bc ps fs L w12 hlay (hCw.chg c12 (by omega) (by omega)) hP (hL.chg c12 hR1 (by decide) (by decide) (by decide)) (fun a ha => by have := hF a ha; have := b9.size; omega) hcut hg
    · refine ⟨false, rfl, ifB_false rfl ?_⟩
      have bd : Below w10.heap.size w10 w10.drew := (Below.refl _ _).drew
      have hlay : layP x.2.1 pl = (if n < pl.length then 50 else 51, n) := by rw [hl]; exact hS.chk
      rw [hlay] at hbad
      have hBm := (hB4.below hC10.b0)
      have hR1 := hC4.below hC10.b0
      have hbw : Below w.heap.size w w10 := hb4.on hC10.b0
      refine hC10.blk.drew.rI (n := 1) rfl (hBm.drew.rS (n := 2) (x := x.2.2.1) rfl (ifB_dec (fun h => ?_) (fun h => ?_)))
      · have hlt : n < pl.length := by omega
        rw [if_pos hlt] at hbad
        refine hC10.blk.drew.drew.rI (n := 1) rfl (st2 hR1.drew.drew rfl fun w13 h13 c13 => Sp.load h13 ?_)
        exact hbad w13 (c13.below hbw.drew.drew (by omega)) (show (50 : Int) ≠ 0 by decide)
      · have hlt : ¬ n < pl.length := by omega
        rw [if_neg hlt] at hbad
        refine hC10.blk.drew.drew.rI (n := 1) rfl (st2 hR1.drew.drew rfl fun w13 h13 c13 => Sp.load h13 ?_)
        exact hbad w13 (c13.below hbw.drew.drew (by omega)) (show (51 : Int) ≠ 0 by decide)
theorem Parts_spec (hN : IsPl w x.2.2.1 pl) (hp : PlOk pl)
    (hR : ∀ (y : T20) w', Below w.heap.size w w' → ((layP x.2.1 pl).1 = 0 → PartsTo pl 10 pl.length (l20 y) ∧ GoodL pl pl.length) → R (.tuple #[ag20 y, .agg #[.int .i64 (layP x.2.1 pl).1, .int .i64 ((layP x.2.1 pl).2 : Int)]]) w') :
    callR Try.prog 37 #[moA x] w R := by
  refine callR.of (layout_Parts_calls x R w ?_) fun _ _ h => h
  refine lay_of fun w1 hB1 b1 z1 => ?_
  have hB1 : Blk w1 w.heap.size 25 (moV x) := hB1
  refine lay_of fun w2 hA2 b2 z2 => ?_
  refine lay_of fun w3 hC3 b3 z3 => ?_
  have hC3 : Blk w3 w2.heap.size 29 [.int .i64 0, .int .i64 0] := hC3
  have hb23 := b2.on b3
  have hb3 := b1.on hb23
  have s1 := b1.size
  refine Mo.load (hB1.below hb23) ?_
  refine read_spec (x := x) (hN.below hb3) hp (fun bc ps fs L w4 hlay hC4 hP hL hF hcut hg => ⟨some (blk bc), (0, 0, ()), rfl, ?_⟩) (fun w4 b4 hne => ⟨none, ((layP x.2.1 pl).1, ((layP x.2.1 pl).2 : Int), ()), rfl, ?_⟩)
  · rw [hlay] at hR
    refine box2 rfl fun w7 h7 b7 z7 => ?_
    have hC7 := hC4.below b7
    have b37 := hC4.b0.on b7
    have hA7 := ((hA2.below b3).below b37).drew
    have hS7 := (hC3.below b37).drew
    have hbw := (hb3.on b37).drew
    have s37 := b37.size
    have h7 := h7.drew
    obtain ⟨y, rfl⟩ := l20_of hC7.len
    have hct := hC7.blk.drew
    generalize w7.drew = w8 at hct hA7 hS7 hbw h7
    refine ifB_false rfl (derefP_some rfl (ld20c (x := y) hct ?_))
    refine Sp.load h7 ?_
    refine st20 (x := y) hA7 rfl fun w49 h49 c49 => ?_
    have hS49 := c49.blk hS7 (by omega)
    have h7' := c49.blk h7 (by have := hC4.b0.size; omega)
    refine ⟨h7'.cell (n := 0) rfl, h7'.cell (n := 1) rfl, ?_⟩
    refine st2 hS49 rfl fun w51 h51 c51 => ?_
    refine ld20 (x := y) (c51.blk h49 (by omega)) (Sp.load h51 ?_)
    exact hR y w51 (c51.below (c49.below hbw (by omega)) (by omega)) fun _ => ⟨hP, hg⟩
  · refine box2 rfl fun w7 h7 b7 z7 => ?_
    have b37 := b4.on b7
    have hA7 := ((hA2.below b3).below b37).drew
    have hS7 := (hC3.below b37).drew
    have hbw := (hb3.on b37).drew
    have s37 := b37.size
    have s34 := b4.size
    have h7 := h7.drew
    generalize w7.drew = w8 at hA7 hS7 hbw h7
    refine ifB_true rfl (Sp.load h7 ?_)
    refine st20 (x := (0, 0, 0, 0, 0, 0, 0, 0, 0, 0, 0, 0, 0, 0, 0, 0, 0, 0, 0, 0, ())) hA7 rfl fun w49 h49 c49 => ?_
    have hS49 := c49.blk hS7 (by omega)
    have h7' := c49.blk h7 (by omega)
    refine ⟨h7'.cell (n := 0) rfl, h7'.cell (n := 1) rfl, ?_⟩
    refine st2 hS49 rfl fun w51 h51 c51 => ?_
    refine ld20 (x := (0, 0, 0, 0, 0, 0, 0, 0, 0, 0, 0, 0, 0, 0, 0, 0, 0, 0, 0, 0, ())) (c51.blk h49 (by omega)) (Sp.load h51 ?_)
    exact hR _ w51 (c51.below (c49.below hbw (by omega)) (by omega)) fun h => absurd h hne
end
end Go.Proofs
