/-
  layout: the whole is cut.
-/
import Derived.Test.Ytpeonjpjphhenaa05y
namespace Go.Proofs
open Go.Gk Go.RowKit Go.Gm

theorem st5 {b : Nat} {T : TypeId} {cs : List Value} {v0 v1 v2 v3 v4 : Value} {K : World → Prop} {w : World} (hB : Blk w b T cs) (hl : cs.length = 5) (hK : ∀ w', Blk w' b T [v0, v1, v2, v3, v4] → Chg b w w' → K w') :
    Wr w (blk b) ∧ Nw (w.setCell (blk b) v0) fun w1 => Wr w1 ((blk b).add 1) ∧ Nw (w1.setCell ((blk b).add 1) v1) fun w2 => Wr w2 ((blk b).add 2) ∧ Nw (w2.setCell ((blk b).add 2) v2) fun w3 => Wr w3 ((blk b).add 3) ∧ Nw (w3.setCell ((blk b).add 3) v3) fun w4 =>
      Wr w4 ((blk b).add 4) ∧ Nw (w4.setCell ((blk b).add 4) v4) fun w5 => K w5 :=
  stC_all (vs := [v0, v1, v2, v3, v4]) hB hl hK
abbrev Fe := FnL × Sl × Sl
abbrev feV (x : Fe) : List Value := fnV x.1 x.2.1 x.2.2
theorem feV_len (x : Fe) : (feV x).length = 5 := rfl
/-- The functions in memory. -/
structure Fns (w : World) (fs : Sl) (L : List Fe) : Prop where
  own : Own w 54 5 fs (flat feV L)
  row : ∀ x ∈ L, Own w 3 1 x.2.1 (x.1.ps.map (Value.int .i64)) ∧ Own w 63 3 x.2.2 (flat blV x.1.bk)
theorem Fns.nil (w : World) : Fns w ⟨none, 0, 0⟩ [] := ⟨Own.nil _ _ _, fun x hx => by cases hx⟩
theorem Fns.len {w : World} {fs : Sl} {L : List Fe} (h : Fns w fs L) : L.length = fs.l := by have := h.own.1; rw [flat_length feV_len] at this; omega
theorem Fns.below {w w' : World} {fs : Sl} {L : List Fe} (h : Fns w fs L) (hb : Below w.heap.size w w') : Fns w' fs L :=
  ⟨h.own.below hb, fun x hx => ⟨(h.row x hx).1.below hb, (h.row x hx).2.below hb⟩⟩
theorem Fns.fr {w w' : World} {fs : Sl} {L : List Fe} {bc : Nat} {cs : List Value} (h : Fns w fs L) (hf : Fr w.heap.size (fun k => k = bc) w w') (hc : Blk w bc 100 cs) : Fns w' fs L :=
  ⟨hf.own h.own fun b e e2 => by subst e2; exact own_apart h.own hc (by decide) e, fun x hx =>
    ⟨hf.own (h.row x hx).1 fun b e e2 => by subst e2; exact own_apart (h.row x hx).1 hc (by decide) e, hf.own (h.row x hx).2 fun b e e2 => by subst e2; exact own_apart (h.row x hx).2 hc (by decide) e⟩⟩
theorem kdP_nonneg (p : PI) : 0 ≤ kdP p := by
  unfold kdP
  repeat' split
  all_goals omega

section
variable {w0 w : World} {bc n : Nat} {s f : Sl} {ps : List Int} {pl : List PI} {R : Value → World → Prop}
theorem cut_spec (h : Ct w0 w bc s 0 ps ⟨none, 0, 0⟩) (hN : IsPl w0 s pl) (h40 : 40 * pl.length ≤ 140737488351232)
    (hok : ∀ ps' fs L w', Ct w0 w' bc s pl.length ps' fs → Fr w.heap.size (fun k => k = bc) w w' → GoodL pl pl.length → openP pl = false → PartsTo pl 10 pl.length ps' → Fns w' fs L → Fresh w.heap.size fs → cutF pl pl.length = L.map (·.1) → R (.bool true) w')
    (hbad : ∀ n ps' fs w', Ct w0 w' bc s n ps' fs → Fr w.heap.size (fun k => k = bc) w w' → StopL pl n → R (.bool false) w') :
    callR Try.prog 83 #[.pointer (some (blk bc))] w R := by
  refine callR.of (layout_cutter_cut_calls _ R w ?_) fun _ _ h => h
  have hlen := hN.len
  have hbcl : bc < w.heap.size := h.blk.lt
  have h0w := h.b0.size
  refine top_spec h hN (by omega) (fun n0 ps1 w1 hC1 f1 hT hP => ⟨_, rfl, ifB_false rfl ?_⟩) (fun n1 ps1 w1 hC1 f1 hS => ⟨_, rfl, ifB_true rfl (hbad n1 ps1 _ w1 hC1 f1 hS)⟩)
  have hC1 := hC1.drew
  have f1 := f1.drew
  refine hC1.at_ (hC1.sl (hC1.part (p := 8) (by omega) fun w3 hC3 c3 => ?_))
  have f3 := (f1.trans (c3.fr)).drew
  have hC3 := hC3.drew
  refine hC3.sl (hC3.sl (hC3.part (p := 9) (by omega) fun w5 hC5 c5 => ?_))
  have f5 := f3.trans (c5.fr)
  rw [hlen] at hC5
  generalize hps5 : ((((ps1.set (2 * 8) (n0 : Int)).set (2 * 8 + 1) (pl.length : Int)).set (2 * 9) (pl.length : Int)).set (2 * 9 + 1) (pl.length : Int)) = ps5 at hC5
  refine LoopW.ghost (fun j _ w' => ∃ n fs L, j = pl.length - n ∧ Ct w0 w' bc s n ps5 fs ∧ Fr w.heap.size (fun k => k = bc) w w' ∧ Fresh w.heap.size fs ∧ InvO pl n ∧ Fns w' fs L ∧ cutF pl n = L.map (·.1) ∧ (n0 < n → partP (ix pl n0) = 8) ∧ n0 ≤ n ∧ 2 * L.length ≤ n)
    (pl.length - n0) ⟨n0, ⟨none, 0, 0⟩, [], rfl, hC5, f5, fun a ha => (by cases ha), hT.fun, Fns.nil _, ?_, fun h => by omega, Nat.le_refl _, Nat.zero_le _⟩ ?_
  · exact (cutF_idle (n := 0) (Nat.zero_le _) fun j _ j2 => .inl (by have := hT.low j j2; omega))
  rintro _ _ w6 ⟨n, fs, L, rfl, hC6, f6, hF6, hO6, hL6, hcut6, h86, hn06, hLn⟩ next hnext
  have hn := hO6.le
  refine next_spec hC6 hN hn fun w7 b7 => ⟨_, rfl, ?_⟩
  have hC7 := hC6.below b7
  have f7 := f6.trans ((Fr.of_below b7).mono f6.size fun _ _ x => x)
  have hL7 := hL6.below b7
  refine ifB_dec (fun hlt => ?_) (fun hge => ?_)
  · have e : n = pl.length := by
      unfold kn at hlt
      split at hlt
      · have := kdP_nonneg (ix pl n); omega
      · omega
    subst e
    refine hok ps5 fs L w7 hC7 f7 hO6.good (hO6.shut rfl) ?_ hL7 hF6 hcut6
    rw [← hps5]
    have hl1 := hC1.len
    exact hP.all hl1 hT.le hT.low hO6.good h86
  · have hltn : n < pl.length := by
      unfold kn at hge
      split at hge
      · assumption
      · omega
    refine next_spec hC7 hN hn fun w8 b8 => ⟨_, rfl, ?_⟩
    have hC8 := hC7.below b8
    have f8 := f7.trans ((Fr.of_below b8).mono f7.size fun _ _ x => x)
    have hL8 := hL7.below b8
    refine ifB_bne (fun e => hbad n ps5 fs w8 hC8 f8 (hO6.bad hltn (kn_ne e hltn))) (fun e => ?_)
    obtain ⟨_, hk1⟩ := kn_lt e (by decide)
    have hp8 := kd_part (p := ix pl n) (by omega)
    have hop1 := (kd_ops hp8).1.1 hk1
    have bd8 : Below w8.heap.size w8 w8.drew := (Below.refl _ _).drew
    have hD := hC8.drew
    have s08 := hC8.b0.size
    have sw8 := f8.size
    refine hD.sl (hD.at_ (elemPrC (hD.mem hN) hltn fun a hc => hD.at_ ?_))
    refine lay_of fun w9 hB9 b9 z9 => ⟨cell_keep b9 (hD.blk.cell rfl), cell_keep b9 hc, cell_keep b9 (hD.blk.cell rfl), cell_keep b9 (hD.blk.cell0 rfl), ?_⟩
    have hB9 : Blk w9 w8.drew.heap.size 54 [.int .u32 0, .int .i64 0, .slice none 0 0, .slice none 0 0, .int .i64 0] := hB9
    have hbb : w8.drew.heap.size = w8.heap.size := rfl
    generalize hbf : w8.drew.heap.size = bf at hB9 hbb z9
    subst hbb
    have b89 := bd8.on b9
    refine st5 hB9 rfl fun w14 hB14 c14 => ?_
    have hB14 : Blk w14 w8.heap.size 54 (fnV ⟨(ix pl n).2.2.1, n, 0, [], []⟩ ⟨none, 0, 0⟩ ⟨none, 0, 0⟩) := by rw [ix_lt hltn]; exact hB14
    have hbcf : w8.heap.size ≠ bc := by omega
    have hC14 := (hC8.below b89).chg c14 s08 hbcf
    have g14 : Fr w8.heap.size (fun k => k = bc) w8 w14 := (Fr.of_below b89).trans (c14.frB (Nat.le_refl _))
    have z14 : w14.heap.size = w8.heap.size + 1 := by rw [c14.size, z9]
    refine hC14.inc (by omega) fun w15 hC15 c15 => ?_
    have hI15 := hO6.begin hltn hp8 hop1
    have hcut15 := cutF_fun hcut6 hk1
    have g15 := g14.trans c15.fr
    have hB15 := c15.blk hB14 hbcf
    refine rowc_spec hC15 hN (by omega) h40 (by decide) fun tp n2 w16 h1 h2 h3 h4 hC16 f16 hOp hFp => ⟨tp, rfl, ?_⟩
    obtain ⟨ah2, hI2, ha2⟩ := hI15.params (.inl rfl) h1 h2 h3
    have hcut16 := cutF_params hcut15 h1 h3
    have g16 : Fr w8.heap.size (fun k => k = bc) w8 w16 := g15.trans (f16.mono (by rw [c15.size]; omega) fun _ _ x => x)
    have hB16 := f16.blk hB15 hbcf
    have s15 := c15.size
    have s16 := f16.size
    refine ⟨hB16.wr (by simp), Nw.gen fun w17 e17 => ?_⟩
    have c17 : Chg w8.heap.size w16 w17 := by rw [e17]; exact Chg.set _ _ _ _
    have hB17 : Blk w17 w8.heap.size 54 (fnV ⟨(ix pl n).2.2.1, n, 0, [], []⟩ tp ⟨none, 0, 0⟩) := by rw [e17]; exact hB16.set 2 _
    clear e17
    have hC17 := hC16.chg c17 s08 hbcf
    have g17 : Fr w8.heap.size (fun k => k = bc) w8 w17 := g16.trans (c17.frB (Nat.le_refl _))
    have hOp17 : Own w17 3 1 tp ((places (n + 1) n2).map (Value.int .i64)) := hOp.of_block fun a ha => c17.block _ (by have := hFp a ha; omega)
    generalize hpar : places (n + 1) n2 = par at hOp17
    have hcut17 : cutF pl n2 = L.map (·.1) ++ [⟨(ix pl n).2.2.1, n, 0, par, []⟩] := by rw [hcut16, ← hpar]; rfl
    refine LoopW.ghost (fun j _ w' => ∃ n3 ah bk tb, j = pl.length - n3 ∧ n2 ≤ n3 ∧ Ct w0 w' bc s n3 ps5 fs ∧ Fr w8.heap.size (fun k => k = bc) w8 w' ∧ Blk w' w8.heap.size 54 (fnV ⟨(ix pl n).2.2.1, n, 0, par, bk⟩ tp tb) ∧
        Own w' 3 1 tp (par.map (Value.int .i64)) ∧ Own w' 63 3 tb (flat blV bk) ∧ Fresh w8.heap.size tb ∧ InvF pl n3 ah ∧ (((ah = 54 ∨ ah = 55) ∧ bk = []) ∨ ((249 ≤ ah ∧ ah ≤ 255) ∧ bk ≠ [])) ∧
        cutF pl n3 = L.map (·.1) ++ [⟨(ix pl n).2.2.1, n, 0, par, bk⟩] ∧ bk.length ≤ n3 ∧ (bk = [] → n3 < pl.length → kdP (ix pl n3) ≠ 2)) (pl.length - n2)
      ⟨n2, ah2, [], ⟨none, 0, 0⟩, rfl, Nat.le_refl _, hC17, g17, hB17, hOp17, Own.nil _ _ _, fun a ha => (by cases ha), hI2, .inl ⟨ha2, rfl⟩, hcut17, Nat.zero_le _, fun _ hl => h4 hl⟩ ?_
    rintro _ _ w18 ⟨n3, ah, bk, tb, rfl, hn23, hC18, g18, hB18, hOp18, hOb18, hFb18, hI18, ha18, hcut18, hbk18, hk2⟩ next2 hnext2
    have hn3 := hI18.le
    refine next_spec hC18 hN hn3 fun w19 b19 => ⟨_, rfl, ?_⟩
    have hC19 := hC18.below b19
    have g19 := g18.trans ((Fr.of_below b19).mono g18.size fun _ _ x => x)
    have hB19 := hB18.below b19
    have hOp19 := hOp18.below b19
    have hOb19 := hOb18.below b19
    have toW : ∀ {w' : World}, Fr w8.heap.size (fun k => k = bc) w8 w' → Fr w.heap.size (fun k => k = bc) w w' := fun g => f8.trans (g.mono f8.size fun _ _ x => x)
    have hblen : bk.length = tb.l := by have := hOb19.1; rw [flat_length blV_len] at this; omega
    refine ifB_beq (fun e3 => ?_) (fun e3 => ?_)
    · obtain ⟨hlt3, hk3⟩ := kn_lt e3 (by decide)
      have back : ∀ {w' : World}, Fr w19.heap.size (fun k => k = bc ∨ k = w8.heap.size ∨ tb.a = some (Gk.blk k)) w19 w' → Fr w8.heap.size (fun k => k = bc) w8 w' := fun g =>
        g19.trans (g.mono g19.size fun k hk x => by
          rcases x with x | x | x
          · exact x
          · omega
          · have := hFb18 _ x
            exact absurd this (Nat.not_le.2 hk))
      refine block_spec (fn := ⟨(ix pl n).2.2.1, n, 0, par, bk⟩) (tp := tp) (tb := tb) hC19 hN h40 hlt3 hk3 hI18 ha18 hB19 s08 hOb19 (fun a ha => Nat.le_trans s08 (hFb18 a ha)) hbk18 hcut18
        (fun n4 ah4 tb4 w20 hn4 hC20 f20 hI4 ha4 hB20 hO20 hb20 hcut20 => ⟨_, rfl, ifB_false rfl ?_⟩)
        (fun n4 w20 hC20 f20 hS => ⟨_, rfl, ifB_true rfl (hbad n4 ps5 fs w20 hC20 (toW (back f20)) hS)⟩)
      refine hnext2 (pl.length - n4) _ _ (by have := hI4.le; omega) ⟨n4, ah4, bk ++ [((ix pl n3).2.2.1, (n3 : Int), (n4 : Int))], tb4, rfl, by omega, hC20, back f20, hB20, ?_, hO20, ?_, hI4, .inr ⟨ha4, by simp⟩, hcut20, by simp; omega, fun h => by simp at h⟩
      · refine f20.own hOp19 fun b e x => ?_
        rcases x with x | x | x
        · subst x; exact own_apart hOp19 hC19.blk (by decide) e
        · subst x; exact own_apart hOp19 hB19 (by decide) e
        · exact own_apart2 hOp19 hOb19 (by decide) e x
      · intro a ha
        obtain ⟨b', q1, q2⟩ := hb20
        rw [q1] at ha
        cases ha
        show w8.heap.size ≤ b'
        rcases q2 with q2 | q2
        · exact hFb18 _ q2
        · have := g19.size; omega
    · refine JoinW.cut (fun _ w21 => Ct w0 w21 bc s n3 ps5 fs ∧ Fr w8.heap.size (fun k => k = bc) w8 w21 ∧ Blk w21 w8.heap.size 54 (fnV ⟨(ix pl n).2.2.1, n, 0, par, bk⟩ tp tb) ∧
        Own w21 3 1 tp (par.map (Value.int .i64)) ∧ Own w21 63 3 tb (flat blV bk) ∧ n3 < pl.length ∧ kdP (ix pl n3) = 8 ∧ (249 ≤ ah ∧ ah ≤ 255)) ?_ ?_
      · refine hB19.rS (n := 3) (x := tb) rfl (ifB_beq (fun e0 => ?_) (fun e0 => ?_))
        · have hbk0 : bk = [] := List.length_eq_zero_iff.1 (by omega)
          have ha' : ah = 54 ∨ ah = 55 := by
            rcases ha18 with ⟨g, _⟩ | ⟨_, g⟩
            · exact g
            · exact absurd hbk0 g
          exact hbad n3 ps5 fs w19 hC19 (toW g19) (hI18.noblock ha' (hk2 hbk0) (kn_ne e3))
        · have ha' : 249 ≤ ah ∧ ah ≤ 255 := by
            rcases ha18 with ⟨_, g⟩ | ⟨g, _⟩
            · rw [g] at hblen; exact absurd (by rw [← hblen]; rfl) e0
            · exact g
          refine next_spec hC19 hN hn3 fun w21 b21 => ⟨_, rfl, ?_⟩
          refine ifB_bne (fun e8 => ?_) (fun e8 => ?_)
          · exact hbad n3 ps5 fs w21 (hC19.below b21) (toW (g19.trans ((Fr.of_below b21).mono g19.size fun _ _ x => x))) (hI18.noend ha' (kn_ne e3) (kn_ne e8))
          · obtain ⟨q1, q2⟩ := kn_lt e8 (by decide)
            exact ⟨hC19.below b21, g19.trans ((Fr.of_below b21).mono g19.size fun _ _ x => x), hB19.below b21, hOp19.below b21, hOb19.below b21, q1, q2, ha'⟩
      · rintro _ w22 ⟨hC22, g22, hB22, hOp22, hOb22, hlt3, hk8, ha'⟩
        have hI23 := hI18.shut ha' hlt3 hk8
        have hcut23 := cutF_end hcut18 hk8
        refine hC22.at_ ⟨hB22.wr (by simp), Nw.gen fun w23 e23 => ?_⟩
        have c23 : Chg w8.heap.size w22 w23 := by rw [e23]; exact Chg.set _ _ _ _
        have hB23 : Blk w23 w8.heap.size 54 (fnV ⟨(ix pl n).2.2.1, n, n3, par, bk⟩ tp tb) := by rw [e23]; exact hB22.set 4 _
        clear e23
        have hC23 := hC22.chg c23 s08 hbcf
        have g23 : Fr w8.heap.size (fun k => k = bc) w8 w23 := g22.trans (c23.frB (Nat.le_refl _))
        have hOp23 : Own w23 3 1 tp (par.map (Value.int .i64)) := hOp22.of_block fun a ha => c23.block _ fun e => own_apart hOp22 hB22 (by decide) (by rw [ha, (hOp22.lt ha).1, e])
        have hOb23 : Own w23 63 3 tb (flat blV bk) := hOb22.of_block fun a ha => c23.block _ fun e => own_apart hOb22 hB22 (by decide) (by rw [ha, (hOb22.lt ha).1, e])
        refine hC23.inc (by omega) fun w24 hC24 c24 => ?_
        have g24 := g23.trans c24.fr
        have hB24 := (c24.blk hB23 hbcf).drew
        have hOp24 := (c24.fr.own hOp23 fun b e x => by subst x; exact own_apart hOp23 hC23.blk (by decide) e).drew
        have hOb24 := (c24.fr.own hOb23 fun b e x => by subst x; exact own_apart hOb23 hC23.blk (by decide) e).drew
        have hC24 := hC24.drew
        have g24 := g24.drew
        have hL24 := hL8.fr g24 hC8.blk
        refine derefP_some rfl (hC24.blk.rS (n := 22) (x := fs) (ctV_f hC24.len) ?_)
        refine hB24.rI (n := 0) rfl (hB24.rI (n := 1) rfl (hB24.rS (n := 2) (x := tp) rfl (hB24.rS (n := 3) (x := tb) rfl (hB24.rI (n := 4) rfl ?_))))
        refine lay_of fun w25 hB25 b25 z25 => ⟨cell_keep b25 (hC24.blk.cell (ctV_f hC24.len)), ?_⟩
        have hB25 : Blk w25 w24.drew.heap.size 54 (fnV ⟨(ix pl n).2.2.1, n, n3, par, bk⟩ tp tb) := hB25
        have hL25 := hL24.below b25
        have hC25 := hC24.below b25
        have hll := hL25.len
        refine push_fr eFun hL25.own rfl (by simp [Value.oneCell']) hB25 (by omega) (by omega) fun r w26 b' hO26 hl26 ha26 hw26 f26 => ?_
        have hlow : ∀ k, fs.a = some (Gk.blk k) → w.heap.size ≤ k := fun k e => hF6 _ e
        have hC26 := hC25.fr f26 (fun k e => Nat.le_trans h0w (hlow k e)) (own_apart hL25.own hC25.blk (by decide))
        have t25 := toW (g24.trans ((Fr.of_below b25).mono g24.size fun _ _ x => x))
        have t26 : Fr w.heap.size (fun k => k = bc) w w26 := t25.trans (f26.mono t25.size fun k hk x => absurd (hlow k x) (Nat.not_le.2 hk))
        have rows26 : ∀ x ∈ L ++ [((⟨(ix pl n).2.2.1, n, n3, par, bk⟩ : FnL), tp, tb)], Own w26 3 1 x.2.1 (x.1.ps.map (Value.int .i64)) ∧ Own w26 63 3 x.2.2 (flat blV x.1.bk) := by
          intro x hx
          have both : Own w25 3 1 x.2.1 (x.1.ps.map (Value.int .i64)) ∧ Own w25 63 3 x.2.2 (flat blV x.1.bk) := by
            rcases List.mem_append.1 hx with hx | hx
            · exact hL25.row x hx
            · rw [List.mem_singleton] at hx
              subst hx
              exact ⟨hOp24.below b25, hOb24.below b25⟩
          exact ⟨f26.own both.1 fun b e x => own_apart2 both.1 hL25.own (by decide) e x, f26.own both.2 fun b e x => own_apart2 both.2 hL25.own (by decide) e x⟩
        have hl23 := ctV_len (s := s) (n := n3 + 1) (f := fs) hC26.len
        refine derefP_some rfl ⟨hC26.blk.wr (by omega), Nw.gen fun w27 e27 => ?_⟩
        have c27 : Chg bc w26 w27 := by rw [e27]; exact Chg.set _ _ _ _
        have hB27 : Blk w27 bc 100 (ctV s (n3 + 1 : Nat) ps5 r) := by rw [e27, ← ctV_setf hC26.len]; exact hC26.blk.set 22 _
        clear e27
        refine hnext (pl.length - (n3 + 1)) _ _ (by omega) ⟨n3 + 1, r, L ++ [(⟨(ix pl n).2.2.1, n, n3, par, bk⟩, tp, tb)], rfl, ⟨hC26.hi, c27.below hC26.b0 hC26.hi, hB27, hC26.len⟩, t26.trans c27.fr, ?_, hI23.end, ⟨?_, ?_⟩, ?_, fun _ => ?_, by omega, by simp; omega⟩
        · intro a ha
          rw [ha26] at ha
          cases ha
          show w.heap.size ≤ b'
          rcases hw26 with g | g
          · exact hlow _ g
          · have := t25.size; omega
        · rw [flat_snoc]
          refine hO26.of_block fun a ha => c27.block _ fun e => own_apart hO26 hC26.blk (by decide) (by rw [ha, (hO26.lt ha).1, e])
        · intro x hx
          obtain ⟨q1, q2⟩ := rows26 x hx
          exact ⟨c27.fr.own q1 fun b e x => by subst x; exact own_apart q1 hC26.blk (by decide) e, c27.fr.own q2 fun b e x => by subst x; exact own_apart q2 hC26.blk (by decide) e⟩
        · rw [hcut23, List.map_append]
          rfl
        · by_cases en : n0 = n
          · subst en; exact hp8
          · exact h86 (by omega)
end
end Go.Proofs
