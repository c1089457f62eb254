/-
  layout: a block of a function.
-/
import Derived.Test.Ytpeonjpjphhenaa05x
namespace Go.Proofs
open Go.Gk Go.RowKit Go.Gm

theorem Chg.frB {b B : Nat} {X : Nat → Prop} {w w' : World} (h : Chg b w w') (hB : B ≤ b) : Fr B X w w' := Fr.of_below (h.below (Below.refl _ _) hB)
theorem blV_len (b : Int × Int × Int) : (blV b).length = 3 := rfl
theorem flat_snoc {α : Type} (g : α → List Value) (l : List α) (x : α) : flat g (l ++ [x]) = flat g l ++ g x := by simp [flat]
section
variable {w0 w : World} {bc n : Nat} {s f : Sl} {ps : List Int} {pl : List PI} {R : Value → World → Prop}
theorem Ct.chg {b : Nat} {w' : World} (h : Ct w0 w bc s n ps f) (c : Chg b w w') (hb : w0.heap.size ≤ b) (hne : b ≠ bc) : Ct w0 w' bc s n ps f :=
  ⟨h.hi, c.below h.b0 hb, c.blk h.blk (fun e => hne e.symm), h.len⟩
theorem block_spec {fn : FnL} {tp tb : Sl} {bf : Nat} {ah : Int} {done : List FnL} (h : Ct w0 w bc s n ps f) (hN : IsPl w0 s pl) (h40 : 40 * pl.length ≤ 140737488351232) (hn : n < pl.length) (hkd : kdP (ix pl n) = 3)
    (hI : InvF pl n ah) (ha : ((ah = 54 ∨ ah = 55) ∧ fn.bk = []) ∨ ((249 ≤ ah ∧ ah ≤ 255) ∧ fn.bk ≠ [])) (hbf : Blk w bf 54 (fnV fn tp tb)) (h0f : w0.heap.size ≤ bf)
    (hO : Own w 63 3 tb (flat blV fn.bk)) (hF0 : Fresh w0.heap.size tb) (hbk : fn.bk.length ≤ n) (hcut : cutF pl n = done ++ [fn])
    (hok : ∀ n' ah' tb' w', n < n' → Ct w0 w' bc s n' ps f → Fr w.heap.size (fun k => k = bc ∨ k = bf ∨ tb.a = some (Gk.blk k)) w w' → InvF pl n' ah' → (249 ≤ ah' ∧ ah' ≤ 255) → Blk w' bf 54 (fnV fn tp tb') →
      Own w' 63 3 tb' (flat blV (fn.bk ++ [((ix pl n).2.2.1, (n : Int), (n' : Int))])) → (∃ b', tb'.a = some (Gk.blk b') ∧ (tb.a = some (Gk.blk b') ∨ w.heap.size ≤ b')) →
      cutF pl n' = done ++ [{ fn with bk := fn.bk ++ [((ix pl n).2.2.1, (n : Int), (n' : Int))] }] → R (.bool true) w')
    (hbad : ∀ n' w', Ct w0 w' bc s n' ps f → Fr w.heap.size (fun k => k = bc ∨ k = bf ∨ tb.a = some (Gk.blk k)) w w' → StopL pl n' → R (.bool false) w') :
    callR Try.prog 112 #[.pointer (some (blk bc)), .pointer (some (blk bf))] w R := by
  refine callR.of (layout_cutter_block_calls _ _ R w ?_) fun _ _ h => h
  have hlen := hN.len
  have hbl : fn.bk.length = tb.l := by have := hO.1; rw [flat_length blV_len] at this; omega
  have hbcf : bc ≠ bf := Blk.apart h.blk hbf (by decide)
  have hbcl : bc < w.heap.size := h.blk.lt
  have hbfl : bf < w.heap.size := hbf.lt
  have h0w := h.b0.size
  generalize hX : (fun k => k = bc ∨ k = bf ∨ tb.a = some (Gk.blk k)) = X at hok hbad
  have hXc : X bc := by rw [← hX]; exact .inl rfl
  have bd : Below w.heap.size w w.drew := (Below.refl _ _).drew
  have hD := h.drew
  refine hD.sl (hD.at_ (elemPrC (hD.mem hN) hn fun a hc => hD.at_ ?_))
  refine lay_of fun w1 hB1 b1 z1 => ⟨cell_keep b1 (hD.blk.cell rfl), cell_keep b1 hc, cell_keep b1 (hD.blk.cell rfl), cell_keep b1 (hD.blk.cell0 rfl), ?_⟩
  have hB1 : Blk w1 w.drew.heap.size 63 [.int .u32 0, .int .i64 0, .int .i64 0] := hB1
  have hbb : w.drew.heap.size = w.heap.size := rfl
  generalize w.drew.heap.size = bb at hB1 hbb z1
  subst hbb
  have b01 : Below w.heap.size w w1 := bd.on b1
  have hC1 := h.below b01
  have hbf1 := hbf.below b01
  have hO1 := hO.below b01
  refine st3 hB1 rfl fun w4 hB4 c4 => ?_
  have hC4 := hC1.chg c4 h0w (by omega)
  have hbf4 := c4.blk hbf1 (by omega)
  have hO4 : Own w4 63 3 tb (flat blV fn.bk) := hO1.of_block fun a ha => c4.block _ (by have := (hO.lt ha).2; omega)
  have f4 : Fr w.heap.size X w w4 := (Fr.of_below b01).trans (c4.frB (Nat.le_refl _))
  have z4 : w4.heap.size = w.heap.size + 1 := by rw [c4.size, z1]
  refine hC4.inc (by omega) fun w5 hC5 c5 => ?_
  obtain ⟨F, hL, hFb⟩ : ∃ F, InvB pl (n + 1) F 248 ∧ (F = true ↔ fn.bk = []) := by
    rcases ha with ⟨g1, g2⟩ | ⟨g1, g2⟩
    · exact ⟨_, hI.label (.inl g1) hn hkd, ⟨fun _ => g2, fun _ => by rcases g1 with e | e <;> rw [e] <;> rfl⟩⟩
    · refine ⟨_, hI.label (.inr g1) hn hkd, ⟨fun e => ?_, fun e => absurd e g2⟩⟩
      rw [beq_eq_false_iff_ne.2 (show ah ≠ 54 by omega), beq_eq_false_iff_ne.2 (show ah ≠ 55 by omega)] at e
      cases e
  have hbf5 := c5.blk hbf4 (fun e => hbcf e.symm)
  have hcut1 := cutF_label hcut hkd
  have g5 : Fr w4.heap.size (fun k => k = bc) w4 w5 := c5.fr
  refine JoinW.cut (fun _ w8 => ∃ n1 ah1, n + 1 ≤ n1 ∧ InvB pl n1 F ah1 ∧ (n1 < pl.length → F = true → kdP (ix pl n1) ≠ 5) ∧ (n1 < pl.length → F = false → kdP (ix pl n1) ≠ 4) ∧ cutF pl n1 = cutF pl (n + 1) ∧
      Ct w0 w8 bc s n1 ps f ∧ Fr w4.heap.size (fun k => k = bc) w4 w8) ?_ ?_
  · refine derefP_some rfl (hbf5.rS (n := 3) rfl (ifB_beq (fun e => ?_) (fun e => ?_)))
    · have hF : F = true := hFb.2 (List.length_eq_zero_iff.1 (by omega))
      subst hF
      refine rowc_spec hC5 hN (by omega) h40 (by decide) fun r n1 w6 h1 h2 h3 h4' hC6 f6 _ _ => ⟨r, rfl, ?_⟩
      obtain ⟨ah1, hL1, _⟩ := hL.locals (.inl rfl) h1 h2 h3
      exact ⟨n1, ah1, h1, hL1, fun hl _ => h4' hl, fun _ h => (by cases h), cutF_idle h1 fun j j1 j2 => .inr (.inr (.inr (.inl (h3 j j1 j2)))), hC6, g5.on f6⟩
    · have hF : F = false := by
        cases F
        · rfl
        · have := hFb.1 rfl
          rw [this] at hbl
          exact absurd (by rw [← hbl]; rfl) e
      subst hF
      refine rowc_spec hC5 hN (by omega) h40 (by decide) fun r n1 w6 h1 h2 h3 h4' hC6 f6 _ _ => ⟨r, rfl, ?_⟩
      obtain ⟨ah1, hL1, _⟩ := hL.phis (.inl rfl) h1 h2 h3
      exact ⟨n1, ah1, h1, hL1, fun _ h => (by cases h), fun hl _ => h4' hl, cutF_idle h1 fun j j1 j2 => .inr (.inr (.inl (h3 j j1 j2))), hC6, g5.on f6⟩
  · rintro _ w8 ⟨n1, ah1, hn1, hL1, hk5, hk4, hcut2, hC8, g8⟩
    have hn1l := hL1.f.le
    refine rowc_spec hC8 hN hn1l h40 (by decide) fun r n2 w9 h1 h2 h3 h4' hC9 f9 _ _ => ⟨r, rfl, ?_⟩
    obtain ⟨ah2, hL2, hor⟩ := hL1.plains h1 h2 h3
    have hcut3 : cutF pl n2 = cutF pl (n + 1) := (cutF_idle h1 fun j j1 j2 => .inr (.inl (h3 j j1 j2))).trans hcut2
    have g9 := g8.on f9
    refine next_spec hC9 hN h2 fun w10 b10 => ⟨_, rfl, ?_⟩
    have hC10 := hC9.below b10
    have g10 := g9.on (Fr.of_below b10)
    have toX : ∀ {w' : World}, Fr w4.heap.size (fun k => k = bc) w4 w' → Fr w.heap.size X w w' := fun g => f4.trans ((g.wide fun k e => by rw [e]; exact hXc).mono (by omega) fun _ _ x => x)
    refine JoinW.cut (fun _ w14 => ∃ n3, n + 1 ≤ n3 ∧ n3 < pl.length ∧ kdP (ix pl n3) = 7 ∧ InvF pl (n3 + 1) (ix pl n3).1 ∧ (249 ≤ (ix pl n3).1 ∧ (ix pl n3).1 ≤ 255) ∧ cutF pl n3 = cutF pl (n + 1) ∧
        Ct w0 w14 bc s n3 ps f ∧ Fr w4.heap.size (fun k => k = bc) w4 w14) ?_ ?_
    · refine ifB_beq (fun e => ?_) (fun e => ?_)
      · obtain ⟨hlt2, hk6⟩ := kn_lt e (by decide)
        obtain ⟨hM, hop⟩ := hL2.merge hlt2 hk6
        refine hC10.inc (by omega) fun w11 hC11 c11 => ?_
        have g11 := g10.on c11.fr
        have bd11 : Below w11.heap.size w11 w11.drew := (Below.refl _ _).drew
        refine next_spec hC11.drew hN (by omega) fun w12 b12 => ⟨_, rfl, ?_⟩
        have hC12 := hC11.drew.below b12
        have g12 := g11.on (Fr.of_below (bd11.on b12))
        refine ifB_bne (fun e2 => ?_) (fun e2 => ?_)
        · exact hbad (n2 + 1) w12 hC12 (toX g12) (hM.mbad hop fun hl hk => absurd hk (kn_ne e2 hl))
        · obtain ⟨hlt3, hk7⟩ := kn_lt e2 (by decide)
          refine hC12.sl (hC12.at_ ?_)
          have ew : IntKind.i64.wrap (((n2 + 1 : Nat) : Int) - 1) = (n2 : Int) := by rw [wrap64_in (by omega) (by omega)]; omega
          rw [ew]
          refine elemPo (hC12.mem hN) hlt2 (hC12.sl (hC12.at_ (elemPo (hC12.mem hN) hlt3 ?_)))
          rw [← ix_lt hlt2, ← ix_lt hlt3]
          refine may_spec ⟨_, rfl, ifB_not (ifB_bool (fun hm => ?_) (fun hm => ?_))⟩
          · obtain ⟨q1, q2⟩ := hM.mender hop hlt3 hk7 hm
            refine ⟨n2 + 1, by omega, hlt3, hk7, q1, q2, ?_, hC12, g12⟩
            rw [← hcut3]
            exact cutF_idle (Nat.le_succ n2) fun j j1 j2 => by
              have : j = n2 := by omega
              subst this
              exact .inr (.inr (.inr (.inr hk6)))
          · exact hbad (n2 + 1) w12 hC12 (toX g12) (hM.mbad hop fun _ _ => hm)
      · refine ifB_beq (fun e2 => ?_) (fun e2 => ?_)
        · obtain ⟨hlt2, hk7⟩ := kn_lt e2 (by decide)
          obtain ⟨q1, q2⟩ := hL2.ender hlt2 hk7
          exact ⟨n2, by omega, hlt2, hk7, q1, q2, hcut3, hC10, g10⟩
        · refine hbad n2 w10 hC10 (toX g10) (hL2.bad (fun hl => ⟨h4' hl, kn_ne e hl, kn_ne e2 hl⟩) (fun hl h4 hF => ?_) (fun hl h5 hF => ?_))
          · rcases hor with e3 | e3
            · subst e3; exact absurd h4 (hk4 hl hF)
            · exact ⟨e3.1, e3.2.1⟩
          · rcases hor with e3 | e3
            · subst e3; exact absurd h5 (hk5 hl hF)
            · exact ⟨e3.1, e3.2.2⟩
    · rintro _ w14 ⟨n3, hn3, hlt3, hk7, hI3, hop3, hcut4, hC14, g14⟩
      refine hC14.inc (by omega) fun w15 hC15 c15 => ?_
      have g15 := g14.on c15.fr
      have hB15 : Blk w15 w.heap.size 63 [.int .u32 pl[n].2.2.1, .int .i64 (n : Int), .int .i64 0] := g15.blk hB4 (by omega)
      refine hC15.at_ ⟨hB15.wr (by simp), Nw.gen fun w16 e16 => ?_⟩
      have c16 : Chg w.heap.size w15 w16 := by rw [e16]; exact Chg.set _ _ _ _
      have hB16 : Blk w16 w.heap.size 63 [.int .u32 pl[n].2.2.1, .int .i64 (n : Int), .int .i64 ((n3 + 1 : Nat) : Int)] := by rw [e16]; exact hB15.set 2 _
      clear e16
      have hC16 := hC15.chg c16 h0w (by omega)
      have hbf16 := c16.blk (g15.blk hbf4 (fun e => hbcf e.symm)) (by omega)
      have hO15 := g15.own hO4 fun b e e2 => by subst e2; exact own_apart hO hD.blk (by decide) e
      have hO16 : Own w16 63 3 tb (flat blV fn.bk) := hO15.of_block fun a ha => c16.block _ (by have := (hO.lt ha).2; omega)
      have f16 : Fr w.heap.size X w w16 := (toX g15).trans (c16.frB (Nat.le_refl _))
      have bd16 : Below w16.heap.size w16 w16.drew := (Below.refl _ _).drew
      refine derefP_some rfl (hbf16.drew.rS (n := 3) (x := tb) rfl (hB16.drew.rI (n := 0) rfl (hB16.drew.rI (n := 1) rfl (hB16.drew.rI (n := 2) rfl ?_))))
      refine lay_of fun w17 hB17 b17 z17 => ⟨cell_keep b17 (hbf16.drew.cell rfl), ?_⟩
      have hB17 : Blk w17 w16.drew.heap.size 63 (blV (pl[n].2.2.1, (n : Int), ((n3 + 1 : Nat) : Int))) := hB17
      have b167 := bd16.on b17
      have hC17 := hC16.below b167
      have hbf17 := hbf16.below b167
      have hO17 := hO16.below b167
      have f17 : Fr w.heap.size X w w17 := f16.trans ((Fr.of_below b167).mono f16.size fun _ _ x => x)
      refine push_fr eBlk hO17 rfl (by simp [Value.oneCell']) hB17 (by omega) (by omega) fun r w18 b' hO18 hl18 ha18 hw18 f18 => ?_
      have hXb : ∀ k, tb.a = some (Gk.blk k) → X k := fun k e => by rw [← hX]; exact .inr (.inr e)
      have f18' : Fr w.heap.size X w w18 := f17.trans ((f18.wide hXb).mono f17.size fun _ _ x => x)
      have hC18 := hC17.fr f18 (fun k e => hF0 _ e) (own_apart hO hD.blk (by decide))
      have hbf18 := f18.blk hbf17 (own_apart hO17 hbf17 (by decide))
      refine derefP_some rfl ⟨hbf18.wr (by simp), Nw.gen fun w19 e19 => ?_⟩
      have c19 : Chg bf w18 w19 := by rw [e19]; exact Chg.set _ _ _ _
      have hbf19 : Blk w19 bf 54 (fnV fn tp r) := by rw [e19]; exact hbf18.set 3 _
      clear e19
      have f19 : Fr w.heap.size X w w19 := f18'.trans (c19.fr.wide fun k e => by rw [e, ← hX]; exact .inr (.inl rfl))
      have hsz17 := f17.size
      refine hok (n3 + 1) _ r w19 (by omega) (hC18.chg c19 h0f (fun e => hbcf e.symm)) f19 hI3 hop3 hbf19 ?_ ⟨b', ha18, ?_⟩ ?_
      · rw [flat_snoc, ix_lt hn]
        refine hO18.of_block fun a ha => c19.block _ fun e => ?_
        rw [ha18] at ha
        cases ha
        have e : b' = bf := e
        subst e
        exact own_apart hO18 hbf18 (by decide) ha18
      · rcases hw18 with g | g
        · exact .inl g
        · exact .inr (by omega)
      · have := cutF_ender (n := n3) (by rw [hcut4]; exact hcut1) hk7
        rw [this]
        rfl
end
end Go.Proofs
