/-
  The program's code: an instruction's words, a module's shape.
-/
import Derived.Test.Ytpeonjpjphhenaa04c
namespace Go.Proofs
open Go.Gk Go.RowKit Go.Gm

theorem faultF_eq (g : Fl) (ty re : Int) (al : List Ag) (bd : Int) : faultF g ty re al bd =
    (let e1 := errK g ty re al bd al.length; let e2 := if e1 = 0 then (if wholeP g al.length = true then 0 else 42) else e1; if e2 = 0 then (if 65535 < roomP g al then 25 else 0) else e2) := by
  unfold faultF
  dsimp only
  by_cases h1 : errK g ty re al bd al.length = 0
  · rw [if_neg (fun h => h h1), if_pos h1]
    cases hw : wholeP g al.length
    · simp
    · simp
  · rw [if_pos h1, if_neg h1, if_neg h1]
theorem tx_len (al : List Ag) : ∀ {k : Nat}, k ≤ al.length → tx al k ≤ k
  | 0, _ => by simp [tx]
  | k + 1, hk => by
    have := tx_len al (k := k) (by omega)
    rw [tx_succ (by omega)]
    split <;> omega

theorem bnd3 {n n' k t C : Nat} (h1 : n ≤ 2 + k + C * t) (h2 : n' ≤ n + C) : n' ≤ 2 + (k + 1) + C * (t + 1) := by
  rw [Nat.mul_add, Nat.mul_one]
  generalize C * t = q at h1
  omega
theorem bnd1 {n n' k t C : Nat} (h1 : n ≤ 2 + k + C * t) (h2 : n' ≤ n + 1) : n' ≤ 2 + (k + 1) + C * (t + 0) := by
  rw [Nat.add_zero]
  generalize C * t = q at h1
  omega
theorem Raw_spec {x : Ins} {al : List Ag} {bd : Int} {w : World} {R : Value → World → Prop} (hI : IsAg w x.2.2.2.1 al) (h24 : 24 * al.length ≤ 140737488351232) (hs : ∀ y ∈ al, y.2.2.size ≤ 9223372036854775807)
    (hR : ∀ (r : Sl) (op : Int) w', Below w.heap.size w w' → (faultP x.1 x.2.1 x.2.2.1 al bd = 0 → 1 + r.l = roomI (x.1, x.2.1, x.2.2.1, al) ∧ roomI (x.1, x.2.1, x.2.2.1, al) ≤ 65535) →
      R (.tuple #[.agg #[.int .u16 op, .slice r.a r.l r.c], .int .i64 (faultP x.1 x.2.1 x.2.2.1 al bd)]) w') :
    callR Try.prog 103 #[inA x, .int .u32 bd] w R := by
  refine callR.of (code_Raw_calls x bd R w ?_) fun _ _ h => h
  refine lay_of fun w1 hB1 b1 z1 => ?_
  have hB1 : Blk w1 w.heap.size 45 (inV x) := hB1
  refine lay_of fun w2 hC2 b2 z2 => ?_
  have hC2 : Blk w2 w1.heap.size 163 [.int .u16 0, .slice none 0 0] := hC2
  have hB2 := hB1.below b2
  have hb2 := b1.on b2
  refine hB2.rI0 rfl ?_
  refine gOf_spec fun w3 b3 => ⟨fmO x.1 (frm x.1), (frm x.1).isSome, rfl, ?_⟩
  refine box8 rfl fun w4 hF4 b4 z4 => ?_
  have hF4 : Blk w4 w3.heap.size 133 (fmV (fmO x.1 (frm x.1))) := hF4
  have b24 := b3.on b4
  have hb4 := hb2.on b24
  have hB4 := hB2.below b24
  have hC4 := hC2.below b24
  have s1 := b1.size
  have s2 := b2.size
  have s3 := b3.size
  have s4 := b4.size
  have hlen := hI.len
  refine ifB_bool (fun hn => ?_) (fun hn => ?_)
  · have hfr : frm x.1 = none := by
      cases h : frm x.1 with
      | none => rfl
      | some g => rw [h] at hn; cases hn
    have hfp : faultP x.1 x.2.1 x.2.2.1 al bd = 30 := faultP_none hfr
    rw [hfp] at hR
    refine st2 hC4 rfl fun w5 hC5 c5 => ?_
    refine hC5.rI (n := 0) rfl (hC5.rS (n := 1) (x := ⟨none, 0, 0⟩) rfl ?_)
    exact hR ⟨none, 0, 0⟩ 0 w5 (c5.below hb4 (by omega)) (fun h => by cases h)
  · obtain ⟨g, hfr⟩ : ∃ g, frm x.1 = some g := by
      cases h : frm x.1 with
      | none => rw [h] at hn; cases hn
      | some g => exact ⟨g, rfl⟩
    have efl : flOf x.1 = g := by unfold flOf; rw [hfr]; rfl
    rw [hfr] at hF4
    rw [faultP_some hfr, show roomI (x.1, x.2.1, x.2.2.1, al) = roomP g al by unfold roomI; dsimp only; rw [hfr]] at hR
    have hop : (fmO x.1 (some g)).1 = x.1 := rfl
    have hty : (fmO x.1 (some g)).2.2.1 = g.ty := rfl
    have hre : (fmO x.1 (some g)).2.2.2.1 = g.re := rfl
    have hwh := @fit_whole x.1 g hfr al bd
    generalize fmO x.1 (some g) = fm at hF4 hop hty hre
    refine Fm.load hF4 ?_
    refine lay_of fun w5 hW5 b5 z5 => ?_
    have hW5 : Blk w5 w4.heap.size 189 (wrV fm bd ⟨none, 0, 0⟩ 0) := hW5
    have hS5 : WtS w4 w5 w4.heap.size fm bd 0 0 := ⟨Nat.le_refl _, b5, ⟨none, 0, 0⟩, [], hW5, Own.nil _ _ _, (fun a ha => by cases ha), rfl⟩
    have hF5 := hF4.below b5
    have hB5 := hB4.below b5
    refine hF5.rB (n := 2) rfl (hB5.rI (n := 1) rfl ?_)
    refine head_spec hS5 (by omega) (by omega) fun w6 room6 n6 hS6 hr6 hn6 he6 => ⟨_, rfl, ?_⟩
    rw [hty] at he6 ⊢
    have e0 : errK g x.2.1 x.2.2.1 al bd 0 = if idP g.ty x.2.1 bd 40 = 0 then idP g.re x.2.2.1 bd 41 else idP g.ty x.2.1 bd 40 := by
      unfold errK
      rw [argK_zero]
      by_cases h1 : idP g.ty x.2.1 bd 40 = 0
      · rw [if_neg (fun h => h h1), if_pos h1]
        by_cases h2 : idP g.re x.2.2.1 bd 41 = 0
        · rw [if_neg (fun h => h h2), h2]
        · rw [if_pos h2]
      · rw [if_pos h1, if_neg h1]
    refine JoinW.cut (fun st w' => st.1 = errK g x.2.1 x.2.2.1 al bd 0 ∧ ∃ room n, WtS w4 w' w4.heap.size fm bd room n ∧ (errK g x.2.1 x.2.2.1 al bd 0 = 0 → room = g.ty.toNat + g.re.toNat ∧ n = room)) ?_ ?_
    · refine ifB_beq (fun e => ?_) (fun e => ?_)
      · rw [if_pos e] at e0
        obtain ⟨g1, g2⟩ := he6 e (by decide)
        have hF6 := hF4.below hS6.below
        have hB6 := hB4.below hS6.below
        refine hF6.rB (n := 3) rfl (hB6.rI (n := 2) rfl ?_)
        refine head_spec hS6 (by omega) (by omega) fun w7 room7 n7 hS7 hr7 hn7 he7 => ⟨_, rfl, ?_, room7, n7, hS7, fun h0 => ?_⟩
        · rw [e0, hre]
        · rw [e0] at h0
          rw [hre] at he7
          obtain ⟨g3, g4⟩ := he7 h0 (by decide)
          omega
      · rw [if_neg e] at e0
        exact ⟨e0.symm, room6, n6, hS6, fun h0 => absurd (e0.symm.trans h0) e⟩
    · rintro ⟨ev, _⟩ w7 ⟨hev, room7, n7, hS7, hz7⟩
      dsimp only at hev
      subst hev
      have hB7 := hB4.below hS7.below
      refine hB7.rS (n := 3) rfl ?_
      have htn : g.ty.toNat + g.re.toNat ≤ 2 := by cases g.ty <;> cases g.re <;> decide
      refine LoopW.ghost (fun j st w' => ∃ k, k ≤ al.length ∧ j = al.length - k ∧ st = (errK g x.2.1 x.2.2.1 al bd k, (k : Int), ()) ∧ ∃ room n, WtS w4 w' w4.heap.size fm bd room n ∧
        (errK g x.2.1 x.2.2.1 al bd k = 0 → room = g.ty.toNat + g.re.toNat + costN al k ∧ (n = room ∨ 65535 < room) ∧ n ≤ 2 + k + 65535 * tx al k)) al.length
        ⟨0, Nat.zero_le _, rfl, rfl, room7, n7, hS7, fun h => by obtain ⟨g1, g2⟩ := hz7 h; refine ⟨by rw [g1]; simp [costN], .inl g2, ?_⟩; simp [tx]; omega⟩ ?_
      rintro _ _ w8 ⟨k, hk, rfl, rfl, room8, n8, hS8, hz8⟩ next hnext
      refine ifB_dec (fun h => ?_) (fun h => ?_)
      · have hlt : k < al.length := by dsimp only at h; omega
        have hI8 := hI.below (hb4.on hS8.below)
        refine JoinW.cut (fun st w' => st.1 = errK g x.2.1 x.2.2.1 al bd (k + 1) ∧ ∃ room n, WtS w4 w' w4.heap.size fm bd room n ∧
          (errK g x.2.1 x.2.2.1 al bd (k + 1) = 0 → room = g.ty.toNat + g.re.toNat + costN al (k + 1) ∧ (n = room ∨ 65535 < room) ∧ n ≤ 2 + (k + 1) + 65535 * tx al (k + 1))) ?_ ?_
        · refine elemA3 hI8 hlt ?_
          refine box3 rfl fun w9 hA9 b9 z9 => ?_
          have hS9 := hS8.step b9
          refine ifB_beq (fun e => ?_) (fun e => ?_)
          · obtain ⟨g1, g2, g3⟩ := hz8 e
            obtain ⟨_, _, ha⟩ := errK_all e
            have hwe := argK_all ha
            have htx := tx_one hfr (k := k) (by omega) hwe
            have hcn := costN_le hs (k := k) (by omega)
            refine hA9.rI (n := 0) rfl (hA9.rI (n := 1) rfl (hA9.rT (n := 2) rfl ?_))
            refine arg_spec hS9 (k := k) (by omega) (hs _ (List.getElem_mem hlt)) (by omega) (by omega) fun w10 room' n' hS10 hz10 => ⟨_, rfl, ?_, room', n', hS10, fun h0 => ?_⟩
            · rw [errK_succ, if_pos e, hop, efl]
              unfold werr
              rw [getD_lt hlt]
            · rw [errK_succ, if_pos e] at h0
              unfold werr at h0
              rw [getD_lt hlt] at h0
              rw [hop, efl] at hz10
              obtain ⟨q1, q2, q3⟩ := hz10 h0
              rw [costN_succ hlt, tx_succ hlt]
              refine ⟨by omega, by omega, ?_⟩
              split at q3 <;> rename_i h3
              · rw [if_pos h3]; exact bnd3 g3 q3
              · rw [if_neg h3]; exact bnd1 g3 q3
          · refine ⟨?_, room8, n8, hS9, fun h0 => ?_⟩
            · rw [errK_succ, if_neg e]
            · rw [errK_succ, if_neg e] at h0
              exact absurd h0 e
        · rintro ⟨ev, _⟩ w9 ⟨hev, room9, n9, hS9, hz9⟩
          dsimp only at hev
          subst hev
          dsimp only
          rw [wrap64_succ (by omega)]
          exact hnext (al.length - (k + 1)) _ _ (by omega) ⟨k + 1, hlt, rfl, rfl, room9, n9, hS9, hz9⟩
      · have hk' : k = al.length := by dsimp only at h; omega
        subst hk'
        have hff := faultF_eq g x.2.1 x.2.2.1 al bd
        dsimp only at hff
        have hb8 := hS8.below
        have hF8 := hF4.below hb8
        have hB8 := hB4.below hb8
        have hI8 := hI.below (hb4.on hb8)
        refine JoinW.cut (fun st w' => st.1 = (if errK g x.2.1 x.2.2.1 al bd al.length = 0 then (if wholeP g al.length = true then 0 else 42) else errK g x.2.1 x.2.2.1 al bd al.length) ∧ WtS w4 w' w4.heap.size fm bd room8 n8) ?_ ?_
        · refine ifB_beq (fun e => ?_) (fun e => ?_)
          · refine Fm.load hF8 ?_
            refine hB8.rS (n := 3) rfl ?_
            refine whole_spec (f := fm) hI8 h24 fun w9 b9 => ⟨_, rfl, ?_, hS8.step b9⟩
            obtain ⟨_, _, ha⟩ := errK_all e
            rw [if_pos e, hop, hwh (argK_all ha)]
          · exact ⟨by rw [if_neg e], hS8⟩
        · rintro ⟨ev, _⟩ w9 ⟨hev, hS9⟩
          dsimp only at hev
          rw [← hev] at hff
          have hroom : ev = 0 → errK g x.2.1 x.2.2.1 al bd al.length = 0 := by
            intro h
            rw [h] at hev
            refine Classical.byContradiction fun hne => ?_
            rw [if_neg hne] at hev
            exact hne hev.symm
          obtain ⟨r, xs, hW9, hO9, hFr9, hrl9⟩ := hS9.own
          refine JoinW.cut (fun st w' => st.1 = faultF g x.2.1 x.2.2.1 al bd ∧ w' = w9) ?_ ?_
          · refine ifB_beq (fun e => ?_) (fun e => ?_)
            · have e' : ev = 0 := e
              rw [if_pos e'] at hff
              obtain ⟨g1, _, _⟩ := hz8 (hroom e')
              have hrp : roomP g al = 1 + room8 := by unfold roomP; rw [g1]
              refine hW9.rI (n := 10) rfl (ifB_dec (fun hge => ⟨?_, rfl⟩) (fun hlt => ⟨?_, rfl⟩))
              · rw [hff, if_pos (by omega)]
              · rw [hff, if_neg (by omega)]; exact e
            · have e' : ¬ ev = 0 := e
              rw [if_neg e'] at hff
              exact ⟨hff.symm, rfl⟩
          · rintro ⟨ev2, _⟩ w' ⟨hev2, hw'⟩
            dsimp only at hev2
            subst hw'
            have hb9 := hb4.on hS9.below
            have hC9 := hC4.below hS9.below
            have hB9 := hB4.below hS9.below
            refine ifB_bne (fun e => ?_) (fun e => ?_)
            · refine st2 hC9 rfl fun w10 hC10 c10 => ?_
              refine hC10.rI (n := 0) rfl (hC10.rS (n := 1) (x := ⟨none, 0, 0⟩) rfl ?_)
              have := hR ⟨none, 0, 0⟩ 0 w10 (c10.below hb9 (by omega)) (fun h => absurd (hev2.trans h) e)
              rw [← hev2] at this
              exact this
            · have e' : ev2 = 0 := e
              refine hB9.drew.rI0 rfl (hW9.drew.rS (n := 9) (x := r) rfl ?_)
              refine st2 hC9.drew rfl fun w10 hC10 c10 => ?_
              refine hC10.rI (n := 0) rfl (hC10.rS (n := 1) (x := r) rfl ?_)
              have hf0 : faultF g x.2.1 x.2.2.1 al bd = 0 := hev2.symm.trans e'
              have := hR r x.1 w10 (c10.below hb9.drew (by omega)) (fun _ => by
                rw [hf0] at hff
                have h0 : ev = 0 := by
                  refine Classical.byContradiction fun hne => ?_
                  rw [if_neg hne] at hff
                  exact hne hff.symm
                rw [if_pos h0] at hff
                have hle : ¬ 65535 < roomP g al := by
                  intro h
                  rw [if_pos h] at hff
                  cases hff
                obtain ⟨g1, g2, _⟩ := hz8 (hroom h0)
                have hrp : roomP g al = 1 + room8 := by unfold roomP; rw [g1]
                omega)
              rw [hf0] at this
              exact this

/-! ### The module -/
theorem counted_nil {w : World} {R : Value → World → Prop} (hR : ∀ w', Below w.heap.size w w' → R (.tuple #[.int .i64 5, .agg #[.int .i64 0, .int .i64 0]]) w') : callR Try.prog 123 #[.slice none 0 0] w R := by
  refine callR.of (frame_counted_calls ⟨none, 0, 0⟩ R w ?_) fun _ _ h => h
  refine lay_of fun w1 hB b1 z1 => ?_
  have hB : Blk w1 w.heap.size 29 [.int .i64 0, .int .i64 0] := hB
  refine LoopW.ghost (fun j st w' => j = 0 ∧ st = ((5 : Int), (0 : Int), ()) ∧ w' = w1) 0 ⟨rfl, rfl, rfl⟩ ?_
  rintro _ _ w' ⟨rfl, rfl, hw⟩ next hnext
  subst hw
  refine ifB_dec (fun h => absurd h (by simp)) (fun _ => ?_)
  refine st2 hB rfl fun w2 h2 c2 => ?_
  exact Sp.load h2 (hR w2 (c2.below b1 (Nat.le_refl _)))
theorem Size_nil {w : World} {R : Value → World → Prop} (hR : ∀ w', Below w.heap.size w w' → R (.tuple #[.int .i64 5, .int .i64 0]) w') : callR Try.prog 102 #[.slice none 0 0] w R := by
  refine callR.of (frame_Size_calls ⟨none, 0, 0⟩ R w ?_) fun _ _ h => h
  refine counted_nil fun w1 b1 => ⟨5, (0, 0, ()), rfl, ?_⟩
  refine box2 rfl fun w2 h2 b2 z2 => ?_
  exact h2.drew.rI0 rfl (hR w2.drew (b1.on b2).drew)
theorem eRaw : ElemT Try.prog 137 163 2 32 := ⟨by kernel_rfl, Try.t163, .agg #[.int .u16 0, .slice none 0 0], by kernel_rfl, rfl, rfl, rfl, rfl⟩
/-- append of one element of some cells to a list of the code's own, in new memory. -/
theorem push_cells {P : Program} {t e : TypeId} {sz bytes : Nat} (he : ElemT P t e sz bytes) {w0 w : World} {s : Sl} {xs : List Value} (h : Own w e sz s xs) (hb : Below w0.heap.size w0 w) (hF : Fresh w0.heap.size s) {vs : List Value} (hvs : vs.length = sz) (hv : ∀ u ∈ vs, u.oneCell' = true) {b c : Nat} {T : TypeId}
    (hB : Blk w b T vs) (h63 : s.l + 1 ≤ 9223372036854775807) (hbytes : (s.l + 1) * bytes ≤ 140737488355328) {k : Sl → World → Prop}
    (hk : ∀ r w', Own w' e sz r (xs ++ vs) → r.l = s.l + 1 → Below w0.heap.size w0 w' → Fresh w0.heap.size r → k r w') : appendS P t (.slice s.a s.l s.c) (.slice (some (blk b)) 1 c) w k := by
  refine append_own he h (news := vs) (by omega) (fun j u hj => hB.cell hj) hv h63 hbytes fun r w' h1 hl' hg => ?_
  rcases hg with ⟨_, _, h3⟩ | ⟨b', h3, h4, h5⟩
  · rw [h3] at hl'; omega
  · have hbb : w0.heap.size ≤ b' := by
      rcases h4 with h4 | h4
      · exact hF _ h4
      · have := hb.size
        omega
    exact hk r w' h1 hl' (hb.trans (below_grown h5 hbb hb.size)) fun a ha => by rw [h3] at ha; cases ha; exact hbb
theorem raws_spec {x : Mo} {pl : List PI} {w : World} {R : Value → World → Prop} (hN : IsPl w x.2.2.1 pl) (hp : PlOk pl) (hR : ∀ (r : Sl) w', Below w.heap.size w w' → R (.tuple #[.slice r.a r.l r.c, .agg #[.int .i64 (shapeP x.2.1 pl).1, .int .i64 ((shapeP x.2.1 pl).2 : Int)]]) w') :
    callR Try.prog 77 #[moA x] w R := by
  refine callR.of (code_raws_calls x R w ?_) fun _ _ h => h
  refine lay_of fun w1 hB1 b1 z1 => ?_
  have hB1 : Blk w1 w.heap.size 25 (moV x) := hB1
  refine lay_of fun w2 hC2 b2 z2 => ?_
  have hC2 : Blk w2 w1.heap.size 29 [.int .i64 0, .int .i64 0] := hC2
  have hB2 := hB1.below b2
  have hb2 := b1.on b2
  have s1 := b1.size
  have s2 := b2.size
  have hlen := hN.len
  have h40 := hp.len
  have spot : ∀ {w' cs}, Blk w' w1.heap.size 29 cs → cs.length = 2 → Below w.heap.size w w' → ∀ (r : Sl) (e a : Int), (e, a) = ((shapeP x.2.1 pl).1, ((shapeP x.2.1 pl).2 : Int)) →
      Wr w' (blk w1.heap.size) ∧ Nw (w'.setCell (blk w1.heap.size) (.int .i64 e)) fun w3 => Wr w3 ((blk w1.heap.size).add 1) ∧ Nw (w3.setCell ((blk w1.heap.size).add 1) (.int .i64 a)) fun w4 =>
        ldI w4 ((blk w1.heap.size).add 0) .i64 fun x4 => ldI w4 ((blk w1.heap.size).add 1) .i64 fun x5 => R (.tuple #[.slice r.a r.l r.c, .agg #[.int .i64 x4, .int .i64 x5]]) w4 := by
    intro w' cs hC hl hb r e a hea
    refine st2 hC hl fun w3 h3 c3 => Sp.load h3 ?_
    rw [Prod.mk.injEq] at hea
    rw [hea.1, hea.2]
    exact hR r w3 (c3.below hb (by omega))
  refine JoinW.cut (fun _ w' => w' = w2 ∧ ¬ (x.2.1 = 0 ∨ 65536 < x.2.1)) ?_ ?_
  · refine hB2.rI (n := 1) rfl (ifB_beq (fun e => ?_) (fun e => ?_))
    · exact spot hC2 rfl hb2 ⟨none, 0, 0⟩ 24 0 (by rw [shape_bound (.inl e)]; rfl)
    · refine hB2.rI (n := 1) rfl (ifB_dec (fun h => ?_) (fun h => ⟨rfl, fun h' => h'.elim e h⟩))
      exact spot hC2 rfl hb2 ⟨none, 0, 0⟩ 24 0 (by rw [shape_bound (.inr h)]; rfl)
  · rintro _ w' ⟨hw, hbd⟩
    subst hw
    refine Size_nil fun w3 b3 => ⟨_, _, rfl, ?_⟩
    have hB3 := hB2.below b3
    have hC3 := hC2.below b3
    have hb3 := hb2.on b3
    refine hB3.rS (n := 2) rfl ?_
    rw [show IntKind.i64.wrap (1048576 - 5) = 1048571 by decide +kernel]
    refine LoopW.ghost (fun j st w4 => ∃ (k : Nat) (r : Sl) (xs : List Value), k ≤ pl.length ∧ j = pl.length - k ∧ st = ((1048576 : Int) - (totP pl k : Int), r, (k : Int), ()) ∧ totP pl k ≤ 1048576 ∧ (∀ i, i < k → badI pl x.2.1 i = false) ∧ Own w4 163 2 r xs ∧ Fresh w'.heap.size r ∧ r.l = k ∧
      Below w'.heap.size w' w4) pl.length ⟨0, ⟨none, 0, 0⟩, [], Nat.zero_le _, rfl, rfl, (by simp [totP]), fun i hi => by omega, Own.nil _ _ _, fun a ha => by (cases ha), rfl, b3⟩ ?_
    rintro _ _ w4 ⟨k, r, xs, hk, rfl, rfl, htot, hj, hO, hF, hrl, hb4⟩ next hnext
    have hbw4 := hb2.on hb4
    have hB4 := hB2.below hb4
    have hC4 := hC2.below hb4
    refine ifB_dec (fun h => ?_) (fun h => ?_)
    · have hlt : k < pl.length := by dsimp only at h; omega
      have hmem := List.getElem_mem hlt
      refine elemPI (hN.below hbw4) hlt fun t ht => ?_
      refine box4 rfl fun w5 hI5 b5 z5 => ?_
      have hI5 : Blk w5 w4.heap.size 45 (inV (mkIn pl[k] t)) := hI5
      refine Ins.load hI5 ?_
      refine (hB4.below b5).rI (n := 1) rfl ?_
      refine Raw_spec (x := mkIn pl[k] t) (ht.below b5) (hp.args _ hmem) (hp.text _ hmem) fun q op w6 b6 hq => ⟨(op, q, ()), _, rfl, ?_⟩
      refine box2 rfl fun w7 h7 b7 z7 => ?_
      have h7 : Blk w7 w6.heap.size 163 [.int .u16 op, .slice q.a q.l q.c] := h7
      have b57 := (b5.on b6).on b7
      have hb7 := hb4.on b57
      refine h7.rS (n := 1) (x := q) rfl ?_
      change faultI pl[k] x.2.1 = 0 → 1 + q.l = roomI pl[k] ∧ roomI pl[k] ≤ 65535 at hq
      show ifB (faultI pl[k] x.2.1 != 0) _ _
      refine ifB_bne (fun e => ?_) (fun e => ?_)
      · exact spot (hC4.below b57) rfl (hbw4.on b57) ⟨none, 0, 0⟩ _ _ (by rw [shape_fault hbd hlt hj e]; rfl)
      · obtain ⟨q1, q2⟩ := hq e
        have ht1 := totP_succ hlt
        have hleft : IntKind.i64.wrap (((1048576 : Int) - (totP pl k : Int)) - IntKind.i64.wrap (1 + (q.l : Int))) = (1048576 : Int) - (totP pl (k + 1) : Int) := by
          rw [wrap64_in (x := (1 : Int) + (q.l : Int)) (by omega) (by omega), wrap64_in (by omega) (by omega)]
          omega
        dsimp only
        rw [hleft]
        refine ifB_dec (fun hlt0 => ?_) (fun hge0 => ?_)
        · exact spot (hC4.below b57) rfl (hbw4.on b57) ⟨none, 0, 0⟩ _ _ (by rw [shape_large hbd hlt hj e (by omega)])
        · have hbk := badI_false hlt e (show ¬ 1048576 < totP pl (k + 1) by omega)
          refine h7.rI (n := 0) rfl (h7.rS (n := 1) (x := q) rfl ?_)
          refine lay_of fun w8 h8 b8 z8 => ?_
          have h8 : Blk w8 w7.heap.size 163 [.int .u16 op, .slice q.a q.l q.c] := h8
          refine push_cells eRaw ((hO.below b57).below b8) (hb7.on b8) hF rfl (by simp [Value.oneCell']) h8 (by omega) (by omega) fun r' w9 hO9 hl9 b9 F9 => ?_
          rw [wrap64_succ (by omega)]
          refine hnext (pl.length - (k + 1)) _ _ (by omega) ⟨k + 1, r', _, hlt, rfl, rfl, by omega, fun i hi => ?_, hO9, F9, by omega, b9⟩
          by_cases e' : i = k
          · subst e'; exact hbk
          · exact hj i (by omega)
    · have hk' : k = pl.length := by dsimp only at h; omega
      subst hk'
      exact spot hC4 rfl hbw4 r 0 0 (by rw [shape_good hbd hj]; rfl)
theorem Shape_spec {x : Mo} {pl : List PI} {w : World} {R : Value → World → Prop} (hN : IsPl w x.2.2.1 pl) (hp : PlOk pl) (hR : ∀ w', Below w.heap.size w w' → R (.agg #[.int .i64 (shapeP x.2.1 pl).1, .int .i64 ((shapeP x.2.1 pl).2 : Int)]) w') :
    callR Try.prog 48 #[moA x] w R := by
  refine callR.of (code_Shape_calls x R w ?_) fun _ _ h => h
  refine lay_of fun w1 hB1 b1 z1 => ?_
  have hB1 : Blk w1 w.heap.size 25 (moV x) := hB1
  refine lay_of fun w2 hC2 b2 z2 => ?_
  have hC2 : Blk w2 w1.heap.size 29 [.int .i64 0, .int .i64 0] := hC2
  have hb2 := b1.on b2
  refine Mo.load (hB1.below b2) ?_
  refine raws_spec (x := x) (hN.below hb2) hp fun r w3 b3 => ⟨r, ((shapeP x.2.1 pl).1, ((shapeP x.2.1 pl).2 : Int), ()), rfl, ?_⟩
  refine box2 rfl fun w4 h4 b4 z4 => ?_
  refine Sp.load h4 ?_
  refine st2 ((hC2.below b3).below b4) rfl fun w5 h5 c5 => ?_
  refine Sp.load h5 (hR w5 (c5.below ((hb2.on b3).on b4) (by have := b1.size; omega)))

end Go.Proofs
