/-
  layout: the parts ahead of the functions; a block; the whole.
-/
import Derived.Test.Ytpeonjpjphhenaa05w
namespace Go.Proofs
open Go.Gk Go.RowKit Go.Gm

theorem cell_keep {w w' : World} (hb : Below w.heap.size w w') {a : Addr} {v : Value} (h : w.cell? a = some v) : w'.cell? a = some v := by
  rw [World.cell?_of_block (w := w) (hb.block _ (World.block_lt_of_cell? w _ h))]
  exact h
theorem elemPrC {w : World} {s : Sl} {pl : List PI} (h : IsPl w s pl) {k : Nat} (hk : k < pl.length) {φ : Addr → Int → Prop} (hφ : ∀ a, w.cell? ((a.add (Int.toNat (k : Int) * 4)).add 2) = some (.int .u32 pl[k].2.2.1) → φ a pl[k].2.2.1) :
    (0 ≤ (k : Int) ∧ (k : Int) < (s.l : Int)) ∧ derefP s.a fun a => ldI w ((a.add (Int.toNat (k : Int) * 4)).add 2) .u32 fun x => φ a x := by
  obtain ⟨a, ha⟩ := h.base hk
  obtain ⟨t, h1, h2⟩ := h.elem a ha k hk
  have hc : w.cell? ((a.add (Int.toNat (k : Int) * 4)).add 2) = some (.int .u32 pl[k].2.2.1) := by rw [add_add']; exact h1 2 (by omega)
  exact ⟨⟨by omega, by have := h.len; omega⟩, derefP_some ha ⟨_, hc, hφ a hc⟩⟩
abbrev fnV (f : FnL) (tp tb : Sl) : List Value := [.int .u32 f.id, .int .i64 f.at_, .slice tp.a tp.l tp.c, .slice tb.a tb.l tb.c, .int .i64 f.en]
abbrev blV (b : Int × Int × Int) : List Value := [.int .u32 b.1, .int .i64 b.2.1, .int .i64 b.2.2]
theorem eBlk : ElemT Try.prog 52 63 3 24 := ⟨by kernel_rfl, Try.t63, .agg #[.int .u32 0, .int .i64 0, .int .i64 0], by kernel_rfl, rfl, rfl, rfl, rfl⟩
theorem eFun : ElemT Try.prog 49 54 5 72 := ⟨by kernel_rfl, Try.t54, .agg #[.int .u32 0, .int .i64 0, .slice none 0 0, .slice none 0 0, .int .i64 0], by kernel_rfl, rfl, rfl, rfl, rfl⟩
theorem own_apart {w : World} {T T' : TypeId} {sz b : Nat} {s : Sl} {xs cs : List Value} (h : Own w T sz s xs) (hB : Blk w b T' cs) (hT : T ≠ T') : s.a ≠ some (Gk.blk b) := fun e => by
  obtain ⟨cs', h'⟩ := h.type e
  exact Blk.apart h' hB hT rfl
theorem own_apart2 {w : World} {T T' : TypeId} {sz sz' : Nat} {s t : Sl} {xs ys : List Value} (h : Own w T sz s xs) (k : Own w T' sz' t ys) (hT : T ≠ T') {b : Nat} (e : s.a = some (Gk.blk b)) : t.a ≠ some (Gk.blk b) := fun e' => by
  obtain ⟨cs', h'⟩ := h.type e
  exact own_apart k h' (fun g => hT g.symm) e'

section
variable {w0 w : World} {bc n : Nat} {s f : Sl} {ps : List Int} {pl : List PI} {R : Value → World → Prop}
theorem ctV_set {i : Nat} {v : Int} (hi : i < ps.length) : (ctV s n ps f).set (2 + i) (.int .i64 v) = ctV s n (ps.set i v) f := by
  have e : 2 + i = i + 1 + 1 := by omega
  show (Value.slice s.a s.l s.c :: Value.int .i64 n :: (ps.map (Value.int .i64) ++ [.slice f.a f.l f.c])).set (2 + i) _ = _
  rw [e, List.set_cons_succ, List.set_cons_succ, List.set_append_left _ _ (by simpa using hi), ← List.map_set]
theorem ctV_f (hps : ps.length = 20) : (ctV s n ps f)[22]? = some (.slice f.a f.l f.c) := by
  show (Value.slice s.a s.l s.c :: Value.int .i64 n :: (ps.map (Value.int .i64) ++ [.slice f.a f.l f.c]))[22]? = _
  rw [List.getElem?_cons_succ, List.getElem?_cons_succ, List.getElem?_append_right (by simp [hps])]
  simp [hps]
theorem ctV_setf {g : Sl} (hps : ps.length = 20) : (ctV s n ps f).set 22 (.slice g.a g.l g.c) = ctV s n ps g := by
  show (Value.slice s.a s.l s.c :: Value.int .i64 n :: (ps.map (Value.int .i64) ++ [.slice f.a f.l f.c])).set 22 _ = _
  rw [List.set_cons_succ, List.set_cons_succ, List.set_append_right _ _ (by simp [hps])]
  simp [hps]
theorem ctV_len (hps : ps.length = 20) : (ctV s n ps f).length = 23 := by simp [hps]
/-- c.parts[p] = {x, y} -/
theorem Ct.part (h : Ct w0 w bc s n ps f) {p : Nat} (hp : p < 10) {x y : Int} {K : World → Prop} (hK : ∀ w', Ct w0 w' bc s n ((ps.set (2 * p) x).set (2 * p + 1) y) f → Chg bc w w' → K w') :
    derefP (some (Gk.blk bc)) fun a => (0 ≤ (p : Int) ∧ (p : Int) < (10 : Int)) ∧ Wr w ((a.add 2).add (Int.toNat (p : Int) * 2)) ∧ Nw (w.setCell ((a.add 2).add (Int.toNat (p : Int) * 2)) (.int .i64 x)) fun w8 =>
      Wr w8 (((a.add 2).add (Int.toNat (p : Int) * 2)).add 1) ∧ Nw (w8.setCell (((a.add 2).add (Int.toNat (p : Int) * 2)).add 1) (.int .i64 y)) K := by
  have hps := h.len
  have e1 : ((Gk.blk bc).add 2).add (Int.toNat (p : Int) * 2) = (Gk.blk bc).add (2 + 2 * p) := by rw [add_add', Int.toNat_natCast, Nat.mul_comm]
  have e2 : (((Gk.blk bc).add 2).add (Int.toNat (p : Int) * 2)).add 1 = (Gk.blk bc).add (2 + (2 * p + 1)) := by rw [e1, add_add']; rfl
  have hl := ctV_len (s := s) (n := n) (f := f) hps
  refine derefP_some rfl ⟨⟨by omega, by omega⟩, ?_⟩
  rw [e1]
  refine ⟨h.blk.wr (by omega), Nw.gen fun w8 e => ?_⟩
  rw [← e1, e2]
  have c8 : Chg bc w w8 := by rw [e]; exact Chg.set _ _ _ _
  have hB8 : Blk w8 bc 100 (ctV s n (ps.set (2 * p) x) f) := by rw [e, ← ctV_set (by omega)]; exact h.blk.set _ _
  clear e
  have hl8 := ctV_len (s := s) (n := n) (f := f) (ps := ps.set (2 * p) x) (by simpa using hps)
  refine ⟨hB8.wr (by omega), Nw.gen fun w9 e => ?_⟩
  have c9 : Chg bc w8 w9 := by rw [e]; exact Chg.set _ _ _ _
  refine hK w9 ⟨h.hi, (c8.trans c9).below h.b0 h.hi, ?_, by simpa using hps⟩ (c8.trans c9)
  rw [e, ← ctV_set (by simp; omega)]
  exact hB8.set _ _
theorem top_spec (h : Ct w0 w bc s 0 ps f) (hN : IsPl w0 s pl) (hmax : pl.length < 9223372036854775807)
    (hok : ∀ n ps' w', Ct w0 w' bc s n ps' f → Fr w.heap.size (fun k => k = bc) w w' → InvT pl 8 n → PartsTo pl 8 n ps' → R (.bool true) w')
    (hbad : ∀ n ps' w', Ct w0 w' bc s n ps' f → Fr w.heap.size (fun k => k = bc) w w' → StopL pl n → R (.bool false) w') :
    callR Try.prog 109 #[.pointer (some (blk bc))] w R := by
  refine callR.of (layout_cutter_top_calls _ R w ?_) fun _ _ h => h
  have hlen := hN.len
  refine LoopW.ghost (fun j (st : Int × Unit) w' => ∃ (p n : Nat) (ps' : List Int), j = 8 - p ∧ p ≤ 8 ∧ st = ((p : Int), ()) ∧ Ct w0 w' bc s n ps' f ∧ Fr w.heap.size (fun k => k = bc) w w' ∧ InvT pl p n ∧ PartsTo pl p n ps') 8
    ⟨0, 0, ps, rfl, by omega, rfl, h, Fr.refl _ _ _, InvT.zero pl, fun q hq => by omega⟩ ?_
  rintro _ _ w1 ⟨p, n, ps', rfl, hp8, rfl, hC, hF, hT, hP⟩ next hnext
  refine ifB_dec (fun hp => ?_) (fun hp => ?_)
  · have hp : p < 8 := by dsimp only at hp; omega
    refine JoinW.cut (fun _ w' => ∃ (n' : Nat) (ps2 : List Int), Ct w0 w' bc s n' ps2 f ∧ Fr w.heap.size (fun k => k = bc) w w' ∧ InvT pl (p + 1) n' ∧ PartsTo pl (p + 1) n' ps2) ?_ ?_
    · refine hC.at_ ?_
      refine JoinW.cut (fun _ w' => ∃ n', Ct w0 w' bc s n' ps' f ∧ Fr w.heap.size (fun k => k = bc) w w' ∧ OutP pl p n n') ?_ ?_
      · refine LoopW.ghost (fun j _ w' => ∃ n', j = pl.length - n' ∧ Ct w0 w' bc s n' ps' f ∧ Fr w.heap.size (fun k => k = bc) w w' ∧ InvP pl p n n') (pl.length - n) ⟨n, rfl, hC, hF, hT.into⟩ ?_
        rintro _ _ w2 ⟨n', rfl, hC2, hF2, hI⟩ next2 hnext2
        have hle := hI.le
        have outNo : (n' < pl.length → partP (ix pl n') ≠ p) → OutP pl p n n' := fun hno =>
          ⟨hI.lo, hI.le, hI.own, fun h1 => hI.out hT h1 hno, fun h1 => .inl ⟨hI.one h1, by have := hI.one h1; subst this; rw [h1] at hno; exact hno⟩⟩
        refine JoinW.cut (fun _ w' => Ct w0 w' bc s n' ps' f ∧ Fr w.heap.size (fun k => k = bc) w w' ∧ n' < pl.length ∧ partP (ix pl n') = p) ?_ ?_
        · have bd : Below w2.heap.size w2 w2.drew := (Below.refl _ _).drew
          refine next_spec (hC2.below bd) hN hI.le fun w3 b3 => ⟨_, rfl, ?_⟩
          have hC3 := hC2.below (bd.on b3)
          have hF3 := hF2.trans ((Fr.of_below (bd.on b3)).mono hF2.size fun _ _ x => x)
          refine ifB_beq (fun e => ?_) (fun e => ?_)
          · obtain ⟨hlt, hk⟩ := kn_lt e (by decide)
            refine hC3.sl (hC3.at_ ?_)
            refine elemPI (hC3.mem hN) hlt fun t ht => ?_
            refine part_spec (x := mkIn pl[n'] t) ht fun w4 b4 => ⟨_, rfl, ?_⟩
            have hC4 := hC3.below b4
            have hF4 := hF3.trans ((Fr.of_below b4).mono hF3.size fun _ _ x => x)
            have hpart : partP (piOf (mkIn pl[n'] t) pl[n'].2.2.2) = partP (ix pl n') := by rw [ix_lt hlt]
            rw [hpart]
            refine ifB_beq (fun e2 => ?_) (fun e2 => ?_)
            · exact ⟨hC4, hF4, hlt, by have e2 : ((partP (ix pl n') : Nat) : Int) = (p : Int) := e2; omega⟩
            · exact ⟨n', hC4, hF4, outNo fun _ h => e2 (by rw [h])⟩
          · refine ⟨n', hC3, hF3, outNo fun hlt h => kn_ne e hlt ?_⟩
            unfold kdP
            rw [if_pos (by omega)]
        · rintro _ w5 ⟨hC5, hF5, hlt, hpart⟩
          refine hC5.inc (by omega) fun w6 hC6 c6 => ?_
          have hF6 := hF5.trans (c6.fr)
          refine ifB_beq (fun e => ?_) (fun e => ?_)
          · have hp1 : p = 1 := by dsimp only at e; omega
            have hnn := hI.one hp1
            subst hnn
            exact ⟨n' + 1, hC6, hF6, by omega, by omega, fun k k1 k2 => by have : k = n' := by omega
                                                                           subst this; exact hpart, fun h1 => absurd hp1 h1, fun _ => .inr rfl⟩
          · have hp1 : p ≠ 1 := by dsimp only at e; omega
            exact hnext2 (pl.length - (n' + 1)) _ _ (by omega) ⟨n' + 1, rfl, hC6, hF6, hI.step hT hp hlt hpart hp1⟩
      · rintro _ w7 ⟨n', hC7, hF7, hO⟩
        have bd : Below w7.heap.size w7 w7.drew := (Below.refl _ _).drew
        have hC7 := hC7.drew
        have hF7 := hF7.drew
        refine hC7.at_ (hC7.part (by omega) fun w9 hC9 c9 => ?_)
        have hF9 := hF7.trans c9.fr
        have fin : (p = 1 → n' ≠ n) → ∃ (n'' : Nat) (ps2 : List Int), Ct w0 w9 bc s n'' ps2 f ∧ Fr w.heap.size (fun k => k = bc) w w9 ∧ InvT pl (p + 1) n'' ∧ PartsTo pl (p + 1) n'' ps2 := fun hne =>
          ⟨n', _, hC9, hF9, hO.go hT hne, hP.step hC.len (by omega) hO.lo hT.low hO.own⟩
        refine ifB_beq (fun e => ?_) (fun e => ?_)
        · have hp1 : p = 1 := by dsimp only at e; omega
          refine hC9.at_ (ifB_beq (fun e2 => ?_) (fun e2 => fin fun _ => by omega))
          subst hp1
          exact hbad n' _ w9 hC9 hF9 (hO.stop hT (by omega))
        · exact fin fun h1 => absurd (by rw [h1]; rfl) e
    · rintro _ w10 ⟨n', ps2, hC', hF', hT', hP'⟩
      have e : IntKind.u8.wrap ((p : Int) + 1) = ((p + 1 : Nat) : Int) := by rw [IntKind.wrap_u8]; omega
      dsimp only
      rw [e]
      exact hnext (8 - (p + 1)) _ _ (by omega) ⟨p + 1, n', ps2, rfl, by omega, rfl, hC', hF', hT', hP'⟩
  · have hp : p = 8 := by dsimp only at hp; omega
    subst hp
    exact hok n ps' w1 hC hF hT hP
end
end Go.Proofs
