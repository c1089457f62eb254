/-
  ids.Alike: the program's walk.
-/
import Derived.Test.YtpeonjpjphhenaaL09b
import Derived.Test.Ytpeonjpjphhenaa09p
namespace Go.Proofs
open Go.Gk Go.RowKit Go.Gm

theorem _root_.Go.Gk.Blk.rM {w : World} {b : Nat} {T : TypeId} {cs : List Value} (h : Blk w b T cs) {n : Nat} {x : Option Nat} (hn : cs[n]? = some (.map x)) {φ : Option Nat → Prop} (hφ : φ x) : ldM w ((blk b).add n) φ := ⟨x, h.cell hn, hφ⟩
theorem _root_.Go.Gk.Blk.rM0 {w : World} {b : Nat} {T : TypeId} {cs : List Value} (h : Blk w b T cs) {x : Option Nat} (hn : cs[0]? = some (.map x)) {φ : Option Nat → Prop} (hφ : φ x) : ldM w (blk b) φ := ⟨x, h.cell0 hn, hφ⟩
theorem uMap : Try.prog.underlying 83 = some (.map 22 22) := by kernel_rfl
theorem uU32 : Try.prog.underlying 22 = some (.int .u32) := by kernel_rfl
theorem zU32 : ∃ i, Try.prog.info? 22 = some i ∧ i.zero = some (.int .u32 0) := ⟨Try.t22, by kernel_rfl, rfl⟩
/-- All that was laid as cells is as it was. -/
def Kep (w w' : World) : Prop := w.heap.size ≤ w'.heap.size ∧ ∀ k T cs, Blk w k T cs → Blk w' k T cs
theorem Kep.refl (w : World) : Kep w w := ⟨Nat.le_refl _, fun _ _ _ h => h⟩
theorem Kep.trans {w w' w2 : World} (h : Kep w w') (k : Kep w' w2) : Kep w w2 := ⟨Nat.le_trans h.1 k.1, fun i T cs hB => k.2 i T cs (h.2 i T cs hB)⟩
theorem Kep.below {w w' : World} (h : Below w.heap.size w w') : Kep w w' := ⟨h.size, fun _ _ _ hB => hB.below h⟩
theorem Kep.blk {w w' : World} (h : Kep w w') {k : Nat} {T : TypeId} {cs : List Value} (hB : Blk w k T cs) : Blk w' k T cs := h.2 k T cs hB
structure PS (w0 w : World) (r1 r2 : Nat) (S : Prs) : Prop where
  old1 : w0.heap.size ≤ r1
  old2 : w0.heap.size ≤ r2
  ne : r1 ≠ r2
  below : Below w0.heap.size w0 w
  con : Con S
  maps : ∃ L1 L2, IsMp w r1 .u32 L1 ∧ MOk L1 S ∧ IsMp w r2 .u32 L2 ∧ MOk L2 (swp S)
section
variable {w0 w : World} {r1 r2 : Nat} {S : Prs} {R : Value → World → Prop}
theorem PS.step {w' : World} (h : PS w0 w r1 r2 S) (hb : Below w.heap.size w w') : PS w0 w' r1 r2 S := by
  obtain ⟨h1, h2, h3, h4, h5, L1, L2, h6, h7, h8, h9⟩ := h
  exact ⟨h1, h2, h3, h4.on hb, h5, L1, L2, h6.below hb, h7, h8.below hb, h9⟩
theorem pairIds_spec (h : PS w0 w r1 r2 S) {a b : Int} (hY : ∀ w', PS w0 w' r1 r2 (S ++ [(a, b)]) → Kep w w' → R (.bool true) w') (hN : ∀ w', ¬ Con (S ++ [(a, b)]) → Below w0.heap.size w0 w' → R (.bool false) w') :
    callR Try.prog 81 #[.agg #[.map (some r1), .map (some r2)], .int .u32 a, .int .u32 b] w R := by
  refine callR.of (ids_pairs_pair_calls (some r1, some r2, ()) a b R w ?_) fun _ _ h => h
  refine lay_of fun w1 hB b1 z1 => ?_
  have hB : Blk w1 w.heap.size 94 [.map (some r1), .map (some r2)] := hB
  have h1 := h.step b1
  obtain ⟨g1, g2, g3, g4, g5, L1, L2, m1, k1, m2, k2⟩ := h1
  obtain ⟨lawA, lawB⟩ := pair_law (a := a) (b := b) k1 k2 g5
  refine hB.rM0 rfl (lookOk_of uMap uU32 zU32 m1 (hB.rM (n := 1) rfl (lookOk_of uMap uU32 zU32 m2 ?_)))
  have no : ¬ Con (S ++ [(a, b)]) → R (.bool false) w1 := fun hc => hN w1 hc g4
  refine JoinW.cut (fun _ w' => w' = w1 ∧ lookL L1 a = none ∧ lookL L2 b = none) ?_ ?_
  · refine ifB_bool (fun e3 => ifB_bool (fun _ => ?_) (fun h => absurd e3 (by rw [h]; simp))) (fun e3 => ?_)
    · have hlaw := lawB (.inl e3)
      refine ifB_bool (fun e6 => ?_) (fun e6 => no fun hc => ?_)
      · obtain ⟨x, hx⟩ := Option.isSome_iff_exists.1 e3
        obtain ⟨y, hy⟩ := Option.isSome_iff_exists.1 e6
        rw [hx, hy]
        simp only [Option.getD_some]
        refine ifB_beq (fun ex => ?_) (fun ex => no fun hc => ?_)
        · by_cases ey : y = a
          · have hcon := hlaw.2 ⟨by rw [hx, ex], by rw [hy, ey]⟩
            have := hY w1 ⟨g1, g2, g3, g4, hcon, L1, L2, m1, k1.again ((k1 a b).1 (by rw [hx, ex])), m2, by rw [swp_append]; exact k2.again ((k2 b a).1 (by rw [hy, ey]))⟩ (Kep.below b1)
            rwa [show (y == a) = true from beq_iff_eq.2 ey]
          · have := no fun hc => ey (by have := (hlaw.1 hc).2; rw [hy] at this; exact Option.some.inj this)
            rwa [show (y == a) = false from beq_eq_false_iff_ne.2 ey]
        · have := (hlaw.1 hc).1
          rw [hx] at this
          exact ex (Option.some.inj this)
      · have := (hlaw.1 hc).2
        rw [this] at e6
        cases e6
    · refine ifB_bool (fun e6 => ifB_bool (fun h => absurd h (by rw [e3]; simp)) (fun _ => no fun hc => ?_)) (fun e6 => ⟨rfl, by simpa using e3, by simpa using e6⟩)
      have := ((lawB (.inr e6)).1 hc).1
      rw [this] at e3
      cases e3
  · rintro _ w2 ⟨hw, n1, n2⟩
    subst hw
    have d := hB.drew
    refine d.rM0 rfl (d.rM (n := 1) rfl ?_)
    refine updW_of uMap uU32 m1.drew fun w3 m3 c3 => ?_
    have nb1 := m1.notBlk hB
    have nb2 := m2.notBlk hB
    refine ⟨(c3.blk d (Ne.symm nb1)).cell (n := 1) rfl, ?_⟩
    refine updW_of uMap uU32 (m2.drew.of_block (c3.block _ (Ne.symm g3))) fun w4 m4 c4 => ?_
    have hb4 := c4.below (c3.below g4.drew g1) g2
    refine hY w4 ⟨g1, g2, g3, hb4, lawA n1 n2, _, _, m3.of_block (c4.block _ g3), k1.set n1, m4, by rw [swp_append]; exact k2.set n2⟩ ((Kep.below b1).trans ⟨by rw [c4.size, c3.size]; exact Nat.le_refl _, fun k T cs hk => ?_⟩)
    exact c4.blk (c3.blk hk.drew (Ne.symm (m1.notBlk hk))) (Ne.symm (m2.notBlk hk))
theorem Kep.drew (w : World) : Kep w w.drew := ⟨Nat.le_refl _, fun _ _ _ h => h⟩
theorem inst_spec (h : PS w0 w r1 r2 S) {x y : Ins} {al bl : List Ag} (hx : IsAg w0 x.2.2.2.1 al) (hy : IsAg w0 y.2.2.2.1 bl) (hal : ∀ a ∈ al, a.1 = 1 → a.2.2.size = 0) (hbl : ∀ a ∈ bl, a.1 = 1 → a.2.2.size = 0)
    (hY : ∀ w', PS w0 w' r1 r2 (S ++ zI (x.1, x.2.1, x.2.2.1, al) (y.1, y.2.1, y.2.2.1, bl)) → Kep w w' → instOk (x.1, x.2.1, x.2.2.1, al) (y.1, y.2.1, y.2.2.1, bl) → R (.bool true) w')
    (hN : ∀ w', ¬ (instOk (x.1, x.2.1, x.2.2.1, al) (y.1, y.2.1, y.2.2.1, bl) ∧ Con (S ++ zI (x.1, x.2.1, x.2.2.1, al) (y.1, y.2.1, y.2.2.1, bl))) → Below w0.heap.size w0 w' → R (.bool false) w') :
    callR Try.prog 52 #[.agg #[.map (some r1), .map (some r2)], inA x, inA y] w R := by
  refine callR.of (ids_pairs_inst_calls (some r1, some r2, ()) x y R w ?_) fun _ _ h => h
  refine lay_of fun w1 hB1 b1 z1 => ?_
  have hB1 : Blk w1 w.heap.size 94 [.map (some r1), .map (some r2)] := hB1
  refine lay_of fun w2 hX2 b2 z2 => ?_
  have hX2 : Blk w2 w1.heap.size 45 (inV x) := hX2
  refine lay_of fun w3 hY3 b3 z3 => ?_
  have hY3 : Blk w3 w2.heap.size 45 (inV y) := hY3
  have hX3 := hX2.below b3
  have hB3 := (hB1.below b2).below b3
  have h3 := ((h.step b1).step b2).step b3
  have k03 : Kep w w3 := Kep.below ((b1.on b2).on b3)
  have hlx := hx.len
  have hly := hy.len
  have hzI : zI (x.1, x.2.1, x.2.2.1, al) (y.1, y.2.1, y.2.2.1, bl) = [(x.2.1, y.2.1)] ++ ([(x.2.2.1, y.2.2.1)] ++ pz al bl) := rfl
  have hio : instOk (x.1, x.2.1, x.2.2.1, al) (y.1, y.2.1, y.2.2.1, bl) ↔ (x.1 = y.1 ∧ al.length = bl.length ∧ ∀ j (h : j < al.length) (h' : j < bl.length), argOk al[j] bl[j]) := Iff.rfl
  rw [hzI, ← List.append_assoc, ← List.append_assoc] at hY hN
  generalize instOk (x.1, x.2.1, x.2.2.1, al) (y.1, y.2.1, y.2.2.1, bl) = iok at hY hN hio
  refine JoinW.cut (fun _ w' => PS w0 w' r1 r2 (S ++ [(x.2.1, y.2.1)] ++ [(x.2.2.1, y.2.2.1)]) ∧ Kep w3 w' ∧ x.1 = y.1 ∧ al.length = bl.length) ?_ ?_
  · refine hX3.rI0 rfl (hY3.rI0 rfl (ifB_bne (fun e => ?_) (fun e1 => ?_)))
    · exact hN w3 (fun hc => e (hio.1 hc.1).1) h3.below
    · refine hX3.rS (n := 3) (x := x.2.2.2.1) rfl (hY3.rS (n := 3) (x := y.2.2.2.1) rfl (ifB_bne (fun e => ?_) (fun e2 => ?_)))
      · exact hN w3 (fun hc => e (by have := (hio.1 hc.1).2.1; omega)) h3.below
      · refine hB3.rM (n := 0) rfl (hB3.rM (n := 1) rfl (hX3.rI (n := 1) rfl (hY3.rI (n := 1) rfl ?_)))
        refine pairIds_spec h3 (fun w4 h4 k4 => ⟨_, rfl, ifB_false rfl ?_⟩) (fun w4 hc hb => ⟨_, rfl, ifB_true rfl (hN w4 (fun h => hc (h.2.left.left)) hb)⟩)
        have hB4 := k4.blk hB3
        have hX4 := k4.blk hX3
        have hY4 := k4.blk hY3
        refine hB4.rM (n := 0) rfl (hB4.rM (n := 1) rfl (hX4.rI (n := 2) rfl (hY4.rI (n := 2) rfl ?_)))
        refine pairIds_spec h4 (fun w5 h5 k5 => ⟨_, rfl, ifB_false rfl ⟨h5, k4.trans k5, e1, by omega⟩⟩) (fun w5 hc hb => ⟨_, rfl, ifB_true rfl (hN w5 (fun h => hc h.2.left) hb)⟩)
  · rintro _ w6 ⟨h6, k6, e1, e2⟩
    refine (k6.blk hX3).rS (n := 3) (x := x.2.2.2.1) rfl ?_
    refine LoopW.count al.length hx.bound (fun j w' => PS w0 w' r1 r2 (S ++ [(x.2.1, y.2.1)] ++ [(x.2.2.1, y.2.2.1)] ++ pz (al.take j) (bl.take j)) ∧ Kep w3 w' ∧ ∀ i (h : i < al.length) (h' : i < bl.length), i < j → argOk al[i] bl[i])
      ⟨by simpa [pz] using h6, k6, fun i h h' hi => by omega⟩ ?_
    rintro j w7 hj ⟨h7, k7, hok⟩ next hnext
    refine ifB_dec (fun hlt => ?_) (fun hge => ?_)
    · have hlt : j < al.length := by dsimp only at hlt; omega
      have hlt' : j < bl.length := by omega
      have hpz : pz (al.take (j + 1)) (bl.take (j + 1)) = pz (al.take j) (bl.take j) ++ (if al[j].1 = 1 ∧ bl[j].1 = 1 then [(al[j].2.1, bl[j].2.1)] else []) := by
        rw [List.take_succ_eq_append_getElem hlt, List.take_succ_eq_append_getElem hlt']
        exact pz_snoc (by rw [List.length_take, List.length_take]; omega)
      have hpre : ∃ T, pz al bl = pz (al.take (j + 1)) (bl.take (j + 1)) ++ T := by
        have : ∀ {xs ys us vs : List Ag}, xs.length = ys.length → pz (xs ++ us) (ys ++ vs) = pz xs ys ++ pz us vs := by
          intro xs
          induction xs with
          | nil => intro ys us vs h; cases ys with
            | nil => rfl
            | cons _ _ => simp at h
          | cons a xs ih => intro ys us vs h; cases ys with
            | nil => simp at h
            | cons b ys =>
              simp only [List.cons_append, pz]
              rw [ih (by simpa using h), List.append_assoc]
        refine ⟨pz (al.drop (j + 1)) (bl.drop (j + 1)), ?_⟩
        have h2 := this (xs := al.take (j + 1)) (ys := bl.take (j + 1)) (us := al.drop (j + 1)) (vs := bl.drop (j + 1)) (by rw [List.length_take, List.length_take]; omega)
        rw [List.take_append_drop, List.take_append_drop] at h2
        exact h2
      refine JoinW.cut (fun _ w' => PS w0 w' r1 r2 (S ++ [(x.2.1, y.2.1)] ++ [(x.2.2.1, y.2.2.1)] ++ pz (al.take (j + 1)) (bl.take (j + 1))) ∧ Kep w3 w' ∧ argOk al[j] bl[j]) ?_ ?_
      · refine elemA3 (hx.below h7.below) hlt ?_
        refine box3 rfl fun w8 hA8 b8 z8 => ?_
        have h8 := h7.step b8
        have k8 := k7.trans (Kep.below b8)
        refine (k8.blk hY3).rS (n := 3) (x := y.2.2.2.1) rfl ?_
        refine elemA3 (hy.below h8.below) hlt' ?_
        refine box3 rfl fun w9 hC9 b9 z9 => ?_
        have h9 := h8.step b9
        have k9 := k8.trans (Kep.below b9)
        have hA9 := hA8.below b9
        refine JoinW.cut (fun _ w' => w' = w9 ∧ ¬ (al[j].1 = 1 ∧ bl[j].1 = 1)) ?_ ?_
        · refine hA9.rI0 rfl (ifB_beq (fun ea => ?_) (fun ea => ⟨rfl, fun h => ea h.1⟩))
          refine hC9.rI0 rfl (ifB_beq (fun eb => ?_) (fun eb => ⟨rfl, fun h => eb h.2⟩))
          have ea' : al[j].1 = 1 := ea
          have eb' : bl[j].1 = 1 := eb
          have hB9 := k9.blk hB3
          rw [if_pos ⟨ea', eb'⟩] at hpz
          refine hB9.rM (n := 0) rfl (hB9.rM (n := 1) rfl (hA9.rI (n := 1) rfl (hC9.rI (n := 1) rfl ?_)))
          refine pairIds_spec h9 (fun w10 h10 k10 => ⟨_, rfl, ifB_false rfl ⟨?_, k9.trans k10, ?_⟩⟩) (fun w10 hc hb => ⟨_, rfl, ifB_true rfl (hN w10 (fun h => hc ?_) hb)⟩)
          · rw [hpz, ← List.append_assoc]
            exact h10
          · refine ⟨ea'.trans eb'.symm, ?_, fun hne => absurd ea' hne⟩
            have s1 := hal _ (List.getElem_mem hlt) ea'
            have s2 := hbl _ (List.getElem_mem hlt') eb'
            apply ByteArray.ext
            rw [Array.eq_empty_of_size_eq_zero s1, Array.eq_empty_of_size_eq_zero s2]
          · obtain ⟨T, hT⟩ := hpre
            have h2 := h.2
            rw [hT, ← List.append_assoc] at h2
            have h3 := h2.left
            rw [hpz, ← List.append_assoc] at h3
            exact h3
        · rintro _ w10 ⟨hw, hno⟩
          subst hw
          rw [if_neg hno, List.append_nil] at hpz
          refine hA9.rI (n := 0) rfl (hA9.rI (n := 1) rfl (hA9.rT (n := 2) rfl (hC9.rI (n := 0) rfl (hC9.rI (n := 1) rfl (hC9.rT (n := 2) rfl ?_)))))
          have eq : (al[j].1 == bl[j].1 && (al[j].2.1 == bl[j].2.1 && (al[j].2.2 == bl[j].2.2 && true))) = decide (al[j] = bl[j]) := by
            rw [Bool.eq_iff_iff, decide_eq_true_iff]
            simp only [Bool.and_eq_true, beq_iff_eq, bytes_beq, and_true, Prod.ext_iff]
          rw [eq]
          refine ifB_not (ifB_dec (fun e => ⟨by rw [hpz]; exact h9, k9, by rw [e]; exact ⟨rfl, rfl, fun _ => rfl⟩⟩) (fun e => hN w10 (fun h => ?_) h9.below))
          obtain ⟨a1, a2, a3⟩ := (hio.1 h.1).2.2 j hlt hlt'
          apply e
          have hne : al[j].1 ≠ 1 := fun h1 => hno ⟨h1, a1.symm.trans h1⟩
          exact Prod.ext a1 (Prod.ext (a3 hne) a2)
      · rintro _ w8 ⟨h8, k8, ho⟩
        refine hnext w8 hlt ⟨h8, k8, fun i hi hi' hij => ?_⟩
        by_cases e : i = j
        · subst e; exact ho
        · exact hok i hi hi' (by omega)
    · have hj' : j = al.length := by dsimp only at hge; omega
      subst hj'
      have hbt : bl.take al.length = bl := by rw [e2]; exact List.take_length
      rw [List.take_length, hbt] at h7
      have h7' := h7
      rw [List.append_assoc] at h7'
      exact hY w7 h7 (k03.trans k7) (hio.2 ⟨e1, e2, fun i hi hi' => hok i hi hi' hi⟩)

/-- An instruction of an older world's module, read now. -/
theorem elemPo' {w0 w : World} {s : Sl} {pl : List PI} (h : IsPl w0 s pl) (hb : Below w0.heap.size w0 w) {k : Nat} (hk : k < pl.length) {φ : Int → Int → Int → Sl → Prop} (hφ : ∀ t, IsAg w0 t pl[k].2.2.2 → φ pl[k].1 pl[k].2.1 pl[k].2.2.1 t) :
    (0 ≤ (k : Int) ∧ (k : Int) < (s.l : Int)) ∧ derefP s.a fun a => ldI w ((a.add (Int.toNat (k : Int) * 4)).add 0) .u16 fun x => ldI w ((a.add (Int.toNat (k : Int) * 4)).add 1) .u32 fun y => ldI w ((a.add (Int.toNat (k : Int) * 4)).add 2) .u32 fun z => ldS w ((a.add (Int.toNat (k : Int) * 4)).add 3) fun t => φ x y z t := by
  obtain ⟨a, ha⟩ := h.base hk
  obtain ⟨t, h1, h2⟩ := h.elem a ha k hk
  have hc : ∀ j, j < 4 → w.cell? (a.add (k * 4 + j)) = (inV (mkIn pl[k] t))[j]? := by
    intro j hj
    have hc := h1 j hj
    have hlt : j < (inV (mkIn pl[k] t)).length := hj
    rw [List.getElem?_eq_getElem hlt] at hc ⊢
    have hb1 := World.block_lt_of_cell? w0 _ hc
    rw [World.cell?_of_block (w := w0) (hb.block _ hb1)]
    exact hc
  refine ⟨⟨by omega, by have := h.len; omega⟩, derefP_some ha ⟨_, ?_, _, ?_, _, ?_, t, ?_, hφ t h2⟩⟩
  · rw [add_add']; exact hc 0 (by omega)
  · rw [add_add']; exact hc 1 (by omega)
  · rw [add_add']; exact hc 2 (by omega)
  · rw [add_add']; exact hc 3 (by omega)
theorem Alike_spec {x y : Mo} {pl ql : List PI} {w : World} {R : Value → World → Prop} (hx : IsPl w x.2.2.1 pl) (hy : IsPl w y.2.2.1 ql) (hp : PlOk pl) (hq : PlOk ql) (hx0 : 0 ≤ x.2.1) (hy0 : 0 ≤ y.2.1)
    (hR : ∀ w', Below w.heap.size w w' → R (.bool (alikeB x pl y ql)) w') : callR Try.prog 23 #[moA x, moA y] w R := by
  refine callR.of (ids_Alike_calls x y R w ?_) fun _ _ h => h
  refine lay_of fun w1 hX1 b1 z1 => ?_
  have hX1 : Blk w1 w.heap.size 25 (moV x) := hX1
  refine lay_of fun w2 hY2 b2 z2 => ?_
  have hY2 : Blk w2 w1.heap.size 25 (moV y) := hY2
  have hX2 := hX1.below b2
  have hb2 := b1.on b2
  have hlx := hx.len
  have hly := hy.len
  have no : ∀ w', Below w.heap.size w w' → ¬ AlikeP x pl y ql → R (.bool false) w' := fun w' hb h => by
    have := hR w' hb
    rwa [alike_no h] at this
  refine JoinW.cut (fun _ w' => Below w2.heap.size w2 w' ∧ (shapeP x.2.1 pl).1 = 0 ∧ (shapeP y.2.1 ql).1 = 0 ∧ x.1 = y.1 ∧ pl.length = ql.length) ?_ ?_
  · refine Mo.load hX2 ?_
    refine Shape_spec (x := x) (hx.below hb2) hp fun w3 b3 => ⟨((shapeP x.2.1 pl).1, ((shapeP x.2.1 pl).2 : Int), ()), rfl, ?_⟩
    refine ifB_bne (fun e => no w3 (hb2.on b3) fun h => e h.1) (fun e1 => ?_)
    refine Mo.load (hY2.below b3) ?_
    refine Shape_spec (x := y) (hy.below (hb2.on b3)) hq fun w4 b4 => ⟨((shapeP y.2.1 ql).1, ((shapeP y.2.1 ql).2 : Int), ()), rfl, ?_⟩
    have b34 := b3.on b4
    refine ifB_bne (fun e => no w4 (hb2.on b34) fun h => e h.2.1) (fun e2 => ?_)
    have hX4 := hX2.below b34
    have hY4 := hY2.below b34
    refine hX4.rI0 rfl (hY4.rI0 rfl (ifB_bne (fun e => no w4 (hb2.on b34) fun h => e h.2.2.1) (fun e3 => ?_)))
    refine hX4.rS (n := 2) (x := x.2.2.1) rfl (hY4.rS (n := 2) (x := y.2.2.1) rfl (ifB_bne (fun e => no w4 (hb2.on b34) fun h => e (by have := h.2.2.2.1; omega)) (fun e4 => ⟨b34, e1, e2, e3, by omega⟩)))
  · rintro _ w5 ⟨b5, s1, s2, s3, s4⟩
    have hb5 := hb2.on b5
    have hX5 := hX2.below b5
    have hY5 := hY2.below b5
    have hx5 := hx.below hb5
    have hy5 := hy.below hb5
    obtain ⟨nb1, f1⟩ := shape_ok s1
    obtain ⟨nb2, f2⟩ := shape_ok s2
    have mapLay : ∀ {w' : World} {k : World → Prop}, (∀ w2, IsMp w2 w'.heap.size .u32 [] → Below w'.heap.size w' w2 → w2.heap.size = w'.heap.size + 1 → k w2) → Nw (w'.alloc (.map #[] 0)) k :=
      fun hk => hk _ (IsMp.new _ _) ((Below.refl _ _).alloc (Nat.le_refl _) _) (by simp)
    refine mapLay fun w6 m6 b6 z6 => ?_
    refine updW_of uMap uU32 m6 fun w7 m7 c7 => ?_
    refine mapLay fun w8 m8 b8 z8 => ?_
    refine updW_of uMap uU32 m8 fun w9 m9 c9 => ?_
    have e67 := c7.size
    have e89 := c9.size
    have b56 : Below w5.heap.size w5 w7 := c7.below b6 (Nat.le_refl _)
    have b59 : Below w5.heap.size w5 w9 := c9.below (b56.on b8) (by omega)
    have m79 : IsMp w9 w5.heap.size .u32 (setL [] 0 0) := (m7.below b8).of_block (c9.block _ (by omega))
    have mok : MOk (setL [] 0 0) [(0, 0)] := by
      intro k v
      rw [List.mem_singleton, Prod.mk.injEq]
      show (if k = 0 then some (0 : Int) else none) = some v ↔ _
      by_cases e : k = 0
      · rw [if_pos e]
        exact ⟨fun h => ⟨e, (Option.some.inj h).symm⟩, fun h => (by rw [h.2])⟩
      · rw [if_neg e]
        exact ⟨fun h => (by cases h), fun h => absurd h.1 e⟩
    have con0 : Con [(0, 0)] := by
      intro a ha b hb
      rw [List.mem_singleton.1 ha, List.mem_singleton.1 hb]
    have h9 : PS w5 w9 w5.heap.size w7.heap.size [(0, 0)] := ⟨Nat.le_refl _, by omega, by omega, b59, con0, _, _, m79, mok, m9, mok⟩
    refine box2 rfl fun w10 hP10 b10 z10 => ?_
    have hP10 : Blk w10 w9.heap.size 94 [.map (some w5.heap.size), .map (some w7.heap.size)] := hP10
    have h10 := h9.step b10
    refine (hX5.below h10.below).rS (n := 2) (x := x.2.2.1) rfl ?_
    refine LoopW.count pl.length hx.bound (fun k w' => PS w5 w' w5.heap.size w7.heap.size ([(0, 0)] ++ zN pl ql k) ∧ Kep w10 w' ∧ ∀ i (h : i < pl.length) (h' : i < ql.length), i < k → instOk pl[i] ql[i])
      ⟨by simpa [zN] using h10, Kep.refl _, fun i h h' hi => by omega⟩ ?_
    rintro k w11 hk ⟨h11, k11, hok⟩ next hnext
    refine ifB_dec (fun hlt => ?_) (fun hge => ?_)
    · have hlt : k < pl.length := by dsimp only at hlt; omega
      have hlt' : k < ql.length := by omega
      have gx := fault_ids (f1 k hlt) (by omega) (by have := hp.nums _ (List.getElem_mem hlt); exact ⟨this.1.1, this.2.1.1, fun a ha => (this.2.2 a ha).1⟩)
      have gy := fault_ids (f2 k hlt') (by omega) (by have := hq.nums _ (List.getElem_mem hlt'); exact ⟨this.1.1, this.2.1.1, fun a ha => (this.2.2 a ha).1⟩)
      refine elemPo' hx5 h11.below hlt fun t ht => ?_
      refine box4 rfl fun w12 hI12 b12 z12 => ?_
      have hI12 : Blk w12 w11.heap.size 45 (inV (mkIn pl[k] t)) := hI12
      have h12 := h11.step b12
      have k12 := k11.trans (Kep.below b12)
      have d12 := (k12.blk hP10).drew
      refine d12.rM (n := 0) rfl (d12.rM (n := 1) rfl ?_)
      refine Ins.load hI12.drew ?_
      refine (hY5.below h12.below).drew.rS (n := 2) (x := y.2.2.1) rfl ?_
      refine elemPo' hy5 (w := w12.drew) h12.below.drew hlt' fun t' ht' => ?_
      have h12d : PS w5 w12.drew w5.heap.size w7.heap.size ([(0, 0)] ++ zN pl ql k) := h12.step (Below.refl _ _).drew
      refine inst_spec h12d (x := mkIn pl[k] t) (y := mkIn ql[k] t') ht ht' gx.2 gy.2 (fun w13 h13 k13 io => ⟨_, rfl, ifB_false rfl ?_⟩) (fun w13 hno hb => ⟨_, rfl, ifB_true rfl ?_⟩)
      · refine hnext w13 hlt ⟨?_, (k12.trans (Kep.drew _)).trans k13, fun i hi hi' hij => ?_⟩
        · rw [zN_succ hlt hlt', ← List.append_assoc]
          exact h13
        · by_cases e : i = k
          · subst e; exact io
          · exact hok i hi hi' (by omega)
      · refine no w13 (hb5.on hb) fun h => hno ⟨h.2.2.2.2.1 k hlt hlt', ?_⟩
        have hc := h.2.2.2.2.2
        have hpre : ∃ T, zN pl ql pl.length = zN pl ql (k + 1) ++ T := by
          refine ⟨((pl.zip ql).drop (k + 1)).flatMap fun x => zI x.1 x.2, ?_⟩
          have e1 : (pl.zip ql).take pl.length = pl.zip ql := List.take_of_length_le (by simp; omega)
          unfold zN
          rw [e1, ← List.flatMap_append, List.take_append_drop]
        obtain ⟨T, hT⟩ := hpre
        rw [hT] at hc
        have hc' : Con (([(0, 0)] ++ zN pl ql (k + 1)) ++ T) := by rw [List.append_assoc]; exact hc
        have := hc'.left
        rw [zN_succ hlt hlt', ← List.append_assoc] at this
        exact this
    · have hk' : k = pl.length := by dsimp only at hge; omega
      subst hk'
      have := hR w11 (hb5.on h11.below)
      rwa [alike_yes ⟨s1, s2, s3, s4, fun i hi hi' => hok i hi hi' hi, h11.con⟩] at this
end
end Go.Proofs
