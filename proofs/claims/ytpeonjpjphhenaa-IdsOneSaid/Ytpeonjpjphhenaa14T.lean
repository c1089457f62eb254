/-
  Where an instruction branches to: the program's Targets and the document's; instructions and words, copied and compared.
-/
import Derived.Test.YtpeonjpjphhenaaL14c
import Derived.Test.Ytpeonjpjphhenaa03r
import Derived.Test.YtpeonjpjphhenaaGkN
namespace Go.Proofs
open Go.Gk Go.RowKit Go.Gm

/-- 'for i := 0; i < n; i++' with a list that grows. -/
theorem LoopW.countSl {body : Sl × Int × Unit → World → (Sl × Int × Unit → World → Prop) → Prop} {w : World} {s0 : Sl} (n : Nat) (hn : n ≤ 9223372036854775807) (I : Nat → Sl → World → Prop) (h0 : I 0 s0 w)
    (h : ∀ k r w, k ≤ n → I k r w → ∀ next : Sl × Int × Unit → World → Prop, (∀ r' w', k < n → I (k + 1) r' w' → next (r', IntKind.i64.wrap ((k : Int) + 1), ()) w') → body (r, (k : Int), ()) w next) : LoopW body (s0, (0 : Int), ()) w := by
  refine LoopW.ghost (fun j s w => ∃ (k : Nat) (r : Sl), k ≤ n ∧ j = n - k ∧ s = (r, (k : Int), ()) ∧ I k r w) n ⟨0, s0, Nat.zero_le _, rfl, rfl, h0⟩ ?_
  rintro _ _ w ⟨k, r, hk, rfl, rfl, hI⟩ next hnext
  refine h k r w hk hI next fun r' w' hlt hI' => ?_
  rw [wrap64_succ (by omega)]
  exact hnext (n - (k + 1)) _ _ (by omega) ⟨k + 1, r', by omega, rfl, rfl, hI'⟩
/-- append of one cell to a list of the code's own, in new memory. -/
theorem push_fresh {P : Program} {t e : TypeId} {bytes : Nat} (he : ElemT P t e 1 bytes) {w0 w : World} {s : Sl} {xs : List Value} (h : Own w e 1 s xs) (hb : Below w0.heap.size w0 w) (hF : Fresh w0.heap.size s) {v : Value} (hv : v.oneCell' = true) {b c : Nat} {T : TypeId}
    (hB : Blk w b T [v]) (h63 : s.l + 1 ≤ 9223372036854775807) (hbytes : (s.l + 1) * bytes ≤ 140737488355328) {k : Sl → World → Prop}
    (hk : ∀ r w', Own w' e 1 r (xs ++ [v]) → Below w0.heap.size w0 w' → Fresh w0.heap.size r → k r w') : appendS P t (.slice s.a s.l s.c) (.slice (some (blk b)) 1 c) w k := by
  refine append_one he h hv hB h63 hbytes fun r w' h1 _ ⟨b', h3, h4, h5⟩ => ?_
  have hbb : w0.heap.size ≤ b' := by
    rcases h4 with h4 | h4
    · exact hF _ h4
    · have := hb.size
      omega
  exact hk r w' h1 (hb.trans (below_grown h5 hbb hb.size)) fun a ha => by rw [h3] at ha; cases ha; exact hbb

theorem eU8 : ElemT Try.prog 119 5 1 1 := ⟨by kernel_rfl, Try.t5, .int .u8 0, by kernel_rfl, rfl, rfl, rfl, rfl⟩
theorem elemU {w : World} {s : Sl} {l : List Int} (h : IsS (Value.int .u32) w s l) {k : Nat} (hk : k < l.length) {φ : Int → Prop} (hφ : φ l[k]) :
    (0 ≤ (k : Int) ∧ (k : Int) < (s.l : Int)) ∧ derefP s.a fun a => ldI w (a.add (Int.toNat (k : Int))) .u32 φ := h.addr hk fun _ _ hc => ⟨l[k], hc, hφ⟩
theorem eU32 : ElemT Try.prog 36 22 1 4 := ⟨by kernel_rfl, Try.t22, .int .u32 0, by kernel_rfl, rfl, rfl, rfl, rfl⟩

/-! ### Which arguments are targets -/
def takes (op : Int) (k : Nat) : Bool := op == 249 || (op == 250 && decide (0 < k)) || (op == 251 && decide (k % 2 = 1))
def tgtN (op : Int) (al : List Ag) (k : Nat) : List Int := ((List.range k).filter (takes op)).map fun j => (al.getD j (0, 0, bs [])).2.1
def tgtP (op : Int) (al : List Ag) : List Int := if (fitP op (al.map (·.1))).2 = true then tgtN op al al.length else []
theorem tgtN_take {op : Int} {al : List Ag} {k : Nat} (hk : k < al.length) (h : takes op k = true) : tgtN op al (k + 1) = tgtN op al k ++ [al[k].2.1] := by
  unfold tgtN
  rw [List.range_succ, List.filter_append, List.map_append]
  simp [h, hk]
theorem tgtN_skip {op : Int} {al : List Ag} {k : Nat} (h : takes op k = false) : tgtN op al (k + 1) = tgtN op al k := by
  unfold tgtN
  rw [List.range_succ, List.filter_append, List.map_append]
  simp [h]
theorem tgtN_len (op : Int) (al : List Ag) (k : Nat) : (tgtN op al k).length ≤ k := by
  unfold tgtN
  rw [List.length_map]
  exact Nat.le_trans (List.length_filter_le _ _) (by simp)
theorem tmod_two (k : Nat) : (Int.tmod (k : Int) 2 == (1 : Int)) = decide (k % 2 = 1) := by
  rw [show Int.tmod (k : Int) 2 = ((k % 2 : Nat) : Int) from (Int.ofNat_tmod k 2).symm]
  by_cases h : k % 2 = 1
  · rw [h]; rfl
  · rw [decide_eq_false h]
    exact beq_eq_false_iff_ne.2 (by omega)

section
variable {x : Ins} {al : List Ag} {w : World} {R : Value → World → Prop}
theorem Targets_spec (hI : IsAg w x.2.2.2.1 al) (h24 : 24 * al.length ≤ 140737488351232)
    (hR : ∀ r w', Own w' 22 1 r ((tgtP x.1 al).map (Value.int .u32)) → Fresh w.heap.size r → Below w.heap.size w w' → R (.slice r.a r.l r.c) w') :
    callR Try.prog 29 #[inA x] w R := by
  refine callR.of (graph_Targets_calls x R w ?_) fun _ _ h => h
  refine lay_of fun w1 hB b1 z1 => ?_
  have hB : Blk w1 w.heap.size 45 (inV x) := hB
  refine hB.rS (n := 3) rfl ?_
  have hlen := hI.len
  refine LoopW.countSl al.length hI.bound (fun k r w' => Own w' 5 1 r ((al.take k).map fun a => Value.int .u8 a.1) ∧ Fresh w1.heap.size r ∧ Below w1.heap.size w1 w') ⟨Own.nil _ _ _, fun a ha => by (cases ha), Below.refl _ _⟩ ?_
  rintro k r w2 hk ⟨hO, hF, hb⟩ next hnext
  have hb0 := b1.on hb
  have hI2 := hI.below hb0
  refine ifB_dec (fun h => ?_) (fun h => ?_)
  · have hlt : k < al.length := by dsimp only at h; omega
    refine elemA3 hI2 hlt ?_
    refine box3 rfl fun w3 h3 b3 z3 => ?_
    refine h3.rI0 rfl ?_
    refine lay_of fun w4 h4 b4 z4 => ?_
    have hrl : r.l = k := by have := hO.1; simp [Nat.min_eq_left hk] at this; omega
    refine push_fresh eU8 ((hO.below b3).below b4) ((hb.on b3).on b4) hF (v := .int .u8 al[k].1) rfl h4 (by omega) (by omega) fun r' w5 h5 b5 F5 => ?_
    refine hnext r' w5 hlt ⟨?_, F5, b5⟩
    rw [List.take_succ_eq_append_getElem hlt, List.map_append]
    exact h5
  · have hk : k = al.length := by dsimp only at h; omega
    subst hk
    rw [List.take_length] at hO
    have hB2 := hB.below hb
    refine hB2.rI0 rfl ?_
    have hO' : Own w2 5 1 r ((al.map (·.1)).map (Value.int .u8)) := by rw [List.map_map]; exact hO
    refine Fits_spec hO'.isS fun w3 b3 => ⟨_, _, rfl, ?_⟩
    have hb3 := hb.on b3
    have hb03 := b1.on hb3
    refine ifB_bool (fun hn => ?_) (fun hn => ?_)
    · have : tgtP x.1 al = [] := by
        unfold tgtP
        rw [if_neg (by intro h; rw [h] at hn; cases hn)]
      rw [this] at hR
      exact hR ⟨none, 0, 0⟩ w3 (Own.nil _ _ _) (fun a ha => by cases ha) hb03
    · have hp : tgtP x.1 al = tgtN x.1 al al.length := by
        unfold tgtP
        rw [if_pos (by simpa using hn)]
      rw [hp] at hR
      have hB3 := hB2.below b3
      refine hB3.rS (n := 3) rfl ?_
      refine LoopW.countSl al.length hI.bound (fun k r w' => Own w' 22 1 r ((tgtN x.1 al k).map (Value.int .u32)) ∧ Fresh w3.heap.size r ∧ Below w3.heap.size w3 w') ⟨Own.nil _ _ _, fun a ha => by (cases ha), Below.refl _ _⟩ ?_
      rintro k r w4 hk ⟨hO, hF, hb4⟩ next hnext
      have hb04 := hb03.on hb4
      have hI4 := hI.below hb04
      refine ifB_dec (fun h => ?_) (fun h => ?_)
      · have hlt : k < al.length := by dsimp only at h; omega
        refine JoinW.cut (fun st w' => Own w' 22 1 st.1 ((tgtN x.1 al (k + 1)).map (Value.int .u32)) ∧ Fresh w3.heap.size st.1 ∧ Below w3.heap.size w3 w') ?_ ?_
        · refine elemA3 hI4 hlt ?_
          refine box3 rfl fun w5 h5 b5 z5 => ?_
          have hB5 := (hB3.below hb4).below b5
          have hrl : r.l ≤ k := by have := hO.1; have h2 := tgtN_len x.1 al k; rw [List.length_map] at this; omega
          have take : takes x.1 k = true → ldI w5 ((blk w4.heap.size).add 1) .u32 fun y => Nw (w5.alloc (.cells #[(.int .u32 y)] 22)) fun w6 =>
              appendS Try.prog 36 (.slice r.a r.l r.c) (.slice (some (blk w5.heap.size)) 1 1) w6 fun r' w7 => Own w7 22 1 r' ((tgtN x.1 al (k + 1)).map (Value.int .u32)) ∧ Fresh w3.heap.size r' ∧ Below w3.heap.size w3 w7 := by
            intro ht
            refine h5.rI (n := 1) rfl ?_
            refine lay_of fun w6 h6 b6 z6 => ?_
            refine push_fresh eU32 ((hO.below b5).below b6) ((hb4.on b5).on b6) hF (v := .int .u32 al[k].2.1) rfl h6 (by omega) (by omega) fun r' w7 h7 b7 F7 => ⟨?_, F7, b7⟩
            rw [tgtN_take hlt ht, List.map_append]
            exact h7
          have skip : takes x.1 k = false → Own w5 22 1 r ((tgtN x.1 al (k + 1)).map (Value.int .u32)) ∧ Fresh w3.heap.size r ∧ Below w3.heap.size w3 w5 := by
            intro ht
            rw [tgtN_skip ht]
            exact ⟨hO.below b5, hF, hb4.on b5⟩
          refine hB5.rI0 rfl (ifB_beq (fun e1 => ifB_beq (fun _ => take ?_) (fun e => absurd e1 e)) (fun e1 => ?_))
          · unfold takes; rw [e1]; rfl
          have n1 : (x.1 == 249) = false := beq_eq_false_iff_ne.2 e1
          have last : x.1 ≠ 250 ∨ k = 0 → ∀ b : Prop, True → True := fun _ _ h => h
          refine hB5.rI0 rfl (ifB_beq (fun e2 => ?_) (fun e2 => ?_))
          · have e251 : (x.1 == 251) = false := by rw [e2]; rfl
            refine ifB_dec (fun h0 => ifB_dec (fun _ => take ?_) (fun h => absurd h0 h)) (fun h0 => ?_)
            · have : 0 < k := by dsimp only at h0; omega
              unfold takes; rw [e2, decide_eq_true this]; rfl
            · refine hB5.rI0 rfl (ifB_beq (fun e3 => absurd (e2.symm.trans e3) (by decide)) (fun e3 => skip ?_))
              have : ¬ 0 < k := by dsimp only at h0; omega
              unfold takes; rw [n1, e251, decide_eq_false this]; simp
          · have n2 : (x.1 == 250) = false := beq_eq_false_iff_ne.2 e2
            refine hB5.rI0 rfl (ifB_beq (fun e3 => ?_) (fun e3 => skip ?_))
            · dsimp only
              rw [tmod_two]
              refine ifB_dec (fun h2 => take ?_) (fun h2 => skip ?_)
              · unfold takes; rw [e3, decide_eq_true h2]; rfl
              · unfold takes; rw [n1, n2, decide_eq_false h2]; simp
            · unfold takes; rw [n1, n2, beq_eq_false_iff_ne.2 e3]; simp
        · rintro ⟨r', _⟩ w' ⟨h1, h2, h3⟩
          exact hnext r' w' hlt ⟨h1, h2, h3⟩
      · have hk : k = al.length := by dsimp only at h; omega
        subst hk
        exact hR r w4 hO (fun a ha => by have := hF a ha; have := hb03.size; omega) hb04
/-- An instruction in new memory. -/
theorem CopyInst_spec (hI : IsAg w x.2.2.2.1 al) (h24 : 24 * al.length ≤ 140737488351232)
    (hR : ∀ b w', w.heap.size ≤ b → Blk w' b 87 (flat agV al) → IsAg w' ⟨some (blk b), al.length, al.length⟩ al → Below w.heap.size w w' → R (inA (x.1, x.2.1, x.2.2.1, ⟨some (blk b), al.length, al.length⟩, ())) w') :
    callR Try.prog 36 #[inA x] w R := by
  refine callR.of (intagliokit_CopyInst_calls x R w ?_) fun _ _ h => h
  refine lay_of fun w1 hB1 b1 z1 => ?_
  have hB1 : Blk w1 w.heap.size 45 (inV x) := hB1
  refine lay_of fun w2 hC2 b2 z2 => ?_
  have hC2 : Blk w2 w1.heap.size 45 [.int .u16 0, .int .u32 0, .int .u32 0, .slice none 0 0] := hC2
  have hB2 := hB1.below b2
  have hl := hI.len
  refine hB2.rS (n := 3) rfl ⟨⟨by omega, by omega, by omega, by omega⟩, ?_⟩
  refine lay_of fun w3 hD3 b3 z3 => ?_
  have hb3 := (b1.on b2).on b3
  have hB3 := hB2.below b3
  have hC3 := hC2.below b3
  rw [hl]
  refine LoopW.count al.length hI.bound (fun k w' => Below w.heap.size w w' ∧ w'.heap.size = w3.heap.size ∧ Blk w' w.heap.size 45 (inV x) ∧ Blk w' w1.heap.size 45 [.int .u16 0, .int .u32 0, .int .u32 0, .slice none 0 0] ∧
      ∃ r, Blk w' w2.heap.size 87 (flat agV (al.take k) ++ r) ∧ r.length = (al.length - k) * 3) ⟨hb3, rfl, hB3, hC3, _, by simpa [flat] using hD3, by rw [Array.length_toList, size_madeCells, hl]; simp⟩ ?_
  rintro k w4 hk ⟨hb, hz, hB, hC, r, hD, hr⟩ next hnext
  refine hB.rS (n := 3) rfl ?_
  refine ifB_dec (fun hlt => ?_) (fun hge => ?_)
  · have hlt : k < al.length := by dsimp only at hlt; omega
    refine hB.rS (n := 3) rfl ?_
    have hm := hI.below hb
    refine elemA3 hm hlt ⟨⟨by omega, by dsimp only; omega⟩, ?_⟩
    have hfl : (flat agV (al.take k)).length = k * 3 := by rw [flat_length agV_len, List.length_take, Nat.min_eq_left (by omega)]
    obtain ⟨r', hr', e⟩ := set3 (flat agV (al.take k)) (cs := r) (m := al.length - (k + 1)) (by rw [hr]; congr 1; omega) (.int .u8 al[k].1) (.int .u32 al[k].2.1) (.string al[k].2.2)
    rw [hfl] at e
    have hcl : (flat agV (al.take k) ++ r).length = al.length * 3 := by rw [List.length_append, hfl, hr, ← Nat.add_mul]; congr 1; omega
    rw [show Int.toNat (k : Int) = k from rfl]
    simp only [add_add']
    have hD1 := hD.set (k * 3) (.int .u8 al[k].1)
    have hD2 := hD1.set (k * 3 + 1) (.int .u32 al[k].2.1)
    have hD3 := hD2.set (k * 3 + 2) (.string al[k].2.2)
    have c1 := ((Chg.set w2.heap.size (k * 3) w4 (.int .u8 al[k].1)).trans (Chg.set w2.heap.size (k * 3 + 1) _ (.int .u32 al[k].2.1))).trans (Chg.set w2.heap.size (k * 3 + 2) _ (.string al[k].2.2))
    refine ⟨hD.wr (by omega), hD1.wr (by rw [List.length_set]; omega), hD2.wr (by rw [List.length_set, List.length_set]; omega), hnext _ hlt ⟨c1.below hb (by omega), c1.size.trans hz, c1.blk hB (by omega), c1.blk hC (by omega), r', ?_, hr'⟩⟩
    rw [e] at hD3
    have e2 : flat agV (al.take (k + 1)) = flat agV (al.take k) ++ agV al[k] := by
      rw [List.take_succ_eq_append_getElem hlt]
      show (al.take k ++ [al[k]]).flatMap agV = _
      rw [List.flatMap_append]
      rfl
    rw [e2]
    exact hD3
  · have hk' : k = al.length := by dsimp only at hge; omega
    subst hk'
    simp only [Nat.sub_self, Nat.zero_mul] at hr
    have : r = [] := List.eq_nil_of_length_eq_zero hr
    subst this
    rw [List.take_length, List.append_nil] at hD
    refine ⟨hB.wr (n := 3) (by simp), ?_⟩
    have c1 := Chg.set w.heap.size 3 w4 (.slice (some (blk w2.heap.size)) al.length al.length)
    have hB5 : Blk _ w.heap.size 45 (inV (x.1, x.2.1, x.2.2.1, ⟨some (blk w2.heap.size), al.length, al.length⟩, ())) := hB.set 3 (.slice (some (blk w2.heap.size)) al.length al.length)
    have hb5 := c1.below hb (Nat.le_refl _)
    have hC5 := c1.blk hC (by omega)
    have hD5 := c1.blk hD (by omega)
    refine Nw.mk (Ins.load hB5 ?_)
    refine st4 hC5 rfl fun w6 hC6 c6 => ?_
    have hC6 : Blk w6 w1.heap.size 45 (inV (x.1, x.2.1, x.2.2.1, ⟨some (blk w2.heap.size), al.length, al.length⟩, ())) := hC6
    have hD6 := c6.blk hD5 (by omega)
    refine Ins.load hC6 ?_
    exact hR w2.heap.size w6 (by omega) hD6 (Blk.isC agV_len (by omega) hD6 hI.bound) (c6.below hb5 (by omega))

theorem bytes_beq {a b : ByteArray} : (a == b) = true ↔ a = b := by
  obtain ⟨a⟩ := a
  obtain ⟨b⟩ := b
  show (a == b) = true ↔ _
  simp
/-- Instructions, compared. -/
theorem Inst_spec {y : Ins} {bl : List Ag} (hx : IsAg w x.2.2.2.1 al) (hy : IsAg w y.2.2.2.1 bl)
    (hR : ∀ w', Below w.heap.size w w' → R (.bool (decide (x.1 = y.1 ∧ x.2.1 = y.2.1 ∧ x.2.2.1 = y.2.2.1 ∧ al = bl))) w') :
    callR Try.prog 42 #[inA x, inA y] w R := by
  refine callR.of (intagliokit_Inst_calls x y R w ?_) fun _ _ h => h
  refine lay_of fun w1 hB1 b1 z1 => ?_
  have hB1 : Blk w1 w.heap.size 45 (inV x) := hB1
  refine lay_of fun w2 hC2 b2 z2 => ?_
  have hC2 : Blk w2 w1.heap.size 45 (inV y) := hC2
  have hB2 := hB1.below b2
  have hb2 := b1.on b2
  have hlx := hx.len
  have hly := hy.len
  refine JoinW.cut (fun _ w' => w' = w2 ∧ x.1 = y.1 ∧ x.2.1 = y.2.1 ∧ x.2.2.1 = y.2.2.1 ∧ al.length = bl.length) ?_ ?_
  · have no : ¬ (x.1 = y.1 ∧ x.2.1 = y.2.1 ∧ x.2.2.1 = y.2.2.1 ∧ al = bl) → R (.bool false) w2 := fun h => by
      have := hR w2 hb2
      rwa [decide_eq_false h] at this
    refine hB2.rI0 rfl (hC2.rI0 rfl (ifB_bne (fun e => no fun h => e h.1) (fun e1 => ?_)))
    refine hB2.rI (n := 1) rfl (hC2.rI (n := 1) rfl (ifB_bne (fun e => no fun h => e h.2.1) (fun e2 => ?_)))
    refine hB2.rI (n := 2) rfl (hC2.rI (n := 2) rfl (ifB_bne (fun e => no fun h => e h.2.2.1) (fun e3 => ?_)))
    refine hB2.rS (n := 3) rfl (hC2.rS (n := 3) rfl (ifB_bne (fun e => no fun h => e (by rw [hlx, hly, h.2.2.2])) (fun e4 => ⟨rfl, e1, e2, e3, by omega⟩)))
  · rintro _ w' ⟨rfl, e1, e2, e3, e4⟩
    refine LoopW.count al.length hx.bound (fun k w4 => w4.heap = w'.heap ∧ Below w.heap.size w w4 ∧ al.take k = bl.take k) ⟨rfl, hb2, by simp⟩ ?_
    rintro k w4 hk ⟨hh, hb, hI⟩ next hnext
    have hB4 : Blk w4 w.heap.size 45 (inV x) := hB2.of_block (by rw [hh])
    have hC4 : Blk w4 w1.heap.size 45 (inV y) := hC2.of_block (by rw [hh])
    refine hB4.rS (n := 3) rfl ?_
    refine ifB_dec (fun hlt => ?_) (fun hge => ?_)
    · have hlt : k < al.length := by dsimp only at hlt; omega
      refine hB4.drew.rS (n := 3) rfl ?_
      refine elemA3 (hx.below hb).drew hlt ?_
      refine hC4.drew.rS (n := 3) rfl ?_
      refine elemA3 (hy.below hb).drew (by omega) ?_
      have eq : (al[k].1 == bl[k].1 && (al[k].2.1 == bl[k].2.1 && (al[k].2.2 == bl[k].2.2 && true))) = decide (al[k] = bl[k]) := by
        rw [Bool.eq_iff_iff, decide_eq_true_iff]
        simp only [Bool.and_eq_true, beq_iff_eq, bytes_beq, and_true, Prod.ext_iff]
      rw [eq]
      refine ifB_not (ifB_dec (fun e => ?_) (fun e => ?_))
      · exact hnext _ hlt ⟨hh, hb.drew, by rw [List.take_succ_eq_append_getElem hlt, List.take_succ_eq_append_getElem (by omega), hI, e]⟩
      · have := hR w4.drew hb.drew
        rwa [decide_eq_false (fun h => e (by simp only [h.2.2.2]))] at this
    · have hk' : k = al.length := by dsimp only at hge; omega
      subst hk'
      rw [List.take_length, e4, List.take_length] at hI
      have := hR w4 hb
      rwa [decide_eq_true ⟨e1, e2, e3, hI⟩] at this
end

/-! ### Words -/
theorem Words_spec {s t : Sl} {l m : List Int} {w : World} {R : Value → World → Prop} (hs : IsS (Value.int .u32) w s l) (ht : IsS (Value.int .u32) w t m) (hR : ∀ w', w'.heap = w.heap → Below w.heap.size w w' → R (.bool (decide (l = m))) w') :
    callR Try.prog 20 #[.slice s.a s.l s.c, .slice t.a t.l t.c] w R := by
  refine callR.of (intagliokit_Words_calls s t R w ?_) fun _ _ h => h
  have e1 := hs.len
  have e2 := ht.len
  refine ifB_bne (fun hne => ?_) (fun he => ?_)
  · have : decide (l = m) = false := by
      rw [decide_eq_false_iff_not]; intro e; subst e; omega
    have := this ▸ hR w rfl (Below.refl _ _)
    exact this
  · have hlm : l.length = m.length := by omega
    refine LoopW.count l.length hs.bound (fun k w' => w'.heap = w.heap ∧ Below w.heap.size w w' ∧ l.take k = m.take k) ⟨rfl, Below.refl _ _, by simp⟩ ?_
    rintro k w' hk ⟨hh, hb, hI⟩ next hnext
    refine ifB_dec (fun hlt => ?_) (fun hge => ?_)
    · have hlt : k < l.length := by dsimp only at hlt; omega
      refine (hs.heap (w' := w'.drew) hh).addr hlt fun a _ hc => ⟨_, hc, ?_⟩
      refine (ht.heap (w' := w'.drew) hh).addr (by omega) fun a _ hc => ⟨_, hc, ?_⟩
      refine ifB_bne (fun hne => ?_) (fun he => ?_)
      · have : decide (l = m) = false := by
          rw [decide_eq_false_iff_not]; intro e; subst e; exact hne rfl
        have := this ▸ hR w'.drew hh hb.drew
        exact this
      · exact hnext _ hlt ⟨hh, hb.drew, by rw [List.take_succ_eq_append_getElem hlt, List.take_succ_eq_append_getElem (by omega), hI, he]⟩
    · have : l = m := by
        have hk' : k = l.length := by dsimp only at hge; omega
        subst hk'
        rwa [List.take_length, hlm, List.take_length] at hI
      have := (decide_eq_true this) ▸ hR w' hh hb
      exact this
theorem SpoilWords_spec {s : Sl} {xs : List Value} {w : World} {R : Value → World → Prop} (h : Own w 22 1 s xs) (hR : ∀ w', Only s w w' → R (.tuple #[]) w') :
    callR Try.prog 21 #[.slice s.a s.l s.c] w R := by
  refine callR.of (intagliokit_SpoilWords_calls s R w ?_) fun _ _ h => h
  have hb : s.l ≤ 9223372036854775807 := by
    rcases h.2 with rfl | ⟨_, _, _, _, h1, h2, _⟩
    · simp
    · omega
  refine LoopW.count s.l hb (fun k w' => Only s w w' ∧ ∃ xs, Own w' 22 1 s xs) ⟨Only.refl _ _, xs, h⟩ ?_
  rintro k w' hk ⟨hO, xs', hX⟩ next hnext
  refine ifB_dec (fun hlt => ?_) (fun hge => hR w' hO)
  have hlt : k < s.l := by dsimp only at hlt; omega
  rcases hX.2 with e | ⟨b, cs, ha, hB, h1, h2, h3, h4⟩
  · rw [e] at hlt; simp at hlt
  · refine ⟨⟨by simp, by simpa using hlt⟩, derefP_some ha ⟨hB.wr (n := k) (by omega), ?_⟩⟩
    refine Nw.mk (hnext _ hlt ⟨hO.set ha k _, (cs.set k (.int .u32 1515870810)).take (s.l * 1), ?_⟩)
    exact ⟨by simp [h3]; omega, .inr ⟨b, _, ha, hB.set k (.int .u32 1515870810), h1, h2, by simp [h3], rfl⟩⟩

/-! ### The law -/
end Go.Proofs
