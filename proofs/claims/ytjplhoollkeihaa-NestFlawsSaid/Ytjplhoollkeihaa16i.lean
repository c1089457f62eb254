/-
  nest.Flaws, Check, Construct, Inner; what heads around a node are.
-/
import Derived.Test.Ytjplhoollkeihaa16h
namespace Go.Proofs
open Go.Gk Go.RowKit Go.Gr Go.Dm

/-- A graph that is handed in, or none. -/
def PG (w : World) (p : Option Addr) (gb : Nat) (nx : List (List Nat)) : Prop := ∀ a, p = some a → a = Gk.blk gb ∧ NxOk nx ∧ IsG w gb nx
theorem PG.below {w w' : World} {p : Option Addr} {gb : Nat} {nx : List (List Nat)} (h : PG w p gb nx) (hb : Below w.heap.size w w') : PG w' p gb nx := fun a ha => let ⟨h1, h2, h3⟩ := h a ha; ⟨h1, h2, h3.below hb⟩
theorem PG.some {w : World} {gb : Nat} {nx : List (List Nat)} (hx : NxOk nx) (h : IsG w gb nx) : PG w (some (Gk.blk gb)) gb nx := fun a ha => by cases ha; exact ⟨rfl, hx, h⟩
theorem PG.none {w : World} {gb : Nat} {nx : List (List Nat)} : PG w none gb nx := fun a ha => by cases ha
/-- What nest has made of a graph and merges. -/
structure Nd (w : World) (nb gb : Nat) (nx : List (List Nat)) (ml : List Mg) (g : Nst) : Prop where
  ne : Ne w nb gb g
  nxe : g.nx = nx
  mle : g.ml = ml
  wxe : g.wx = wideX nx ml
theorem Nd.below {w w' : World} {nb gb : Nat} {nx : List (List Nat)} {ml : List Mg} {g : Nst} (h : Nd w nb gb nx ml g) (hb : Below w.heap.size w w') : Nd w' nb gb nx ml g := ⟨h.ne.below hb, h.nxe, h.mle, h.wxe⟩

section
variable {p : Option Addr} {gb : Nat} {nx : List (List Nat)} {s : Sl} {ml : List Mg} {w : World} {R : Value → World → Prop}
theorem ofN_spec (hp : PG w p gb nx) (hM : IsM w s ml) (hnil : p = none → R (.tuple #[.pointer none, .int .i64 1]) w)
    (hbad : p ≠ none → ¬ Fit nx.length ml → ∀ w', Below w.heap.size w w' → R (.tuple #[.pointer none, .int .i64 2]) w')
    (hok : p ≠ none → Fit nx.length ml → ∀ w' nb g, Below w.heap.size w w' → Nd w' nb gb nx ml g → R (.tuple #[.pointer (some (Gk.blk nb)), .int .i64 0]) w') :
    callR Try.prog 120 #[.pointer p, .slice s.a s.l s.c] w R :=
  of_spec hnil hp hM hbad fun h1 h2 w' nb g hb hn e1 e2 e3 => hok h1 h2 w' nb g hb ⟨hn, e1, e2, e3⟩

theorem Flaws_spec (hp : PG w p gb nx) (hM : IsM w s ml) (hnil : p = none → R (.tuple #[.slice none 0 0, .int .i64 1]) w)
    (hbad : p ≠ none → ¬ Fit nx.length ml → ∀ w', Below w.heap.size w w' → R (.tuple #[.slice none 0 0, .int .i64 2]) w')
    (hok : p ≠ none → Fit nx.length ml → ∀ w' nb g r, Below w.heap.size w w' → Nd w' nb gb nx ml g → OwnF w' r (flawsL g nx.length) → R (.tuple #[.slice r.a r.l r.c, .int .i64 0]) w') :
    callR Try.prog 67 #[.pointer p, .slice s.a s.l s.c] w R := by
  refine callR.of (nest_Flaws_calls p s R w ?_) fun _ _ h => h
  refine ofN_spec hp hM (fun e => ⟨_, _, rfl, ifB_true (by decide) (hnil e)⟩) (fun e hf w' hb => ⟨_, _, rfl, ifB_true (by decide) (hbad e hf w' hb)⟩) fun e hf w' nb g hb hn => ⟨_, _, rfl, ifB_false (by decide) ?_⟩
  refine flaws_spec hn.ne fun r w2 hb2 ho => ⟨r, rfl, ?_⟩
  rw [hn.nxe] at ho
  exact hok e hf w2 nb g r (hb.trans (hb2.mono hb.size)) (hn.below hb2) ho

/-- What Check tells of flaws: the error and the block. -/
def spotOf (L : List (Int × Int)) : Int × Int := match L with | [] => (0, 0) | x :: _ => (x.2, x.1)
theorem Check_spec (hp : PG w p gb nx) (hM : IsM w s ml) (hnil : p = none → ∀ w', Below w.heap.size w w' → R (.agg #[.int .i64 1, .int .i64 0]) w')
    (hbad : p ≠ none → ¬ Fit nx.length ml → ∀ w', Below w.heap.size w w' → R (.agg #[.int .i64 2, .int .i64 0]) w')
    (hok : p ≠ none → Fit nx.length ml → ∀ w' w2 nb g, Below w.heap.size w w' → Nd w2 nb gb nx ml g → R (.agg #[.int .i64 (spotOf (flawsL g nx.length)).1, .int .i64 (spotOf (flawsL g nx.length)).2]) w') :
    callR Try.prog 70 #[.pointer p, .slice s.a s.l s.c] w R := by
  refine callR.of (nest_Check_calls p s R w ?_) fun _ _ h => h
  refine Nw.gen fun w1 hw1 => ?_
  have hB1 : Blk w1 w.heap.size 75 [.int .i64 0, .int .i64 0] := by rw [hw1]; exact Blk.new w _ #[_, _]
  have b1 : Below w.heap.size w w1 := by rw [hw1]; exact (Below.refl _ _).alloc (Nat.le_refl _) _
  have z1 := b1.size
  clear hw1
  have fin : ∀ (w2 : World) (x y : Int), Below w1.heap.size w1 w2 → (∀ w', Below w.heap.size w w' → R (.agg #[.int .i64 x, .int .i64 y]) w') →
      Wr w2 (Gk.blk w.heap.size) ∧ Nw (w2.setCell (Gk.blk w.heap.size) (.int .i64 x)) fun w3 => Wr w3 ((Gk.blk w.heap.size).add 1) ∧ Nw (w3.setCell ((Gk.blk w.heap.size).add 1) (.int .i64 y)) fun w4 =>
        ldI w4 ((Gk.blk w.heap.size).add 0) .i64 fun x4 => ldI w4 ((Gk.blk w.heap.size).add 1) .i64 fun x5 => R (.agg #[.int .i64 x4, .int .i64 x5]) w4 := fun w2 x y b2 hR => by
    have hB2 := hB1.below b2
    have h3 := (hB2.set0 (.int .i64 x)).set 1 (.int .i64 y)
    exact ⟨hB2.wr0 (by simp), (hB2.set0 _).wr (n := 1) (by simp), _, h3.cell0 rfl, _, h3.cell (n := 1) rfl, hR _ (((b1.trans (b2.mono z1)).setCell (Nat.le_refl _) _).setCell (by rw [add_block]; exact Nat.le_refl _) _)⟩
  refine Flaws_spec (hp.below b1) (IsC.mbelow hM b1) (fun e => ⟨⟨none, 0, 0⟩, _, rfl, ifB_true (by decide) ?_⟩) (fun e hf w2 hb => ⟨⟨none, 0, 0⟩, _, rfl, ifB_true (by decide) ?_⟩) fun e hf w2 nb g r hb hn ho => ⟨r, _, rfl, ifB_false (by decide) ?_⟩
  · exact fin w1 1 0 (Below.refl _ _) (hnil e)
  · exact fin w2 2 0 hb (hbad e hf)
  · have hF := ho.isF
    have hl := hF.len
    have hok := hok e hf
    cases hL : flawsL g nx.length with
    | nil =>
      rw [hL] at hl
      refine ifB_dec (fun h => absurd h (by simp at hl; omega)) fun _ => fin w2 0 0 hb fun w' hb' => ?_
      have := hok w' w2 nb g hb' hn
      rw [hL] at this
      exact this
    | cons x L' =>
      rw [hL] at hl hF
      refine ifB_dec (fun _ => ?_) fun h => absurd (by simp at hl; omega) h
      have hF2 := IsC.below flV_len hF (Below.refl _ w2).drew
      obtain ⟨a, ha⟩ := hF2.base (i := 0) (by simp)
      have hc0 := hF2.cell a ha 0 (by simp) 0 (by omega)
      have hc1 := hF2.cell a ha 0 (by simp) 1 (by omega)
      have bnd : 0 ≤ (0 : Int) ∧ (0 : Int) < (r.l : Int) := ⟨by omega, by simp at hl; omega⟩
      refine ⟨bnd, derefP_some ha ⟨_, by rw [add_add']; exact hc1, bnd, derefP_some ha ⟨_, hc0, fin w2.drew _ _ (hb.trans (Below.refl _ _).drew) fun w' hb' => ?_⟩⟩⟩
      have := hok w' w2 nb g hb' hn
      rw [hL] at this
      exact this

open Classical in
noncomputable def inB (g : Nst) (h i : Nat) : Bool := decide (g.In h i)
theorem inB_iff {g : Nst} {h i : Nat} : inB g h i = true ↔ g.In h i := by simp [inB]
noncomputable def consL (g : Nst) (h k : Nat) : List Nat := (List.range k).filter (inB g h)

set_option maxHeartbeats 2000000 in
theorem Construct_spec {h : Int} (hp : PG w p gb nx) (hM : IsM w s ml) (hnil : p = none → R (.tuple #[.slice none 0 0, .int .i64 1]) w)
    (hbad : p ≠ none → ¬ Fit nx.length ml → ∀ w', Below w.heap.size w w' → R (.tuple #[.slice none 0 0, .int .i64 2]) w')
    (hout : p ≠ none → Fit nx.length ml → ¬ (0 ≤ h ∧ h < nx.length) → ∀ w', Below w.heap.size w w' → R (.tuple #[.slice none 0 0, .int .i64 3]) w')
    (hnone : p ≠ none → Fit nx.length ml → ∀ x : Nat, h = (x : Int) → x < nx.length → ∀ w' nb g, Below w.heap.size w w' → Nd w' nb gb nx ml g → ¬ (g.kd x ≠ 0 ∧ x ∈ orderOf g.wx) → R (.tuple #[.slice none 0 0, .int .i64 5]) w')
    (hok : p ≠ none → Fit nx.length ml → ∀ x : Nat, h = (x : Int) → x < nx.length → ∀ w' nb g r, Below w.heap.size w w' → Nd w' nb gb nx ml g → g.kd x ≠ 0 → x ∈ orderOf g.wx → Own w' 3 1 r ((consL g x nx.length).map iN) → Fresh w.heap.size r → R (.tuple #[.slice r.a r.l r.c, .int .i64 0]) w') :
    callR Try.prog 73 #[.pointer p, .slice s.a s.l s.c, .int .i64 h] w R := by
  refine callR.of (nest_Construct_calls p s h R w ?_) fun _ _ h => h
  refine ofN_spec hp hM (fun e => ⟨none, _, rfl, ?_⟩) (fun e hf w' hb => ⟨none, _, rfl, ?_⟩) fun e hf w1 nb g hb hn => ⟨some (Gk.blk nb), _, rfl, ?_⟩
  · exact JoinW.cut (fun _ _ => False) (ifB_true (by decide) (hnil e)) fun _ _ h => h.elim
  · exact JoinW.cut (fun _ _ => False) (ifB_true (by decide) (hbad e hf w' hb)) fun _ _ h => h.elim
  · cases p with
    | none => exact absurd rfl e
    | some a =>
    obtain ⟨rfl, hx, hG⟩ := hp a rfl
    obtain ⟨hsl, hh, wb, tb, ms, h0, hnn⟩ := hn.ne.ex
    have hml : g.ml.length = nx.length := by have := h0.fit.1; rw [hn.nxe] at this; exact this
    have hmx := hx.max
    refine JoinW.cut (fun _ w' => w' = w1 ∧ ∃ x : Nat, h = (x : Int) ∧ x < nx.length ∧ g.kd x ≠ 0 ∧ x ∈ orderOf g.wx) ?_ ?_
    · refine ifB_false (by decide) (isNode_spec (hG.below hb) ⟨_, rfl, ifB_not (ifB_dec (fun hin => ?_) (fun hin => hout e hf hin w1 hb))⟩)
      obtain ⟨x, rfl⟩ := Int.eq_ofNat_of_zero_le hin.1
      have hxn : x < nx.length := by omega
      refine derefP_some rfl ⟨ms, h0.b.cell (n := 1) rfl, elemMk h0.m (k := x) (by omega) ?_⟩
      rw [Nst.kd_get (by omega)]
      refine ifB_beq (fun e0 => hnone e hf x rfl hxn w1 nb g hb hn fun h => h.1 e0) (fun e0 => ?_)
      refine derefP_some rfl ⟨_, h0.b.cell (n := 2) rfl, Reached_spec h0.dt.ok h0.wide ⟨_, rfl, ifB_not (ifB_bool (fun er => ⟨rfl, x, rfl, hxn, e0, ?_⟩) (fun er => hnone e hf x rfl hxn w1 nb g hb hn fun h => ?_))⟩⟩
      · rw [reached_inOd h0.dt.ok, inOd_nat] at er
        simpa using er
      · rw [reached_inOd h0.dt.ok, inOd_nat, ← Bool.not_eq_true] at er
        exact er (by simpa using h.2)
    · rintro _ w4 ⟨e4, x, rfl, hxn, hk, ho⟩
      subst w4
      refine derefP_some rfl ⟨hsl, h0.b.cell (n := 4) rfl, ?_⟩
      have hll : hsl.l = nx.length := by have := hnn.top.len; have h2 := hnn.len; rw [hn.nxe] at h2; simp at h2; omega
      have z1 := hb.size
      refine LoopW.countS nx.length (by omega) (fun k (l : Sl) w' => Below w1.heap.size w1 w' ∧ w1.heap.size ≤ w'.heap.size ∧ Own w' 3 1 l ((consL g x k).map iN) ∧ Fresh w1.heap.size l) ⟨Below.refl _ _, Nat.le_refl _, Own.nil _ _ _, fun a ha => by cases ha⟩ ?_
      rintro k l w5 hk ⟨hb5, hz5, ho5, hf5⟩ next hnext
      refine ifB_dec (fun hlt => ?_) (fun hge => ?_)
      · have hlt : k < nx.length := by dsimp only at hlt; omega
        have hcl : (consL g x k).length ≤ k := by unfold consL; have := List.length_filter_le (inB g x) (List.range k); simpa using this
        refine JoinW.cut (fun st w' => Below w1.heap.size w1 w' ∧ w1.heap.size ≤ w'.heap.size ∧ Own w' 3 1 st.1 ((consL g x (k + 1)).map iN) ∧ Fresh w1.heap.size st.1) ?_ ?_
        · refine nhas_spec (hn.ne.below hb5) (i := k) (by rw [hn.nxe]; exact hlt) fun b hbv => ⟨b, rfl, ifB_bool (fun eb => ?_) (fun eb => ⟨hb5, hz5, ?_, hf5⟩)⟩
          · refine push_own (y := k) rfl hb5 hz5 ho5 hf5 (by omega) fun r w8 q1 q2 q3 q4 => ⟨q1, q2, ?_, q4⟩
            unfold consL
            rw [filter_succ, if_pos (inB_iff.2 (hbv.1 eb))]
            exact q3
          · unfold consL
            rw [filter_succ, if_neg, List.append_nil]
            · exact ho5
            · rw [inB_iff]; exact fun h => by rw [hbv.2 h] at eb; cases eb
        · rintro ⟨l', _⟩ w9 ⟨q1, q2, q3, q4⟩
          exact hnext l' w9 hlt ⟨q1, q2, q3, q4⟩
      · have : k = nx.length := by dsimp only at hge; omega
        subst this
        exact hok e hf x rfl hxn w5 nb g l (hb.trans (hb5.mono z1)) (hn.below hb5) ‹_› ho ho5 fun a ha => by have := hf5 a ha; omega

theorem Inner_spec {i : Int} (hp : PG w p gb nx) (hM : IsM w s ml) (hnil : p = none → R (.tuple #[.int .i64 0, .int .i64 1]) w)
    (hbad : p ≠ none → ¬ Fit nx.length ml → ∀ w', Below w.heap.size w w' → R (.tuple #[.int .i64 0, .int .i64 2]) w')
    (hout : p ≠ none → Fit nx.length ml → ¬ (0 ≤ i ∧ i < nx.length) → ∀ w', Below w.heap.size w w' → R (.tuple #[.int .i64 0, .int .i64 3]) w')
    (hok : p ≠ none → Fit nx.length ml → ∀ x : Nat, i = (x : Int) → x < nx.length → ∀ w' nb g, Below w.heap.size w w' → Nd w' nb gb nx ml g → R (.tuple #[.int .i64 (lastK g x [1, 2, 3]), .int .i64 0]) w') :
    callR Try.prog 84 #[.pointer p, .slice s.a s.l s.c, .int .i64 i] w R := by
  refine callR.of (nest_Inner_calls p s i R w ?_) fun _ _ h => h
  refine ofN_spec hp hM (fun e => ⟨none, _, rfl, ifB_true (by decide) (hnil e)⟩) (fun e hf w' hb => ⟨none, _, rfl, ifB_true (by decide) (hbad e hf w' hb)⟩) fun e hf w1 nb g hb hn => ⟨some (Gk.blk nb), _, rfl, ifB_false (by decide) ?_⟩
  cases p with
  | none => exact absurd rfl e
  | some a =>
  obtain ⟨rfl, hx, hG⟩ := hp a rfl
  refine isNode_spec (hG.below hb) ⟨_, rfl, ifB_not (ifB_dec (fun hin => ?_) (fun hin => hout e hf hin w1 hb))⟩
  obtain ⟨x, rfl⟩ := Int.eq_ofNat_of_zero_le hin.1
  have hxn : x < nx.length := by omega
  refine Nw.gen fun w9 hw9 => ?_
  have hK : Blk w9 w1.heap.size 5 ([1, 2, 3].map (Value.int .u8)) := by rw [hw9]; exact Blk.new w1 _ #[_, _, _]
  have b9 : Below w1.heap.size w1 w9 := by rw [hw9]; exact (Below.refl _ _).alloc (Nat.le_refl _) _
  clear hw9
  refine last_spec (hn.ne.below b9) (i := x) (by rw [hn.nxe]; exact hxn) (ks := ⟨some (Gk.blk w1.heap.size), 3, 3⟩) (kl := [1, 2, 3]) (Blk.isS (f := Value.int .u8) (l := [1, 2, 3]) hK rfl rfl (Nat.le_refl _) (show 3 ≤ 9223372036854775807 by decide)) fun w10 b10 => ⟨_, rfl, ?_⟩
  have b19 : Below w1.heap.size w1 w10 := b9.trans (b10.mono b9.size)
  exact hok e hf x rfl hxn w10 nb g (hb.trans (b19.mono hb.size)) (hn.below b19)
end

section
variable {w : World} {nb gb : Nat} {hsl : Sl} {g : Nst} {wb tb : Nat} {ms : Sl}
theorem Dt.up_pairwise {nx : List (List Nat)} {ov : Nat → Option Nat} {dp : Nat → Int} (h : Dt w tb nx ov dp) (i : Int) : (upOf nx ov dp i).Pairwise fun a b => dp b < dp a := by
  by_cases hin : inOd (orderOf nx) i = true
  · obtain ⟨y, rfl, hy⟩ := inOd_iff.1 hin
    have hm := h.dpo.mem y hy
    rw [upOf_in hy, List.pairwise_iff_getElem]
    intro a b ha hb hab
    have h2 := (h.upL_spec ((dp y).toNat + 1) y hy (by omega)).2.1
    rw [(h2 a ha).2, (h2 b hb).2]
    omega
  · unfold upOf; rw [if_neg hin]; exact .nil
/-- The heads around a node, each within those ahead of it in the list. -/
theorem Ne0.hd_pairwise (h : Ne0 w nb gb hsl g wb tb ms) (i : Nat) : (g.hd i).Pairwise fun (a b : Nat) => a ≠ b ∧ g.D (a : Int) (b : Int) := by
  have h1 : (g.hd i).Pairwise fun a b => g.dp a < g.dp b := by
    unfold Nst.hd
    rw [List.pairwise_reverse]
    exact (h.dt.up_pairwise (i : Int)).sublist List.filter_sublist
  refine List.Pairwise.imp_of_mem ?_ h1
  intro a b ha hb hab
  obtain ⟨_, ⟨a1, i1, e1, e2, q1, q2⟩, _⟩ := h.hd_mem.1 ha
  obtain ⟨_, ⟨b1, i2, e3, e4, q3, q4⟩, _⟩ := h.hd_mem.1 hb
  have e1 : a = a1 := by omega
  have e3 : b = b1 := by omega
  have e5 : i1 = i2 := by omega
  subst e1 e3 e5
  refine ⟨fun e => by rw [e] at hab; omega, a, b, rfl, rfl, h.dt.ancOd q1 q4, ?_⟩
  rcases q2.lin q4 with h3 | h3
  · exact h3
  · rcases h.dt.mono (h.dt.ancOd q1 q2) h3 with e | e
    · rw [e] at hab; omega
    · omega
theorem Ne0.hd_nodup (h : Ne0 w nb gb hsl g wb tb ms) (i : Nat) : (g.hd i).Nodup := (h.hd_pairwise i).imp fun h => h.1
/-- To dominate, by the wide graph alone. -/
def DW (wx : List (List Nat)) (a b : Int) : Prop := ∃ a' b' : Nat, a = (a' : Int) ∧ b = (b' : Int) ∧ DomR wx a' b'
theorem Ne0.D_iff (h : Ne0 w nb gb hsl g wb tb ms) (a b : Int) : g.D a b ↔ DW g.wx a b :=
  ⟨fun ⟨a', b', e1, e2, h1, h2⟩ => ⟨a', b', e1, e2, (h.dt.domR a' b').2 ⟨h1, h2⟩⟩, fun ⟨a', b', e1, e2, h1⟩ => ⟨a', b', e1, e2, (h.dt.domR a' b').1 h1⟩⟩
end

end Go.Proofs
