/-
  nested.flaws; nest.Flaws, Check, Construct, Inner.
-/
import Derived.Test.Ytjplhoollkeihaa16g
namespace Go.Proofs
open Go.Gk Go.RowKit Go.Gr Go.Dm

def ruleP (g : Nst) (i : Nat) : Nat → Prop
  | 0 => BareP g i
  | 1 => MergeP g i
  | 2 => BackP g i
  | _ => ExitP g i
def errOf : Nat → Int
  | 0 => 163
  | 1 => 160
  | 2 => 162
  | _ => 161
open Classical in
noncomputable def brk (g : Nst) (i r : Nat) : Bool := decide (i ∈ orderOf g.wx ∧ ruleP g i r)
theorem brk_iff {g : Nst} {i r : Nat} : brk g i r = true ↔ i ∈ orderOf g.wx ∧ ruleP g i r := by simp [brk]
/-- A node's flaws, of the first m rules. -/
noncomputable def flawsAt (g : Nst) (i m : Nat) : List (Int × Int) := ((List.range m).filter (brk g i)).map fun r => ((i : Int), errOf r)
/-- The first k nodes' flaws. -/
noncomputable def flawsL (g : Nst) (k : Nat) : List (Int × Int) := (List.range k).flatMap fun i => flawsAt g i 4
theorem flawsAt_succ (g : Nst) (i m : Nat) : flawsAt g i (m + 1) = flawsAt g i m ++ if brk g i m then [((i : Int), errOf m)] else [] := by
  unfold flawsAt
  rw [filter_succ, List.map_append]
  congr 1
  split <;> rfl
theorem flawsAt_len (g : Nst) (i m : Nat) : (flawsAt g i m).length ≤ m := by
  unfold flawsAt
  rw [List.length_map]
  have := List.length_filter_le (brk g i) (List.range m)
  simpa using this
theorem flawsL_succ (g : Nst) (k : Nat) : flawsL g (k + 1) = flawsL g k ++ flawsAt g k 4 := by
  unfold flawsL
  rw [List.range_succ, List.flatMap_append]
  simp
theorem flawsL_len (g : Nst) : ∀ k, (flawsL g k).length ≤ 4 * k
  | 0 => by simp [flawsL]
  | k + 1 => by
    have := flawsL_len g k
    have := flawsAt_len g k 4
    rw [flawsL_succ, List.length_append]
    omega
abbrev OwnF (w : World) (r : Sl) (L : List (Int × Int)) : Prop := Own w 143 2 r (flat flV L)
theorem OwnF.isF {w : World} {r : Sl} {L : List (Int × Int)} (h : OwnF w r L) : IsF w r L := Own.isC flV_len (by omega) h

theorem pushF {B0 : Nat} {w0 w : World} {r : Sl} {L : List (Int × Int)} {x y : Int} (hb : Below B0 w0 w) (hB : B0 ≤ w.heap.size) (ho : OwnF w r L) (hf : Fresh B0 r) (hl : L.length < 1099511627776)
    {k : Sl → World → Prop} (hk : ∀ r' w', Below B0 w0 w' → B0 ≤ w'.heap.size → OwnF w' r' (L ++ [(x, y)]) → Fresh B0 r' → k r' w') :
    Nw (w.alloc (.cells #[.int .i64 x, .int .i64 y] 143)) fun w1 => appendS Try.prog 67 (.slice r.a r.l r.c) (.slice (some (Gk.blk w.heap.size)) 1 1) w1 k := by
  refine Nw.gen fun w1 hw1 => ?_
  have hB1 : Blk w1 w.heap.size 143 [.int .i64 x, .int .i64 y] := by rw [hw1]; exact Blk.new w _ #[_, _]
  have ho1 : OwnF w1 r L := by rw [hw1]; exact ho.alloc _
  have hb1 : Below B0 w0 w1 := by rw [hw1]; exact hb.alloc hB _
  have hz1 : w1.heap.size = w.heap.size + 1 := by rw [hw1]; simp
  have hl1 : r.l = L.length := by
    have := ho1.1
    rw [flat_length flV_len] at this
    omega
  refine append_own eFl ho1 (m := 1) (news := flV (x, y)) rfl (fun j u hj => hB1.cell hj) (fun u hu => ?_) (by omega) (by omega) fun r' w' h1 h2 h3 => ?_
  · simp only [flV, List.mem_cons, List.not_mem_nil, or_false] at hu
    rcases hu with rfl | rfl <;> rfl
  · have e : flat flV L ++ flV (x, y) = flat flV (L ++ [(x, y)]) := by simp only [flat, List.flatMap_append, List.flatMap_cons, List.flatMap_nil, List.append_nil]
    rw [e] at h1
    rcases h3 with ⟨h4, h5, h6⟩ | ⟨b', h4, h5, h6⟩
    · subst h5
      exact hk _ _ hb1 (by omega) h1 (fun a ha => by rw [h4] at ha; cases ha)
    · have hbB : B0 ≤ b' := by
        rcases h5 with h5 | h5
        · have := hf _ h5; exact this
        · omega
      exact hk _ _ (hb1.trans (below_grown h6 hbB (by omega))) (by have := h6.size; omega) h1 (fun a ha => by rw [h4] at ha; cases ha; exact hbB)

section
variable {w w' : World} {nb gb : Nat} {hsl : Sl} {g : Nst} {wb tb : Nat} {ms : Sl} {R : Value → World → Prop}
abbrev ruleV (nb r : Nat) : Value := .func (.func (163 + r)) #[.pointer (some (Gk.blk nb))] #[]
theorem rule_call (h : Ne w nb gb g) {i : Nat} (hi : i < g.nx.length) {r : Nat} (hr : r < 4) {S : Value → World → Prop} (hS : ∀ (b : Bool) w', Below w.heap.size w w' → (b = true ↔ ruleP g i r) → S (.bool b) w') :
    callV Try.prog Try.fs (ruleV nb r) [.int .i64 (i : Int)] w S := by
  match r, hr with
  | 0, _ =>
    have hc : Try.fs.contains (163 + 0) = true := by kernel_rfl
    unfold callV
    simp only [hc]
    exact bare_spec h hi hS
  | 1, _ =>
    have hc : Try.fs.contains (163 + 1) = true := by kernel_rfl
    unfold callV
    simp only [hc]
    exact merge_spec h hi hS
  | 2, _ =>
    have hc : Try.fs.contains (163 + 2) = true := by kernel_rfl
    unfold callV
    simp only [hc]
    exact back_spec h hi hS
  | 3, _ =>
    have hc : Try.fs.contains (163 + 3) = true := by kernel_rfl
    unfold callV
    simp only [hc]
    exact exit_spec h hi hS

/-- A rule in a box of its own. -/
theorem rcopy {w : World} {v : Value} {e : Int} {K : World → Prop} (hv : v.oneCell' = true) (hK : ∀ w', Blk w' w.heap.size 171 [v, .int .i64 e] → Below w.heap.size w w' → K w') :
    Nw (w.alloc (.cells #[.nilFunc, (.int .i64 (0 : Int))] 171)) fun w12 =>
    oneV v (Wr w12 (blk w.heap.size) ∧
      Nw (w12.setCell (blk w.heap.size) v) fun w13 =>
      Wr w13 ((blk w.heap.size).add 1) ∧
      Nw (w13.setCell ((blk w.heap.size).add 1) (.int .i64 e)) fun w14 => K w14) := by
  have h1 := Blk.new w 171 #[.nilFunc, (.int .i64 (0 : Int))]
  have b1 : Below w.heap.size w (w.alloc (.cells #[.nilFunc, (.int .i64 (0 : Int))] 171)) := (Below.refl _ _).alloc (Nat.le_refl _) _
  refine oneV_in hv ⟨h1.wr0 (by simp), (h1.set0 _).wr (n := 1) (by simp), hK _ ((h1.set0 _).set 1 _) ?_⟩
  exact (b1.setCell (Nat.le_refl _) _).setCell (by rw [add_block]; exact Nat.le_refl _) _

set_option maxHeartbeats 4000000 in
theorem flaws_spec (h : Ne w nb gb g) (hR : ∀ r w', Below w.heap.size w w' → OwnF w' r (flawsL g g.nx.length) → R (.slice r.a r.l r.c) w') :
    callR Try.prog 121 #[.pointer (some (Gk.blk nb))] w R := by
  refine callR.of (nest_nested_flaws_calls _ R w ?_) fun _ _ h => h
  obtain ⟨hsl, hh, wb, tb, ms, h0, hn⟩ := h.ex
  have hml := h0.fit.1
  have hmx := h0.ok.max
  unfold L_nest_nested_flaws
  refine Nw.gen fun w1 hw1 => ?_
  have k1 : Blk w1 w.heap.size 172 [.nilFunc, .int .i64 0, .nilFunc, .int .i64 0, .nilFunc, .int .i64 0, .nilFunc, .int .i64 0] := by rw [hw1]; exact Blk.new w _ #[_, _, _, _, _, _, _, _]
  have b1 : Below w.heap.size w w1 := by rw [hw1]; exact (Below.refl _ _).alloc (Nat.le_refl _) _
  have z1 : w1.heap.size = w.heap.size + 1 := by rw [hw1]; simp
  clear hw1
  have st : ∀ {wa : World} {cs : List Value} (n : Nat) (v : Value), Blk wa w.heap.size 172 cs → n < cs.length → Below w.heap.size w wa → wa.heap.size = w.heap.size + 1 → ∀ {K : World → Prop},
      (∀ wb, Blk wb w.heap.size 172 (cs.set n v) → Below w.heap.size w wb → wb.heap.size = w.heap.size + 1 → K wb) → Wr wa ((Gk.blk w.heap.size).add n) ∧ Nw (wa.setCell ((Gk.blk w.heap.size).add n) v) K := fun {wa cs} n v hB hn hb hz {K} hK =>
    ⟨hB.wr hn, hK _ (hB.set n v) (hb.setCell (by rw [add_block]; exact Nat.le_refl _) _) (by simpa [World.setCell] using hz)⟩
  refine st 0 _ k1 (by simp) b1 z1 fun w2 k2 b2 z2 => ?_
  refine st 1 _ k2 (by simp) b2 z2 fun w3 k3 b3 z3 => ?_
  refine st 2 _ k3 (by simp) b3 z3 fun w4 k4 b4 z4 => ?_
  refine st 3 _ k4 (by simp) b4 z4 fun w5 k5 b5 z5 => ?_
  refine st 4 _ k5 (by simp) b5 z5 fun w6 k6 b6 z6 => ?_
  refine st 5 _ k6 (by simp) b6 z6 fun w7 k7 b7 z7 => ?_
  refine st 6 _ k7 (by simp) b7 z7 fun w8 k8 b8 z8 => ?_
  refine st 7 _ k8 (by simp) b8 z8 fun w9 k9 b9 z9 => ?_
  have k9 : Blk w9 w.heap.size 172 [ruleV nb 0, .int .i64 163, ruleV nb 1, .int .i64 160, ruleV nb 2, .int .i64 162, ruleV nb 3, .int .i64 161] := k9
  clear k1 k2 k3 k4 k5 k6 k7 k8 b1 b2 b3 b4 b5 b6 b7 b8 st
  refine derefP_some rfl ⟨ms, (h0.below b9).b.cell (n := 1) rfl, ?_⟩
  have hmsl := h0.m.len
  refine LoopW.countS g.ml.length (by omega) (fun k (l : Sl) w' => Below w9.heap.size w9 w' ∧ w9.heap.size ≤ w'.heap.size ∧ OwnF w' l (flawsL g k) ∧ Fresh w9.heap.size l) ⟨Below.refl _ _, Nat.le_refl _, by rw [show flawsL g 0 = [] from by simp [flawsL]]; exact Own.nil _ _ _, fun a ha => by cases ha⟩ ?_
  rintro k l w10 hk ⟨hb, hz, ho, hf⟩ next hnext
  refine ifB_dec (fun hlt => ?_) (fun hge => ?_)
  · have hlt : k < g.nx.length := by dsimp only at hlt; omega
    have k10 := k9.below hb
    have hfl := flawsL_len g k
    dsimp only
    refine ⟨_, k10.cell (n := 0) rfl, _, k10.cell (n := 1) rfl, _, k10.cell (n := 2) rfl, _, k10.cell (n := 3) rfl, _, k10.cell (n := 4) rfl, _, k10.cell (n := 5) rfl, _, k10.cell (n := 6) rfl, _, k10.cell (n := 7) rfl, ?_⟩
    refine LoopW.countS 4 (by omega) (fun m (l : Sl) w' => Below w9.heap.size w9 w' ∧ w9.heap.size ≤ w'.heap.size ∧ OwnF w' l (flawsL g k ++ flawsAt g k m) ∧ Fresh w9.heap.size l) ⟨hb, hz, by rw [show flawsAt g k 0 = [] from by simp [flawsAt], List.append_nil]; exact ho, hf⟩ ?_
    rintro m l w11 hm ⟨hb, hz, ho, hf⟩ nxt hnxt
    refine ifB_dec (fun hlt4 => ?_) (fun hge4 => ?_)
    · have hlt4 : m < 4 := by dsimp only at hlt4; omega
      have hfa := flawsAt_len g k m
      refine JoinW.cut (fun s w' => Below w9.heap.size w9 w' ∧ w9.heap.size ≤ w'.heap.size ∧ OwnF w' s.1 (flawsL g k ++ flawsAt g k (m + 1)) ∧ Fresh w9.heap.size s.1) ?_ ?_
      · refine JoinW.cut (fun s w' => s.1 = some (Gk.blk w11.heap.size) ∧ Blk w' w11.heap.size 171 [ruleV nb m, .int .i64 (errOf m)] ∧ Below w11.heap.size w11 w') ?_ ?_
        · refine ⟨⟨by dsimp only; omega, by dsimp only; omega⟩, fun e => ?_, fun e => ?_, fun e => ?_, fun e => ?_⟩
          · have : m = 0 := by dsimp only at e; omega
            subst this
            exact rcopy rfl fun w14 hB hb14 => ⟨rfl, hB, hb14⟩
          · have : m = 1 := by dsimp only at e; omega
            subst this
            exact rcopy rfl fun w14 hB hb14 => ⟨rfl, hB, hb14⟩
          · have : m = 2 := by dsimp only at e; omega
            subst this
            exact rcopy rfl fun w14 hB hb14 => ⟨rfl, hB, hb14⟩
          · have : m = 3 := by dsimp only at e; omega
            subst this
            exact rcopy rfl fun w14 hB hb14 => ⟨rfl, hB, hb14⟩
        · rintro ⟨p18, _⟩ w24 ⟨e18, hB24, b24⟩
          have e18 : p18 = some (Gk.blk w11.heap.size) := e18
          subst e18
          have b924 : Below w9.heap.size w9 w24 := hb.trans (b24.mono hz)
          have z24 := b24.size
          have b024 : Below w.heap.size w w24 := b9.trans (b924.mono (by omega))
          have h24 := h0.below b024
          have skip : ∀ wq, Below w24.heap.size w24 wq → brk g k m = false → Below w9.heap.size w9 wq ∧ w9.heap.size ≤ wq.heap.size ∧ OwnF wq l (flawsL g k ++ flawsAt g k (m + 1)) ∧ Fresh w9.heap.size l := fun wq hbq hn =>
            ⟨b924.trans (hbq.mono (by omega)), by have := hbq.size; omega, by
              rw [flawsAt_succ, if_neg (by rw [hn]; simp), List.append_nil]
              exact (ho.below b24).below hbq, hf⟩
          refine derefP_some rfl ⟨_, h24.b.cell (n := 2) rfl, Reached_spec h24.dt.ok h24.wide ⟨_, rfl, ifB_bool (fun e => ?_) (fun e => skip w24 (Below.refl _ _) ?_)⟩⟩
          · rw [reached_inOd h24.dt.ok, inOd_nat] at e
            have hko : k ∈ orderOf g.wx := by simpa using e
            refine derefP_some rfl ⟨_, hB24.cell0 rfl, rule_call (h.below b024) hlt hlt4 fun b w26 b26 hbv => ⟨b, rfl, ifB_bool (fun e => ?_) (fun e => skip w26 b26 ?_)⟩⟩
            · have b926 : Below w9.heap.size w9 w26 := b924.trans (b26.mono (by omega))
              have z26 := b26.size
              refine derefP_some rfl ⟨_, (hB24.below b26).cell (n := 1) rfl, pushF b926 (by omega) ((ho.below b24).below b26) hf (by rw [List.length_append]; omega) fun r w28 q1 q2 q3 q4 => ⟨q1, q2, ?_, q4⟩⟩
              rw [flawsAt_succ, if_pos (brk_iff.2 ⟨hko, hbv.1 e⟩), ← List.append_assoc]
              exact q3
            · rw [← Bool.not_eq_true, brk_iff]
              rintro ⟨_, h5⟩
              rw [hbv.2 h5] at e
              cases e
          · rw [reached_inOd h24.dt.ok, inOd_nat] at e
            rw [← Bool.not_eq_true, brk_iff]
            rintro ⟨h5, _⟩
            rw [← Bool.not_eq_true] at e
            exact e (by simpa using h5)
      · rintro ⟨l', _⟩ w29 ⟨q1, q2, q3, q4⟩
        exact hnxt l' w29 hlt4 ⟨q1, q2, q3, q4⟩
    · have : m = 4 := by dsimp only at hge4; omega
      subst this
      exact hnext l w11 (by omega) ⟨hb, hz, by rw [flawsL_succ]; exact ho, hf⟩
  · have : k = g.nx.length := by dsimp only at hge; omega
    subst this
    exact hR l w10 (b9.trans (hb.mono (by omega))) ho
end

end Go.Proofs
