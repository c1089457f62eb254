/-
  The statement DomOrders: to dominate is an order.
-/
import Derived.Test.Ytjplhoollkeihaa15h
namespace Go.Proofs
open Go.Gk Go.RowKit Go.Gr Go.Dm

section
variable {w : World} {tb : Nat} {nx : List (List Nat)} {ov : Nat → Option Nat} {dp : Nat → Int} {a b c : Int}
theorem Dt.anti (h : Dt w tb nx ov dp) (h1 : DomP (orderOf nx) ov a b) (h2 : DomP (orderOf nx) ov b a) : a = b := by
  obtain ⟨x, y, rfl, rfl, _, h1⟩ := h1
  obtain ⟨y', x', e1, e2, _, h2⟩ := h2
  have e1 : y = y' := by omega
  have e2 : x = x' := by omega
  subst e1 e2
  rw [Anc.anti h.s.tr h1 h2]
theorem DomP.trans {od : List Nat} (h1 : DomP od ov a b) (h2 : DomP od ov b c) : DomP od ov a c := by
  obtain ⟨x, y, rfl, rfl, _, h1⟩ := h1
  obtain ⟨y', z, e1, rfl, h3, h2⟩ := h2
  have e1 : y = y' := by omega
  subst e1
  exact ⟨x, z, rfl, rfl, h3, h1.trans h2⟩
theorem Dt.linP (h : Dt w tb nx ov dp) (h1 : DomP (orderOf nx) ov a b) (h2 : DomP (orderOf nx) ov c b) : DomP (orderOf nx) ov a c ∨ DomP (orderOf nx) ov c a := by
  obtain ⟨x, y, rfl, rfl, hy, h1⟩ := h1
  obtain ⟨z, y', rfl, e1, _, h2⟩ := h2
  have e1 : y = y' := by omega
  subst e1
  have od : ∀ {u}, Anc ov u y → u ∈ orderOf nx := fun hu => (h.s.pr _).1 (hu.pr h.s.tr ((h.s.pr y).2 hy))
  rcases h1.lin h2 with h3 | h3
  · exact .inl ⟨x, z, rfl, rfl, od h2, h3⟩
  · exact .inr ⟨z, x, rfl, rfl, od h1, h3⟩
theorem DomP.refl' {od : List Nat} (h1 : DomP od ov a b) : DomP od ov b b := by
  obtain ⟨x, y, rfl, rfl, hy, h1⟩ := h1
  exact ⟨y, y, rfl, rfl, hy, .refl⟩
theorem Dt.root (h : Dt w tb nx ov dp) (h1 : DomP (orderOf nx) ov a b) : DomP (orderOf nx) ov 0 b := by
  obtain ⟨x, y, rfl, rfl, hy, h1⟩ := h1
  exact ⟨0, y, rfl, rfl, hy, h.s.tr.zero _ y (Nat.le_refl _) ((h.s.pr y).2 hy)⟩
/-- Over is the next one up. -/
theorem Dt.next (h : Dt w tb nx ov dp) (h1 : DomP (orderOf nx) ov a b) (hne : a ≠ b) : 0 ≤ overOf (orderOf nx) ov b ∧ DomP (orderOf nx) ov a (overOf (orderOf nx) ov b) ∧ depthOf (orderOf nx) dp b = depthOf (orderOf nx) dp (overOf (orderOf nx) ov b) + 1 ∧
    0 ≤ depthOf (orderOf nx) dp (overOf (orderOf nx) ov b) ∧ depthOf (orderOf nx) dp (overOf (orderOf nx) ov b) ≤ 4096 := by
  obtain ⟨x, y, rfl, rfl, hy, h1⟩ := h1
  rcases h1.inv with rfl | ⟨z, hz, h1⟩
  · exact absurd rfl hne
  · have hzo : z ∈ orderOf nx := (h.s.pr z).1 (h.s.tr.up y z hz).2
    have e1 : overOf (orderOf nx) ov (y : Int) = (z : Int) := by
      unfold overOf
      rw [if_pos (inOd_iff.2 ⟨y, rfl, hy⟩), show Int.toNat (y : Int) = y from rfl, hz]; rfl
    have dd : ∀ u : Nat, u ∈ orderOf nx → depthOf (orderOf nx) dp (u : Int) = dp u := fun u hu => by unfold depthOf; rw [if_pos (inOd_iff.2 ⟨u, rfl, hu⟩)]; rfl
    rw [e1, dd y hy, dd z hzo]
    have hm := h.dpo.mem z hzo
    have hl := List.idxOf_lt_length_of_mem hzo
    have hol := order_len nx
    have hwl := h.ok.walk_le
    have hmx := h.ok.max
    have : rkOf (orderOf nx) z ≤ 4096 := by unfold rkOf; omega
    exact ⟨by omega, ⟨x, z, rfl, rfl, hzo, h1⟩, h.dpo.up y hy z hz, hm.1, by omega⟩
end

set_option maxHeartbeats 2000000 in
theorem DomOrders_spec {s : Sl} {hs : List Sl} {ll : List (List Int)} {a b c : Int} {w : World} {R : Value → World → Prop} (h : IsII w s hs ll)
    (hR : ∀ w', Below w.heap.size w w' → R (.bool true) w') : callR Try.prog 11 #[.agg #[.slice s.a s.l s.c, .int .i64 a, .int .i64 b, .int .i64 c]] w R := by
  refine callR.of (intagliolaw15_DomOrders_calls (s, a, b, c, ()) R w ?_) fun _ _ h => h
  unfold L_intagliolaw15_DomOrders
  refine Nw.gen fun w1 hw1 => ?_
  have hA1 : Blk w1 w.heap.size 61 [s.val, .int .i64 a, .int .i64 b, .int .i64 c] := by rw [hw1]; exact Blk.new w _ #[_, _, _, _]
  have b1 : Below w.heap.size w w1 := by rw [hw1]; exact (Below.refl _ _).alloc (Nat.le_refl _) _
  have z1 : w1.heap.size = w.heap.size + 1 := by rw [hw1]; simp
  clear hw1
  refine ⟨s, hA1.cell0 rfl, a, hA1.cell (n := 1) rfl, b, hA1.cell (n := 2) rfl, c, hA1.cell (n := 3) rfl, ?_⟩
  refine Nw.gen fun w2 hw2 => Nw.gen fun w3 hw3 => Nw.gen fun w4 hw4 => ?_
  have h2 : Blk w2 w1.heap.size 3 [.int .i64 1] := by rw [hw2]; exact Blk.new w1.drew _ #[_]
  have b2 : Below w1.heap.size w1 w2 := by rw [hw2]; exact (Below.refl _ _).drew.alloc (by simp) _
  have z2 : w2.heap.size = w1.heap.size + 1 := by rw [hw2]; simp
  have h3 : Blk w3 w2.heap.size 3 [] := by rw [hw3]; exact Blk.new w2 _ #[]
  have b3 : Below w2.heap.size w2 w3 := by rw [hw3]; exact (Below.refl _ _).alloc (Nat.le_refl _) _
  have z3 : w3.heap.size = w2.heap.size + 1 := by rw [hw3]; simp
  have h4 : Blk w4 w3.heap.size 32 [(⟨some (Gk.blk w1.heap.size), 1, 1⟩ : Sl).val, (⟨some (Gk.blk w2.heap.size), 0, 0⟩ : Sl).val] := by rw [hw4]; exact Blk.new w3 _ #[_, _]
  have b4 : Below w3.heap.size w3 w4 := by rw [hw4]; exact (Below.refl _ _).alloc (Nat.le_refl _) _
  clear hw2 hw3 hw4
  have b14 : Below w1.heap.size w1 w4 := b2.trans ((b3.mono (by omega)).trans (b4.mono (by omega)))
  have b04 : Below w.heap.size w w4 := b1.trans (b14.mono (by omega))
  have hII : IsII w4 ⟨some (Gk.blk w3.heap.size), 2, 2⟩ [⟨some (Gk.blk w1.heap.size), 1, 1⟩, ⟨some (Gk.blk w2.heap.size), 0, 0⟩] [[1], []] := by
    refine ⟨Blk.isS (f := Sl.val) h4 rfl rfl (Nat.le_refl _) (show (2 : Nat) ≤ _ by decide), rfl, fun i h1 h2' => ?_⟩
    have hi : i = 0 ∨ i = 1 := by simp at h1; omega
    rcases hi with rfl | rfl
    · exact Blk.isS (f := Value.int .i64) (T := 3) (l := [1]) ((h2.below b3).below b4) rfl rfl (Nat.le_refl _) (show (1 : Nat) ≤ _ by decide)
    · exact Blk.isS (f := Value.int .i64) (T := 3) (l := []) (h3.below b4) rfl rfl (Nat.le_refl _) (show (0 : Nat) ≤ _ by decide)
  have hG : Good [[1], []] := by
    intro l hl y hy
    simp at hl
    rcases hl with rfl | rfl
    · simp at hy; subst hy; decide
    · cases hy
  refine tree_spec (s := ⟨some (Gk.blk w3.heap.size), 2, 2⟩) (ll := [[1], []]) hII (fun hn => absurd ⟨by decide, by decide, hG⟩ hn) fun _ _ _ w5 tb ov dp b5 hd => ⟨some (Gk.blk tb), true, rfl, ?_⟩
  have ho : orderOf (edges [[1], []]) = [0, 1] := by decide
  have b05 : Below w.heap.size w w5 := b04.trans (b5.mono b04.size)
  refine JoinW.cut (fun _ w' => Below w.heap.size w w') (ifB_false rfl (Dominates_spec hd fun v w6 b6 hv => ⟨v, rfl, ifB_false ?_ (Over_spec (hd.below b6) ⟨_, rfl, ifB_bne (fun hne => absurd ?_ hne) fun _ => b05.trans (b6.mono b05.size)⟩)⟩)) ?_
  · have hd1 : DomP (orderOf (edges [[1], []])) ov 0 1 := by
      refine ⟨0, 1, rfl, rfl, by rw [ho]; simp, hd.s.tr.zero _ 1 (Nat.le_refl _) ((hd.s.pr 1).2 (by rw [ho]; simp))⟩
    rw [hv.2 hd1]; rfl
  · rw [ho]
    obtain ⟨y, hy⟩ : ∃ y, ov 1 = some y := by
      have := (hd.s.pr 1).2 (by rw [ho]; simp)
      rcases this with e | e
      · cases e
      · cases e' : ov 1 with
        | none => exact absurd e' e
        | some y => exact ⟨y, rfl⟩
    have h1 := hd.s.tr.up 1 y hy
    have h2 := (hd.s.pr y).1 h1.2
    rw [ho] at h1 h2
    have hy0 : y = 0 := by
      simp at h2
      rcases h2 with rfl | rfl
      · rfl
      · exact absurd h1.1 (by decide)
    subst hy0
    unfold overOf
    rw [if_pos (by decide), show Int.toNat (1 : Int) = 1 from rfl, hy]
    rfl
  clear hd ho
  intro _ w8 b8
  refine tree_spec (h.below b8) (fun _ w9 b9 => ⟨_, _, rfl, ifB_true rfl (hR w9 (b8.trans (b9.mono b8.size)))⟩) fun _ _ _ w9 tb ov dp b9 hd => ⟨_, _, rfl, ifB_false rfl ?_⟩
  have b09 : Below w.heap.size w w9 := b8.trans (b9.mono b8.size)
  generalize edges ll = nx at hd
  clear b8 b9 b05 b04 b14 b5 hII h4 h3 h2 b2 b3 b4 hA1 b1 h
  have hz := b09.size
  have go : ∀ {x y : Int} {w' : World} {K : Bool → World → Prop}, Below w9.heap.size w9 w' → (∀ v w'', Below w9.heap.size w9 w'' → (v = true ↔ DomP (orderOf nx) ov x y) → K v w'') →
      callR Try.prog 51 #[.pointer (some (Gk.blk tb)), .int .i64 x, .int .i64 y] w' fun v1 w2 => ∃ v : Bool, v1 = .bool v ∧ K v w2 := fun hb hK =>
    Dominates_spec (hd.below hb) fun v w'' hb' hv => ⟨v, rfl, hK v w'' (hb.trans (hb'.mono hb.size)) hv⟩
  have fin : ∀ w', Below w9.heap.size w9 w' → R (.bool true) w' := fun w' hb => hR w' (b09.trans (hb.mono hz))
  refine go (Below.refl _ _) fun v1 wa ba hv1 => ifB_bool (fun e1 => ?_) fun _ => fin wa ba
  have hab := hv1.1 e1
  refine JoinW.cut (fun _ w' => Below w9.heap.size w9 w') (go ba fun v2 wb bb hv2 => ifB_bool (fun e2 => ifB_bne (fun hne => absurd (hd.anti hab (hv2.1 e2)) hne) fun _ => bb) fun _ => bb) fun _ w12 b12 => ?_
  refine JoinW.cut (fun _ w' => Below w9.heap.size w9 w') (go b12 fun v2 wb bb hv2 => ifB_bool (fun e2 => go bb fun v3 wc bc hv3 => ifB_false (by rw [hv3.2 (hab.trans (hv2.1 e2))]; rfl) bc) fun _ => bb) fun _ w15 b15 => ?_
  refine JoinW.cut (fun _ w' => Below w9.heap.size w9 w') (go b15 fun v2 wb bb hv2 => ifB_bool (fun e2 => go bb fun v3 wc bc hv3 => ifB_not (ifB_bool (fun _ => bc) fun e3 => go bc fun v4 wd bd hv4 => ifB_false ?_ bd)) fun _ => bb) fun _ w19 b19 => ?_
  · rcases hd.linP hab (hv2.1 e2) with h5 | h5
    · rw [hv3.2 h5] at e3; cases e3
    · rw [hv4.2 h5]; rfl
  refine JoinW.cut (fun _ w' => Below w9.heap.size w9 w') (go b19 fun v2 wb bb hv2 => ifB_false (by rw [hv2.2 hab.refl']; rfl) (go bb fun v3 wc bc hv3 => ifB_false (by rw [hv3.2 (hd.root hab)]; rfl) bc)) fun _ w22 b22 => ?_
  refine Over_spec (hd.below b22) ⟨_, rfl, ifB_bne (fun hne => ?_) fun _ => fin w22 b22⟩
  obtain ⟨g1, g2, g3, g4, g5⟩ := hd.next hab hne
  refine ifB_dec (fun hl => absurd hl (by omega)) fun _ => go b22 fun v2 wb bb hv2 => ifB_false (by rw [hv2.2 g2]; rfl) ?_
  refine Depth_spec (hd.below bb) ⟨_, rfl, Depth_spec (hd.below bb) ⟨_, rfl, ifB_bne (fun hne2 => absurd ?_ hne2) fun _ => fin wb bb⟩⟩
  rw [g3, wrap64_in (by omega) (by omega)]

end Go.Proofs
