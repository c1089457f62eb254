/-
  The statement DomEdges: over an edge.
-/
import Derived.Test.Ytjplhoollkeihaa15r
import Derived.Test.Ytjplhoollkeihaa15m
namespace Go.Proofs
open Go.Gk Go.RowKit Go.Gr Go.Dm

set_option maxHeartbeats 4000000 in
theorem DomEdges_spec {s : Sl} {hs : List Sl} {ll : List (List Int)} {a : Int} {w : World} {R : Value → World → Prop} (h : IsII w s hs ll) (_h24 : 24 * ll.length ≤ 281474976710656) (h8 : ∀ l ∈ ll, 8 * l.length ≤ 281474976710656)
    (hR : ∀ w', Below w.heap.size w w' → R (.bool true) w') : callR Try.prog 22 #[.slice s.a s.l s.c, .int .i64 a] w R := by
  refine callR.of (intagliolaw15_DomEdges_calls s a R w ?_) fun _ _ h => h
  unfold L_intagliolaw15_DomEdges
  have hsl : s.l = ll.length := by have := h.top.len; have := h.len; omega
  refine Nw.gen fun w1 hw1 => Nw.gen fun w2 hw2 => ?_
  have h1 : Blk w1 w.heap.size 3 [.int .i64 0] := by rw [hw1]; exact Blk.new w _ #[_]
  have b1 : Below w.heap.size w w1 := by rw [hw1]; exact (Below.refl _ _).alloc (Nat.le_refl _) _
  have z1 : w1.heap.size = w.heap.size + 1 := by rw [hw1]; simp
  have h2 : Blk w2 w1.heap.size 32 [(⟨some (Gk.blk w.heap.size), 1, 1⟩ : Sl).val] := by rw [hw2]; exact Blk.new w1 _ #[_]
  have b2 : Below w1.heap.size w1 w2 := by rw [hw2]; exact (Below.refl _ _).alloc (Nat.le_refl _) _
  clear hw1 hw2
  have b02 : Below w.heap.size w w2 := b1.trans (b2.mono (by omega))
  have hII : IsII w2 ⟨some (Gk.blk w1.heap.size), 1, 1⟩ [⟨some (Gk.blk w.heap.size), 1, 1⟩] [[0]] := by
    refine ⟨Blk.isS (f := Sl.val) h2 rfl rfl (Nat.le_refl _) (show (1 : Nat) ≤ _ by decide), rfl, fun i h1' h2' => ?_⟩
    have hi : i = 0 := by simp at h1'; omega
    subst hi
    exact Blk.isS (f := Value.int .i64) (T := 3) (l := [0]) (h1.below b2) rfl rfl (Nat.le_refl _) (show (1 : Nat) ≤ _ by decide)
  have hG0 : Good [[0]] := by
    intro l hl y hy
    simp at hl
    subst hl
    simp at hy; subst hy; decide
  refine tree_spec (s := ⟨some (Gk.blk w1.heap.size), 1, 1⟩) (ll := [[0]]) hII (fun hn => absurd ⟨by decide, by decide, hG0⟩ hn) fun _ _ _ w3 tb ov dp b3 hd => ⟨some (Gk.blk tb), true, rfl, ?_⟩
  have b03 : Below w.heap.size w w3 := b02.trans (b3.mono b02.size)
  have ho : orderOf (edges [[0]]) = [0] := by decide
  refine JoinW.cut (fun _ w' => Below w.heap.size w w') (ifB_false rfl ?_) ?_
  · obtain ⟨bk, hbk⟩ : ∃ bk : Nat → Nat → Bool, ∀ i k, bk i k = true ↔ BkP (edges [[0]]) ov i k := ⟨fun i k => @decide (BkP (edges [[0]]) ov i k) (Classical.propDecidable _), fun i k => by simp⟩
    refine Backs_spec hd hbk fun r w4 b4 o4 => ⟨r, rfl, ifB_bne (fun hne => absurd ?_ hne) fun _ => b03.trans (b4.mono b03.size)⟩
    have h00 : bk 0 0 = true := (hbk 0 0).2 ⟨by decide, 0, 0, rfl, rfl, by rw [ho]; simp, .refl⟩
    have hl := o4.1
    have : (edges [[0]]).length = 1 := by decide
    rw [cellsP_len, this] at hl
    have e1 : bkL 1 bk 1 = [(0, 0)] := by simp [bkL, bkRow, List.range_succ, h00]
    rw [e1] at hl
    have : r.l = 1 := by simp at hl; omega
    rw [this]; rfl
  clear hd ho
  intro _ w5 b5
  refine tree_spec (h.below b5) (fun _ w6 b6 => ⟨_, _, rfl, JoinW.cut (fun _ _ => False) (ifB_true rfl (hR w6 (b5.trans (b6.mono b5.size)))) fun _ _ h => h.elim⟩) fun h0 hmx hG w6 tb ov dp b6 hd => ⟨_, _, rfl, ?_⟩
  have b06 : Below w.heap.size w w6 := b5.trans (b6.mono b5.size)
  have hz := b06.size
  have fin : ∀ w', Below w6.heap.size w6 w' → R (.bool true) w' := fun w' hb => hR w' (b06.trans (hb.mono hz))
  refine JoinW.cut (fun _ w' => w' = w6) (ifB_false rfl (ifB_dec (fun _ => fin w6 (Below.refl _ _)) fun _ => rfl)) ?_
  rintro _ wq ewq
  subst wq
  have hem := fun i (hi : i < ll.length) (x : Nat) => edge_mem hG hi x
  generalize edges ll = nx at hd hem
  have go : ∀ {x y : Int} {w' : World} {K : Bool → World → Prop}, Below w6.heap.size w6 w' → (∀ v w'', Below w6.heap.size w6 w'' → (v = true ↔ DomP (orderOf nx) ov x y) → K v w'') →
      callR Try.prog 51 #[.pointer (some (Gk.blk tb)), .int .i64 x, .int .i64 y] w' fun v1 w2 => ∃ v : Bool, v1 = .bool v ∧ K v w2 := fun hb hK =>
    Dominates_spec (hd.below hb) fun v w'' hb' hv => ⟨v, rfl, hK v w'' (hb.trans (hb'.mono hb.size)) hv⟩
  refine LoopW.count ll.length (by omega) (fun i w' => Below w6.heap.size w6 w') (Below.refl _ _) ?_
  rintro i w7 hi b7 next hnext
  refine ifB_dec (fun hlt => ?_) (fun hge => fin w7 b7)
  have hlt : i < ll.length := by dsimp only at hlt; omega
  have hil : i < hs.length := by have := h.len; omega
  have h8i := h8 _ (List.getElem_mem hlt)
  refine LoopW.count ll[i].length (by omega) (fun k w' => Below w6.heap.size w6 w') b7 ?_
  rintro k w8 hk b8 nxt hnxt
  have hI := h.below (b06.trans (b8.mono hz))
  have hrow := hI.row i hil hlt
  have hrn : hs[i].l = ll[i].length := hrow.len
  have rd : ∀ {φ : Sl → Prop}, φ hs[i] → (0 ≤ (i : Int) ∧ (i : Int) < (s.l : Int)) ∧ derefP s.a fun a => ldS w8 (a.add (Int.toNat (i : Int))) φ := fun hφ => elemS hI.top hil hφ
  refine rd (ifB_dec (fun hltk => ?_) (fun hgek => hnext w8 hlt b8))
  have hltk : k < ll[i].length := by dsimp only at hltk; omega
  refine JoinW.cut (fun _ w' => Below w6.heap.size w6 w') ?_ fun _ w' hh => hnxt w' hltk hh
  refine rd (elemI hrow hltk ?_)
  have hmem : ∀ x : Nat, (x : Int) = ll[i][k] → Ed nx i x := fun x hx => (hem i hlt x).2 (by rw [hx]; exact List.getElem_mem hltk)
  have hgood := hG _ (List.getElem_mem hlt) _ (List.getElem_mem hltk)
  refine JoinW.cut (fun _ w' => Below w6.heap.size w6 w') (go b8 fun v wa ba hv => ifB_bool (fun e1 => ifB_bne (fun hne => go ba fun u wb bb hu => ifB_bool (fun e2 => go bb fun t wc bc ht => ifB_false ?_ bc) fun _ => bb) fun _ => ba) fun _ => ba) fun _ w13 b13 => ?_
  · obtain ⟨_, i', _, ei, hio, _⟩ := hv.1 e1
    have ei : i = i' := by omega
    subst ei
    obtain ⟨x, y, rfl, ey, hyo, hxy⟩ := hu.1 e2
    have hd' : DomP (orderOf nx) ov (x : Int) (i : Int) := by
      rcases hxy.inv with e | ⟨c, hc, hxc⟩
      · subst e; exact absurd ey.symm hne
      · exact ⟨x, i, rfl, rfl, hio, (hd.s.fix y c hc x).1 hxc i ⟨hmem y ey.symm, (hd.s.pr i).2 hio⟩⟩
    rw [ht.2 hd']; rfl
  refine go b13 fun v wa ba hv => ifB_bool (fun e1 => go ba fun u wb bb hu => ifB_false ?_ bb) fun _ => ba
  obtain ⟨_, i', _, ei, hio, _⟩ := hv.1 e1
  have ei : i = i' := by omega
  subst ei
  obtain ⟨y, hy⟩ := Int.eq_ofNat_of_zero_le hgood.1
  have hyo : y ∈ orderOf nx := (hd.ok.walkOk.mem y).2 (hd.ok.walkOk.closed i ((hd.ok.walkOk.mem i).1 hio) y (hmem y hy.symm))
  rw [hu.2 ⟨y, y, hy, hy, hyo, .refl⟩]; rfl

end Go.Proofs
