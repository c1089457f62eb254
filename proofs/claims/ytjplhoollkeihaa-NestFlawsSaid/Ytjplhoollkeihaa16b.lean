/-
  nest.isNode, nest.fit.
-/
import Derived.Test.Ytjplhoollkeihaa16a
namespace Go.Proofs
open Go.Gk Go.RowKit Go.Gr Go.Dm

/-- A merge that fits a graph of n nodes. -/
def FitP (n : Nat) (x : Mg) : Prop := x.1 ≤ 3 ∧ (x.1 ≠ 0 → 0 ≤ x.2.1 ∧ x.2.1 < n) ∧ (x.1 = 2 → 0 ≤ x.2.2 ∧ x.2.2 < n)
def Fit (n : Nat) (ml : List Mg) : Prop := ml.length = n ∧ ∀ x ∈ ml, FitP n x

theorem isNode_spec {gb : Nat} {nx : List (List Nat)} {i : Int} {w : World} {R : Value → World → Prop} (h : IsG w gb nx) (hR : R (.bool (decide (0 ≤ i ∧ i < nx.length))) w) :
    callR Try.prog 124 #[.pointer (some (blk gb)), .int .i64 i] w R := by
  refine callR.of (nest_isNode_calls _ i R w ?_) fun _ _ h => h
  refine ifB_dec (fun h0 => gLen_spec h ⟨_, rfl, ?_⟩) (fun h0 => ?_)
  · have : decide (i < (nx.length : Int)) = decide (0 ≤ i ∧ i < nx.length) := by
      rw [decide_eq_decide]; exact ⟨fun h => ⟨h0, h⟩, fun h => h.2⟩
    rw [this]
    exact hR
  · have : decide (0 ≤ i ∧ i < (nx.length : Int)) = false := by
      rw [decide_eq_false_iff_not]; exact fun h => h0 h.1
    rw [this] at hR
    exact hR

theorem IndexFuncM_spec {y : Value} {r : Sl} {l : List Mg} {Q : Mg → Prop} {Inv : World → Prop} {w : World} {R : Value → World → Prop} (hi : Inv w) (hl : l.length ≤ 4096) (hr : ∀ w', Inv w' → IsM w' r l)
    (hy : ∀ x ∈ l, ∀ w', Inv w' → callV Try.prog Try.fs y [.agg #[.int .u8 x.1, .int .i64 x.2.1, .int .i64 x.2.2]] w' fun v w'' => ∃ b : Bool, v = .bool b ∧ (b = true ↔ Q x) ∧ Inv w'')
    (hR : ∀ (v : Int) w', Inv w' → (0 ≤ v ↔ ∃ p ∈ l, Q p) → R (.int .i64 v) w') : callR Try.prog 213 #[.slice r.a r.l r.c, y] w R := by
  refine callR.of (slices_IndexFunc_sapi_Merge_api_Merge_calls r y R w ?_) fun _ _ h => h
  refine LoopW.count l.length (by omega) (fun k w' => Inv w' ∧ ∀ j (hj : j < l.length), j < k → ¬ Q l[j]) ⟨hi, fun j hj h => absurd h (by omega)⟩ ?_
  rintro k w1 hk ⟨hi, hn⟩ next hnext
  have hlen := (hr w1 hi).len
  refine ifB_dec (fun hlt => ?_) (fun hge => ?_)
  · have hlt : k < l.length := by dsimp only at hlt; omega
    refine elemM (hr w1 hi) hlt ?_
    refine callV.mono (hy _ (List.getElem_mem hlt) w1 hi) fun v w'' ⟨b, hv, hb, hi'⟩ => ⟨b, hv, ifB_bool (fun e => hR _ w'' hi' ⟨fun _ => ⟨l[k], List.getElem_mem hlt, hb.1 e⟩, fun _ => by first | omega | (dsimp only; omega)⟩) fun e => hnext w'' hlt ⟨hi', fun j hj hjk => ?_⟩⟩
    by_cases e' : j = k
    · subst e'; intro hq; rw [hb.2 hq] at e; cases e
    · exact hn j hj (by omega)
  · refine hR (-1) w1 hi ⟨fun h => absurd h (by decide), fun ⟨p, hp, hq⟩ => ?_⟩
    obtain ⟨j, hj, rfl⟩ := List.mem_iff_getElem.1 hp
    exact absurd hq (hn j hj (by dsimp only at hge; omega))

theorem fit1_spec {x : Mg} {c gb : Nat} {nx : List (List Nat)} {w : World} {R : Value → World → Prop} (hG : IsG w gb nx) (hc : Blk w c 28 [.pointer (some (Gk.blk gb))])
    (hR : ∀ b w', Below w.heap.size w w' → (b = true ↔ ¬ FitP nx.length x) → R (.bool b) w') :
    Calls Try.prog 186 #[.agg #[.int .u8 x.1, .int .i64 x.2.1, .int .i64 x.2.2], .pointer (some (Gk.blk c))] w (Ret R) := by
  refine nest_fit_1_calls (x.1, x.2.1, x.2.2, ()) (Gk.blk c) R w ?_
  unfold L_nest_fit_1
  refine Nw.gen fun w1 hw1 => ?_
  have h1 : Blk w1 w.heap.size 82 [.int .u8 x.1, .int .i64 x.2.1, .int .i64 x.2.2] := by rw [hw1]; exact Blk.new w _ #[_, _, _]
  have b1 : Below w.heap.size w w1 := by rw [hw1]; exact (Below.refl _ _).alloc (Nat.le_refl _) _
  clear hw1
  have hG1 := hG.below b1
  have hc1 := hc.below b1
  refine ⟨x.1, h1.cell0 rfl, ifB_dec (fun h3 => hR true w1 b1 ⟨fun _ hf => by have := hf.1; omega, fun _ => rfl⟩) (fun h3 => ⟨x.1, h1.cell0 rfl, ifB_bne (fun hne => ?_) (fun he => ?_)⟩)⟩
  · refine ⟨_, hc1.cell0 rfl, x.2.1, h1.cell (n := 1) rfl, isNode_spec hG1 ⟨_, rfl, ifB_not (ifB_dec (fun hin => ?_) (fun hin => hR true w1 b1 ⟨fun _ hf => hin (hf.2.1 hne), fun _ => rfl⟩))⟩⟩
    refine ⟨x.1, h1.cell0 rfl, ifB_beq (fun h2 => ?_) (fun h2 => hR false w1 b1 ⟨(fun h => by cases h), fun hf => absurd ⟨by omega, fun _ => hin, fun h => absurd h h2⟩ hf⟩)⟩
    refine ⟨_, hc1.cell0 rfl, x.2.2, h1.cell (n := 2) rfl, isNode_spec hG1 ⟨_, rfl, hR _ w1 b1 ?_⟩⟩
    rw [Bool.not_eq_true', decide_eq_false_iff_not]
    exact ⟨fun h hf => h (hf.2.2 h2), fun hf h => hf ⟨by omega, fun _ => hin, fun _ => h⟩⟩
  · refine ⟨x.1, h1.cell0 rfl, ifB_beq (fun h2 => absurd h2 (by omega)) (fun h2 => hR false w1 b1 ⟨(fun h => by cases h), fun hf => absurd ⟨by omega, fun h => absurd he h, fun h => absurd h h2⟩ hf⟩)⟩

theorem fit_spec {gb : Nat} {nx : List (List Nat)} {s : Sl} {ml : List Mg} {w : World} {R : Value → World → Prop} (hG : IsG w gb nx) (hmax : nx.length ≤ 4096) (hM : IsM w s ml)
    (hR : ∀ b w', Below w.heap.size w w' → (b = true ↔ Fit nx.length ml) → R (.bool b) w') : callR Try.prog 160 #[.pointer (some (Gk.blk gb)), .slice s.a s.l s.c] w R := by
  refine callR.of (nest_fit_calls _ s R w ?_) fun _ _ h => h
  unfold L_nest_fit
  refine Nw.gen fun w1 hw1 => ?_
  have h1 : Blk w1 w.heap.size 28 [.pointer (some (Gk.blk gb))] := by rw [hw1]; exact Blk.new w _ #[_]
  have b1 : Below w.heap.size w w1 := by rw [hw1]; exact (Below.refl _ _).alloc (Nat.le_refl _) _
  clear hw1
  have hG1 := hG.below b1
  have hM1 := IsC.mbelow hM b1
  have hz1 := b1.size
  have hl := hM.len
  refine ⟨_, h1.cell0 rfl, gLen_spec hG1 ⟨_, rfl, ifB_beq (fun he => ?_) (fun hne => hR false w1 b1 ⟨(fun h => by cases h), fun hf => absurd hf.1 (by omega)⟩)⟩⟩
  refine callR.of (slices_ContainsFunc_sapi_Merge_api_Merge_calls s _ _ w1 ?_) fun _ _ h => h
  refine IndexFuncM_spec (Q := fun x => ¬ FitP nx.length x) (Inv := fun w' => Below w1.heap.size w1 w') (Below.refl _ _) (by omega) (fun w' hb' => IsC.mbelow hM1 hb') (fun x hx w' hb' => ?_) fun v w2 hb2 hv => ⟨v, rfl, _, rfl, hR _ w2 (b1.trans (hb2.mono (by omega))) ?_⟩
  · have hc : Try.fs.contains 186 = true := by kernel_rfl
    unfold callV
    simp only [hc]
    exact fit1_spec (hG1.below hb') (h1.below hb') fun b w'' hb'' hb => ⟨b, rfl, hb, hb'.trans (hb''.mono hb'.size)⟩
  · rw [Bool.not_eq_true', decide_eq_false_iff_not, ge_iff_le, hv]
    refine ⟨fun h => ⟨by omega, fun x hx => Classical.byContradiction fun hn => h ⟨x, hx, hn⟩⟩, fun h ⟨x, hx, hn⟩ => hn (h.2 x hx)⟩

end Go.Proofs
