/-
  What a nested is; nested.dominates, nested.around.
-/
import Derived.Test.Ytjplhoollkeihaa16b
namespace Go.Proofs
open Go.Gk Go.RowKit Go.Gr Go.Dm

/-- What a nested holds: a graph's edges, its merges, the wide graph's edges, its tree. -/
structure Nst where
  nx : List (List Nat)
  ml : List Mg
  wx : List (List Nat)
  ov : Nat → Option Nat
  dp : Nat → Int
namespace Nst
variable (g : Nst)
def kd (i : Nat) : Int := (g.ml.getD i (0, 0, 0)).1
def to (i : Nat) : Int := (g.ml.getD i (0, 0, 0)).2.1
def co (i : Nat) : Int := (g.ml.getD i (0, 0, 0)).2.2
def D (a b : Int) : Prop := DomP (orderOf g.wx) g.ov a b
/-- Node i stands in the construct of h. -/
def In (h i : Nat) : Prop := g.kd h ≠ 0 ∧ g.D (h : Int) (i : Int) ∧ ¬ g.D (g.to h) (i : Int)
open Classical in
noncomputable def hdP (i h : Nat) : Bool := decide (g.kd h ≠ 0 ∧ ¬ g.D (g.to h) (i : Int))
/-- The heads around a node, the innermost last. -/
noncomputable def hd (i : Nat) : List Nat := ((upOf g.wx g.ov g.dp (i : Int)).filter (g.hdP i)).reverse
variable {g}
theorem kd_get {i : Nat} (h : i < g.ml.length) : (g.ml[i]).1 = g.kd i := by simp [kd, List.getD, h]
theorem to_get {i : Nat} (h : i < g.ml.length) : (g.ml[i]).2.1 = g.to i := by simp [to, List.getD, h]
theorem co_get {i : Nat} (h : i < g.ml.length) : (g.ml[i]).2.2 = g.co i := by simp [co, List.getD, h]
theorem hdP_iff {i h : Nat} : g.hdP i h = true ↔ g.kd h ≠ 0 ∧ ¬ g.D (g.to h) (i : Int) := by simp [hdP]
end Nst

/-- A nested in memory, but for what its heads are. -/
structure Ne0 (w : World) (nb gb : Nat) (hsl : Sl) (g : Nst) (wb tb : Nat) (ms : Sl) : Prop where
  ok : NxOk g.nx
  fit : Fit g.nx.length g.ml
  wlen : g.wx.length = g.nx.length
  b : Blk w nb 148 [.pointer (some (Gk.blk gb)), ms.val, .pointer (some (Gk.blk wb)), .pointer (some (Gk.blk tb)), hsl.val]
  gr : IsG w gb g.nx
  m : IsM w ms g.ml
  wide : IsG w wb g.wx
  dt : Dt w tb g.wx g.ov g.dp
section
variable {w w' : World} {nb gb : Nat} {hsl : Sl} {g : Nst} {wb tb : Nat} {ms : Sl} {R : Value → World → Prop}
theorem Ne0.below (h : Ne0 w nb gb hsl g wb tb ms) (hb : Below w.heap.size w w') : Ne0 w' nb gb hsl g wb tb ms :=
  ⟨h.ok, h.fit, h.wlen, h.b.below hb, h.gr.below hb, IsC.mbelow h.m hb, h.wide.below hb, h.dt.below hb⟩
theorem reached_inOd {nx : List (List Nat)} (hx : NxOk nx) (i : Int) : reachedOf nx i = inOd (orderOf nx) i := by
  unfold reachedOf inOd
  congr 1
  rw [Bool.eq_iff_iff]
  simp [hx.walkOk.mem]
theorem Dt.ends {nx : List (List Nat)} {ov : Nat → Option Nat} {dp : Nat → Int} {a b : Int} (h : Dt w tb nx ov dp) (hD : DomP (orderOf nx) ov a b) : inOd (orderOf nx) a = true ∧ inOd (orderOf nx) b = true := by
  obtain ⟨a', b', rfl, rfl, h1, h2⟩ := hD
  exact ⟨inOd_iff.2 ⟨a', rfl, h.ancOd h1 h2⟩, inOd_iff.2 ⟨b', rfl, h1⟩⟩

theorem dominates_spec (h : Ne0 w nb gb hsl g wb tb ms) {a b : Int} (hR : ∀ v w', Below w.heap.size w w' → (v = true ↔ g.D a b) → R (.bool v) w') :
    callR Try.prog 187 #[.pointer (some (Gk.blk nb)), .int .i64 a, .int .i64 b] w R := by
  refine callR.of (nest_nested_dominates_calls _ a b R w ?_) fun _ _ h => h
  have no : ∀ {x : Int}, reachedOf g.wx x = false → (x = a ∨ x = b) → R (.bool false) w := fun {x} hx hab => by
    refine hR false w (Below.refl _ _) ⟨fun e => (by cases e), fun hD => ?_⟩
    obtain ⟨h1, h2⟩ := h.dt.ends hD
    rw [reached_inOd h.dt.ok] at hx
    rcases hab with rfl | rfl
    · rw [h1] at hx; cases hx
    · rw [h2] at hx; cases hx
  refine derefP_some rfl ⟨_, h.b.cell (n := 2) rfl, Reached_spec h.dt.ok h.wide ⟨_, rfl, ifB_bool (fun ha => ?_) (fun ha => no ha (.inl rfl))⟩⟩
  refine derefP_some rfl ⟨_, h.b.cell (n := 2) rfl, Reached_spec h.dt.ok h.wide ⟨_, rfl, ifB_bool (fun hb => ?_) (fun hb => no hb (.inr rfl))⟩⟩
  exact derefP_some rfl ⟨_, h.b.cell (n := 3) rfl, Dominates_spec h.dt fun v w' hb hv => ⟨v, rfl, hR v w' hb hv⟩⟩

theorem Dt.upLen {nx : List (List Nat)} {ov : Nat → Option Nat} {dp : Nat → Int} (h : Dt w tb nx ov dp) (i : Int) : (upOf nx ov dp i).length ≤ 4097 := by
  by_cases hin : inOd (orderOf nx) i = true
  · obtain ⟨y, rfl, hy⟩ := inOd_iff.1 hin
    have hm := h.dpo.mem y hy
    have hrl := List.idxOf_lt_length_of_mem hy
    have hol := order_len nx
    have hwl := h.ok.walk_le
    have hmx := h.ok.max
    have hrk : rkOf (orderOf nx) y < 4096 := by unfold rkOf; omega
    rw [upOf_in hy, (h.upL_spec _ y hy (by omega)).1]
    omega
  · unfold upOf; rw [if_neg hin]; simp
theorem Dt.upNext {nx : List (List Nat)} {ov : Nat → Option Nat} {dp : Nat → Int} (h : Dt w tb nx ov dp) (i : Int) (k : Nat) : (upOf nx ov dp i)[k + 1]? = (upOf nx ov dp i)[k]?.bind ov := by
  by_cases hin : inOd (orderOf nx) i = true
  · obtain ⟨y, rfl, hy⟩ := inOd_iff.1 hin
    have hm := h.dpo.mem y hy
    rw [upOf_in hy]
    exact (h.upL_spec _ y hy (by omega)).2.2.1 k
  · unfold upOf; rw [if_neg hin]; rfl
theorem Dt.up0 {nx : List (List Nat)} {ov : Nat → Option Nat} {dp : Nat → Int} (h : Dt w tb nx ov dp) {i : Int} (hin : inOd (orderOf nx) i = true) : (upOf nx ov dp i)[0]? = some i.toNat := by
  obtain ⟨y, rfl, hy⟩ := inOd_iff.1 hin
  have hm := h.dpo.mem y hy
  rw [upOf_in hy, (h.upL_spec _ y hy (by omega)).2.2.2]
  rfl

/-- around under way: l has been collected. -/
structure AS (w : World) (nb tb : Nat) (i : Int) (l : List Nat) (o : Obj) (w' : World) : Prop where
  b : Below w.heap.size w w'
  size : w.heap.size + 6 < w'.heap.size
  self : Blk w' w.heap.size 139 [.pointer (some (Gk.blk nb))]
  i : Blk w' (w.heap.size + 1) 3 [.int .i64 i]
  lst : ∃ s : Sl, Blk w' (w.heap.size + 2) 32 [s.val] ∧ Own w' 3 1 s (l.map iN) ∧ Fresh (w.heap.size + 7) s
  pp : Blk w' (w.heap.size + 3) 47 [.pointer (some (Gk.blk tb))]
  rcd : w'.heap[w.heap.size + 6]? = some o
  mark : w'.heap[w.heap.size + 5]? = some (.deferred (some []))
theorem AS.grow {i : Int} {l : List Nat} {o : Obj} {w'' : World} (h : AS w nb tb i l o w') (hb : Below w'.heap.size w' w'') : AS w nb tb i l o w'' := by
  have hs := h.size
  obtain ⟨s, h1, h2, h3⟩ := h.lst
  exact ⟨h.b.trans (hb.mono h.b.size), by have := hb.size; omega, h.self.below hb, h.i.below hb, ⟨s, h1.below hb, h2.below hb, h3⟩, h.pp.below hb, (hb.block _ (by omega)).trans h.rcd, (hb.block _ (by omega)).trans h.mark⟩
theorem AS.put {i : Int} {l : List Nat} {o : Obj} (h : AS w nb tb i l o w') (o' : Obj) : AS w nb tb i l o' (w'.putObj (w.heap.size + 6) o') := by
  obtain ⟨s, h1, h2, h3⟩ := h.lst
  exact ⟨h.b.putObj (by omega) _, by simpa using h.size, h.self.put (by omega) _, h.i.put (by omega) _, ⟨s, h1.put (by omega) _, h2.of_block fun a ha => World.putObj_heap_other (by have := h3 a ha; omega), h3⟩, h.pp.put (by omega) _, World.putObj_heap_same h.size, (World.putObj_heap_other (by omega)).trans h.mark⟩

set_option maxHeartbeats 8000000 in
theorem around_spec (h : Ne0 w nb gb hsl g wb tb ms) {i : Nat} (hR : ∀ r w', Below w.heap.size w w' → Own w' 3 1 r ((g.hd i).map iN) → Fresh w.heap.size r → R (.slice r.a r.l r.c) w') :
    callR Try.prog 162 #[.pointer (some (Gk.blk nb)), .int .i64 (i : Int)] w R := by
  refine callR.of (nest_nested_around_calls _ (i : Int) R w ?_) fun _ _ h => h
  unfold L_nest_nested_around
  refine Nw.gen fun w1 hw1 => Nw.gen fun w2 hw2 => ?_
  have h1 : Blk w1 w.heap.size 139 [.pointer (some (Gk.blk nb))] := by rw [hw1]; exact Blk.new w _ #[_]
  have z1 : w1.heap.size = w.heap.size + 1 := by rw [hw1]; simp
  have h2 : Blk w2 w1.heap.size 3 [.int .i64 (i : Int)] := by rw [hw2]; exact Blk.new w1 _ #[_]
  have h1' : Blk w2 w.heap.size 139 [.pointer (some (Gk.blk nb))] := by rw [hw2]; exact h1.alloc _
  have z2 : w2.heap.size = w.heap.size + 2 := by rw [hw2, hw1]; simp
  have b2 : Below w.heap.size w w2 := by rw [hw2, hw1]; exact ((Below.refl _ _).alloc (Nat.le_refl _) _).alloc (by simp) _
  clear hw2 hw1 h1
  rw [z1] at h2 ⊢
  have e2 := h.below b2.drew
  refine ⟨_, h1'.cell0 rfl, derefP_some rfl ⟨_, e2.b.cell (n := 2) rfl, _, h2.cell0 rfl, Reached_spec e2.dt.ok e2.wide ⟨_, rfl, ifB_not (ifB_bool (fun hin => ?_) (fun hin => ?_))⟩⟩⟩
  rotate_left
  · rw [reached_inOd e2.dt.ok] at hin
    refine hR ⟨none, 0, 0⟩ _ b2.drew ?_ fun a ha => by cases ha
    have : g.hd i = [] := by unfold Nst.hd upOf; rw [if_neg (by rw [hin]; simp)]; rfl
    rw [this]
    exact Own.nil _ _ _
  rw [reached_inOd e2.dt.ok] at hin
  refine Nw.gen fun w4 hw4 => ?_
  have h4 : Blk w4 w2.heap.size 32 [(⟨none, 0, 0⟩ : Sl).val] := by rw [hw4]; exact Blk.new w2.drew _ #[_]
  have b4 : Below w2.heap.size w2 w4 := by rw [hw4]; exact (Below.refl _ _).drew.alloc (Nat.le_refl _) _
  have z4 : w4.heap.size = w2.heap.size + 1 := by rw [hw4]; simp
  clear hw4
  have ed : w2.drew.heap.size = w2.heap.size := rfl
  rw [ed]
  have e4 := (h.below (b2.trans (b4.mono (by omega)))).below (Below.refl _ _).drew
  have b04 : Below w.heap.size w w4 := b2.trans (b4.mono (by omega))
  have h14 := h1'.below b4
  have h24 := h2.below b4
  refine ⟨_, h14.cell0 rfl, derefP_some rfl ⟨_, e4.b.cell (n := 3) rfl, _, h24.cell0 rfl, ?_⟩⟩
  refine Up_spec fun w5 hP5 hI5 b5 z5 => ⟨_, rfl, ?_⟩
  have ed4 : w4.drew.heap.size = w4.heap.size := rfl
  rw [ed4] at hP5 hI5 b5 z5 ⊢
  have b5 : Below w4.heap.size w4 w5 := (Below.refl _ _).drew.trans b5
  have ez2 : w2.heap.size = w.heap.size + 2 := z2
  have ez4 : w4.heap.size = w.heap.size + 3 := by omega
  have ez5 : w5.heap.size = w.heap.size + 5 := by omega
  have b05 : Below w.heap.size w w5 := b04.trans (b5.mono (by omega))
  have h15 := h14.below b5
  have h25 := h24.below b5
  have h45 := h4.below b5
  rw [ez2] at h45 ⊢
  rw [ez4] at hP5 hI5 ⊢
  have e5 := h.below b05
  obtain ⟨U, hU⟩ : ∃ U, U = upOf g.wx g.ov g.dp (i : Int) := ⟨_, rfl⟩
  have hUl : U.length ≤ 4097 := hU ▸ e5.dt.upLen _
  have hUn : ∀ k, U[k + 1]? = U[k]?.bind g.ov := fun k => hU ▸ e5.dt.upNext _ k
  have hfl : ∀ k, ((U.take k).filter (g.hdP i)).length ≤ 4097 := fun k => by
    have := List.length_filter_le (g.hdP i) (U.take k)
    rw [List.length_take] at this
    omega
  refine up_range e5.dt hP5 hI5 fun mk => ?_
  rw [ez5]
  have start : ∀ o : Obj, AS w nb tb (i : Int) [] o ((w5.alloc (.deferred (some []))).alloc o) := fun o => by
    have bl := laid_below w5 (.deferred (some [])) o
    have k1 := laid_l w5 (.deferred (some [])) o
    have k2 := laid_d w5 (.deferred (some [])) o
    rw [ez5] at k1 k2
    exact ⟨b05.trans (bl.mono (by omega)), by rw [laid_size]; omega, h15.below bl, h25.below bl, ⟨_, h45.below bl, Own.nil _ _ _, fun a ha => by cases ha⟩, hP5.below bl, k1, k2⟩
  have fin : ∀ w', AS w nb tb (i : Int) (U.filter (g.hdP i)) (mk .ready none) w' →
      rangeOut mk (w.heap.size + 6) .ready none w' fun w13 =>
          ldS w13 (Gk.blk (w.heap.size + 2)) fun x34 =>
          callR Try.prog 148 #[(.slice x34.a x34.l x34.c)] w13 fun v35 w14 =>
          v35 = (.tuple #[]) ∧
          ldS w14 (Gk.blk (w.heap.size + 2)) fun x36 =>
          closeM ((w.heap.size + 5) :: []) w14 fun w15 =>
          R (.slice x36.a x36.l x36.c) w15 := fun w' g1 => by
    refine ⟨g1.rcd, ?_⟩
    have g2 := g1.put (mk .exhausted none)
    generalize w'.putObj (w.heap.size + 6) (mk .exhausted none) = w13 at g2
    obtain ⟨s, k1, k2, k3⟩ := g2.lst
    refine ⟨s, k1.cell0 rfl, Reverse_spec k2 fun w14 k4 k5 => ⟨rfl, s, ?_, ?_⟩⟩
    · have hbl : w14.heap[w.heap.size + 2]? = w13.heap[w.heap.size + 2]? := k5.block _ fun a ha => by have := k3 a ha; omega
      exact (k1.of_block hbl).cell0 rfl
    · have hbl : w14.heap[w.heap.size + 5]? = w13.heap[w.heap.size + 5]? := k5.block _ fun a ha => by have := k3 a ha; omega
      refine closeM_one (hbl.trans g2.mark) (hR s _ ?_ ?_ fun a ha => by have := k3 a ha; omega)
      · exact (g2.b.trans (k5.below fun a ha => by have := k3 a ha; omega)).putObj (by omega) _
      · have : g.hd i = (U.filter (g.hdP i)).reverse := by rw [hU]; rfl
        rw [this]
        exact k4.of_block fun a ha => World.putObj_heap_other (by have := k3 a ha; omega)
  refine ⟨fun o w' => ∃ k, AS w nb tb (i : Int) ((U.take k).filter (g.hdP i)) (mk .ready none) w' ∧ o = U[k]? ∧ k ≤ U.length, fun hin => ⟨0, start _, (hU ▸ (e5.dt.up0 hin).symm), Nat.zero_le _⟩, fun hno => (by rw [hin] at hno; cases hno), fun o w' ⟨k, g1, _⟩ => ⟨(h.below g1.b).dt, g1.pp⟩, fun y w' hy hI => ?_, fun w' ⟨k, g1, e, hk⟩ => fin w' ?_⟩
  · obtain ⟨k, g1, e, hk⟩ := hI
    refine ⟨g1.rcd, g1.rcd, Nw.mk ?_⟩
    have hkl : k < U.length := by
      rcases Nat.lt_or_ge k U.length with h | h
      · exact h
      · rw [List.getElem?_eq_none h] at e; cases e
    have hyk : U[k] = y := by rw [List.getElem?_eq_getElem hkl] at e; exact (Option.some.inj e).symm
    have hyn := e5.dt.lt hy
    have hym : y < g.ml.length := by rw [h.fit.1, ← h.wlen]; exact hyn
    have nxt : ∀ {l w''}, AS w nb tb (i : Int) l (mk .busy none) w'' → l = (U.take (k + 1)).filter (g.hdP i) → ∃ k', AS w nb tb (i : Int) ((U.take k').filter (g.hdP i)) (mk .ready none) (w''.putObj (w.heap.size + 6) (mk .ready none)) ∧ g.ov y = U[k']? ∧ k' ≤ U.length := fun {l w''} g3 el => by
      subst el
      exact ⟨k + 1, g3.put _, by rw [hUn, ← e]; rfl, hkl⟩
    have hstep : (U.take (k + 1)).filter (g.hdP i) = (U.take k).filter (g.hdP i) ++ if g.hdP i y then [y] else [] := by
      rw [List.take_succ_eq_append_getElem hkl, List.filter_append, hyk]
      by_cases hp : g.hdP i y = true
      · simp [hp]
      · simp [hp]
    have g2 := g1.put (mk .busy none)
    generalize w'.putObj (w.heap.size + 6) (mk .busy none) = w7 at g2
    have g2 := g2.grow (w'' := w7.drew) (Below.refl _ _).drew
    have e7 := h.below g2.b
    refine ⟨_, g2.self.cell0 rfl, derefP_some rfl ⟨ms, e7.b.cell (n := 1) rfl, elemMk e7.m hym ?_⟩⟩
    rw [Nst.kd_get hym]
    refine ifB_bne (fun hne => ?_) (fun he => ?_)
    · refine ⟨_, g2.self.cell0 rfl, _, g2.self.cell0 rfl, derefP_some rfl ⟨ms, e7.b.cell (n := 1) rfl, elemMt e7.m hym ?_⟩⟩
      rw [Nst.to_get hym]
      refine ⟨_, g2.i.cell0 rfl, dominates_spec e7 fun v w8 b8 hv => ⟨v, rfl, ifB_not (ifB_bool (fun hv1 => ?_) (fun hv0 => ?_))⟩⟩
      · have g3 := g2.grow b8
        refine ⟨g3.rcd, .inl ⟨rfl, nxt g3 ?_⟩⟩
        rw [hstep, if_neg, List.append_nil]
        rw [Nst.hdP_iff]
        exact fun hh => hh.2 (hv.1 hv1)
      · have g3 := g2.grow b8
        obtain ⟨s, k1, k2, k3⟩ := g3.lst
        have hp : g.hdP i y = true := Nst.hdP_iff.2 ⟨hne, fun hD => by rw [hv.2 hD] at hv0; cases hv0⟩
        have hl4 := hfl k
        have hs3 := g3.size
        refine ⟨s, k1.cell0 rfl, push_own (B0 := w.heap.size + 7) (w0 := w8) (y := y) rfl (Below.refl _ _) (by omega) k2 k3 (by omega) fun r w10 q1 q2 q3 q4 => ?_⟩
        have bl : ∀ j, j ≤ 6 → w10.heap[w.heap.size + j]? = w8.heap[w.heap.size + j]? := fun j hj => q1.block _ (by omega)
        have k1' : Blk w10 (w.heap.size + 2) 32 [s.val] := k1.of_block (bl 2 (by omega))
        refine ⟨k1'.wr0 (by simp), Nw.mk ?_⟩
        have g4 : AS w nb tb (i : Int) ((U.take k).filter (g.hdP i) ++ [y]) (mk .busy none) (w10.setCell (Gk.blk (w.heap.size + 2)) (.slice r.a r.l r.c)) := by
          refine ⟨(g3.b.trans (q1.mono (by omega))).setCell (by show w.heap.size ≤ w.heap.size + 2; omega) _, by have : w.heap.size + 6 < w10.heap.size := q2; simpa [World.setCell] using this, ?_, ?_, ⟨r, k1'.set0 _, ?_, q4⟩, ?_, ?_, ?_⟩
          · exact (g3.self.of_block (bl 0 (by omega))).other (by show w.heap.size ≠ w.heap.size + 2; omega) _
          · exact (g3.i.of_block (bl 1 (by omega))).other (by show w.heap.size + 1 ≠ w.heap.size + 2; omega) _
          · exact q3.of_block fun a ha => heap_set_other (n := 0) (by have := q4 a ha; omega) _
          · exact (g3.pp.of_block (bl 3 (by omega))).other (by show w.heap.size + 3 ≠ w.heap.size + 2; omega) _
          · exact (heap_set_other (n := 0) (by omega) _).trans ((bl 6 (by omega)).trans g3.rcd)
          · exact (heap_set_other (n := 0) (by omega) _).trans ((bl 5 (by omega)).trans g3.mark)
        exact ⟨g4.rcd, .inl ⟨rfl, nxt g4 (by rw [hstep, if_pos hp])⟩⟩
    · refine ⟨g2.rcd, .inl ⟨rfl, nxt g2 ?_⟩⟩
      rw [hstep, if_neg, List.append_nil]
      rw [Nst.hdP_iff]
      exact fun hh => hh.1 he
  · have : U.length ≤ k := by
      rcases Nat.lt_or_ge k U.length with h | h
      · rw [List.getElem?_eq_getElem h] at e; cases e
      · exact h
    rw [List.take_of_length_le this] at g1
    exact g1
end

end Go.Proofs
