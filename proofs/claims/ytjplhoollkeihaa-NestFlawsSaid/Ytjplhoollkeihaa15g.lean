/-
  dom: what a tree tells: reached, Over, Depth, Up, Dominates.
-/
import Derived.Test.Ytjplhoollkeihaa15f
namespace Go.Proofs
open Go.Gk Go.RowKit Go.Gr Go.Dm

def inOd (od : List Nat) (i : Int) : Bool := decide (0 ≤ i) && od.contains i.toNat
theorem inOd_nat (od : List Nat) (i : Nat) : inOd od (i : Int) = od.contains i := by simp [inOd]
theorem inOd_iff {od : List Nat} {i : Int} : inOd od i = true ↔ ∃ k : Nat, i = (k : Int) ∧ k ∈ od := by
  unfold inOd
  rw [Bool.and_eq_true, decide_eq_true_iff, List.contains_iff_mem]
  constructor
  · rintro ⟨h1, h2⟩; exact ⟨i.toNat, by omega, h2⟩
  · rintro ⟨k, rfl, h⟩; exact ⟨by omega, by simpa using h⟩
/-- A tree of New's, and what is known of it. -/
structure Dt (w : World) (tb : Nat) (nx : List (List Nat)) (ov : Nat → Option Nat) (dp : Nat → Int) : Prop where
  ok : NxOk nx
  d : IsD w tb nx ov dp
  s : Settled nx (orderOf nx) ov
  dpo : DpOk (orderOf nx) ov dp
theorem Dt.below {w w' : World} {tb : Nat} {nx : List (List Nat)} {ov : Nat → Option Nat} {dp : Nat → Int} (h : Dt w tb nx ov dp) (hb : Below w.heap.size w w') : Dt w' tb nx ov dp := ⟨h.ok, h.d.below hb, h.s, h.dpo⟩
section
variable {w : World} {R : Value → World → Prop} {tb : Nat} {nx : List (List Nat)} {ov : Nat → Option Nat} {dp : Nat → Int} {i : Int}
theorem Dt.lt (h : Dt w tb nx ov dp) {x : Nat} (hx : x ∈ orderOf nx) : x < nx.length := od_lt h.ok x hx
theorem Dt.out (h : Dt w tb nx ov dp) {x : Nat} (hx : x ∉ orderOf nx) : ov x = none := by
  cases e : ov x with
  | none => rfl
  | some y => exact absurd ((h.s.pr x).1 (.inr (by rw [e]; simp))) hx
theorem reached_spec (h : Dt w tb nx ov dp) (hR : R (.bool (inOd (orderOf nx) i)) w) : callR Try.prog 108 #[.pointer (some (Gk.blk tb)), .int .i64 i] w R := by
  refine callR.of (dom_Tree_reached_calls _ i R w ?_) fun _ _ h => h
  obtain ⟨gb, ob, db, rb, hT, hG⟩ := h.d
  refine ifB_true rfl (ifB_dec (fun h0 => derefP_some rfl ⟨⟨_, nx.length, nx.length⟩, hT.t.cell (n := 2) rfl, ifB_dec (fun h1 => ?_) (fun h1 => ?_)⟩) (fun h0 => ?_))
  · obtain ⟨k, rfl⟩ := Int.eq_ofNat_of_zero_le h0
    have hk : k < nx.length := by dsimp only at h1; omega
    refine hT.getD hk ?_
    have : (dp k != (-1 : Int)) = inOd (orderOf nx) (k : Int) := by
      rw [inOd_nat, Bool.eq_iff_iff, bne_iff_ne, List.contains_iff_mem]
      constructor
      · intro hne; exact Classical.byContradiction fun hn => hne (h.dpo.out k hn)
      · intro hm e; have := (h.dpo.mem k hm).1; omega
    rw [this]; exact hR
  · have : inOd (orderOf nx) i = false := by
      rw [← Bool.not_eq_true, inOd_iff]
      rintro ⟨k, rfl, hk⟩
      have := h.lt hk
      dsimp only at h1
      omega
    rw [this] at hR; exact hR
  · have : inOd (orderOf nx) i = false := by
      rw [← Bool.not_eq_true, inOd_iff]
      rintro ⟨k, rfl, hk⟩
      omega
    rw [this] at hR; exact hR
theorem reached_nil' (hR : R (.bool false) w) : callR Try.prog 108 #[.pointer none, .int .i64 i] w R :=
  callR.of (dom_Tree_reached_calls none i R w (ifB_false rfl hR)) fun _ _ h => h
def overOf (od : List Nat) (ov : Nat → Option Nat) (i : Int) : Int := if inOd od i then ovI (ov i.toNat) else -1
def depthOf (od : List Nat) (dp : Nat → Int) (i : Int) : Int := if inOd od i then dp i.toNat else -1
theorem Over_spec (h : Dt w tb nx ov dp) (hR : R (.int .i64 (overOf (orderOf nx) ov i)) w) : callR Try.prog 45 #[.pointer (some (Gk.blk tb)), .int .i64 i] w R := by
  refine callR.of (dom_Tree_Over_calls _ i R w (reached_spec h ⟨_, rfl, ?_⟩)) fun _ _ h => h
  unfold overOf at hR
  refine ifB_not (ifB_bool (fun hi => ?_) (fun hi => ?_))
  · rw [if_pos hi] at hR
    obtain ⟨k, rfl, hk⟩ := inOd_iff.1 hi
    obtain ⟨gb, ob, db, rb, hT, hG⟩ := h.d
    exact hT.getO (h.lt hk) hR
  · rw [if_neg (by rw [hi]; simp)] at hR
    exact hR
theorem Depth_spec (h : Dt w tb nx ov dp) (hR : R (.int .i64 (depthOf (orderOf nx) dp i)) w) : callR Try.prog 47 #[.pointer (some (Gk.blk tb)), .int .i64 i] w R := by
  refine callR.of (dom_Tree_Depth_calls _ i R w (reached_spec h ⟨_, rfl, ?_⟩)) fun _ _ h => h
  unfold depthOf at hR
  refine ifB_not (ifB_bool (fun hi => ?_) (fun hi => ?_))
  · rw [if_pos hi] at hR
    obtain ⟨k, rfl, hk⟩ := inOd_iff.1 hi
    obtain ⟨gb, ob, db, rb, hT, hG⟩ := h.d
    exact hT.getD (h.lt hk) hR
  · rw [if_neg (by rw [hi]; simp)] at hR
    exact hR
end

/-! ### Up -/
theorem Up_spec {p : Option Addr} {i : Int} {w : World} {R : Value → World → Prop}
    (hR : ∀ w', Blk w' w.heap.size 47 [.pointer p] → Blk w' (w.heap.size + 1) 3 [.int .i64 i] → Below w.heap.size w w' → w'.heap.size = w.heap.size + 2 → R (.func (.func 110) #[] #[.pointer (some (Gk.blk w.heap.size)), .pointer (some (Gk.blk (w.heap.size + 1)))]) w') :
    callR Try.prog 56 #[.pointer p, .int .i64 i] w R := by
  refine callR.of (dom_Tree_Up_calls p i R w ?_) fun _ _ h => h
  refine Nw.gen fun w1 hw1 => Nw.gen fun w2 hw2 => ?_
  have z1 : w1.heap.size = w.heap.size + 1 := by rw [hw1]; simp
  have h1 : Blk w1 w.heap.size 47 [.pointer p] := by rw [hw1]; exact Blk.new w _ #[_]
  have h2 : Blk w2 w1.heap.size 3 [.int .i64 i] := by rw [hw2]; exact Blk.new w1 _ #[_]
  rw [z1] at h2 ⊢
  refine hR w2 (by rw [hw2]; exact h1.alloc _) h2 (by rw [hw2, hw1]; exact ((Below.refl _ _).alloc (Nat.le_refl _) _).alloc (by simp) _) (by rw [hw2]; simp [z1])
theorem Up1_nil {y : Value} {i : Int} {pb ib : Nat} {w : World} (hp : w.cell? (Gk.blk pb) = some (.pointer none)) (hi : w.cell? (Gk.blk ib) = some (.int .i64 i)) {S : World → Prop} (hS : S w) :
    Calls Try.prog 110 #[y, .pointer (some (Gk.blk pb)), .pointer (some (Gk.blk ib))] w (Ret fun _ w' => S w') :=
  dom_Tree_Up_1_calls y (Gk.blk pb) (Gk.blk ib) _ w ⟨none, hp, i, hi, reached_nil' ⟨_, rfl, ifB_true rfl hS⟩⟩
theorem Up1_spec {y : Value} {tb : Nat} {nx : List (List Nat)} {ov : Nat → Option Nat} {dp : Nat → Int} {i : Int} {pb ib : Nat} {T : TypeId} {w : World} (h : Dt w tb nx ov dp) (hp : Blk w pb T [.pointer (some (Gk.blk tb))])
    (hi : w.cell? (Gk.blk ib) = some (.int .i64 i)) (Inv : Option Nat → World → Prop) (S : World → Prop)
    (h0 : inOd (orderOf nx) i = true → Inv (some i.toNat) w) (h1 : inOd (orderOf nx) i = false → S w) (hkeep : ∀ o w', Inv o w' → Dt w' tb nx ov dp ∧ Blk w' pb T [.pointer (some (Gk.blk tb))])
    (hround : ∀ x w', x ∈ orderOf nx → Inv (some x) w' → callV Try.prog Try.fs y [.int .i64 (x : Int)] w' fun v w'' => (v = .bool true ∧ Inv (ov x) w'') ∨ (v = .bool false ∧ S w''))
    (hend : ∀ w', Inv none w' → S w') : Calls Try.prog 110 #[y, .pointer (some (Gk.blk pb)), .pointer (some (Gk.blk ib))] w (Ret fun _ w' => S w') := by
  refine dom_Tree_Up_1_calls y (Gk.blk pb) (Gk.blk ib) _ w ⟨_, hp.cell0 rfl, i, hi, reached_spec h ⟨_, rfl, ?_⟩⟩
  refine ifB_not (ifB_bool (fun hin => ⟨i, hi, ?_⟩) (fun hin => h1 hin))
  obtain ⟨k, rfl, hk⟩ := inOd_iff.1 hin
  refine LoopW.ghost (fun j s w' => ∃ o, j = (match o with | none => 0 | some x => rkOf (orderOf nx) x + 1) ∧ s = (ovI o, ()) ∧ Inv o w' ∧ ∀ x, o = some x → x ∈ orderOf nx) _ ⟨some k, rfl, rfl, h0 hin, fun x e => by cases e; exact hk⟩ ?_
  rintro _ _ w' ⟨o, rfl, rfl, hI, hm⟩ next hnext
  cases o with
  | none => exact ifB_false rfl (hend w' hI)
  | some x =>
    have hx := hm x rfl
    refine ifB_true (by simp [ovI]) (callV.mono (hround x w' hx hI) fun v w'' hv => ?_)
    rcases hv with ⟨rfl, hv⟩ | ⟨rfl, hv⟩
    · refine ⟨true, rfl, ifB_false rfl ?_⟩
      obtain ⟨h2, h3⟩ := hkeep _ _ hv
      obtain ⟨gb, ob, db, rb, hT, hG⟩ := h2.d
      refine ⟨_, h3.cell0 rfl, hT.getO (h.lt hx) (hnext _ _ _ ?_ ⟨ov x, rfl, rfl, hv, fun z hz => ?_⟩)⟩
      · cases e : ov x with
        | none => exact Nat.succ_pos _
        | some z => have := (h.s.tr.up x z e).1; simp only; omega
      · exact (h.s.pr z).1 ((h.s.tr.up x z hz).2)
    · exact ⟨false, rfl, ifB_true rfl hv⟩
theorem up_range {tb : Nat} {nx : List (List Nat)} {ov : Nat → Option Nat} {dp : Nat → Int} {i : Int} {pb ib : Nat} {T T' : TypeId} {w : World} (h : Dt w tb nx ov dp) (hp : Blk w pb T [.pointer (some (Gk.blk tb))])
    (hi : Blk w ib T' [.int .i64 i]) {round : Gk.Mk → Nat → Int × Unit → World → (Value → World → Prop) → Prop} {fin : Gk.Mk → Nat → Nat → World → Prop}
    (hh : ∀ mk : Gk.Mk, ∃ Inv : Option Nat → World → Prop, (inOd (orderOf nx) i = true → Inv (some i.toNat) ((w.alloc (.deferred (some []))).alloc (mk .ready none))) ∧
      (inOd (orderOf nx) i = false → fin mk (w.heap.size + 1) w.heap.size ((w.alloc (.deferred (some []))).alloc (mk .ready none))) ∧ (∀ o w', Inv o w' → Dt w' tb nx ov dp ∧ Blk w' pb T [.pointer (some (Gk.blk tb))]) ∧
      (∀ x w', x ∈ orderOf nx → Inv (some x) w' → w'.heap[w.heap.size + 1]? = some (mk .ready none) ∧ round mk (w.heap.size + 1) ((x : Int), ()) w' fun v w'' => (v = .bool true ∧ Inv (ov x) w'') ∨ (v = .bool false ∧ fin mk (w.heap.size + 1) w.heap.size w'')) ∧
      ∀ w', Inv none w' → fin mk (w.heap.size + 1) w.heap.size w') :
    RangeW Try.prog Try.fs (.func (.func 110) #[] #[.pointer (some (Gk.blk pb)), .pointer (some (Gk.blk ib))]) w (T := Int × Unit) (fun s => [.int .i64 s.1]) round fin := by
  intro mk hy
  obtain ⟨Inv, h0, h1, hk, hr, he⟩ := hh mk
  have hc : Try.fs.contains 110 = true := by kernel_rfl
  unfold callF
  simp only [hc]
  have hb := laid_below w (.deferred (some [])) (mk .ready none)
  refine Up1_spec (y := .func (.yield (w.heap.size + 1)) #[] #[]) (h.below hb) (hp.below hb) ((hi.below hb).cell0 rfl) Inv _ h0 h1 hk (fun x w' hx hI => ?_) he
  obtain ⟨h1, h2⟩ := hr x w' hx hI
  exact hy ((x : Int), ()) w' _ h1 h2
theorem up_range_nil {i : Int} {pb ib : Nat} {T T' : TypeId} {w : World} (hp : Blk w pb T [.pointer none]) (hi : Blk w ib T' [.int .i64 i]) {round : Gk.Mk → Nat → Int × Unit → World → (Value → World → Prop) → Prop} {fin : Gk.Mk → Nat → Nat → World → Prop}
    (hh : ∀ mk : Gk.Mk, fin mk (w.heap.size + 1) w.heap.size ((w.alloc (.deferred (some []))).alloc (mk .ready none))) :
    RangeW Try.prog Try.fs (.func (.func 110) #[] #[.pointer (some (Gk.blk pb)), .pointer (some (Gk.blk ib))]) w (T := Int × Unit) (fun s => [.int .i64 s.1]) round fin := by
  intro mk hy
  have hc : Try.fs.contains 110 = true := by kernel_rfl
  unfold callF
  simp only [hc]
  have hb := laid_below w (.deferred (some [])) (mk .ready none)
  exact Up1_nil (y := .func (.yield (w.heap.size + 1)) #[] #[]) ((hp.below hb).cell0 rfl) ((hi.below hb).cell0 rfl) (hh mk)

/-! ### Dominates -/
/-- a stands over b, a node that is reached. -/
def DomP (od : List Nat) (ov : Nat → Option Nat) (a b : Int) : Prop := ∃ a' b' : Nat, a = (a' : Int) ∧ b = (b' : Int) ∧ b' ∈ od ∧ Anc ov a' b'

set_option maxHeartbeats 2000000 in
theorem Dominates_spec {tb : Nat} {nx : List (List Nat)} {ov : Nat → Option Nat} {dp : Nat → Int} {a b : Int} {w : World} {R : Value → World → Prop} (h : Dt w tb nx ov dp)
    (hR : ∀ v w', Below w.heap.size w w' → (v = true ↔ DomP (orderOf nx) ov a b) → R (.bool v) w') : callR Try.prog 51 #[.pointer (some (Gk.blk tb)), .int .i64 a, .int .i64 b] w R := by
  refine callR.of (dom_Tree_Dominates_calls _ a b R w ?_) fun _ _ h => h
  unfold L_dom_Tree_Dominates
  refine Nw.gen fun w1 hw1 => ?_
  have hA1 : Blk w1 w.heap.size 3 [.int .i64 a] := by rw [hw1]; exact Blk.new w _ #[_]
  have b1 : Below w.heap.size w w1 := by rw [hw1]; exact (Below.refl _ _).alloc (Nat.le_refl _) _
  have z1 : w1.heap.size = w.heap.size + 1 := by rw [hw1]; simp
  clear hw1
  refine Nw.gen fun w2 hw2 => ?_
  have hF2 : Blk w2 w1.heap.size 4 [.bool false] := by rw [hw2]; exact Blk.new w1 _ #[_]
  have b2' : Below w1.heap.size w1 w2 := by rw [hw2]; exact (Below.refl _ _).alloc (Nat.le_refl _) _
  have z2 : w2.heap.size = w1.heap.size + 1 := by rw [hw2]; simp
  clear hw2
  have b2 : Below w.heap.size w w2 := b1.trans (b2'.mono (by omega))
  refine Up_spec fun w3 hP3 hI3 b3' z3 => ⟨_, rfl, ?_⟩
  have b3 : Below w.heap.size w w3 := b2.trans (b3'.mono (by omega))
  have hA3 := (hA1.below b2').below b3'
  have hF3 := hF2.below b3'
  refine up_range (h.below b3) hP3 hI3 fun mk => ?_
  -- a round's world
  let St : Obj → World → Prop := fun o w' => Below w.heap.size w w' ∧ w3.heap.size + 1 < w'.heap.size ∧ Blk w' w.heap.size 3 [.int .i64 a] ∧ Blk w' w1.heap.size 4 [.bool false] ∧ Blk w' w2.heap.size 47 [.pointer (some (Gk.blk tb))] ∧
    w'.heap[w3.heap.size + 1]? = some o ∧ w'.heap[w3.heap.size]? = some (.deferred (some []))
  have hput : ∀ {o w'} (o' : Obj), St o w' → St o' (w'.putObj (w3.heap.size + 1) o') := fun {o w'} o' ⟨g1, g2, g3, g4, g5, g6, g7⟩ =>
    ⟨g1.putObj (by omega) _, by simpa using g2, g3.put (by omega) _, g4.put (by omega) _, g5.put (by omega) _, World.putObj_heap_same g2, (World.putObj_heap_other (by omega)).trans g7⟩
  have bl := laid_below w3 (.deferred (some [])) (mk .ready none)
  have start : St (mk .ready none) ((w3.alloc (.deferred (some []))).alloc (mk .ready none)) :=
    ⟨b3.trans (bl.mono (by omega)), by rw [laid_size]; omega, hA3.below bl, hF3.below bl, hP3.below bl, laid_l _ _ _, laid_d _ _ _⟩
  have finT : ∀ {o w'}, St o w' → DomP (orderOf nx) ov a b → ∀ w6, w6 = w'.setCell (Gk.blk w1.heap.size) (.bool true) → rangeOut mk (w3.heap.size + 1) .done (some .ret) (w6.putObj (w3.heap.size + 1) (mk .done (some .ret))) fun w11 => closeM (w3.heap.size :: []) w11 fun w12 => ldB w12 (Gk.blk w1.heap.size) fun x10 => R (.bool x10) w12 := by
    rintro o w' ⟨g1, g2, g3, g4, g5, g6, g7⟩ hD w6 rfl
    refine ⟨World.putObj_heap_same (by simpa [World.setCell] using g2), ?_⟩
    refine closeM_one ((World.putObj_heap_other (by omega)).trans ((World.putObj_heap_other (by omega)).trans ((heap_set_other (n := 0) (by omega) _).trans g7))) ⟨true, ((((g4.set0 _).put (by omega) _).put (by omega) _).put (by omega) _).cell0 rfl, hR true _ ?_ ⟨fun _ => hD, fun _ => rfl⟩⟩
    exact (((g1.setCell (by show w.heap.size ≤ w1.heap.size; omega) _).putObj (by omega) _).putObj (by omega) _).putObj (by omega) _
  have finF : ∀ {w'}, St (mk .ready none) w' → ¬ DomP (orderOf nx) ov a b → rangeOut mk (w3.heap.size + 1) .ready none w' fun w8 => Wr w8 (Gk.blk w1.heap.size) ∧ Nw (w8.setCell (Gk.blk w1.heap.size) (.bool false)) fun w9 => closeM (w3.heap.size :: []) w9 fun w10 => ldB w10 (Gk.blk w1.heap.size) fun x9 => R (.bool x9) w10 := by
    intro w' hst hD
    refine ⟨hst.2.2.2.2.2.1, ?_⟩
    obtain ⟨g1, g2, g3, g4, g5, g6, g7⟩ := hput (mk .exhausted none) hst
    refine ⟨g4.wr0 (by simp), Nw.mk (closeM_one ((heap_set_other (n := 0) (by omega) _).trans g7) ⟨false, ((g4.set0 _).put (by omega) _).cell0 rfl, hR false _ ?_ ⟨fun e => (by cases e), fun e => absurd e hD⟩⟩)⟩
    exact (g1.setCell (by show w.heap.size ≤ w1.heap.size; omega) _).putObj (by omega) _
  refine ⟨fun o w' => St (mk .ready none) w' ∧ (DomP (orderOf nx) ov a b ↔ ∃ x a' : Nat, o = some x ∧ a = (a' : Int) ∧ Anc ov a' x), fun hin => ⟨start, ?_⟩, fun hin => .inl (finF start ?_), fun o w' hI => ⟨h.below hI.1.1, hI.1.2.2.2.2.1⟩, fun x w' hx hI => ⟨hI.1.2.2.2.2.2.1, hI.1.2.2.2.2.2.1, Nw.mk ?_⟩, fun w' hI => .inl (finF hI.1 ?_)⟩
  · obtain ⟨k, rfl, hk⟩ := inOd_iff.1 hin
    constructor
    · rintro ⟨a', b', rfl, e, _, h3⟩
      exact ⟨k, a', rfl, rfl, by rw [show k = b' by omega]; exact h3⟩
    · rintro ⟨x, a', e, rfl, h3⟩
      cases e
      exact ⟨a', k, rfl, rfl, hk, h3⟩
  · rintro ⟨a', b', rfl, rfl, h3, _⟩
    have : inOd (orderOf nx) (b' : Int) = true := inOd_iff.2 ⟨b', rfl, h3⟩
    rw [hin] at this
    cases this
  · obtain ⟨hst, hiff⟩ := hI
    have hst2 := hput (mk .busy none) hst
    obtain ⟨g1, g2, g3, g4, g5, g6, g7⟩ := hst2
    refine ⟨a, g3.cell0 rfl, ifB_beq (fun he => ⟨g4.wr0 (by simp), Nw.gen fun w6 hw6 => ⟨?_, .inr ⟨rfl, .inr ?_⟩⟩⟩) (fun hne => ⟨g6, .inl ⟨rfl, ?_, ?_⟩⟩)⟩
    · rw [hw6]; exact (heap_set_other (n := 0) (by omega) _).trans g6
    · have hD : DomP (orderOf nx) ov a b := hiff.2 ⟨x, x, rfl, he.symm, .refl⟩
      exact finT ⟨g1, g2, g3, g4, g5, g6, g7⟩ hD _ hw6
    · exact hput _ ⟨g1, g2, g3, g4, g5, g6, g7⟩
    · rw [hiff]
      constructor
      · rintro ⟨x', a', e, ea, h3⟩
        cases e
        rcases h3.inv with e | ⟨y, hy, h3⟩
        · exact absurd (by rw [ea, e]) hne
        · exact ⟨y, a', hy, ea, h3⟩
      · rintro ⟨y, a', e, ea, h3⟩
        exact ⟨x, a', rfl, ea, .step e h3⟩
  · rw [hI.2]
    rintro ⟨x, a', e, _⟩
    cases e

end Go.Proofs
