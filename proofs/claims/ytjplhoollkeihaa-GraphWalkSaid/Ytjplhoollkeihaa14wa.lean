/-
  The statement GraphWalk: every Walk: all of it, left early, and again.
-/
import Derived.Test.Ytjplhoollkeihaa14w
import Derived.Test.Ytjplhoollkeihaa14v
import Derived.Test.Ytjplhoollkeihaa14r
namespace Go.Proofs
open Go.Gk Go.RowKit Go.Gr

theorem RP.walk {p : Option Addr} {nx : List (List Nat)} {w : World} {R : Value → World → Prop} (h : RP w p nx) (hR : ∀ r w', Own w' 3 1 r ((walkOf nx).map iN) → Below w.heap.size w w' → R (.slice r.a r.l r.c) w') :
    callR Try.prog 40 #[.pointer p] w R := by
  rcases h with ⟨rfl, rfl⟩ | ⟨gb, rfl, hx, hg⟩
  · refine callR.of (intaglioref14_Graph_Walk_calls none R w ?_) fun _ _ h => h
    refine Nw.gen fun w1 hw1 => ?_
    have hG1 : Blk w1 w.heap.size 124 [(⟨none, 0, 0⟩ : Sl).val, (⟨none, 0, 0⟩ : Sl).val] := by rw [hw1]; exact Blk.new w _ #[_, _]
    have hb1 : Below w.heap.size w w1 := by rw [hw1]; exact (Below.refl _ _).alloc (Nat.le_refl _) _
    refine JoinW.cut (fun _ w' => w' = w1) (RP.len (nx := []) (.inl ⟨rfl, rfl⟩) ⟨_, rfl, ifB_false rfl rfl⟩) ?_
    rintro _ wx ewx
    subst wx
    exact ⟨⟨none, 0, 0⟩, hG1.cell0 rfl, hR ⟨none, 0, 0⟩ _ (by simpa [walkOf, visit] using Own.nil _ _ _) hb1⟩
  · exact rWalk_spec hx hg hR

structure WC (w wC : World) (B sb fb lb pb nb l : Nat) (x : Sl) : Prop where
  f0 : w.heap.size ≤ sb
  sf : sb < fb
  f1 : fb < B
  b3 : B ≤ wC.heap.size
  p3 : wC.heap.size ≤ lb
  pl : lb < pb
  pn : pb < nb
  ll : nb + 1 < l
  x : ∀ a, x.a = some a → a.block < lb
/-- GraphWalk under way: k nodes have been walked. -/
structure WS (w wC : World) (B sb fb lb pb nb l : Nat) (stop : Int) (p : Option Addr) (x : Sl) (wk : List Nat) (o : Obj) (ms : List Nat) (k : Nat) (w' : World) : Prop where
  below : Below w.heap.size w w'
  keep : Keep B wC w'
  size : l < w'.heap.size
  s : Blk w' sb 3 [.int .i64 stop]
  f : Blk w' fb 4 [.bool false]
  lst : Blk w' lb 32 [x.val]
  pp : Blk w' pb 28 [.pointer p]
  own : Own w' 3 1 x (wk.map iN)
  n : Blk w' nb 3 [.int .i64 (k : Int)]
  rcd : w'.heap[l]? = some o
  marks : ∀ d ∈ ms, d < l ∧ nb < d ∧ w'.heap[d]? = some (.deferred (some []))
section
variable {w wC : World} {B sb fb lb pb nb l : Nat} {stop : Int} {p : Option Addr} {x : Sl} {wk : List Nat} {o : Obj} {ms : List Nat} {k : Nat} {w' w'' : World}
theorem WS.grow (c : WC w wC B sb fb lb pb nb l x) (h : WS w wC B sb fb lb pb nb l stop p x wk o ms k w') (hb : Below w'.heap.size w' w'') : WS w wC B sb fb lb pb nb l stop p x wk o ms k w'' := by
  have hs := h.size
  obtain ⟨f0, sf, f1, b3, p3, pl, pn, ll, hx⟩ := c
  exact ⟨h.below.trans (hb.mono h.below.size), h.keep.below (by omega) hb, by have := hb.size; omega, h.s.below hb, h.f.below hb, h.lst.below hb, h.pp.below hb, h.own.below hb, h.n.below hb, (hb.block _ (by omega)).trans h.rcd,
    fun d hd => by obtain ⟨h1, h2, h3⟩ := h.marks d hd; exact ⟨h1, h2, (hb.block _ (by omega)).trans h3⟩⟩
theorem WS.put (c : WC w wC B sb fb lb pb nb l x) (h : WS w wC B sb fb lb pb nb l stop p x wk o ms k w') (o' : Obj) : WS w wC B sb fb lb pb nb l stop p x wk o' ms k (w'.putObj l o') := by
  have hs := h.size
  obtain ⟨f0, sf, f1, b3, p3, pl, pn, ll, hx⟩ := c
  exact ⟨h.below.putObj (by omega) _, h.keep.put (.inr (by omega)) _, by simpa using hs, h.s.put (by omega) _, h.f.put (by omega) _, h.lst.put (by omega) _, h.pp.put (by omega) _, h.own.of_block fun a ha => World.putObj_heap_other (by have := hx a ha; omega), h.n.put (by omega) _,
    World.putObj_heap_same hs, fun d hd => by obtain ⟨h1, h2, h3⟩ := h.marks d hd; exact ⟨h1, h2, (World.putObj_heap_other (by omega)).trans h3⟩⟩
theorem WS.setN (c : WC w wC B sb fb lb pb nb l x) (h : WS w wC B sb fb lb pb nb l stop p x wk o ms k w') (k' : Nat) : WS w wC B sb fb lb pb nb l stop p x wk o ms k' (w'.setCell (Gk.blk nb) (.int .i64 (k' : Int))) := by
  have hs := h.size
  obtain ⟨f0, sf, f1, b3, p3, pl, pn, ll, hx⟩ := c
  exact ⟨h.below.setCell (by show w.heap.size ≤ nb; omega) _, h.keep.set (.inr (by omega)) 0 _, by simpa [World.setCell] using hs, h.s.other (by show sb ≠ nb; omega) _, h.f.other (by show fb ≠ nb; omega) _, h.lst.other (by show lb ≠ nb; omega) _, h.pp.other (by show pb ≠ nb; omega) _,
    h.own.of_block fun a ha => heap_set_other (n := 0) (by have := hx a ha; omega) _, h.n.set0 _, (heap_set_other (n := 0) (by omega) _).trans h.rcd,
    fun d hd => by obtain ⟨h1, h2, h3⟩ := h.marks d hd; exact ⟨h1, h2, (heap_set_other (n := 0) (by omega) _).trans h3⟩⟩
/-- The next range's blocks are laid. -/
theorem WS.next (c : WC w wC B sb fb lb pb nb l x) (h : WS w wC B sb fb lb pb nb l stop p x wk o ms k w') (o' : Obj) :
    WC w wC B sb fb lb pb nb (w'.heap.size + 1) x ∧ WS w wC B sb fb lb pb nb (w'.heap.size + 1) stop p x wk o' (w'.heap.size :: ms) k ((w'.alloc (.deferred (some []))).alloc o') := by
  have hs := h.size
  have bl := laid_below w' (.deferred (some [])) o'
  have g := h.grow c bl
  obtain ⟨f0, sf, f1, b3, p3, pl, pn, ll, hx⟩ := c
  refine ⟨⟨f0, sf, f1, b3, p3, pl, pn, by omega, hx⟩, g.below, g.keep, by rw [laid_size]; omega, g.s, g.f, g.lst, g.pp, g.own, g.n, laid_l _ _ _, fun d hd => ?_⟩
  rcases List.mem_cons.1 hd with rfl | hd
  · exact ⟨by omega, by omega, laid_d _ _ _⟩
  · obtain ⟨h1, h2, h3⟩ := g.marks d hd; exact ⟨by omega, h2, h3⟩
end

/-- The first half of a round: the node is the one that the document has. -/
theorem walk_round {w wC : World} {B sb fb lb pb nb l : Nat} {stop : Int} {p : Option Addr} {x : Sl} {wk : List Nat} {o : Obj} {ms : List Nat} {k : Nat} (hk : k < wk.length) {w15 : World} (h : WS w wC B sb fb lb pb nb l stop p x wk o ms k w15)
    {bad bad' : Prop} {next : Unit → World → Prop} (hn : ∀ w', WS w wC B sb fb lb pb nb l stop p x wk o ms k w' → next () w') :
              JoinW (S := Unit) (fun m23 =>
                  ldI w15 (Gk.blk nb) .i64 fun x25 =>
                  ldS w15 (Gk.blk lb) fun x26 =>
                  ifB (decide (x25 ≥ (x26.l : Int)))
                    (bad)
                    (ldS w15 (Gk.blk lb) fun x27 =>
                    ldI w15 (Gk.blk nb) .i64 fun x28 =>
                    (0 ≤ x28 ∧ x28 < (x27.l : Int)) ∧
                    derefP x27.a fun a29 =>
                    ldI w15 (a29.add (Int.toNat x28)) .i64 fun x30 =>
                    ifB ((wk[k] : Int) != x30)
                      (bad')
                      (m23 (()) w15)))
                next := by
  have hxl := own_len h.own
  refine JoinW.cut (fun _ w' => w' = w15) ⟨_, h.n.cell0 rfl, x, h.lst.cell0 rfl, ifB_dec (fun hge => absurd hge (by omega)) fun _ => ⟨x, h.lst.cell0 rfl, _, h.n.cell0 rfl, ?_⟩⟩ (fun _ w' e => by subst e; exact hn _ h)
  refine elemI h.own.isS.toI (k := k) (by simpa using hk) ?_
  rw [List.getElem_map]
  exact ifB_bne (fun hne => absurd rfl hne) fun _ => rfl

set_option maxHeartbeats 4000000 in
theorem GraphWalk_spec {s : Sl} {hs : List Sl} {ll : List (List Int)} {stop : Int} {w : World} {R : Value → World → Prop} (h : IsII w s hs ll) (h24 : 24 * ll.length ≤ 281474976710656) (h8 : ∀ l ∈ ll, 8 * l.length ≤ 281474976710656)
    (hR : ∀ w', Below w.heap.size w w' → R (.bool true) w') :
    callR Try.prog 6 #[.slice s.a s.l s.c, .int .i64 stop] w R := by
  refine callR.of (intagliolaw14_GraphWalk_calls s stop R w ?_) fun _ _ h => h
  unfold L_intagliolaw14_GraphWalk
  refine Nw.gen fun w1 hw1 => ?_
  have hS1 : Blk w1 w.heap.size 3 [.int .i64 stop] := by rw [hw1]; exact Blk.new w _ #[_]
  have b1 : Below w.heap.size w w1 := by rw [hw1]; exact (Below.refl _ _).alloc (Nat.le_refl _) _
  have z1 : w1.heap.size = w.heap.size + 1 := by rw [hw1]; simp
  clear hw1
  refine Nw.gen fun w2 hw2 => ?_
  have hF2 : Blk w2 w1.heap.size 4 [.bool false] := by rw [hw2]; exact Blk.new w1 _ #[_]
  have b2' : Below w1.heap.size w1 w2 := by rw [hw2]; exact (Below.refl _ _).alloc (Nat.le_refl _) _
  have z2 : w2.heap.size = w1.heap.size + 1 := by rw [hw2]; simp
  clear hw2
  have hS2 := hS1.below b2'
  have b2 : Below w.heap.size w w2 := b1.trans (b2'.mono (by omega))
  have h2 := h.below b2
  refine callR.mono (S := fun v1 w1 => ∃ e q nx, v1 = .tuple #[.pointer q, .int .i64 e] ∧ Below w2.heap.size w2 w1 ∧ RP w1 q nx ∧ GS ll e nx) ?_ ?_
  · refine refOf_spec h2 h8 (fun h0 => ⟨2, none, [], rfl, Below.refl _ _, .inl ⟨rfl, rfl⟩, fun hi R' hR' => ?_⟩) (fun h0 => ⟨4, none, [], rfl, Below.refl _ _, .inl ⟨rfl, rfl⟩, fun hi R' hR' => ?_⟩)
      (fun h0 h1 hG w' hb => ⟨141, none, [], rfl, hb, .inl ⟨rfl, rfl⟩, fun hi R' hR' => ?_⟩) (fun h0 h1 hG w' rb hb hr => ⟨0, some (blk rb), edges ll, rfl, hb, .inr ⟨rb, rfl, edges_ok h0 h1 hG, hr⟩, fun hi R' hR' => ?_⟩)
    · exact graph_Of_spec hi (fun _ => hR' _ none (Below.refl _ _) (.inl ⟨rfl, rfl⟩)) (fun h' => by omega) (fun h' => by omega) (fun h' => by omega)
    · exact graph_Of_spec hi (fun h' => by omega) (fun _ => hR' _ none (Below.refl _ _) (.inl ⟨rfl, rfl⟩)) (fun _ h' => by omega) (fun _ h' => by omega)
    · exact graph_Of_spec hi (fun h' => by omega) (fun h' => by omega) (fun _ _ _ w3 hb => hR' w3 none hb (.inl ⟨rfl, rfl⟩)) (fun _ _ hG' => absurd hG' hG)
    · exact graph_Of_spec hi (fun h' => by omega) (fun h' => by omega) (fun _ _ hG' => absurd hG hG') (fun h0 h1 hG w3 gb hb hgb _ => hR' w3 _ hb (.inr ⟨gb, rfl, edges_ok h0 h1 hG, hgb⟩))
  rintro _ w3 ⟨e, q, nx, rfl, b3, hrp, hgs⟩
  refine ⟨q, e, rfl, ?_⟩
  have z3 := b3.size
  refine copied_spec ((h2).below b3) h24 h8 fun w4 b4 c4 => ⟨⟨_, ll.length, ll.length⟩, rfl, ?_⟩
  have i4 := c4.isII (by omega) (fun i hi => by have := h8 (ll.getD i []) (by simp [List.getD, hi]); omega)
  rw [copL_all] at i4
  have z4 := b4.size
  refine hgs (c := ⟨some (blk w3.heap.size), ll.length, ll.length⟩) i4 fun w5 p b5 hgp => ⟨p, e, rfl, ifB_false (by simp) ?_⟩
  clear hgs c4 i4
  have z5 := b5.size
  have b25 : Below w2.heap.size w2 w5 := b3.trans ((b4.mono (by omega)).trans (b5.mono (by omega)))
  refine (hrp.below ((b4.mono (by omega)).trans (b5.mono (by omega)))).walk fun x w7 o7 b7 => ⟨x, rfl, Nw.gen fun w8 hw8 => ?_⟩
  have hlen : (walkOf nx).length ≤ 4096 := by
    rcases hgp with ⟨_, rfl⟩ | ⟨_, _, hx, _⟩
    · simp [walkOf, visit]
    · have := hx.walk_le; have := hx.max; omega
  have z7 := b7.size
  have hL8 : Blk w8 w7.heap.size 32 [(⟨none, 0, 0⟩ : Sl).val] := by rw [hw8]; exact Blk.new w7 _ #[_]
  have b8 : Below w7.heap.size w7 w8 := by rw [hw8]; exact (Below.refl _ _).alloc (Nat.le_refl _) _
  have z8 : w8.heap.size = w7.heap.size + 1 := by rw [hw8]; simp
  clear hw8
  refine ⟨hL8.wr0 (by simp), Nw.gen fun w9 hw9 => ?_⟩
  have hL9 : Blk w9 w7.heap.size 32 [x.val] := by rw [hw9]; exact hL8.set0 _
  have b9 : Below w7.heap.size w7 w9 := by rw [hw9]; exact b8.setCell (Nat.le_refl _) _
  have z9 : w9.heap.size = w7.heap.size + 1 := by rw [hw9]; simpa [World.setCell] using z8
  clear hw9 hL8
  refine Walk_spec fun w10 hW b10 => ⟨_, rfl, funcNil_func (ifB_false rfl (Nw.gen fun w12 hw12 => ?_))⟩
  have z10 : w9.heap.size < w10.heap.size := hW.lt
  have hN12 : Blk w12 w10.heap.size 3 [.int .i64 0] := by rw [hw12]; exact Blk.new w10 _ #[_]
  have b12 : Below w10.heap.size w10 w12 := by rw [hw12]; exact (Below.refl _ _).alloc (Nat.le_refl _) _
  have z12 : w12.heap.size = w10.heap.size + 1 := by rw [hw12]; simp
  clear hw12
  refine ⟨hN12.wr0 (by simp), Nw.gen fun w13 hw13 => ?_⟩
  have hN13 : Blk w13 w10.heap.size 3 [.int .i64 ((0 : Nat) : Int)] := by rw [hw13]; exact hN12.set0 _
  have b13 : Below w10.heap.size w10 w13 := by rw [hw13]; exact b12.setCell (Nat.le_refl _) _
  have z13 : w13.heap.size = w10.heap.size + 1 := by rw [hw13]; simpa [World.setCell] using z12
  clear hw13 hN12
  have b5_13 : Below w5.heap.size w5 w13 := b7.trans ((b9.mono (by omega)).trans ((b10.mono (by omega)).trans (b13.mono (by omega))))
  have b2_13 : Below w2.heap.size w2 w13 := b25.trans (b5_13.mono (by omega))
  have b10_13 : Below w9.heap.size w9 w13 := b10.trans (b13.mono (by omega))
  have c1 : WC w w5 w4.heap.size w.heap.size w1.heap.size w7.heap.size w9.heap.size w10.heap.size (w13.heap.size + 1) x := ⟨by omega, by omega, by omega, by omega, by omega, by omega, by omega, by omega, fun a ha => (o7.lt ha).2⟩
  have start : ∀ o : Obj, WS w w5 w4.heap.size w.heap.size w1.heap.size w7.heap.size w9.heap.size w10.heap.size (w13.heap.size + 1) stop p x (walkOf nx) o [w13.heap.size] 0 ((w13.alloc (.deferred (some []))).alloc o) := fun o => by
    have bl := laid_below w13 (.deferred (some [])) o
    exact ⟨(b2.trans (b2_13.mono (by omega))).trans (bl.mono (by have := b2_13.size; omega)), ((Keep.refl _ _).belowC (Nat.le_refl _) b5_13).below (by omega) bl, by rw [laid_size]; omega, (hS2.below b2_13).below bl, (hF2.below b2_13).below bl,
      (hL9.below b10_13).below bl, (hW.below b13).below bl, ((o7.below b9).below b10_13).below bl, hN13.below bl, laid_l _ _ _, fun d hd => by simp at hd; subst hd; exact ⟨by omega, by omega, laid_d _ _ _⟩⟩
  have hW13 := hW.below b13
  clear hN13 b5_13 b2_13 hL9 hS2 hF2 hS1 o7
  refine JoinW.cut (fun st w' => st = ((), [w13.heap.size]) ∧ ∃ o k, WS w w5 w4.heap.size w.heap.size w1.heap.size w7.heap.size w9.heap.size w10.heap.size (w13.heap.size + 1) stop p x (walkOf nx) o [w13.heap.size] k w' ∧ (k = (walkOf nx).length ∨ (k : Int) = stop)) ?_ ?_
  · refine walk_range (nx := nx) (B := w4.heap.size) (wC := w5) hW13 hgp fun mk => ?_
    refine ⟨fun k w' => WS w w5 w4.heap.size w.heap.size w1.heap.size w7.heap.size w9.heap.size w10.heap.size (w13.heap.size + 1) stop p x (walkOf nx) (mk .ready none) [w13.heap.size] k w', start _, fun k w' h => h.keep, fun k hk w' h => ⟨h.rcd, h.rcd, Nw.mk ?_⟩, fun w' h => .inl ⟨h.rcd, rfl, _, _, h.put c1 _, .inl rfl⟩⟩
    refine walk_round hk (h.put c1 (mk .busy none)) fun w18 h => ?_
    refine ⟨_, h.n.cell0 rfl, h.n.wr0 (by simp), ?_⟩
    rw [wrap64_succ (by omega)]
    refine Nw.mk ?_
    have h := h.setN c1 (k + 1)
    refine ⟨_, h.n.cell0 rfl, _, h.s.cell0 rfl, ifB_beq (fun he => ⟨h.rcd, .inr ⟨rfl, .inr (.inr ?_)⟩⟩) fun _ => ⟨h.rcd, .inl ⟨rfl, h.put c1 _⟩⟩⟩
    have h := h.put c1 (mk .done (some (.exit 0)))
    exact ⟨h.rcd, rfl, _, _, h.put c1 _, .inr he⟩
  rintro _ w25 ⟨rfl, o, k, h, hk⟩
  clear start
  refine JoinW.cut (fun _ w' => w' = w25) ?_ ?_
  · have hxl := own_len h.own
    refine ⟨_, h.n.cell0 rfl, x, h.lst.cell0 rfl, ifB_bne (fun hne => ⟨_, h.n.cell0 rfl, _, h.s.cell0 rfl, ifB_bne (fun hne' => ?_) fun _ => rfl⟩) fun _ => rfl⟩
    rcases hk with hk | hk
    · omega
    · exact absurd hk hne'
  rintro _ w28 e28
  subst e28
  refine ⟨h.n.wr0 (by simp), Nw.gen fun w29 hw29 => ?_⟩
  have h29 := h.setN c1 0
  rw [show (.int .i64 ((0 : Nat) : Int) : Value) = .int .i64 (0 : Int) from rfl, ← hw29] at h29
  clear h hw29
  refine walk_range (nx := nx) (B := w4.heap.size) (wC := w5) h29.pp hgp fun mk => ?_
  obtain ⟨c2, start⟩ := h29.next c1 (mk .ready none)
  refine ⟨fun k w' => WS w w5 w4.heap.size w.heap.size w1.heap.size w7.heap.size w9.heap.size w10.heap.size (w29.heap.size + 1) stop p x (walkOf nx) (mk .ready none) [w29.heap.size, w13.heap.size] k w', start, fun k w' h => h.keep, fun k hk w' h => ⟨h.rcd, h.rcd, Nw.mk ?_⟩, fun w' h => .inl ⟨h.rcd, ?_⟩⟩
  · refine walk_round hk (h.put c2 (mk .busy none)) fun w18 h => ?_
    refine ⟨_, h.n.cell0 rfl, h.n.wr0 (by simp), ?_⟩
    rw [wrap64_succ (by omega)]
    refine Nw.mk ?_
    have h := h.setN c2 (k + 1)
    exact ⟨h.rcd, .inl ⟨rfl, h.put c2 _⟩⟩
  have h := h.put c2 (mk .exhausted none)
  have hxl := own_len h.own
  refine ⟨_, h.n.cell0 rfl, x, h.lst.cell0 rfl, ifB_beq (fun _ => ?_) fun hne => absurd (by omega) hne⟩
  refine awake_spec fun w38 b38 => ⟨true, rfl, ?_⟩
  have h := h.grow c2 b38
  obtain ⟨f0, sf, f1, hb3, p3, pl, pn, ll', hx'⟩ := c2
  refine ⟨h.f.wr0 (by simp), Nw.gen fun w39 hw39 => ?_⟩
  have hF : Blk w39 w1.heap.size 4 [.bool true] := by rw [hw39]; exact h.f.set0 _
  have hb : Below w.heap.size w w39 := by rw [hw39]; exact h.below.setCell (by show w.heap.size ≤ w1.heap.size; omega) _
  have hm : ∀ d, d ∈ [w29.heap.size, w13.heap.size] → w39.heap[d]? = some (.deferred (some [])) := fun d hd => by
    rw [hw39]
    obtain ⟨g1, g2, g3⟩ := h.marks d hd
    exact (heap_set_other (n := 0) (by omega) _).trans g3
  have hz : w13.heap.size < w29.heap.size := by have := (h29.marks w13.heap.size (by simp)).1; have := h29.size; omega
  refine ⟨hm _ (by simp), (World.putObj_heap_other (by omega)).trans (hm _ (by simp)), true, ((hF.put (by omega) _).put (by omega) _).cell0 rfl, hR _ ((hb.putObj (by omega) _).putObj (by omega) _)⟩

end Go.Proofs
