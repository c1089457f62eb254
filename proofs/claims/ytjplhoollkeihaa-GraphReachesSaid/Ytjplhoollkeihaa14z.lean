/-
  The statement GraphReaches: what is reached is the least closed set.
-/
import Derived.Test.Ytjplhoollkeihaa14w
import Derived.Test.Ytjplhoollkeihaa14y
import Derived.Test.Ytjplhoollkeihaa14k
namespace Go.Proofs
open Go.Gk Go.RowKit Go.Gr

structure RC (w w3 : World) (B fb pb lb l : Nat) : Prop where
  f0 : w.heap.size ≤ fb
  f1 : fb < B
  b3 : B ≤ w3.heap.size
  p3 : w3.heap.size ≤ pb
  pl : pb < lb
  ll : lb + 1 < l
/-- GraphReaches under way: xs has been walked. -/
structure RS (w w3 : World) (B fb pb lb gb l : Nat) (o : Obj) (xs : List Nat) (w' : World) : Prop where
  below : Below w.heap.size w w'
  keep : Keep B w3 w'
  size : l < w'.heap.size
  f : Blk w' fb 4 [.bool false]
  p : Blk w' pb 28 [.pointer (some (Gk.blk gb))]
  own : ∃ s, Blk w' lb 32 [s.val] ∧ Own w' 3 1 s (xs.map iN) ∧ Fresh (l + 1) s
  rcd : w'.heap[l]? = some o
  mark : w'.heap[l - 1]? = some (.deferred (some []))
section
variable {w w3 : World} {B fb pb lb gb l : Nat} {o : Obj} {xs : List Nat} {w' w'' : World}
theorem RS.grow (c : RC w w3 B fb pb lb l) (h : RS w w3 B fb pb lb gb l o xs w') (hb : Below w'.heap.size w' w'') : RS w w3 B fb pb lb gb l o xs w'' := by
  have hs := h.size
  obtain ⟨f0, f1, b3, p3, pl, ll⟩ := c
  obtain ⟨s, o1, o2, o3⟩ := h.own
  exact ⟨h.below.trans (hb.mono h.below.size), h.keep.below (by omega) hb, by have := hb.size; omega, h.f.below hb, h.p.below hb, ⟨s, o1.below hb, o2.below hb, o3⟩, (hb.block _ (by omega)).trans h.rcd, (hb.block _ (by omega)).trans h.mark⟩
theorem RS.put (c : RC w w3 B fb pb lb l) (h : RS w w3 B fb pb lb gb l o xs w') (o' : Obj) : RS w w3 B fb pb lb gb l o' xs (w'.putObj l o') := by
  have hs := h.size
  obtain ⟨f0, f1, b3, p3, pl, ll⟩ := c
  obtain ⟨s, o1, o2, o3⟩ := h.own
  exact ⟨h.below.putObj (by omega) _, h.keep.put (.inr (by omega)) _, by simpa using hs, h.f.put (by omega) _, h.p.put (by omega) _, ⟨s, o1.put (by omega) _, o2.of_block fun a ha => World.putObj_heap_other (by have := o3 a ha; omega), o3⟩,
    World.putObj_heap_same hs, (World.putObj_heap_other (by omega)).trans h.mark⟩
theorem RS.isG {nx : List (List Nat)} (h : RS w w3 B fb pb lb gb l o xs w') (hg : IsGB w3 B gb nx) : IsG w' gb nx := (hg.keep h.keep).isG
end

set_option maxHeartbeats 4000000 in
/-- One round: a node more. -/
theorem reach_round {w w3 : World} {B fb pb lb gb l : Nat} {o : Obj} {nx : List (List Nat)} (c : RC w w3 B fb pb lb l) (hx : NxOk nx) (ok : WalkOk nx) (hg : IsGB w3 B gb nx) {k : Nat} (hk : k < (walkOf nx).length) {w13 : World}
    (h : RS w w3 B fb pb lb gb l o ((walkOf nx).take k) w13) {bad : World → Prop} {done : World → Prop} (hd : ∀ w', RS w w3 B fb pb lb gb l o ((walkOf nx).take (k + 1)) w' → done w') :
          JoinW (S := Unit) (fun m21 =>
              ldS w13.drew (Gk.blk lb) fun x23 =>
              callR Try.prog 35 #[(.slice x23.a x23.l x23.c), (.int .i64 ((walkOf nx)[k] : Int))] w13.drew fun v24 w14 =>
              ∃ x25 : Bool, v24 = (.bool x25) ∧
              ifB x25
                (bad w14)
                (ldS w14 (Gk.blk lb) fun x26 =>
                ldP w14 (Gk.blk pb) fun x27 =>
                callR Try.prog 33 #[(.pointer x27)] w14 fun v28 w16 =>
                ∃ x29 : Int, v28 = (.int .i64 x29) ∧
                w16.cell? (Gk.blk lb) = some (.slice x26.a x26.l x26.c) ∧
                ifB (decide ((x26.l : Int) ≥ x29))
                  (bad w16)
                  (m21 (()) w16)))
            (fun _ w18 =>
              JoinW (S := Unit) (fun m30 =>
                  ldS w18 (Gk.blk lb) fun x32 =>
                  ifB ((x32.l : Int) == (0 : Int))
                    (ifB (((walkOf nx)[k] : Int) != (0 : Int))
                      (bad w18)
                      (m30 (()) w18))
                    (m30 (()) w18))
                (fun _ w20 =>
                  ldP w20 (Gk.blk pb) fun x33 =>
                  callR Try.prog 36 #[(.pointer x33), (.int .i64 ((walkOf nx)[k] : Int))] w20 fun v34 w21 =>
                  ∃ x35 : Sl, v34 = (.slice x35.a x35.l x35.c) ∧
                  ldS w21 (Gk.blk lb) fun x36 =>
                  LoopW (S := Bool × Int × Unit) (fun s37 w22 n38 =>
                      ifB (decide (s37.2.1 < (x35.l : Int)))
                        (JoinW (S := Bool × Unit) (fun m39 =>
                            ifB s37.1
                              (m39 (true, ()) w22.drew)
                              (ldS w22.drew (Gk.blk lb) fun x41 =>
                              (0 ≤ s37.2.1 ∧ s37.2.1 < (x35.l : Int)) ∧
                              derefP x35.a fun a42 =>
                              ldI w22.drew (a42.add (Int.toNat s37.2.1)) .i64 fun x43 =>
                              callR Try.prog 35 #[(.slice x41.a x41.l x41.c), (.int .i64 x43)] w22.drew fun v44 w23 =>
                              ∃ x45 : Bool, v44 = (.bool x45) ∧
                              m39 (x45, ()) w23))
                          (fun s40 w24 =>
                            n38 (s40.1, (IntKind.i64.wrap (s37.2.1 + (1 : Int))), ()) w24))
                        (ifB (!s37.1)
                          (bad w22)
                          (ldS w22 (Gk.blk lb) fun x46 =>
                          Nw (w22.alloc (.cells #[(.int .i64 ((walkOf nx)[k] : Int))] 3)) fun w26 =>
                          appendS Try.prog 32 (.slice x46.a x46.l x46.c) (.slice (some (Gk.blk w22.heap.size)) 1 1) w26 fun r47 w27 =>
                          Wr w27 (Gk.blk lb) ∧
                          Nw (w27.setCell (Gk.blk lb) (.slice r47.a r47.l r47.c)) fun w28 =>
                          done w28)))
                    (((x36.l : Int) == (0 : Int)), (0 : Int), ()) w21)) := by
  obtain ⟨len, hlen⟩ : ∃ n, n = (walkOf nx).length := ⟨_, rfl⟩
  have hwl := hx.walk_le
  have hm := hx.max
  have htl : ((walkOf nx).take k).length = k := by simp; omega
  refine JoinW.cut (fun _ w' => RS w w3 B fb pb lb gb l o ((walkOf nx).take k) w') ?_ fun _ w18 h => ?_
  · have h := h.grow c (w'' := w13.drew) (Below.refl _ _).drew
    obtain ⟨s, o1, o2, o3⟩ := h.own
    have hsl := own_len o2
    refine ⟨s, o1.cell0 rfl, among_spec o2.isS.toI ⟨_, rfl, ifB_false ?_ ?_⟩⟩
    · rw [containsN]; exact nodup_take hx.came.nodup hk
    · refine ⟨s, o1.cell0 rfl, some (Gk.blk gb), h.p.cell0 rfl, gLen_spec (h.isG hg) ⟨_, rfl, o1.cell0 rfl, ifB_dec (fun hge => ?_) fun _ => h⟩⟩
      have : (nx.length : Int) ≤ (s.l : Int) := hge
      omega
  refine JoinW.cut (fun _ w' => RS w w3 B fb pb lb gb l o ((walkOf nx).take k) w') ?_ fun _ w20 h => ?_
  · obtain ⟨s, o1, o2, o3⟩ := h.own
    have hsl := own_len o2
    refine ⟨s, o1.cell0 rfl, ifB_beq (fun he => ifB_bne (fun hne => ?_) fun _ => h) fun _ => h⟩
    have hk0 : k = 0 := by omega
    subst hk0
    obtain ⟨l0, e0⟩ := ok.head
    have : (walkOf nx)[0] = 0 := by simp [e0]
    omega
  refine ⟨some (Gk.blk gb), h.p.cell0 rfl, Ahead_spec hx (h.isG hg) fun r w21 a1 a2 a3 => ⟨r, rfl, ?_⟩⟩
  have h := h.grow c a3
  rw [rowAt_nat] at a1
  obtain ⟨s, o1, o2, o3⟩ := h.own
  have hsl := own_len o2
  have hrl := own_len a1
  have hrle := ahead_le nx (walkOf nx)[k]
  refine ⟨s, o1.cell0 rfl, ?_⟩
  clear a3
  obtain ⟨ah, hah⟩ : ∃ ah, ah = (aheadOf nx).getD (walkOf nx)[k] [] := ⟨_, rfl⟩
  rw [← hah] at a1 hrl hrle
  refine LoopW.ghost (fun j st w' => ∃ m, m ≤ ah.length ∧ j = ah.length - m ∧ st = ((decide (k = 0) || (ah.take m).any fun a => ((walkOf nx).take k).contains a), (m : Int), ()) ∧ RS w w3 B fb pb lb gb l o ((walkOf nx).take k) w' ∧ Own w' 3 1 r (ah.map iN)) ah.length
    ⟨0, by omega, rfl, ?_, h, a1⟩ ?_
  · have : ((s.l : Int) == 0) = decide (k = 0) := by
      rw [show s.l = k by omega]
      by_cases e : k = 0
      · subst e; rfl
      · simp [e]
    rw [this]
    simp
  rintro _ _ w22 ⟨m, hm1, rfl, rfl, h, a1⟩ next hnext
  refine ifB_dec (fun hlt => ?_) (fun hge => ?_)
  · have hlt : m < ah.length := by dsimp only at hlt; omega
    refine JoinW.cut (fun st w' => st = ((decide (k = 0) || (ah.take (m + 1)).any fun a => ((walkOf nx).take k).contains a), ()) ∧ RS w w3 B fb pb lb gb l o ((walkOf nx).take k) w' ∧ Own w' 3 1 r (ah.map iN)) ?_ ?_
    · have etk : (ah.take (m + 1)).any (fun a => ((walkOf nx).take k).contains a) = ((ah.take m).any (fun a => ((walkOf nx).take k).contains a) || ((walkOf nx).take k).contains ah[m]) := by
        rw [List.take_succ_eq_append_getElem hlt, List.any_append]
        simp
      have h := h.grow c (w'' := w22.drew) (Below.refl _ _).drew
      have a1 := a1.drew
      refine ifB_bool (fun hb => ⟨?_, h, a1⟩) (fun hb => ?_)
      · rw [etk, ← Bool.or_assoc]
        dsimp only at hb
        rw [hb]
        rfl
      · obtain ⟨s, o1, o2, o3⟩ := h.own
        refine ⟨s, o1.cell0 rfl, ?_⟩
        refine elemI a1.isS.toI (k := m) (by simpa using hlt) ?_
        rw [List.getElem_map]
        refine among_spec o2.isS.toI ⟨_, rfl, ?_, h, a1⟩
        rw [containsN, etk, ← Bool.or_assoc]
        dsimp only at hb
        rw [hb]
        rfl
    · rintro _ w24 ⟨rfl, h, a1⟩
      dsimp only
      rw [wrap64_succ (by omega)]
      exact hnext (ah.length - (m + 1)) _ _ (by omega) ⟨m + 1, by omega, rfl, rfl, h, a1⟩
  · have : m = ah.length := by dsimp only at hge; omega
    subst this
    have hfrom : (decide (k = 0) || (ah.take ah.length).any fun a => ((walkOf nx).take k).contains a) = true := by
      by_cases e : k = 0
      · simp [e]
      · obtain ⟨j, hj, hjr⟩ := ok.par k hk (by omega)
        rw [List.take_length, Bool.or_eq_true, List.any_eq_true]
        refine .inr ⟨(walkOf nx)[j], ?_, ?_⟩
        · rw [hah]; exact (edge_iff hx).2 hjr
        · rw [List.contains_iff_mem]
          exact List.mem_iff_getElem.2 ⟨j, by rw [List.length_take]; omega, by simp⟩
    refine ifB_false (by dsimp only; rw [hfrom]; rfl) ?_
    obtain ⟨s, o1, o2, o3⟩ := h.own
    have hsl := own_len o2
    refine ⟨s, o1.cell0 rfl, Nw.gen fun w26 hw26 => ?_⟩
    have hB : Blk w26 w22.heap.size 3 [iN (walkOf nx)[k]] := by rw [hw26]; exact Blk.new w22 3 #[iN (walkOf nx)[k]]
    have h := h.grow c (w'' := w26) (by rw [hw26]; exact (Below.refl _ _).alloc (Nat.le_refl _) _)
    have o2 : Own w26 3 1 s (((walkOf nx).take k).map iN) := by rw [hw26]; exact o2.alloc _
    have o1 : Blk w26 lb 32 [s.val] := by rw [hw26]; exact o1.alloc _
    refine append_one eInt o2 rfl hB (by omega) (by omega) fun r7 w27 hr _ ⟨b, hrb, hbo, hgr⟩ => ?_
    have hbl : l < b := by
      rcases hbo with hb | rfl
      · have := o3 _ hb; dsimp only at this; omega
      · exact h.size
    obtain ⟨f0, f1, b3, p3, pl, ll⟩ := c
    have hz := hgr.size
    have old : ∀ j, j ≤ l → w27.heap[j]? = w26.heap[j]? := fun j hj => hgr.block j (by have := h.size; omega) (fun e => by cases e; omega)
    have o1' : Blk w27 lb 32 [s.val] := o1.of_block (old _ (by omega))
    refine ⟨o1'.wr0 (by simp), Nw.gen fun w28 hw28 => hd w28 ?_⟩
    have olds : ∀ j, j ≤ l → j ≠ lb → w28.heap[j]? = w26.heap[j]? := fun j hj hne => by
      rw [hw28]; exact (heap_set_other (n := 0) hne _).trans (old j hj)
    have hz28 : w28.heap.size = w27.heap.size := by rw [hw28]; simp [World.setCell]
    refine ⟨?_, fun j h1 h2 => (olds j (by omega) (by omega)).trans (h.keep j h1 h2), by have := h.size; omega, h.f.of_block (olds _ (by omega) (by omega)), h.p.of_block (olds _ (by omega) (by omega)),
      ⟨r7, ?_, ?_, fun a ha => by rw [hrb] at ha; cases ha; exact hbl⟩, (olds _ (by omega) (by omega)).trans h.rcd, (olds _ (by omega) (by omega)).trans h.mark⟩
    · rw [hw28]
      exact ((h.below.trans ((below_grown hgr (B := l) (by omega) (by have := h.size; omega)).mono (by omega)))).setCell (by show w.heap.size ≤ lb; omega) _
    · rw [hw28]; exact o1'.set0 _
    · rw [List.take_succ_eq_append_getElem hk, List.map_append]
      rw [hw28]
      refine hr.of_block fun a ha => ?_
      rw [hrb] at ha
      cases ha
      exact heap_set_other (n := 0) (by show b ≠ lb; omega) _

set_option maxHeartbeats 4000000 in
theorem GraphReaches_spec {s : Sl} {hs : List Sl} {ll : List (List Int)} {w : World} {R : Value → World → Prop} (h : IsII w s hs ll) (h24 : 24 * ll.length ≤ 281474976710656) (h8 : ∀ l ∈ ll, 8 * l.length ≤ 281474976710656)
    (hR : ∀ w', Below w.heap.size w w' → R (.bool true) w') :
    callR Try.prog 8 #[.slice s.a s.l s.c] w R := by
  refine callR.of (intagliolaw14_GraphReaches_calls s R w ?_) fun _ _ h => h
  unfold L_intagliolaw14_GraphReaches
  refine Nw.gen fun w1 hw1 => ?_
  have hF1 : Blk w1 w.heap.size 4 [.bool false] := by rw [hw1]; exact Blk.new w _ #[_]
  have b1 : Below w.heap.size w w1 := by rw [hw1]; exact (Below.refl _ _).alloc (Nat.le_refl _) _
  have s1 : w1.heap.size = w.heap.size + 1 := by rw [hw1]; simp
  clear hw1
  refine copied_spec (h.below b1) h24 h8 fun w2 b2 c2 => ⟨⟨_, ll.length, ll.length⟩, rfl, ?_⟩
  have i2 := c2.isII (by omega) (fun i hi => by have := h8 (ll.getD i []) (by simp [List.getD, hi]); omega)
  rw [copL_all] at i2
  have hF2 := hF1.below b2
  have hz2 := b2.size
  have b2' : Below w.heap.size w w2 := b1.trans (b2.mono (by omega))
  have last : ∀ {ms : List Nat} {w' : World} {k : World → World → Prop}, Below w.heap.size w w' → Blk w' w.heap.size 4 [.bool false] → (∀ w7, Below w'.heap.size w' w7 → ∀ w8, Blk w8 w.heap.size 4 [.bool true] → w8 = w7.setCell (Gk.blk w.heap.size) (.bool true) → k w7 w8) →
      callR Try.prog 32 #[] w' fun v7 w6 => ∃ x8 : Bool, v7 = (.bool x8) ∧ Wr w6 (Gk.blk w.heap.size) ∧ Nw (w6.setCell (Gk.blk w.heap.size) (.bool x8)) fun w7 => k w6 w7 := fun hb hF hk =>
    awake_spec fun w6 b6 => ⟨true, rfl, (hF.below b6).wr0 (by simp), Nw.mk (hk w6 b6 _ ((hF.below b6).set0 _) rfl)⟩
  have err : ∀ (e : Int) (w3 : World), e ≠ 0 → Below w2.heap.size w2 w3 → ∃ x4 : Option Addr, ∃ x5 : Int, (Value.tuple #[.pointer none, .int .i64 e]) = (.tuple #[(.pointer x4), (.int .i64 x5)]) ∧
      Nw (w3.alloc (.cells #[(.pointer none)] 28)) fun w4 =>
      Wr w4 (Gk.blk w3.heap.size) ∧
      Nw (w4.setCell (Gk.blk w3.heap.size) (.pointer x4)) fun w5 => x5 ≠ 0 ∧ Below w.heap.size w w5 ∧ Blk w5 w.heap.size 4 [.bool false] ∧ Blk w5 w3.heap.size 28 [.pointer none] := fun e w3 he b3 => by
    have hz3 := b3.size
    refine ⟨none, e, rfl, Nw.gen fun w4 hw4 => ?_⟩
    have hP4 : Blk w4 w3.heap.size 28 [.pointer none] := by rw [hw4]; exact Blk.new w3 _ #[_]
    have b4 : Below w3.heap.size w3 w4 := by rw [hw4]; exact (Below.refl _ _).alloc (Nat.le_refl _) _
    have b4' : Below w.heap.size w w4 := b2'.trans ((b3.mono (by omega)).trans (b4.mono (by omega)))
    refine ⟨hP4.wr0 (by simp), Nw.mk ⟨he, b4'.setCell (by show w.heap.size ≤ w3.heap.size; omega) _, ?_, hP4.set0 _⟩⟩
    exact ((hF2.below b3).below b4).other (by show w.heap.size ≠ w3.heap.size; omega) _
  have errs : ∀ {K : Option Addr → Int → World → Prop} {e : Int} {w3 : World}, e ≠ 0 → Below w2.heap.size w2 w3 → (∀ w5, Below w.heap.size w w5 → Blk w5 w.heap.size 4 [.bool false] → Blk w5 w3.heap.size 28 [.pointer none] → K none e w5) →
      ∃ x4 : Option Addr, ∃ x5 : Int, (Value.tuple #[.pointer none, .int .i64 e]) = (.tuple #[(.pointer x4), (.int .i64 x5)]) ∧
      Nw (w3.alloc (.cells #[(.pointer none)] 28)) fun w4 =>
      Wr w4 (Gk.blk w3.heap.size) ∧
      Nw (w4.setCell (Gk.blk w3.heap.size) (.pointer x4)) fun w5 => K x4 x5 w5 := fun {K e w3} he b3 hK => by
    obtain ⟨x4, x5, e1, h1, h2, h3, h4, h5⟩ := err e w3 he b3
    simp only [Value.tuple.injEq, Array.mk.injEq, List.cons.injEq, Value.pointer.injEq, Value.int.injEq] at e1
    obtain ⟨rfl, ⟨_, rfl⟩, _⟩ := e1
    exact ⟨none, e, rfl, h1, hK _ h3 h4 h5⟩
  have errK : ∀ w5 : World, Below w.heap.size w w5 → Blk w5 w.heap.size 4 [.bool false] →
      callR Try.prog 32 #[] w5 fun v7 w6 => ∃ x8 : Bool, v7 = (.bool x8) ∧ Wr w6 (Gk.blk w.heap.size) ∧ Nw (w6.setCell (Gk.blk w.heap.size) (.bool x8)) fun w7 => ldB w7 (Gk.blk w.heap.size) fun x9 => R (.bool x9) w7 := fun w5 g1 g2 =>
    last (ms := []) g1 g2 fun w7 g3 w8 g4 e8 => ⟨true, g4.cell0 rfl, hR w8 (by rw [e8]; exact (g1.trans (g3.mono g1.size)).setCell (Nat.le_refl _) _)⟩
  refine graph_Of_spec (s := ⟨some (Gk.blk w1.heap.size), ll.length, ll.length⟩) i2 (fun _ => ?_) (fun _ => ?_) (fun _ _ _ w3 b3 => ?_) fun h0 hmax hG w3 gb b3 hg _ => ?_
  · exact errs (by decide) (Below.refl _ _) fun w5 g1 g2 g3 => ifB_true rfl ⟨none, g3.cell0 rfl, ifB_true rfl (errK w5 g1 g2)⟩
  · exact errs (by decide) (Below.refl _ _) fun w5 g1 g2 g3 => ifB_true rfl ⟨none, g3.cell0 rfl, ifB_true rfl (errK w5 g1 g2)⟩
  · exact errs (by decide) b3 fun w5 g1 g2 g3 => ifB_true rfl ⟨none, g3.cell0 rfl, ifB_true rfl (errK w5 g1 g2)⟩
  have hx : NxOk (edges ll) := edges_ok h0 hmax hG
  have ok := hx.walkOk
  generalize edges ll = nx at hx hg ok
  clear err errs
  have hz3 := b3.size
  refine ⟨some (Gk.blk gb), 0, rfl, Nw.gen fun w4 hw4 => ?_⟩
  have hP4 : Blk w4 w3.heap.size 28 [.pointer none] := by rw [hw4]; exact Blk.new w3 _ #[_]
  have b4 : Below w3.heap.size w3 w4 := by rw [hw4]; exact (Below.refl _ _).alloc (Nat.le_refl _) _
  have s4 : w4.heap.size = w3.heap.size + 1 := by rw [hw4]; simp
  refine ⟨hP4.wr0 (by simp), Nw.gen fun w5 hw5 => ?_⟩
  have hP5 : Blk w5 w3.heap.size 28 [.pointer (some (Gk.blk gb))] := by rw [hw5]; exact hP4.set0 _
  have b5 : Below w3.heap.size w3 w5 := by rw [hw5]; exact b4.setCell (Nat.le_refl _) _
  have s5 : w5.heap.size = w3.heap.size + 1 := by rw [hw5]; simpa [World.setCell] using s4
  refine ifB_false rfl (Nw.gen fun w9 hw9 => ?_)
  have hL9 : Blk w9 w5.heap.size 32 [(⟨none, 0, 0⟩ : Sl).val] := by rw [hw9]; exact Blk.new w5 _ #[_]
  have b9' : Below w5.heap.size w5 w9 := by rw [hw9]; exact (Below.refl _ _).alloc (Nat.le_refl _) _
  have s9 : w9.heap.size = w5.heap.size + 1 := by rw [hw9]; simp
  have b9 : Below w3.heap.size w3 w9 := b5.trans (b9'.mono (by omega))
  refine ⟨_, (hP5.below b9').cell0 rfl, Walk_spec fun w10 hW b10 => ⟨_, rfl, funcNil_func (ifB_false rfl ?_)⟩⟩
  have hz10 : w9.heap.size < w10.heap.size := hW.lt
  have hb10 : Below w3.heap.size w3 w10 := b9.trans (b10.mono (by omega))
  have c : RC w w3 w2.heap.size w.heap.size w3.heap.size w5.heap.size (w10.heap.size + 1) := ⟨by omega, by omega, by omega, by omega, by omega, by omega⟩
  have start : ∀ o : Obj, RS w w3 w2.heap.size w.heap.size w3.heap.size w5.heap.size gb (w10.heap.size + 1) o [] ((w10.alloc (.deferred (some []))).alloc o) := fun o => by
    have bl := laid_below w10 (.deferred (some [])) o
    have b3l : Below w3.heap.size w3 ((w10.alloc (.deferred (some []))).alloc o) := hb10.trans (bl.mono (by omega))
    have b2l : Below w2.heap.size w2 ((w10.alloc (.deferred (some []))).alloc o) := b3.trans (b3l.mono (by omega))
    exact ⟨b2'.trans (b2l.mono (by omega)), (Keep.refl _ _).belowC (Nat.le_refl _) b3l, by rw [laid_size]; omega, hF2.below b2l, ((hP5.below b9').below b10).below bl, ⟨⟨none, 0, 0⟩, (hL9.below b10).below bl, Own.nil _ _ _, fun a ha => by cases ha⟩, laid_l _ _ _, laid_d _ _ _⟩
  refine walk_range (nx := nx) (B := w2.heap.size) (wC := w3) hW (.inr ⟨gb, rfl, hx, hg⟩) fun mk => ?_
  refine ⟨fun k w' => RS w w3 w2.heap.size w.heap.size w3.heap.size w5.heap.size gb (w10.heap.size + 1) (mk .ready none) ((walkOf nx).take k) w', start _, fun k w' h => h.keep, fun k hk w' h => ⟨h.rcd, h.rcd, Nw.mk ?_⟩, fun w' h => .inl ⟨h.rcd, ?_⟩⟩
  · exact reach_round c hx ok hg hk (h.put c _) fun w' hd => ⟨hd.rcd, .inl ⟨rfl, hd.put c _⟩⟩
  have h := h.put c (mk .exhausted none)
  rw [List.take_length] at h
  generalize World.putObj w' _ _ = w30 at h
  generalize mk .exhausted none = o at h
  clear start
  have hwl := hx.walk_le
  have hm := hx.max
  have hol := order_len nx
  refine ⟨_, h.p.cell0 rfl, Order_spec hx (h.isG hg) fun r w31 o1 o2 o3 => ⟨r, rfl, ?_⟩⟩
  have h := h.grow c o3
  have hrl := own_len o1
  clear o3
  obtain ⟨q0, eq0⟩ := ok.ohead
  have hq : 0 < (orderOf nx).length := by rw [eq0]; simp
  refine JoinW.cut (fun _ w' => w' = w31) ?_ ?_
  · obtain ⟨s, p1, p2, p3⟩ := h.own
    have hsl := own_len p2
    refine ⟨s, p1.cell0 rfl, ifB_bne (fun hne => absurd (show (r.l : Int) = (s.l : Int) by omega) hne) fun _ => ifB_beq (fun he => absurd he (by omega)) fun _ => ?_⟩
    refine elemI o1.isS.toI (k := 0) (by simpa using hq) ?_
    refine ifB_bne (fun hne => absurd ?_ hne) fun _ => rfl
    simp [eq0]
  rintro _ w38 e38
  subst e38
  refine LoopW.count nx.length (by omega) (fun _ w' => RS w w3 w2.heap.size w.heap.size w3.heap.size w5.heap.size gb (w10.heap.size + 1) o (walkOf nx) w' ∧ Own w' 3 1 r ((orderOf nx).map iN)) ⟨h, o1⟩ ?_
  rintro i w39 hi ⟨h, o1⟩ next hnext
  refine ⟨_, h.p.cell0 rfl, gLen_spec (h.isG hg) ⟨_, rfl, ifB_dec (fun hlt => ?_) fun hge => ?_⟩⟩
  · have hlt : i < nx.length := by dsimp only at hlt; omega
    obtain ⟨s, p1, p2, p3⟩ := h.own
    refine ⟨s, p1.cell0 rfl, among_spec p2.isS.toI ⟨_, rfl, ?_⟩⟩
    rw [containsN]
    refine JoinW.cut (fun _ w' => w' = w39) ?_ ?_
    · refine among_spec o1.isS.toI ⟨_, rfl, ifB_false ?_ ⟨_, h.p.cell0 rfl, Reached_spec hx (h.isG hg) ⟨_, rfl, ifB_false ?_ rfl⟩⟩⟩
      · rw [containsN]
        have : (orderOf nx).contains i = (walkOf nx).contains i := by
          rw [Bool.eq_iff_iff, List.contains_iff_mem, List.contains_iff_mem]; exact ok.mem i
        rw [this]; simp
      · simp [reachedOf]
    · rintro _ w48 e48
      subst e48
      refine ⟨_, h.p.cell0 rfl, Next_spec hx (h.isG hg) fun r7 w49 n1 n2 n3 => ⟨r7, rfl, ?_⟩⟩
      have h := h.grow c n3
      have o1 := o1.below n3
      rw [rowAt_nat] at n1
      have hl7 := own_len n1
      have hrow := hx.row_le i
      clear n3
      refine LoopW.count (nx.getD i []).length (by omega) (fun _ w' => RS w w3 w2.heap.size w.heap.size w3.heap.size w5.heap.size gb (w10.heap.size + 1) o (walkOf nx) w' ∧ Own w' 3 1 r ((orderOf nx).map iN) ∧ Own w' 3 1 r7 ((nx.getD i []).map iN)) ⟨h, o1, n1⟩ ?_
      rintro k w50 hk ⟨h, o1, n1⟩ nxt hnxt
      refine ifB_dec (fun hltk => ?_) fun hgek => hnext w50 hlt ⟨h, o1⟩
      have hltk : k < (nx.getD i []).length := by dsimp only at hltk; omega
      have h := h.grow c (w'' := w50.drew) (Below.refl _ _).drew
      refine JoinW.cut (fun _ w' => w' = w50.drew) ?_ fun _ w' e => by subst e; exact hnxt _ hltk ⟨h, o1.drew, n1.drew⟩
      refine ifB_bool (fun hb => ?_) fun _ => rfl
      obtain ⟨s, p1, p2, p3⟩ := h.own
      refine ⟨s, p1.cell0 rfl, ?_⟩
      refine elemI n1.drew.isS.toI (k := k) (by simpa using hltk) ?_
      rw [List.getElem_map]
      refine among_spec p2.isS.toI ⟨_, rfl, ifB_false ?_ rfl⟩
      rw [containsN]
      have : (walkOf nx).contains ((nx.getD i [])[k]) = true := by
        rw [List.contains_iff_mem] at hb ⊢
        exact ok.closed i hb _ (List.getElem_mem hltk)
      rw [this]; rfl
  · refine last (ms := []) h.below h.f fun w7 b7 w8 hF8 e8 => ⟨?_, ⟨true, (hF8.put (by omega) _).cell0 rfl, hR _ ?_⟩⟩
    · rw [e8]
      exact (heap_set_other (n := 0) (by omega) _).trans (h.grow c b7).mark
    · rw [e8]
      exact (((h.below.trans (b7.mono h.below.size)).setCell (Nat.le_refl _) _).putObj (by omega) _)

end Go.Proofs
