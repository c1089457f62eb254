/-
  The law's pair, bare, awake; the statement NestNil.
-/
import Derived.Test.Ytjplhoollkeihaa16j
namespace Go.Proofs
open Go.Gk Go.RowKit Go.Gr Go.Dm

theorem npair_spec {a b : Int} {w : World} {R : Value → World → Prop}
    (hR : ∀ w', Below w.heap.size w w' → w'.heap.size = w.heap.size + 1 → Blk w' w.heap.size 3 [.int .i64 a, .int .i64 b] → IsI w' ⟨some (Gk.blk w.heap.size), 2, 2⟩ [a, b] → R (.slice (some (Gk.blk w.heap.size)) 2 2) w') :
    callR Try.prog 123 #[.int .i64 a, .int .i64 b] w R := by
  refine callR.of (intagliolaw16_pair_calls a b R w ?_) fun _ _ h => h
  refine ⟨by decide, Nw.gen fun w1 hw1 => ?_⟩
  have h1 : Blk w1 w.heap.size 3 [.int .i64 (0 : Int), .int .i64 (0 : Int)] := by rw [hw1]; exact Blk.made w _ _ 2
  have b1 : Below w.heap.size w w1 := by rw [hw1]; exact (Below.refl _ _).alloc (Nat.le_refl _) _
  have z1 : w1.heap.size = w.heap.size + 1 := by rw [hw1]; simp
  refine ⟨by decide, h1.wr (n := 0) (by simp), Nw.mk ?_⟩
  refine ⟨by decide, (h1.set 0 _).wr (n := 1) (by simp), Nw.mk ?_⟩
  have h3 := (h1.set 0 (.int .i64 a)).set 1 (.int .i64 b)
  refine hR _ ((b1.setCell (by rw [add_block]; exact Nat.le_refl _) _).setCell (by rw [add_block]; exact Nat.le_refl _) _) (by simpa [World.setCell] using z1) h3 ?_
  exact Blk.isS (f := Value.int .i64) (l := [a, b]) h3 rfl rfl (Nat.le_refl _) (show 2 ≤ 9223372036854775807 by decide)

theorem nbare_spec {k : Int} {w : World} {R : Value → World → Prop}
    (hR : ∀ w' (s1 s2 : Sl) hs, Below w.heap.size w w' → IsII w' s1 hs awL → IsM w' s2 (awM k) → R (.tuple #[.slice s1.a s1.l s1.c, .slice s2.a s2.l s2.c]) w') :
    callR Try.prog 122 #[.int .u8 k] w R := by
  refine callR.of (intagliolaw16_bare_calls k R w ?_) fun _ _ h => h
  refine ⟨by decide, Nw.gen fun w1 hw1 => ?_⟩
  have h1 : Blk w1 w.heap.size 32 [.slice none 0 0, .slice none 0 0, .slice none 0 0] := by rw [hw1]; exact Blk.made w _ _ 3
  have b1 : Below w.heap.size w w1 := by rw [hw1]; exact (Below.refl _ _).alloc (Nat.le_refl _) _
  have z1 : w1.heap.size = w.heap.size + 1 := by rw [hw1]; simp
  clear hw1
  refine npair_spec fun w2 b2 z2 p2 i2 => ⟨⟨_, 2, 2⟩, rfl, by decide, ?_⟩
  have h2 := h1.below b2
  refine ⟨h2.wr (n := 0) (by simp), Nw.gen fun w3 hw3 => ?_⟩
  have h3 : Blk w3 w.heap.size 32 [.slice (some (Gk.blk w1.heap.size)) 2 2, .slice none 0 0, .slice none 0 0] := by rw [hw3]; exact h2.set 0 _
  have p3 : Blk w3 w1.heap.size 3 [.int .i64 1, .int .i64 2] := by rw [hw3]; exact p2.other (by rw [add_block]; simp; omega) _
  have b3 : Below w.heap.size w w3 := by rw [hw3]; exact (b1.trans (b2.mono (by omega))).setCell (by rw [add_block]; exact Nat.le_refl _) _
  have z3 : w3.heap.size = w.heap.size + 2 := by rw [hw3]; simp [World.setCell]; omega
  clear hw3
  refine ⟨by decide, ⟨none, 0, 0⟩, h3.cell (n := 1) rfl, Nw.gen fun w4 hw4 => ?_⟩
  have b4 : Below w3.heap.size w3 w4 := by rw [hw4]; exact (Below.refl _ _).alloc (Nat.le_refl _) _
  have q4 : Blk w4 w3.heap.size 3 ([2].map iN) := by rw [hw4]; exact Blk.new w3 _ #[_]
  have z4 : w4.heap.size = w3.heap.size + 1 := by rw [hw4]; simp
  clear hw4
  refine append_ints (s := ⟨none, 0, 0⟩) (xs := []) (B0 := w3.heap.size) (Own.nil _ _ _) (fun a ha => by cases ha) (by omega) q4 rfl (by simp) fun r w5 b5 o5 f5 => ⟨by decide, ?_⟩
  have b35 : Below w3.heap.size w3 w5 := b4.trans b5
  have h5 := h3.below b35
  have p5 := p3.below b35
  have z5 := b35.size
  refine ⟨h5.wr (n := 1) (by simp), Nw.gen fun w6 hw6 => ?_⟩
  have h6 : Blk w6 w.heap.size 32 [.slice (some (Gk.blk w1.heap.size)) 2 2, .slice r.a r.l r.c, .slice none 0 0] := by rw [hw6]; exact h5.set 1 _
  have p6 : Blk w6 w1.heap.size 3 [.int .i64 1, .int .i64 2] := by rw [hw6]; exact p5.other (by rw [add_block]; simp; omega) _
  have o6 : Own w6 3 1 r ([2].map iN) := o5.of_block fun a ha => by rw [hw6]; exact heap_set_other (own_ne o5 h5 (by decide) ha) _ _
  have b6 : Below w.heap.size w w6 := by rw [hw6]; exact (b3.trans (b35.mono (by omega))).setCell (by rw [add_block]; exact Nat.le_refl _) _
  clear hw6
  refine ⟨by decide, Nw.gen fun w7 hw7 => ⟨by decide, ?_⟩⟩
  have m7 : Blk w7 w6.heap.size 82 [.int .u8 0, .int .i64 0, .int .i64 0, .int .u8 0, .int .i64 0, .int .i64 0, .int .u8 0, .int .i64 0, .int .i64 0] := by
    have e : (madeCells #[(.int .u8 (0 : Int)), (.int .i64 (0 : Int)), (.int .i64 (0 : Int))] (3 * 3)).toList = [.int .u8 0, .int .i64 0, .int .i64 0, .int .u8 0, .int .i64 0, .int .i64 0, .int .u8 0, .int .i64 0, .int .i64 0] := by kernel_rfl
    rw [hw7, ← e]
    exact Blk.new w6 _ _
  have b7 : Below w6.heap.size w6 w7 := by rw [hw7]; exact (Below.refl _ _).alloc (Nat.le_refl _) _
  clear hw7
  have z6 := b6.size
  simp only [add_add', Nat.zero_mul, Nat.zero_add]
  have m8 := m7.set 0 (.int .u8 k)
  have m9 := m8.set 1 (.int .i64 2)
  have m10 := m9.set 2 (.int .i64 (-1))
  refine ⟨m7.wr (n := 0) (by simp), m8.wr (n := 1) (by simp), m9.wr (n := 2) (by simp), ?_⟩
  have b10 : Below w6.heap.size w6 (((w7.setCell ((Gk.blk w6.heap.size).add 0) (.int .u8 k)).setCell ((Gk.blk w6.heap.size).add 1) (.int .i64 2)).setCell ((Gk.blk w6.heap.size).add 2) (.int .i64 (-1))) :=
    ((b7.setCell (by rw [add_block]; exact Nat.le_refl _) _).setCell (by rw [add_block]; exact Nat.le_refl _) _).setCell (by rw [add_block]; exact Nat.le_refl _) _
  have h10 := h6.below b10
  have p10 := p6.below b10
  have o10 := o6.below b10
  refine hR _ ⟨some (Gk.blk w.heap.size), 3, 3⟩ ⟨some (Gk.blk w6.heap.size), 3, 3⟩ [⟨some (Gk.blk w1.heap.size), 2, 2⟩, r, ⟨none, 0, 0⟩] (b6.trans (b10.mono z6)) ⟨Blk.isS (f := Sl.val) h10 rfl rfl (Nat.le_refl _) (show 3 ≤ 9223372036854775807 by decide), rfl, fun i hi _ => ?_⟩ ?_
  · match i, hi with
    | 0, _ => exact Blk.isS (f := Value.int .i64) (l := [1, 2]) p10 rfl rfl (Nat.le_refl _) (show 2 ≤ 9223372036854775807 by decide)
    | 1, _ => exact IsS.toI (Own.isS o10)
    | 2, _ => exact ⟨rfl, Nat.le_refl _, show 0 ≤ 9223372036854775807 by decide, fun _ => rfl, fun _ h => by cases h⟩
  · exact Blk.isC (l := awM k) mgV_len (by omega) m10 (show 3 ≤ 9223372036854775807 by decide)

theorem fit_aw {k : Int} (h0 : 0 ≤ k) (h1 : k ≤ 1) : Fit awX.length (awM k) := by
  refine ⟨rfl, fun x hx => ?_⟩
  unfold FitP
  simp only [List.mem_cons, List.not_mem_nil, or_false] at hx
  rcases hx with rfl | rfl | rfl <;> simp <;> omega

theorem nawake_spec {w : World} {R : Value → World → Prop} (hR : ∀ w', Below w.heap.size w w' → R (.bool true) w') : callR Try.prog 72 #[] w R := by
  refine callR.of (intagliolaw16_awake_calls R w ?_) fun _ _ h => h
  refine nbare_spec fun w1 s1 s2 hs b1 i1 m1 => ⟨s1, s2, rfl, ?_⟩
  refine graph_Of_spec (s := s1) i1 (fun h => absurd h (by simp)) (fun h => absurd h (by simp)) (fun _ _ h => absurd aw_good h) fun _ _ hG w2 gb b2 _ hg => ⟨some (Gk.blk gb), 0, rfl, ?_⟩
  rw [aw_edges] at hg
  have b12 := b1.trans (b2.mono b1.size)
  have hPG : PG w2 (some (Gk.blk gb)) gb awX := PG.some aw_ok hg
  have m2 := IsC.mbelow m1 b2
  have hf1 := fit_aw (k := 1) (by omega) (by omega)
  have hf0 := fit_aw (k := 0) (by omega) (by omega)
  refine Construct_spec hPG m2 (fun e => by cases e) (fun _ h => absurd hf1 h) (fun _ _ h => absurd ⟨by omega, by decide⟩ h) (fun _ _ x hx hxn w' nb g hb hn hno => ?_) fun _ _ x hx hxn w3 nb g r b3 hn hk ho o3 f3 => ?_
  · have hx0 : x = 0 := by omega
    subst hx0
    have ha := Aw.of hn aw_wide1
    exact absurd ⟨by rw [ha.kd0]; decide, by rw [ha.wx, aw_order]; simp⟩ hno
  · have hx0 : x = 0 := by omega
    subst hx0
    have ha := Aw.of hn aw_wide1
    rw [show awX.length = 3 from rfl, ha.cons] at o3
    refine ⟨r, 0, rfl, ?_⟩
    have b13 := b12.trans (b3.mono b12.size)
    have fin : ∀ w7, Below w.heap.size w w7 → PG w7 (some (Gk.blk gb)) gb awX → callR Try.prog 122 #[.int .u8 0] w7 fun v18 w8 =>
        ∃ x19 : Sl, ∃ x20 : Sl, v18 = (.tuple #[(.slice x19.a x19.l x19.c), (.slice x20.a x20.l x20.c)]) ∧
        callR Try.prog 70 #[(.pointer (some (Gk.blk gb))), (.slice x20.a x20.l x20.c)] w8 fun v21 w9 =>
        ∃ x22 : (Int × Int × Unit), v21 = (.agg #[(.int .i64 x22.1), (.int .i64 x22.2.1)]) ∧
        R (.bool (x22.1 == (163 : Int) && (x22.2.1 == (0 : Int) && true))) w9 := fun w7 b7 hP7 => by
      refine nbare_spec fun w8 s3 s4 hs4 b8 _ m8 => ⟨s3, s4, rfl, ?_⟩
      refine Check_spec (hP7.below b8) m8 (fun e => by cases e) (fun _ h => absurd hf0 h) fun _ _ w9 w10 nb' g' b9 hn' => ?_
      rw [show awX.length = 3 from rfl, (Aw.of hn' aw_wide0).flaws0]
      exact ⟨(163, 0, ()), rfl, hR w9 ((b7.trans (b8.mono b7.size)).trans (b9.mono (by have := b7.size; have := b8.size; omega)))⟩
    refine JoinW.cut (fun _ w7 => Below w.heap.size w w7 ∧ PG w7 (some (Gk.blk gb)) gb awX) ?_ fun _ w7 h => fin w7 h.1 h.2
    refine ifB_false (by decide) (ifB_false (by decide) ?_)
    refine npair_spec fun w4 b4 _ _ i4 => ⟨⟨_, 2, 2⟩, rfl, ?_⟩
    refine Ints_spec (IsS.toI (Own.isS (o3.below b4))) i4 fun w5 _ b5 => ⟨_, rfl, ifB_false (by decide +kernel) ?_⟩
    have b45 := b4.trans (b5.mono b4.size)
    have b15 := b13.trans (b45.mono b13.size)
    have hP5 := (hPG.below b3).below b45
    have m5 := IsC.mbelow (IsC.mbelow m2 b3) b45
    refine Check_spec hP5 m5 (fun e => by cases e) (fun _ h => absurd hf1 h) fun _ _ w6 w10 nb' g' b6 hn' => ?_
    rw [show awX.length = 3 from rfl, (Aw.of hn' aw_wide1).flaws]
    exact ⟨(0, 0, ()), rfl, ifB_false (by decide) ⟨b15.trans (b6.mono b15.size), hP5.below b6⟩⟩

theorem NestNil_spec {s : Sl} {ml : List Mg} {n : Int} {w : World} {R : Value → World → Prop} (hM : IsM w s ml) (h24 : 24 * ml.length ≤ 281474976710656) (_hk : ∀ x ∈ ml, 0 ≤ x.1)
    (hR : ∀ w', Below w.heap.size w w' → R (.bool true) w') : callR Try.prog 19 #[.slice s.a s.l s.c, .int .i64 n] w R := by
  refine callR.of (intagliolaw16_NestNil_calls s n R w ?_) fun _ _ h => h
  refine copiedM_spec hM h24 fun w1 s1 b1 _ _ m1 _ => ⟨s1, rfl, ?_⟩
  refine Flaws_spec (p := none) (gb := 0) (nx := []) PG.none m1 (fun _ => ⟨⟨none, 0, 0⟩, 1, rfl, ?_⟩) (fun h => absurd rfl h) fun h => absurd rfl h
  refine copiedM_spec (IsC.mbelow hM b1) h24 fun w2 s2 b2 _ _ m2 _ => ⟨s2, rfl, ?_⟩
  have b12 := b1.trans (b2.mono b1.size)
  refine Construct_spec (p := none) (gb := 0) (nx := []) PG.none m2 (fun _ => ⟨⟨none, 0, 0⟩, 1, rfl, ?_⟩) (fun h => absurd rfl h) (fun h => absurd rfl h) (fun h => absurd rfl h) fun h => absurd rfl h
  refine copiedM_spec (IsC.mbelow hM b12) h24 fun w3 s3 b3 _ _ m3 _ => ⟨s3, rfl, ?_⟩
  have b13 := b12.trans (b3.mono b12.size)
  refine Inner_spec (p := none) (gb := 0) (nx := []) PG.none m3 (fun _ => ⟨0, 1, rfl, ?_⟩) (fun h => absurd rfl h) (fun h => absurd rfl h) fun h => absurd rfl h
  refine ifB_true rfl (ifB_true rfl (ifB_true rfl (ifB_true rfl (ifB_true rfl (ifB_true rfl ?_)))))
  refine copiedM_spec (IsC.mbelow hM b13) h24 fun w4 s4 b4 _ _ m4 _ => ⟨s4, rfl, ?_⟩
  have b14 := b13.trans (b4.mono b13.size)
  refine Check_spec (p := none) (gb := 0) (nx := []) PG.none m4 (fun _ w5 b5 => ⟨(1, 0, ()), rfl, ifB_true rfl ?_⟩) (fun h => absurd rfl h) fun h => absurd rfl h
  have b15 := b14.trans (b5.mono b14.size)
  exact nawake_spec fun w6 b6 => ⟨true, rfl, hR w6 (b15.trans (b6.mono b15.size))⟩

end Go.Proofs
