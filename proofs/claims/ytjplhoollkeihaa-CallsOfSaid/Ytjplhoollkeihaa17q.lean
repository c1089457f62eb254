/-
  calls.made.
-/
import Derived.Test.Ytjplhoollkeihaa17p
import Derived.Test.Ytjplhoollkeihaa15c
namespace Go.Proofs
open Go.Gk Go.RowKit Go.Gr

theorem Repeat0_spec {v : Int} {xb : Nat} {w : World} {R : Value → World → Prop} (hx : Blk w xb 3 [.int .i64 v])
    (hR : ∀ x w', Below w.heap.size w w' → R (.slice x 0 0) w') :
    callR Try.prog 134 #[.slice (some (Gk.blk xb)) 1 1, .int .i64 (0 : Int)] w R := by
  refine callR.of (slices_Repeat_sint_int_calls ⟨some (Gk.blk xb), 1, 1⟩ 0 R w ?_) fun _ _ h => h
  refine JoinW.cut (fun _ w' => w' = w) (ifB_dec (fun h => by omega) fun _ => rfl) ?_
  rintro _ _ rfl
  rename_i w
  have e1 : IntKind.u64.wrap (((1 : Nat) : Nat) : Int) = 1 := by decide
  have e0 : IntKind.u64.wrap (0 : Int) = ((0 : Nat) : Int) := by decide
  dsimp only
  rw [e1, e0]
  refine callR.of (math_bits_Mul_calls 1 ((0 : Nat) : Int) _ w ?_) fun _ _ h => h
  refine Mul64_one (n := 0) (by omega) ⟨0, ((0 : Nat) : Int), rfl, 0, ((0 : Nat) : Int), rfl, ?_⟩
  refine JoinW.cut (fun _ w' => w' = w) (ifB_dec (fun h => absurd h (by decide)) fun _ => ifB_dec (fun h => absurd h (by decide)) fun _ => rfl) ?_
  rintro _ _ rfl
  rename_i w
  have e2 : IntKind.i64.wrap ((0 : Nat) : Int) = 0 := by decide
  rw [e2]
  refine ⟨⟨by omega, by omega, by omega, by omega⟩, Nw.gen fun w4 hw4 => ?_⟩
  have hD4 : Blk w4 w.heap.size 3 (List.replicate 0 (.int .i64 0)) := by rw [hw4]; exact Blk.made w 3 _ 0
  have b4 : Below w.heap.size w w4 := by rw [hw4]; exact (Below.refl _ _).alloc (Nat.le_refl _) _
  clear hw4
  have tn : Int.toNat (0 : Int) = 0 := rfl
  rw [tn]
  refine copyS_row hD4 (o := 0) (news := []) (by simp) (fun j x hj => by simp at hj) (by simp) (by simp) fun w5 hD5 hb5 => ?_
  have hb5 := hb5 _ _ b4 (Nat.le_refl _)
  refine LoopW.ghost (fun j st w' => st = ((0 : Int), ()) ∧ Below w.heap.size w w') 0 ⟨rfl, hb5⟩ ?_
  rintro _ _ w6 ⟨rfl, hb⟩ next hnext
  exact ifB_false (by decide) (hR _ w6 hb)

section
variable {rows : List (List Nat)} {s t : Sl} {hs : List Sl}
/-- The depths, before they are told. -/
def DeepOk (B n : Nat) (x : Sl) (w : World) : Prop := (n = 0 ∧ ∃ a, x = ⟨a, 0, 0⟩) ∨ ∃ bd, x = ⟨some (Gk.blk bd), n, n⟩ ∧ B ≤ bd ∧ Blk w bd 3 (List.replicate n (.int .i64 (-1)))
theorem DeepOk.below {B n : Nat} {x : Sl} {w w' : World} (h : DeepOk B n x w) (hb : Below w.heap.size w w') : DeepOk B n x w' := h.imp id fun ⟨bd, h1, h2, h3⟩ => ⟨bd, h1, h2, h3.below hb⟩
theorem rep_call {n : Nat} (hn : n ≤ 4096) {B xb : Nat} {w : World} (hB : B ≤ w.heap.size) (hx : Blk w xb 3 [.int .i64 (-1)]) {K : Sl → World → Prop} (hK : ∀ x w', Below w.heap.size w w' → DeepOk B n x w' → K x w') :
    callR Try.prog 134 #[.slice (some (Gk.blk xb)) 1 1, .int .i64 (n : Int)] w fun v w' => ∃ x : Sl, v = .slice x.a x.l x.c ∧ K x w' := by
  by_cases h0 : n = 0
  · subst h0
    exact Repeat0_spec hx fun x w' hb => ⟨⟨x, 0, 0⟩, rfl, hK _ w' hb (.inl ⟨rfl, x, rfl⟩)⟩
  · exact Repeat_spec hn (by omega) hx fun b w' h1 h2 h3 => ⟨⟨some (Gk.blk b), n, n⟩, rfl, hK _ w' h3 (.inr ⟨b, rfl, by omega, h1⟩)⟩
/-- Calls in memory. -/
structure IsCl (w : World) (rc : Nat) (rows : List (List Nat)) : Prop where
  ex : ∃ (s t x : Sl) (hs : List Sl), Blk w rc 133 [s.val, t.val, x.val] ∧ IsNN w s hs rows ∧ Tb w t rows.length (Wy rows) ∧ IsI w x ((List.range rows.length).map fun i => (dep rows i : Int))
theorem IsCl.below {w w' : World} {rc : Nat} (h : IsCl w rc rows) (hb : Below w.heap.size w w') : IsCl w' rc rows := by
  obtain ⟨s, t, x, hs, h1, h2, h3, h4⟩ := h.ex
  exact ⟨s, t, x, hs, h1.below hb, h2.below hb, h3.below hb, h4.below hb⟩

set_option maxHeartbeats 4000000 in
theorem made_spec (hn : NoRound rows) (hr : ∀ i, ∀ t ∈ rows.getD i [], t < rows.length) (hlen : ∀ i, (rows.getD i []).length ≤ 9223372036854775807) (hmax : rows.length ≤ 4096) {w : World} {R : Value → World → Prop} (hI : IsNN w s hs rows) (hT : Tb w t rows.length (Wy rows))
    (hR : ∀ w' rc, Below w.heap.size w w' → Kp w.heap.size w' (fun w'' => IsNN w'' s hs rows → Tb w'' t rows.length (Wy rows) → IsCl w'' rc rows) → R (.pointer (some (Gk.blk rc))) w') :
    callR Try.prog 140 #[.slice s.a s.l s.c, .slice t.a t.l t.c] w R := by
  refine callR.of (calls_made_calls s t R w ?_) fun _ _ h => h
  have hsl : s.l = rows.length := by have := hI.top.len; have := hI.len; omega
  refine Nw.gen fun w1 hw1 => ?_
  have hN1 : Blk w1 w.heap.size 22 [s.val] := by rw [hw1]; exact Blk.new w _ #[_]
  have b1 : Below w.heap.size w w1 := by rw [hw1]; exact (Below.refl _ _).alloc (Nat.le_refl _) _
  have z1 : w1.heap.size = w.heap.size + 1 := by rw [hw1]; simp
  clear hw1
  have hNd : Blk w1.drew w.heap.size 22 [s.val] := hN1.drew
  have bd1 : Below w.heap.size w w1.drew := b1.drew
  have zd1 : w.heap.size < w1.drew.heap.size := by show w.heap.size < w1.heap.size; omega
  generalize w1.drew = v1 at *
  -- new memory beside what there is
  let G : World → Prop := fun w' => Below w.heap.size w w' ∧ w.heap.size < w'.heap.size ∧ Blk w' w.heap.size 22 [s.val]
  have g1 : G v1 := ⟨bd1, zd1, hNd⟩
  have gb : ∀ {wa wb : World}, G wa → Below wa.heap.size wa wb → G wb := fun {wa wb} ⟨q1, q2, q3⟩ hb => ⟨q1.trans (hb.mono (by omega)), by have := hb.size; omega, q3.below hb⟩
  have al : ∀ (wa : World) (o : Obj), Below wa.heap.size wa (wa.alloc o) := fun wa o => (Below.refl _ _).alloc (Nat.le_refl _) _
  have ck : ∀ {wa : World}, G wa → wa.cell? (Gk.blk w.heap.size) = some (.slice s.a s.l s.c) := fun ⟨_, _, q3⟩ => q3.cell0 rfl
  let M : (Option Addr) × Unit → World → Prop := fun st w' => ∃ b0 rc x, st.1 = some (Gk.blk b0) ∧ w.heap.size ≤ rc ∧ G w' ∧ Blk w' b0 65 [.pointer (some (Gk.blk rc))] ∧ Blk w' rc 133 [s.val, t.val, x.val] ∧ DeepOk w.heap.size rows.length x w'
  -- the cell's nil, then set
  have put : ∀ {wa : World} {b0 rc : Nat} {x : Sl}, w.heap.size ≤ rc → G wa → w.heap.size < b0 → Blk wa b0 65 [.pointer none] → Blk wa rc 133 [s.val, t.val, x.val] → DeepOk w.heap.size rows.length x wa →
      Wr wa (Gk.blk b0) ∧ Nw (wa.setCell (Gk.blk b0) (.pointer (some (Gk.blk rc)))) fun w6 => M ((some (Gk.blk b0)), ()) w6 := fun {wa b0 rc x} hrg ga hb0 h0 hrc hd => by
    refine ⟨h0.wr0 (by simp), Nw.gen fun w6 hw6 => ⟨b0, rc, x, rfl, hrg, ⟨?_, ?_, ?_⟩, ?_, ?_, ?_⟩⟩
    · rw [hw6]; exact ga.1.setCell (by show w.heap.size ≤ b0; omega) _
    · rw [hw6]; have := ga.2.1; simpa [World.setCell] using this
    · rw [hw6]; exact ga.2.2.other (by show w.heap.size ≠ b0; omega) _
    · rw [hw6]; exact h0.set0 _
    · rw [hw6]; exact hrc.other (hrc.apart h0 (by decide)) _
    · rcases hd with hd | ⟨bd, e1, e2, e3⟩
      · exact .inl hd
      · refine .inr ⟨bd, e1, e2, ?_⟩
        rw [hw6]; exact e3.other (e3.apart h0 (by decide)) _
  -- the record, then the cell
  have A1 : ∀ {wa : World} {x : Sl}, G wa → DeepOk w.heap.size rows.length x wa → Nw (wa.alloc (.cells #[(.slice s.a s.l s.c), (.slice t.a t.l t.c), (.slice x.a x.l x.c)] 133)) fun w4 =>
      Nw (w4.alloc (.cells #[(.pointer none)] 65)) fun w5 =>
      Wr w5 (Gk.blk w4.heap.size) ∧ Nw (w5.setCell (Gk.blk w4.heap.size) (.pointer (some (Gk.blk wa.heap.size)))) fun w6 => M ((some (Gk.blk w4.heap.size)), ()) w6 := fun {wa x} ga hd => by
    refine Nw.gen fun w4 hw4 => Nw.gen fun w5 hw5 => ?_
    have c4 : Blk w4 wa.heap.size 133 [s.val, t.val, x.val] := by rw [hw4]; exact Blk.new wa _ #[_, _, _]
    have b4 : Below wa.heap.size wa w4 := by rw [hw4]; exact al _ _
    have b5 : Below w4.heap.size w4 w5 := by rw [hw5]; exact al _ _
    have g4 := gb ga b4
    refine put (by have := ga.2.1; omega) (gb g4 b5) g4.2.1 ?_ (c4.below b5) ((hd.below b4).below b5)
    rw [hw5]; exact Blk.new w4 _ #[_]
  -- the cell lies there, then the record
  have A2 : ∀ {wa : World} {x : Sl} {b0 : Nat}, G wa → w.heap.size < b0 → Blk wa b0 65 [.pointer none] → DeepOk w.heap.size rows.length x wa → Nw (wa.alloc (.cells #[(.slice s.a s.l s.c), (.slice t.a t.l t.c), (.slice x.a x.l x.c)] 133)) fun w8 =>
      Wr w8 (Gk.blk b0) ∧ Nw (w8.setCell (Gk.blk b0) (.pointer (some (Gk.blk wa.heap.size)))) fun w9 => M ((some (Gk.blk b0)), ()) w9 := fun {wa x b0} ga hb0 h0 hd => by
    refine Nw.gen fun w8 hw8 => ?_
    have c8 : Blk w8 wa.heap.size 133 [s.val, t.val, x.val] := by rw [hw8]; exact Blk.new wa _ #[_, _, _]
    have b8 : Below wa.heap.size wa w8 := by rw [hw8]; exact al _ _
    exact put (by have := ga.2.1; omega) (gb ga b8) hb0 (h0.below b8) c8 (hd.below b8)
  have hsn : (s.l : Int) = (rows.length : Int) := by omega
  refine JoinW.cut M ?_ ?_
  · refine ⟨s, ck g1, s, ck g1, ?_, ?_⟩
    · refine Nw.gen fun w2 hw2 => ?_
      have k2 : Blk w2 v1.heap.size 3 [.int .i64 (-1)] := by rw [hw2]; exact Blk.new v1 _ #[_]
      have g2 : G w2 := gb g1 (by rw [hw2]; exact al _ _)
      clear hw2
      refine ⟨ck g2, ck g2, ?_, ?_⟩
      · rw [hsn]
        refine rep_call hmax (B := w.heap.size) (by have := g2.2.1; omega) k2 fun x6 w3 b3 hd => ?_
        have g3 := gb g2 b3
        refine ⟨ck g3, A1 g3 hd, Nw.gen fun w7 hw7 => ?_⟩
        have h7 : Blk w7 w3.heap.size 65 [.pointer none] := by rw [hw7]; exact Blk.new w3 _ #[_]
        have b7 : Below w3.heap.size w3 w7 := by rw [hw7]; exact al _ _
        exact ⟨ck (gb g3 b7), A2 (gb g3 b7) g3.2.1 h7 (hd.below b7)⟩
      · refine Nw.gen fun w10 hw10 => ?_
        have h10 : Blk w10 w2.heap.size 65 [.pointer none] := by rw [hw10]; exact Blk.new w2 _ #[_]
        have b10 : Below w2.heap.size w2 w10 := by rw [hw10]; exact al _ _
        have g10 := gb g2 b10
        refine ⟨ck g10, ck g10, ?_⟩
        rw [hsn]
        refine rep_call hmax (B := w.heap.size) (by have := g10.2.1; omega) (k2.below b10) fun x8 w11 b11 hd => ?_
        exact ⟨ck (gb g10 b11), A2 (gb g10 b11) g2.2.1 (h10.below b11) hd⟩
    · refine Nw.gen fun w14 hw14 => ?_
      have h14 : Blk w14 v1.heap.size 65 [.pointer none] := by rw [hw14]; exact Blk.new v1 _ #[_]
      have b14 : Below v1.heap.size v1 w14 := by rw [hw14]; exact al _ _
      have g14 := gb g1 b14
      refine ⟨ck g14, ck g14, Nw.gen fun w15 hw15 => ?_⟩
      have k15 : Blk w15 w14.heap.size 3 [.int .i64 (-1)] := by rw [hw15]; exact Blk.new w14 _ #[_]
      have b15 : Below w14.heap.size w14 w15 := by rw [hw15]; exact al _ _
      have g15 := gb g14 b15
      refine ⟨ck g15, ck g15, ?_⟩
      rw [hsn]
      refine rep_call hmax (B := w.heap.size) (by have := g15.2.1; omega) k15 fun x10 w16 b16 hd => ?_
      exact ⟨ck (gb g15 b16), A2 (gb g15 b16) g1.2.1 ((h14.below b15).below b16) hd⟩
  rintro ⟨_, _⟩ w19 ⟨b0, rc, x, e0, hrg, g19, c0, hrc, hd⟩
  dsimp only at e0
  subst e0
  refine Nw.gen fun w20 hw20 => ?_
  have h20 : Blk w20 w19.heap.size 52 [.nilFunc] := by rw [hw20]; exact Blk.new w19 _ #[_]
  have b20 : Below w19.heap.size w19 w20 := by rw [hw20]; exact al _ _
  have g20 := gb g19 b20
  have z20 : w20.heap.size = w19.heap.size + 1 := by rw [hw20]; simp
  clear hw20
  refine ⟨h20.wr0 (by simp), Nw.gen fun w21 hw21 => ?_⟩
  have o21 : ∀ {b : Nat} {T : TypeId} {cs : List Value}, b ≠ w19.heap.size → Blk w20 b T cs → Blk w21 b T cs := fun {b T cs} hne hb => by rw [hw21]; exact hb.other hne _
  have h21 : Blk w21 w19.heap.size 52 [.func (.func 179) #[] #[.pointer (some (Gk.blk b0)), .pointer (some (Gk.blk w.heap.size)), .pointer (some (Gk.blk w19.heap.size))]] := by rw [hw21]; exact h20.set0 _
  have b21 : Below w.heap.size w w21 := by rw [hw21]; exact g20.1.setCell (by show w.heap.size ≤ w19.heap.size; have := g19.2.1; omega) _
  clear hw21
  have lt0 := c0.lt
  have ltr := hrc.lt
  have lw := g19.2.1
  have c0' := o21 (by omega) (c0.below b20)
  have hrc' := o21 (by omega) (hrc.below b20)
  have hN21 := o21 (by omega) g20.2.2
  have hd' : DeepOk w.heap.size rows.length x w21 := by
    rcases hd with hd | ⟨bd, e1, e2, e3⟩
    · exact .inl hd
    · exact .inr ⟨bd, e1, e2, o21 (by have := e3.lt; omega) (e3.below b20)⟩
  refine ⟨s, hN21.cell0 rfl, ?_⟩
  have fin : ∀ w22, Below w.heap.size w w22 → Blk w22 b0 65 [.pointer (some (Gk.blk rc))] → Blk w22 rc 133 [s.val, t.val, x.val] → Kp w.heap.size w22 (fun w' => IsI w' x ((List.range rows.length).map fun i => (dep rows i : Int))) →
      derefP (some (Gk.blk b0)) fun a17 => ldP w22 a17 fun x18 => R (.pointer x18) w22 := fun w22 b22 h1 h2 h3 =>
    derefP_some rfl ⟨_, h1.cell0 rfl, hR w22 rc b22 fun w' hk q1 q2 => ⟨s, t, x, hs, h2.of_block (hk rc hrg h2.lt), q1, q2, h3 w' hk⟩⟩
  rcases hd' with ⟨hn0, a0, hx0⟩ | ⟨bd, ex, hbd, hB21⟩
  · refine LoopW.count 0 (by omega) (fun _ w' => w' = w21) rfl ?_
    rintro k w22 hk rfl next hnext
    refine ifB_dec (fun hlt => absurd hlt (by dsimp only; omega)) fun _ => fin w22 b21 c0' hrc' ?_
    subst hx0
    have e : ((List.range rows.length).map fun i => (dep rows i : Int)) = [] := by rw [hn0]; rfl
    rw [e]
    exact fun w' _ => ⟨rfl, Nat.le_refl _, Nat.zero_le _, fun _ => rfl, fun a ha i hi => by simp at hi⟩
  · subst ex
    have hB21' : Blk w21 bd 3 (dvL rows.length fun _ => -1) := by
      have e : dvL rows.length (fun _ => -1) = List.replicate rows.length (.int .i64 (-1)) := by
        apply List.ext_getElem
        · simp
        · intro k h1 h2; simp
      rw [e]; exact hB21
    have hC : MSt w b0 w.heap.size w19.heap.size rc bd s hs rows w21 := ⟨hI, b21, hbd, c0', ⟨_, _, hrc'⟩, hN21, h21⟩
    refine LoopW.count rows.length (by omega) (fun k w' => ∃ dv : Nat → Int, Only ⟨some (Gk.blk bd), rows.length, rows.length⟩ w21 w' ∧ Blk w' bd 3 (dvL rows.length dv) ∧ MV rows dv ∧ ∀ j, j < k → dv j = (dep rows j : Int)) ⟨fun _ => -1, Only.refl _ _, hB21', fun j => .inl rfl, fun j hj => by omega⟩ ?_
    rintro k w22 hk ⟨dv, on, hB, hMV, hdv⟩ next hnext
    have hC22 := hC.only hB21' on
    refine ifB_dec (fun hlt => ?_) (fun hge => ?_)
    · have hlt : k < rows.length := by dsimp only at hlt; omega
      refine ⟨_, hC22.c2.cell0 rfl, ?_⟩
      have hct : Try.fs.contains 179 = true := by kernel_rfl
      unfold callV
      simp only [hct]
      refine made1_spec hn hr hlen hmax (rkC rows k) k dv w22 _ hlt (Nat.le_refl _) hMV hC22 hB fun dv' w23 on23 hB23 hMV23 hk23 hd23 => ⟨_, rfl, hnext _ hlt ⟨dv', on.trans on23, hB23, hMV23, fun j hj => ?_⟩⟩
      by_cases e : j = k
      · rw [e]; exact hd23
      · have := hdv j (by omega)
        rw [hk23 j (by omega)]; exact this
    · have : k = rows.length := by dsimp only at hge; omega
      subst this
      obtain ⟨q1, q2, hr3⟩ := hC22.rcd
      have hr4 : Blk w22 rc 133 [s.val, t.val, (⟨some (Gk.blk bd), rows.length, rows.length⟩ : Sl).val] := hrc'.of_block (on.block _ fun a ha e => by
        cases ha
        have e : bd = rc := e
        subst e
        exact absurd (hrc'.type hB21') (by decide))
      refine fin w22 hC22.below hC22.c0 hr4 ?_
      have e : dvL rows.length dv = ((List.range rows.length).map fun i => (dep rows i : Int)).map (Value.int .i64) := by
        rw [List.map_map]
        exact List.map_congr_left fun j hj => by rw [hdv j (List.mem_range.1 hj)]; rfl
      rw [e] at hB
      exact fun w' hk => Blk.isS (hB.of_block (hk bd hbd hB.lt)) rfl (by simp) (Nat.le_refl _) (by show rows.length ≤ _; omega)
end

end Go.Proofs
