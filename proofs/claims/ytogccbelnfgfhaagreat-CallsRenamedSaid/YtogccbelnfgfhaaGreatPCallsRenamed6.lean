/-
  Part 6 of what CallsRenamed is proved by: functions walked, and what they come to.
-/
import Derived.Test.YtogccbelnfgfhaaGreatProg
import Derived.Sort.AssemblyPlain
import Derived.Test.YtogccbelnfgfhaaGreatPCallsRenamed5
namespace Go.Proofs
open Go.Gk Go.RowKit Go.Gm Go.Gr

section
variable {w : World} {R : Value → World → Prop}
theorem box5 {T : TypeId} {cs : Array Value} {v0 v1 v2 v3 v4 : Value} {K : World → Prop} (hl : cs.size = 5) (hK : ∀ w', Blk w' w.heap.size T [v0, v1, v2, v3, v4] → Below w.heap.size w w' → w'.heap.size = w.heap.size + 1 → K w') :
    Nw (w.alloc (.cells cs T)) fun w0 => Wr w0 (blk w.heap.size) ∧ Nw (w0.setCell (blk w.heap.size) v0) fun w1 => Wr w1 ((blk w.heap.size).add 1) ∧ Nw (w1.setCell ((blk w.heap.size).add 1) v1) fun w2 => Wr w2 ((blk w.heap.size).add 2) ∧ Nw (w2.setCell ((blk w.heap.size).add 2) v2) fun w3 => Wr w3 ((blk w.heap.size).add 3) ∧ Nw (w3.setCell ((blk w.heap.size).add 3) v3) fun w4 => Wr w4 ((blk w.heap.size).add 4) ∧ Nw (w4.setCell ((blk w.heap.size).add 4) v4) fun w5 => K w5 := by
  refine lay_of fun w1 hB1 b1 z1 => ?_
  refine st5 hB1 (by simpa using hl) fun w2 hB2 c2 => ?_
  exact hK w2 hB2 (c2.below b1 (Nat.le_refl _)) (by rw [c2.size]; exact z1)
theorem first_spec {x : Ins} {al : List Ag} (hI : IsAg w x.2.2.2.1 al) (hR : ∀ w', Below w.heap.size w w' → R (.int .u32 (al.getD 0 ag0).2.1) w') : callR Tryz.prog 57 #[inA x] w R := by
  refine callR.of (calls_first_calls x R w ?_) fun _ _ h => h
  refine lay_of fun w1 hB1 b1 z1 => ?_
  have hB1 : Blk w1 w.heap.size 41 (inV x) := hB1
  have hl := hI.len
  refine hB1.rS (n := 3) (x := x.2.2.2.1) rfl (ifB_beq (fun e => ?_) (fun e => ?_))
  · have : al = [] := List.length_eq_zero_iff.1 (by omega)
    have h := hR w1 b1
    rw [this] at h
    exact h
  · have h0 : 0 < al.length := by omega
    refine hB1.rS (n := 3) (x := x.2.2.2.1) rfl (elemAn (hI.below b1) (k := 0) h0 ?_)
    have h := hR w1 b1
    rw [getD_lt h0] at h
    exact h
end
section
variable {x : Mo} {pl : List PI} {w : World} {R : Value → World → Prop}
set_option maxHeartbeats 2000000 in
theorem cNew_spec (hN : IsPl w x.2.2.1 pl) (hp : PlOk pl) (h0 : 0 ≤ x.2.1)
    (hbad : ∀ w', (cnwE x.2.1 pl).1 ≠ 0 → Below w.heap.size w w' → R (.tuple #[.pointer none, .agg #[.int .i64 (cnwE x.2.1 pl).1, .int .i64 (cnwE x.2.1 pl).2]]) w')
    (hok : ∀ w' rc, cnwE x.2.1 pl = (0, 0) → Below w.heap.size w w' → (cutF pl pl.length).length ≤ 4096 → NoRound (riseLL (rowsC pl)) → Kp w.heap.size w' (fun w'' => IsCl w'' rc (riseLL (rowsC pl))) → R (.tuple #[.pointer (some (Gk.blk rc)), .agg #[.int .i64 0, .int .i64 0]]) w') :
    callR Tryz.prog 19 #[moA x] w R := by
  refine callR.of (calls_New_calls x R w ?_) fun _ _ h => h
  refine lay_of fun w1 hB1 b1 z1 => ?_
  have hB1 : Blk w1 w.heap.size 25 (moV x) := hB1
  refine lay_of fun w2 hS2 b2 z2 => ?_
  have hS2 : Blk w2 w1.heap.size 33 [.int .i64 0, .int .i64 0] := hS2
  have hb2 := b1.on b2
  refine Mo.load (hB1.below b2) ?_
  refine Check_spec (x := x) (hN.below hb2) hp fun w3 b3 => ⟨((chk9P x.2.1 pl).1, ((chk9P x.2.1 pl).2 : Int), ()), rfl, ?_⟩
  refine box2 rfl fun w6 h6 b6 z6 => ?_
  have b26 := b3.on b6
  have hb6 := hb2.on b26
  have hB6 := (hB1.below b2).below b26
  have hS6 := hS2.below b26
  have s1 := b1.size
  have bad : ∀ {w' : World} (e a : Int), Blk w' w1.heap.size 33 [.int .i64 0, .int .i64 0] → Below w.heap.size w w' → (e, a) = cnwE x.2.1 pl → e ≠ 0 →
      Wr w' (blk w1.heap.size) ∧ Nw (w'.setCell (blk w1.heap.size) (.int .i64 e)) fun w8 => Wr w8 ((blk w1.heap.size).add 1) ∧ Nw (w8.setCell ((blk w1.heap.size).add 1) (.int .i64 a)) fun w9 => ldI w9 ((blk w1.heap.size).add 0) .i64 fun x9 => ldI w9 ((blk w1.heap.size).add 1) .i64 fun x10 =>
        R (.tuple #[.pointer none, .agg #[.int .i64 x9, .int .i64 x10]]) w9 := fun {w'} e a hS hb he hne =>
    st2 hS rfl fun w9 hS9 c9 => Sp.load hS9 (by
      have := hbad w9 (by rw [← he]; exact hne) (c9.below hb (by omega))
      rw [← he] at this
      exact this)
  refine h6.rI0 rfl (ifB_bne (fun e => ?_) (fun e => ?_))
  · have e' : (chk9P x.2.1 pl).1 ≠ 0 := e
    exact Sp.load h6.drew (bad _ _ hS6.drew hb6.drew (by unfold cnwE; rw [if_pos e']) e')
  have e' : (chk9P x.2.1 pl).1 = 0 := e
  obtain ⟨k1, k2, k3⟩ := chk9_ok e'
  have hsh := lay_shape k2
  have hlen := len_le hsh
  have hnd := cut_ids hp h0 e'
  refine Mo.load hB6 ?_
  refine Cut_spec (x := x) (hN.below hb6) hp (fun fs L w9 _ b9 hL hLc => ⟨fs, (0, 0, ()), rfl, ?_⟩) (fun w9 hne _ => absurd k2 hne)
  refine box2 rfl fun w12 h12 b12 z12 => ?_
  have b612 := b9.on b12
  have hb12 := hb6.on b612
  have hL12 := hL.below b12
  have hS12 := hS6.below b612
  have hB12 := hB6.below b612
  have hll := hL.len
  have hfl : L.length = (cutF pl pl.length).length := by rw [← hLc, List.length_map]
  have hget : ∀ k (h : k < L.length) (h' : k < (cutF pl pl.length).length), L[k].1 = (cutF pl pl.length)[k] := fun k h h' => by
    have : (L.map (·.1))[k]'(by rwa [List.length_map]) = (cutF pl pl.length)[k] := by congr 1
    rwa [List.getElem_map] at this
  have hcn : cnwE x.2.1 pl = if 4096 < (cutF pl pl.length).length then (4, 0) else (match firstC pl with
      | some p => p
      | none => (0, 0)) := by unfold cnwE; rw [if_neg (fun h => h e')]; try rfl
  refine ifB_dec (fun hgt => ?_) (fun hle => ?_)
  · exact bad 4 0 hS12 hb12 (by rw [hcn, if_pos (by omega)]) (by decide)
  have hmax : (cutF pl pl.length).length ≤ 4096 := by omega
  rw [if_neg (by omega)] at hcn
  generalize hcfd : cutF pl pl.length = fl at *
  refine Nw.gen fun w15 e15 => ?_
  have m15 : IsMp w15 w12.heap.size .i64 [] := by rw [e15]; exact IsMp.new _ _
  have b15 : Below w12.heap.size w12 w15 := by rw [e15]; exact (Below.refl _ _).alloc (Nat.le_refl _) _
  clear e15
  refine LoopW.count L.length (by omega) (fun k w' => Below w12.heap.size w12 w' ∧ IsMp w' w12.heap.size .i64 (numL fl k)) ⟨b15, m15⟩ ?_
  rintro k w16 hk ⟨b16, m16⟩ next hnext
  have hb16 := hb12.on b16
  have hL16 := hL12.below b16
  refine ifB_dec (fun h => ?_) (fun h => ?_)
  · have hlt : k < L.length := by omega
    refine elemFn hL16 hlt (box5 rfl fun w22 h22 b22 z22 => ?_)
    refine h22.rI0 rfl (updW_of uMapI uU32 (m16.below b22) fun w23 m23 c23 => hnext w23 hlt ⟨c23.below (b16.on b22) (Nat.le_refl _), ?_⟩)
    simp only [numL]
    rw [getD_lt (by omega), ← hget k hlt (by omega)]
    exact m23
  have hk' : k = L.length := by omega
  subst hk'
  rw [hfl] at m16
  clear hnext
  refine ⟨⟨by omega, by omega, by omega, by omega⟩, ?_⟩
  have hB16 := hB12.below b16
  have hS16 := hS12.below b16
  have lM := m16.lt
  refine Nw.gen fun w24 e24 => ?_
  have hH24 : Blk w24 w16.heap.size 26 ((List.replicate L.length (⟨none, 0, 0⟩ : Sl)).map Sl.val) := by
    rw [e24, List.map_replicate, ← hll]
    exact Blk.made w16 _ _ _
  have b24 : Below w16.heap.size w16 w24 := by rw [e24]; exact (Below.refl _ _).alloc (Nat.le_refl _) _
  clear e24
  -- the rows
  refine LoopW.count L.length (by omega) (fun k w' => Below w16.heap.size w16 w' ∧ ∃ hs : List Sl, hs.length = L.length ∧ Blk w' w16.heap.size 26 (hs.map Sl.val) ∧ ∀ i (h : i < hs.length), Own w' 3 1 hs[i] ((if i < k then (rowsC pl).getD i [] else []).map (Value.int .i64)) ∧ (k ≤ i → hs[i] = ⟨none, 0, 0⟩) ∧ Fresh w16.heap.size hs[i])
    ⟨b24, _, by simp, hH24, fun i h => by
      rw [List.getElem_replicate, if_neg (by omega)]
      exact ⟨Own.nil _ _ _, fun _ => rfl, fun a ha => (by cases ha)⟩⟩ ?_
  rintro k w25 hk ⟨b25, hs, hsl, hH, hrow⟩ next hnext
  have b1225 := b16.on b25
  have hb25 := hb16.on b25
  have hL25 := hL16.below b25
  refine ifB_dec (fun h => ?_) (fun h => ?_)
  · have hlt : k < L.length := by omega
    have hkf : k < fl.length := by omega
    have hin : L[k].1 ∈ fl := by rw [hget k hlt hkf]; exact List.getElem_mem hkf
    obtain ⟨a, e, ha, he, hae, hel, _⟩ := cut_en k2 (by rw [hcfd]; exact hin)
    refine elemFn hL25 hlt (box5 rfl fun w31 h31 b31 z31 => ?_)
    have hb31 := hb25.on b31
    have hB31 := (hB16.below b25).below b31
    refine hB31.rS (n := 2) (x := x.2.2.1) rfl (h31.rI (n := 1) (x := L[k].1.at_) rfl (h31.rI (n := 4) (x := L[k].1.en) rfl ?_))
    rw [ha, he]
    have hN31 := hN.below hb31
    have hNl := hN.len
    have hNc := hN.cap
    refine ⟨⟨by omega, by omega, by omega⟩, ?_⟩
    have et : Int.toNat (e : Int) - Int.toNat (a : Int) = e - a := by omega
    rw [et]
    obtain ⟨ba, hba⟩ := hN31.base (show 0 < pl.length by omega)
    have hrowk : ∀ n, (rwC pl a n).length ≤ n := rwC_len pl a
    have s25 := b25.size
    have s31 := b31.size
    refine LoopW.count (e - a) (by omega) (fun j w' => Fr w31.heap.size (fun b => b = w16.heap.size) w31 w' ∧ ∃ r : Sl, Blk w' w16.heap.size 26 ((hs.set k r).map Sl.val) ∧ Own w' 3 1 r ((rwC pl a j).map (Value.int .i64)) ∧ Fresh w31.heap.size r)
      ⟨Fr.refl _ _ _, hs[k], by rw [List.set_getElem_self]; exact hH.below b31, by rw [(hrow k (by omega)).2.1 (Nat.le_refl _)]; exact Own.nil _ _ _, by rw [(hrow k (by omega)).2.1 (Nat.le_refl _)]; exact fun a ha => (by cases ha)⟩ ?_
    rintro j w32 hj ⟨f32, r, hH32, hO32, hF32⟩ next2 hnext2
    have hlb : Below w16.heap.size w16 w32 := f32.low (b25.on b31) (fun k e => by rw [e]; exact Nat.le_refl _) (by omega)
    have hb32 := hb16.on hlb
    have s32 := f32.size
    refine ifB_dec (fun h => ?_) (fun h => ?_)
    · have hjl : j < e - a := by omega
      have hpl : a + j < pl.length := by omega
      have eix : ix pl (a + j) = pl[a + j] := ix_lt hpl
      refine JoinW.cut (fun (_ : Unit) w' => Fr w31.heap.size (fun b => b = w16.heap.size) w31 w' ∧ ∃ r : Sl, Blk w' w16.heap.size 26 ((hs.set k r).map Sl.val) ∧ Own w' 3 1 r ((rwC pl a (j + 1)).map (Value.int .i64)) ∧ Fresh w31.heap.size r) ?_ (fun _ w42 hw => hnext2 w42 hjl hw)
      refine ⟨⟨by omega, by omega⟩, ?_⟩
      rw [if_neg (by omega), hba]
      refine derefP_some rfl ?_
      obtain ⟨t, q1, q2⟩ := (hN.below hb32).elem ba hba (a + j) hpl
      have ec : ∀ m, ((ba.add (Int.toNat (a : Int) * 4)).add (Int.toNat (j : Int) * 4)).add m = ba.add ((a + j) * 4 + m) := fun m => by
        rw [add_add', add_add', show Int.toNat (a : Int) = a from rfl, show Int.toNat (j : Int) = j from rfl]
        congr 1
        omega
      rw [ec, ec, ec, ec]
      refine ⟨_, q1 0 (by omega), _, q1 1 (by omega), _, q1 2 (by omega), t, q1 3 (by omega), ?_⟩
      refine box4 rfl fun w37 hX37 b37 z37 => ?_
      have hX37 : Blk w37 w32.heap.size 41 (inV (mkIn pl[a + j] t)) := hX37
      refine Ins.load (x := mkIn pl[a + j] t) hX37 ?_
      refine first_spec (x := mkIn pl[a + j] t) (q2.below b37) fun w38 b38 => ⟨_, rfl, ?_⟩
      have b3238 := b37.on b38
      have m38 : IsMp w38 w12.heap.size .i64 (numL fl fl.length) := m16.below (hlb.on b3238)
      refine lookOk_of uMapI uU32 zInt m38 ?_
      have f38 : Fr w31.heap.size (fun b => b = w16.heap.size) w31 w38 := ⟨b3238.os.trans f32.os, b3238.tape.trans f32.tape, b3238.output.trans f32.output, Nat.le_trans f32.size b3238.size, fun k h1 h2 => (b3238.block k (by omega)).trans (f32.block k h1 h2)⟩
      refine (hX37.below b38).rI0 (x := pl[a + j].1) rfl (ifB_beq (fun e57 => ?_) (fun e57 => ?_))
      · have hcal : callO pl (a + j) = numO fl (pl[a + j].2.2.2.getD 0 ag0).2.1 := by
          unfold callO
          rw [eix, if_pos e57, hcfd]
          rfl
        refine ifB_bool (fun hs1 => ?_) (fun hs1 => ?_)
        · obtain ⟨v, hv⟩ := Option.isSome_iff_exists.1 hs1
          have hv' : numO fl (pl[a + j].2.2.2.getD 0 ag0).2.1 = some v := hv
          have hH38 := hH32.below b3238
          have hks : k < (hs.set k r).length := by rw [List.length_set]; omega
          have hcell : w38.cell? ((blk w16.heap.size).add (Int.toNat (k : Int))) = some (.slice r.a r.l r.c) := by
            refine hH38.cell (n := k) ?_
            rw [List.getElem?_map, List.getElem?_eq_getElem hks, List.getElem_set_self]
            rfl
          refine ⟨⟨by omega, by omega⟩, ⟨r, hcell, ?_⟩⟩
          refine lay_of fun w39 hD39 b39 z39 => ?_
          have b3239 := b3238.on b39
          have hO39 := hO32.below b3239
          have hH39 := hH38.below b39
          have hrl : r.l = (rwC pl a j).length := by have := hO32.1; rw [List.length_map] at this; omega
          have hrl2 := hrowk j
          rw [show lookL (numL fl fl.length) (pl[a + j].2.2.2.getD 0 ag0).2.1 = some v from hv, Option.getD_some] at hD39
          refine push_fr eInt hO39 (vs := [.int .i64 v]) rfl (by simp [Value.oneCell']) hD39 (by omega) (by omega) fun r2 w40 b' g1 g2 g3 g4 g5 => ?_
          have hH40 : Blk w40 w16.heap.size 26 ((hs.set k r).map Sl.val) := g5.blk hH39 fun X => own_notBlk hO39 hH39 (by decide) X
          refine ⟨⟨by omega, by omega⟩, hH40.wr (by rw [List.length_map]; exact hks), ?_⟩
          refine Nw.gen fun w41 e41 => ⟨?_, r2, ?_, ?_, ?_⟩
          · have c41 : Chg w16.heap.size w40 w41 := by rw [e41]; exact Chg.set _ _ w40 _
            refine ⟨c41.os.trans (g5.os.trans (b39.os.trans f38.os)), c41.tape.trans (g5.tape.trans (b39.tape.trans f38.tape)), c41.output.trans (g5.output.trans (b39.output.trans f38.output)), by have := c41.size; have := g5.size; have := b39.size; have := f38.size; omega, fun q h1 h2 => ?_⟩
            have z38 := f38.size
            have z39' := b39.size
            rw [c41.block q h2, g5.block q (by omega) (fun X => by have := hF32 _ X; exact absurd this (by show ¬ w31.heap.size ≤ q; omega)), b39.block q (by omega)]
            exact f38.block q h1 h2
          · rw [e41]
            have := hH40.set (Int.toNat (k : Int)) (.slice r2.a r2.l r2.c)
            rw [show Int.toNat (k : Int) = k from rfl] at this
            rw [show Int.toNat (k : Int) = k from rfl]
            have e2 : ((hs.set k r).map Sl.val).set k (.slice r2.a r2.l r2.c) = (hs.set k r2).map Sl.val := by
              rw [show (Value.slice r2.a r2.l r2.c) = Sl.val r2 from rfl, ← List.map_set, List.set_set]
            rw [e2] at this
            exact this
          · have : Own w40 3 1 r2 ((rwC pl a (j + 1)).map (Value.int .i64)) := by
              simp only [rwC]
              rw [hcal, hv', List.map_append]
              exact g1
            refine this.of_block fun q hq => ?_
            rw [e41]
            exact (Chg.set w16.heap.size (Int.toNat (k : Int)) w40 _).block _ fun X => own_notBlk this hH40 (by decide) (by rw [hq]; obtain ⟨y1, _⟩ := this.lt hq; rw [y1, X])
          · intro q hq
            rw [g3] at hq
            cases hq
            rcases g4 with g4 | g4
            · exact hF32 _ g4
            · have z38 := f38.size
              have z39' := b39.size
              show w31.heap.size ≤ b'
              omega
        · have hnone : callO pl (a + j) = none := by rw [hcal]; simpa using hs1
          refine ⟨f38, r, hH32.below b3238, ?_, hF32⟩
          simp only [rwC]
          rw [hnone]
          simp only [Option.toList, List.append_nil]
          exact hO32.below b3238
      · have hnone : callO pl (a + j) = none := by unfold callO; rw [eix, if_neg e57]
        refine ⟨f38, r, hH32.below b3238, ?_, hF32⟩
        simp only [rwC]
        rw [hnone]
        simp only [Option.toList, List.append_nil]
        exact hO32.below b3238
    · have hje : j = e - a := by omega
      subst hje
      refine hnext w32 hlt ⟨hlb, hs.set k r, by rw [List.length_set]; exact hsl, hH32, fun i hi => ?_⟩
      have hi' : i < hs.length := by rwa [List.length_set] at hi
      have hrk : (rowsC pl).getD k [] = rwC pl a (e - a) := by
        rw [getD_lt (by rw [rowsC_len, hcfd]; exact hkf), rowsC_get (by rw [hcfd]; exact hkf)]
        unfold rowC
        have : (cutF pl pl.length)[k]'(by rw [hcfd]; exact hkf) = L[k].1 := by
          rw [hget k hlt hkf]
          congr 1
        rw [this, ha, he]
        rfl
      by_cases ei : i = k
      · subst ei
        rw [List.getElem_set_self, if_pos (by omega), hrk]
        exact ⟨hO32, fun h => by omega, fun q hq => by have := hF32 q hq; omega⟩
      · rw [List.getElem_set_ne (fun q => ei q.symm)]
        obtain ⟨g1, g2, g3⟩ := hrow i hi'
        refine ⟨?_, fun h => g2 (by omega), g3⟩
        have : (if i < k + 1 then (rowsC pl).getD i [] else []) = if i < k then (rowsC pl).getD i [] else [] := by
          by_cases h : i < k
          · rw [if_pos h, if_pos (by omega)]
          · rw [if_neg h, if_neg (by omega)]
        rw [this]
        exact f32.own (g1.below b31) fun b hb X => by
          subst X
          exact own_notBlk (g1.below b31) (hH.below b31) (by decide) hb
  have hk' : k = L.length := by omega
  subst hk'
  clear hnext
  have hrl : (rowsC pl).length = L.length := by rw [rowsC_len, hcfd]; exact hfl.symm
  have hII : IsII w25 ⟨some (blk w16.heap.size), fs.l, fs.l⟩ hs (rowsC pl) := by
    refine ⟨hH.isS rfl (by show fs.l = hs.length; omega) (Nat.le_refl _) (by show fs.l ≤ _; omega), by omega, fun i h1 h2 => ?_⟩
    have := (hrow i h1).1
    rw [if_pos (by omega), getD_lt h2] at this
    exact this.isS
  have h8 : ∀ l ∈ rowsC pl, 8 * l.length ≤ 140737488351232 := fun l hl => by
    obtain ⟨f, hf, rfl⟩ := List.mem_map.1 hl
    obtain ⟨a, e, ha, he, hae, hel, _⟩ := cut_en k2 hf
    have := rwC_len pl f.at_.toNat (f.en.toNat - f.at_.toNat)
    unfold rowC
    omega
  have hmax' : (rowsC pl).length ≤ 4096 := by omega
  refine sorted_spec (s := ⟨some (blk w16.heap.size), fs.l, fs.l⟩) (hs := hs) (ll := rowsC pl) hII h8 hmax' (goodC pl) fun r w43 hs43 b43 hI43 hK43 => ⟨r, rfl, ?_⟩
  refine closed_spec riseLL_lt (riseLL_rowlen hmax') (by rw [riseLL_len]; exact hmax') hI43 fun t w44 b44 hTK => ⟨t, rfl, ?_⟩
  have hlenR := riseLL_len (ll := rowsC pl)
  have b2544 := b43.on b44
  have b1644 := b25.on b2544
  have hb44 := hb16.on b1644
  have hT44 := hTK.now
  have hI44 := hI43.below b44
  have hL44 := hL16.below b1644
  have hS44 := hS16.below b1644
  have hB44 := hB16.below b1644
  have m44 := m16.below b1644
  have hflen : fl.length = (rowsC pl).length := by omega
  -- what is wrong
  refine LoopW.count L.length (by omega) (fun k w' => Below w44.heap.size w44 w' ∧ ∀ i, i < k → frowC pl i (fl.getD i fn0).at_.toNat ((fl.getD i fn0).en.toNat - (fl.getD i fn0).at_.toNat) = none) ⟨Below.refl _ _, fun i h => by omega⟩ ?_
  rintro k w45 hk ⟨b45, hgood⟩ next hnext
  have hb45 := hb44.on b45
  have hL45 := hL44.below b45
  refine ifB_dec (fun h => ?_) (fun h => ?_)
  · have hlt : k < L.length := by omega
    have hkf : k < fl.length := by omega
    have hin : L[k].1 ∈ fl := by rw [hget k hlt hkf]; exact List.getElem_mem hkf
    obtain ⟨a, e, ha, he, hae, hel, _⟩ := cut_en k2 (by rw [hcfd]; exact hin)
    have hfk : fl.getD k fn0 = L[k].1 := by rw [getD_lt hkf, hget k hlt hkf]
    refine elemFn hL45 hlt (box5 rfl fun w51 h51 b51 z51 => ?_)
    refine h51.rI (n := 1) (x := L[k].1.at_) rfl ?_
    rw [ha, he] at h51
    rw [ha]
    refine LoopW.ghost (fun m (st : Int × Unit) w' => ∃ j : Nat, st = (((a + j : Nat) : Int), ()) ∧ m = e - a - j ∧ j ≤ e - a ∧ Below w51.heap.size w51 w' ∧ ∀ j', j' < j → flawC pl k (a + j') = 0) (e - a) ⟨0, by simp, rfl, Nat.zero_le _, Below.refl _ _, fun j' h => by omega⟩ ?_
    rintro _ _ w52 ⟨j, rfl, rfl, hj, b52, hz⟩ next2 hnext2
    have b4452 := (b45.on b51).on b52
    have hb52 := hb44.on b4452
    have h52 := h51.below b52
    dsimp only
    refine h52.rI (n := 4) (x := (e : Int)) rfl (ifB_dec (fun h => ?_) (fun h => ?_))
    · have hjl : j < e - a := by omega
      have hpl : a + j < pl.length := by omega
      have eix : ix pl (a + j) = pl[a + j] := ix_lt hpl
      have hB52 := hB44.below b4452
      have hNl := hN.len
      have hgo : ∀ w', Below w52.heap.size w52 w' → flawC pl k (a + j) = 0 → next2 (IntKind.i64.wrap (((a + j : Nat) : Int) + 1), ()) w' := fun w' hb hz0 => by
        rw [wrap64_succ (by omega)]
        refine hnext2 (e - a - (j + 1)) _ w' (by omega) ⟨j + 1, by rw [show a + (j + 1) = a + j + 1 by omega], rfl, by omega, b52.on hb, fun j' h' => ?_⟩
        by_cases ej : j' = j
        · subst ej; exact hz0
        · exact hz j' (by omega)
      have hbd2 : flawC pl k (a + j) ≠ 0 → (flawC pl k (a + j), ((a + j : Nat) : Int)) = cnwE x.2.1 pl := fun hne => by
        have h1 := frow_at (n := e - a) hjl hz hne
        have h2 : firstC pl = some (flawC pl k (a + j), ((a + j : Nat) : Int)) := by
          unfold firstC
          rw [hcfd]
          refine range_first hkf ?_ hgood
          rw [hfk, ha, he]
          exact h1
        rw [hcn, h2]
      refine JoinW.cut (fun (_ : Unit) w' => Below w52.heap.size w52 w' ∧ flawC pl k (a + j) = 0) ?_ (fun _ w58 hw => hgo w58 hw.1 hw.2)
      obtain ⟨ba, hba⟩ := (hN.below hb52).base hpl
      obtain ⟨t, q1, q2⟩ := (hN.below hb52).elem ba hba (a + j) hpl
      refine hB52.rS (n := 2) (x := x.2.2.1) rfl ⟨⟨by omega, by omega⟩, derefP_some hba ⟨pl[a + j].1, ?_, ifB_bne (fun e57 => ?_) (fun e57 => ?_)⟩⟩
      · exact q1 0 (by omega)
      · refine ⟨Below.refl _ _, ?_⟩
        unfold flawC
        rw [eix, if_neg e57]
      refine hB52.rS (n := 2) (x := x.2.2.1) rfl (elemPI (hN.below hb52) hpl fun t' ht' => ?_)
      refine first_spec (x := mkIn pl[a + j] t') ht' fun w53 b53 => ⟨_, rfl, ?_⟩
      have b4453 := b4452.on b53
      refine lookOk_of uMapI uU32 zInt (m44.below b4453) ?_
      have hflaw : flawC pl k (a + j) = (match numO fl (pl[a + j].2.2.2.getD 0 ag0).2.1 with
          | none => 170
          | some v => if wyB (riseLL (rowsC pl)) v.toNat k = true then 171 else 0) := by
        unfold flawC
        rw [eix, if_pos e57, hcfd]
        rfl
      refine ifB_not (ifB_bool (fun hs1 => ?_) (fun hs1 => ?_))
      rotate_left
      · have hnone : numO fl (pl[a + j].2.2.2.getD 0 ag0).2.1 = none := by simpa using hs1
        rw [hnone] at hflaw
        dsimp only at hflaw
        have := hbd2 (by rw [hflaw]; decide)
        rw [hflaw] at this
        exact bad 170 _ (hS44.below b4453) (hb44.on b4453) this (by decide)
      obtain ⟨v, hv⟩ := Option.isSome_iff_exists.1 hs1
      have hv' : numO fl (pl[a + j].2.2.2.getD 0 ag0).2.1 = some v := hv
      have hvr := num_lt hv'
      rw [hv'] at hflaw
      dsimp only at hflaw
      rw [show lookL (numL fl fl.length) (pl[a + j].2.2.2.getD 0 ag0).2.1 = some v from hv, Option.getD_some]
      have hvn : v = ((v.toNat : Nat) : Int) := by omega
      rw [hvn]
      refine Tb.get (hT44.below b4453) (a := v.toNat) (b := k) (by omega) (by omega) fun bb hbb => ?_
      refine ifB_bool (fun hbt => ?_) (fun hbf => ?_)
      · have : wyB (riseLL (rowsC pl)) v.toNat k = true := wyB_iff.2 (hbb.1 hbt)
        rw [if_pos this] at hflaw
        have := hbd2 (by rw [hflaw]; decide)
        rw [hflaw] at this
        exact bad 171 _ (hS44.below b4453) (hb44.on b4453) this (by decide)
      · refine ⟨b53, ?_⟩
        rw [hflaw, if_neg fun q => by rw [hbb.2 (wyB_iff.1 q)] at hbf; cases hbf]
    · have hje : j = e - a := by omega
      subst hje
      refine hnext w52 hlt ⟨(b45.on b51).on b52, fun i hi => ?_⟩
      by_cases ei : i = k
      · subst ei
        rw [hfk, ha, he]
        exact frow_none hz
      · exact hgood i (by omega)
  have hk' : k = L.length := by omega
  subst hk'
  have hno : firstC pl = none := by
    unfold firstC
    rw [hcfd]
    exact range_none fun i hi => hgood i (by omega)
  have hc0 : cnwE x.2.1 pl = (0, 0) := by rw [hcn, hno]
  have hn := noRoundC hno
  refine made_spec hn riseLL_lt (riseLL_rowlen hmax') (by rw [riseLL_len]; exact hmax') (hI44.below b45) (hT44.below b45) fun w59 rc b59 hC => ⟨_, rfl, ?_⟩
  have b4459 := b45.on b59
  have hS59 := hS44.below b4459
  refine st2 hS59 rfl fun w61 hS61 c61 => Sp.load hS61 ?_
  have b5961 := c61.same hS59 hS61
  have hb61 := (hb44.on b4459).on b5961
  refine hok w61 rc hc0 hb61 hmax hn fun w'' hk'' => ?_
  have z59 := b5961.size
  have z45 := b59.size
  have z44 := b45.size
  have z43 := b44.size
  have z25 := b43.size
  have z16 := b25.size
  have z12 := hb16.size
  have g59 : ∀ q, w.heap.size ≤ q → q < w59.heap.size → w''.heap[q]? = w59.heap[q]? := fun q h1 h2 => (hk'' q h1 (by omega)).trans (b5961.block q h2)
  have g45 : ∀ q, w.heap.size ≤ q → q < w45.heap.size → w''.heap[q]? = w45.heap[q]? := fun q h1 h2 => (g59 q h1 (by omega)).trans (b59.block q h2)
  have g44 : ∀ q, w.heap.size ≤ q → q < w44.heap.size → w''.heap[q]? = w44.heap[q]? := fun q h1 h2 => (g45 q h1 (by omega)).trans (b45.block q h2)
  have g43 : ∀ q, w.heap.size ≤ q → q < w43.heap.size → w''.heap[q]? = w43.heap[q]? := fun q h1 h2 => (g44 q h1 (by omega)).trans (b44.block q h2)
  exact hC w'' (fun q h1 h2 => g59 q (by omega) h2) (hK43 w'' fun q h1 h2 => g43 q (by omega) h2) (hTK w'' fun q h1 h2 => g44 q (by omega) h2)
end
end Go.Proofs
namespace Go.Proofs
open Go.Gk Go.RowKit Go.Gm

theorem frm_branch : (match frm 249 with | some f => decide (f.fixed = [105]) && decide (f.rest = []) | none => false) = true := by decide +kernel
theorem frm_cond : (match frm 250 with | some f => decide (f.fixed = [105, 105, 105]) && decide (f.rest = []) | none => false) = true := by decide +kernel
theorem frm_switch : (match frm 251 with | some f => decide (f.fixed = [105, 105]) && decide (f.rest = [110, 105]) && decide (f.most = 0) | none => false) = true := by decide +kernel
theorem frm_loop : (match frm 246 with | some f => decide (letP f 0 = 105) && decide (letP f 1 = 105) | none => false) = true := by decide +kernel
theorem frm_sel : (match frm 247 with | some f => decide (letP f 0 = 105) | none => false) = true := by decide +kernel
theorem kindP_id : kindP ((105 : Nat) : Int) = 1 := by decide +kernel
theorem let_kind {p : PI} {b : Int} {f : Fl} (hf : frm p.1 = some f) (h : faultI p b = 0) {j : Nat} (hj : j < p.2.2.2.length) (hl : letP f j = 105) : p.2.2.2[j].1 = 1 := by
  obtain ⟨f', hf', _, _, h3, _, _⟩ := fault_all h
  rw [hf] at hf'
  cases hf'
  have hw := h3 j hj
  unfold werr at hw
  have := (wrong_kind hw).2
  rw [getD_lt hj] at this
  rw [this, hl]
  exact kindP_id
theorem takes_let {op : Int} {f : Fl} (hf : frm op = some f) {n j : Nat} (hw : wholeP f n = true) (hj : j < n) (ht : takes op j = true) : letP f j = 105 := by
  unfold takes at ht
  rw [Bool.or_eq_true, Bool.or_eq_true, Bool.and_eq_true, Bool.and_eq_true, beq_iff_eq, beq_iff_eq, beq_iff_eq, decide_eq_true_iff, decide_eq_true_iff] at ht
  have hl := whole_le hw
  rcases ht with (e | ⟨e, _⟩) | ⟨e, hodd⟩
  · have h1 := frm_branch
    rw [← e, hf] at h1
    simp only [Bool.and_eq_true, decide_eq_true_iff] at h1
    obtain ⟨h1, h2⟩ := h1
    unfold wholeP at hw
    rw [h1, h2] at hw
    simp at hw
    have : j = 0 := by omega
    subst this
    unfold letP
    rw [h1]
    rfl
  · have h1 := frm_cond
    rw [← e, hf] at h1
    simp only [Bool.and_eq_true, decide_eq_true_iff] at h1
    obtain ⟨h1, h2⟩ := h1
    unfold wholeP at hw
    rw [h1, h2] at hw
    simp at hw
    unfold letP
    rw [h1]
    have : j = 0 ∨ j = 1 ∨ j = 2 := by omega
    rcases this with rfl | rfl | rfl <;> rfl
  · have h1 := frm_switch
    rw [← e, hf] at h1
    simp only [Bool.and_eq_true, decide_eq_true_iff] at h1
    obtain ⟨⟨h1, h2⟩, h3⟩ := h1
    unfold letP
    rw [h1, h2, h3]
    by_cases h4 : j < 2
    · have : j = 1 := by omega
      subst this
      rfl
    · rw [if_neg (by simpa using h4), if_neg (by simp), if_neg (by omega)]
      have : (j - ([105, 105] : Bs).length) % ([110, 105] : Bs).length = 1 := by simp; omega
      rw [this]
      rfl
theorem tgt_kind {p : PI} {b : Int} (h : faultI p b = 0) {j : Nat} (hj : j < p.2.2.2.length) (ht : takes p.1 j = true) : p.2.2.2[j].1 = 1 := by
  obtain ⟨f, hf, _, _, _, hw, _⟩ := fault_all h
  exact let_kind hf h hj (takes_let hf hw hj ht)
theorem merge_kind {p : PI} {b : Int} (h : faultI p b = 0) : (p.1 = 247 → ∀ h : 0 < p.2.2.2.length, p.2.2.2[0].1 = 1) ∧ (p.1 = 246 → ∀ h : 1 < p.2.2.2.length, p.2.2.2[0].1 = 1 ∧ p.2.2.2[1].1 = 1) := by
  obtain ⟨f, hf, _⟩ := fault_all h
  refine ⟨fun e hl => ?_, fun e hl => ?_⟩
  · have h1 := frm_sel
    have hf' := hf
    rw [e] at hf'
    rw [hf'] at h1
    exact let_kind hf h hl (of_decide_eq_true h1)
  · have h1 := frm_loop
    have hf' := hf
    rw [e] at hf'
    rw [hf'] at h1
    simp only [Bool.and_eq_true, decide_eq_true_iff] at h1
    exact ⟨let_kind hf h (by omega) h1.1, let_kind hf h hl h1.2⟩

def turnB (g : Int → Int) (b : Int × Int × Int) : Int × Int × Int := (g b.1, b.2)
def turnF (g : Int → Int) (f : FnL) : FnL := ⟨g f.id, f.at_, f.en, f.ps, f.bk.map (turnB g)⟩
theorem modL_map {α : Type} {h f f' : α → α} : ∀ l : List α, (∀ x, f (h x) = h (f' x)) → modL f (l.map h) = (modL f' l).map h
  | [], _ => rfl
  | [x], e => by simp only [List.map, modL, e]
  | x :: y :: r, e => by
    have := modL_map (y :: r) e
    simp only [List.map, modL] at this ⊢
    rw [this]
theorem cutS_turn (g : Int → Int) (l : List FnL) (k : Nat) (p : PI) : cutS (l.map (turnF g)) k (turnI g p) = (cutS l k p).map (turnF g) := by
  unfold cutS
  rw [show (turnI g p).1 = p.1 from rfl, show (turnI g p).2.2.1 = g p.2.2.1 from rfl]
  split
  · rw [List.map_append]
    rfl
  split
  · exact modL_map l fun x => rfl
  split
  · exact modL_map l fun x => rfl
  split
  · exact modL_map l fun x => by simp [turnF, turnB]
  split
  · exact modL_map l fun x => by
      unfold turnF
      dsimp only
      rw [modL_map (h := turnB g) (f' := fun b => (b.1, b.2.1, (k : Int) + 1)) x.bk fun y => rfl]
  · rfl
theorem cutF_turn {g : Int → Int} (hz : g 0 = 0) (pl : List PI) : ∀ n, cutF (turnP g pl) n = (cutF pl n).map (turnF g)
  | 0 => rfl
  | n + 1 => by
    show cutS (cutF (turnP g pl) n) n (ix (turnP g pl) n) = _
    rw [cutF_turn hz pl n, ix_turn hz, cutS_turn]
    rfl
section
variable {g : Int → Int} {pl : List PI} {b b' : Int}
theorem lbl_turn {bk : List (Int × Int × Int)} (hi : ∀ x ∈ bk, ∀ n, n ∈ allP pl → (g n = g x.1 ↔ n = x.1)) {n : Int} (hn : n ∈ allP pl) : ∀ k, k < bk.length → lookL (lblN (bk.map (turnB g)) k) (g n) = lookL (lblN bk k) n
  | 0, _ => rfl
  | k + 1, hk => by
    simp only [lblN]
    rw [lookL_set, lookL_set, getD_lt (by rw [List.length_map]; exact hk), getD_lt hk, List.getElem_map, lbl_turn hi hn k (by omega)]
    have := hi _ (List.getElem_mem hk) n hn
    by_cases e : n = bk[k + 1].1
    · rw [if_pos e, if_pos (show g n = (turnB g bk[k + 1]).1 from this.2 e)]
    · rw [if_neg e, if_neg (show ¬ g n = (turnB g bk[k + 1]).1 from fun q => e (this.1 q))]
theorem tgt_turn {p : PI} (h : faultI p b = 0) : tgtP p.1 (p.2.2.2.map (turnA g)) = (tgtP p.1 p.2.2.2).map g := by
  unfold tgtP
  have hk : (p.2.2.2.map (turnA g)).map (·.1) = p.2.2.2.map (·.1) := by
    rw [List.map_map]
    exact List.map_congr_left fun a _ => turnA_k g a
  rw [hk]
  split
  · unfold tgtN
    rw [List.length_map, List.map_map]
    refine List.map_congr_left fun j hj => ?_
    obtain ⟨h1, h2⟩ := List.mem_filter.1 hj
    have h1 := List.mem_range.1 h1
    rw [getD_lt (by rw [List.length_map]; exact h1), List.getElem_map]
    show (turnA g p.2.2.2[j]).2.1 = g (p.2.2.2.getD j (0, 0, bs [])).2.1
    rw [getD_lt h1, turnA_id g (tgt_kind h h1 h2)]
  · rfl
theorem tgt_mem {p : PI} (h : faultI p b = 0) (hp : p ∈ pl) : ∀ n ∈ tgtP p.1 p.2.2.2, n ∈ allP pl := by
  intro n hn
  unfold tgtP at hn
  split at hn
  · obtain ⟨j, hj, rfl⟩ := List.mem_map.1 hn
    obtain ⟨h1, h2⟩ := List.mem_filter.1 hj
    have h1 := List.mem_range.1 h1
    rw [getD_lt h1]
    obtain ⟨k, hk, rfl⟩ := List.getElem_of_mem hp
    exact (mem_all hk).2.2 _ (List.getElem_mem h1) (tgt_kind h h1 h2)
  · cases hn
theorem fnd_turn {M M' : List (Int × Int)} {ls : List Int} (h : ∀ n ∈ ls, lookL M' (g n) = lookL M n) : fndP M' (ls.map g) = fndP M ls := by
  unfold fndP
  have h1 : (ls.map g).all (fun n => (lookL M' n).isSome) = ls.all (fun n => (lookL M n).isSome) := by
    rw [List.all_map]
    induction ls with
    | nil => rfl
    | cons a r ih =>
      simp only [List.all_cons, Function.comp]
      rw [h a (List.mem_cons_self ..), ih fun n hn => h n (List.mem_cons_of_mem _ hn)]
  have h2 : ((ls.map g).map fun n => (lookL M' n).getD 0) = ls.map fun n => (lookL M n).getD 0 := by
    rw [List.map_map]
    exact List.map_congr_left fun n hn => by simp only [Function.comp]; rw [h n hn]
  rw [h1, h2]
theorem TurnOk.blk (h : TurnOk g pl b') (hs : (shapeP b pl).1 = 0) {f : FnL} (hf : FnOk pl pl.length f) {c : Int × Int × Int} (hc : c ∈ f.bk) :
    blkM (turnP g pl) (turnF g f).bk (turnB g c) = blkM pl f.bk c ∧ fndP (lblM (turnF g f).bk) (blkT (turnP g pl) (turnB g c)) = fndP (lblM f.bk) (blkT pl c) := by
  obtain ⟨fr, to_, rfl, hft, htl, h248, h8f, hend, h8t⟩ := (hf.ok c hc).ex
  have hpos : 0 < f.bk.length := List.length_pos_iff.2 hf.ne
  have hi : ∀ x ∈ f.bk, ∀ n, n ∈ allP pl → (g n = g x.1 ↔ n = x.1) := fun x hx n hn => by
    obtain ⟨q, q1, _, q3, _⟩ := (hf.ok x hx).label
    rw [q1]
    exact h.eq (.inl hn) (res_mem pl q)
  have hlk : ∀ n ∈ allP pl, lookL (lblM (turnF g f).bk) (g n) = lookL (lblM f.bk) n := fun n hn => by
    have := lbl_turn hi hn (f.bk.length - 1) (by omega)
    show lookL (lblN (f.bk.map (turnB g)) ((f.bk.map (turnB g)).length - 1)) (g n) = _
    rw [List.length_map]
    exact this
  have h1l : to_ - 1 < pl.length := by omega
  have h2l : to_ - 2 < pl.length := by omega
  have f1 := (shape_ok hs).2 (to_ - 1) h1l
  have f2 := (shape_ok hs).2 (to_ - 2) h2l
  have ea : ∀ k, (ix (turnP g pl) k).2.2.2 = (ix pl k).2.2.2.map (turnA g) := fun k => by rw [ix_turn h.zero]; rfl
  have eo : ∀ k, (ix (turnP g pl) k).1 = (ix pl k).1 := fun k => by rw [ix_turn h.zero]; rfl
  constructor
  · unfold blkM
    show mrgP _ (ix (turnP g pl) (Int.toNat (to_ : Int) - 2)).1 (ix (turnP g pl) (Int.toNat (to_ : Int) - 2)).2.2.2 (ix (turnP g pl) (Int.toNat (to_ : Int) - 1)).1 = mrgP _ (ix pl (Int.toNat (to_ : Int) - 2)).1 (ix pl (Int.toNat (to_ : Int) - 2)).2.2.2 (ix pl (Int.toNat (to_ : Int) - 1)).1
    rw [Int.toNat_natCast, ea, eo, eo, ix_lt h2l]
    obtain ⟨m1, m2⟩ := merge_kind f2
    obtain ⟨a1, a2⟩ := merge_args f2
    have mem : ∀ j (hj : j < pl[to_ - 2].2.2.2.length), pl[to_ - 2].2.2.2[j].1 = 1 → lookL (lblM (turnF g f).bk) ((pl[to_ - 2].2.2.2.map (turnA g)).getD j ag0).2.1 = lookL (lblM f.bk) (pl[to_ - 2].2.2.2.getD j ag0).2.1 := fun j hj e => by
      rw [getD_lt (by rw [List.length_map]; exact hj), getD_lt hj, List.getElem_map, turnA_id g e]
      exact hlk _ ((mem_all h2l).2.2 _ (List.getElem_mem hj) e)
    unfold mrgP
    split
    · rename_i e
      rw [mem 0 (a1 e) (m1 e (a1 e))]
    split
    · rename_i e
      rw [mem 0 (by have := a2 e; omega) (m2 e (a2 e)).1, mem 1 (a2 e) (m2 e (a2 e)).2]
    · rfl
  · have : blkT (turnP g pl) (turnB g ((ix pl fr).2.2.1, (fr : Int), (to_ : Int))) = (blkT pl ((ix pl fr).2.2.1, (fr : Int), (to_ : Int))).map g := by
      unfold blkT
      show tgtP (ix (turnP g pl) (Int.toNat (to_ : Int) - 1)).1 (ix (turnP g pl) (Int.toNat (to_ : Int) - 1)).2.2.2 = (tgtP (ix pl (Int.toNat (to_ : Int) - 1)).1 (ix pl (Int.toNat (to_ : Int) - 1)).2.2.2).map g
      rw [Int.toNat_natCast, ea, eo, ix_lt h1l]
      exact tgt_turn f1
    rw [this]
    refine fnd_turn fun n hn => hlk n ?_
    refine tgt_mem f1 (List.getElem_mem h1l) n ?_
    unfold blkT at hn
    rw [show Int.toNat ((ix pl fr).2.2.1, (fr : Int), (to_ : Int)).2.2 = to_ from rfl, ix_lt h1l] at hn
    exact hn
theorem TurnOk.rows (h : TurnOk g pl b') (hs : (shapeP b pl).1 = 0) {f : FnL} (hf : FnOk pl pl.length f) : rowsP (turnP g pl) (turnF g f).bk = rowsP pl f.bk ∧ mgsP (turnP g pl) (turnF g f).bk = mgsP pl f.bk := by
  constructor
  · unfold rowsP
    show (f.bk.map (turnB g)).map _ = _
    rw [List.map_map]
    refine List.map_congr_left fun c hc => ?_
    have := (h.blk hs hf hc).2
    simp only [Function.comp]
    rw [this]
  · unfold mgsP
    show (f.bk.map (turnB g)).map _ = _
    rw [List.map_map]
    refine List.map_congr_left fun c hc => ?_
    have := (h.blk hs hf hc).1
    simp only [Function.comp]
    rw [this]
end
end Go.Proofs
namespace Go.Proofs
open Go.Gk Go.RowKit Go.Gm Go.Gr

theorem frm_call : (match frm 57 with | some f => decide (letP f 0 = 105) | none => false) = true := by decide +kernel
theorem cal_kind {p : PI} {b : Int} (h : faultI p b = 0) (e : p.1 = 57) (hl : 0 < p.2.2.2.length) : p.2.2.2[0].1 = 1 := by
  obtain ⟨f, hf, _⟩ := fault_all h
  have h1 := frm_call
  have hf' := hf
  rw [e] at hf'
  rw [hf'] at h1
  exact let_kind hf h hl (of_decide_eq_true h1)
section
variable {g : Int → Int} {pl : List PI} {b b' : Int}
theorem num_turn {fl : List FnL} (hi : ∀ f ∈ fl, ∀ n, n ∈ allP pl → (g n = g f.id ↔ n = f.id)) {n : Int} (hn : n ∈ allP pl) : ∀ k, k ≤ fl.length → lookL (numL (fl.map (turnF g)) k) (g n) = lookL (numL fl k) n
  | 0, _ => rfl
  | k + 1, hk => by
    simp only [numL]
    rw [lookL_set, lookL_set, getD_lt (by rw [List.length_map]; omega), getD_lt (show k < fl.length by omega), List.getElem_map, num_turn hi hn k (by omega)]
    have := hi _ (List.getElem_mem (show k < fl.length by omega)) n hn
    by_cases e : n = fl[k].id
    · rw [if_pos e, if_pos (show g n = (turnF g fl[k]).id from this.2 e)]
    · rw [if_neg e, if_neg (show ¬ g n = (turnF g fl[k]).id from fun q => e (this.1 q))]
theorem TurnOk.cut (h : TurnOk g pl b') : cutF (turnP g pl) (turnP g pl).length = (cutF pl pl.length).map (turnF g) := by rw [turnP_len]; exact cutF_turn h.zero pl _
theorem TurnOk.callO (h : TurnOk g pl b') (hs : (shapeP b pl).1 = 0) {k : Nat} (hk : k < pl.length) : Go.Proofs.callO (turnP g pl) k = Go.Proofs.callO pl k ∧ ((ix pl k).1 = 57 → numO (cutF (turnP g pl) (turnP g pl).length) (calN (ix (turnP g pl) k)) = numO (cutF pl pl.length) (calN (ix pl k))) := by
  have key : (ix pl k).1 = 57 → numO (cutF (turnP g pl) (turnP g pl).length) (calN (ix (turnP g pl) k)) = numO (cutF pl pl.length) (calN (ix pl k)) := fun e => by
    have eix : ix pl k = pl[k] := ix_lt hk
    have hf := (shape_ok hs).2 k hk
    have e' : pl[k].1 = 57 := by rw [← eix]; exact e
    have hl := cal_args hf e'
    have hkd := cal_kind hf e' hl
    have hc : calN (ix pl k) = pl[k].2.2.2[0].2.1 := by unfold calN; rw [eix, getD_lt hl]
    have hc' : calN (ix (turnP g pl) k) = g (calN (ix pl k)) := by
      rw [hc, ix_turn h.zero, eix]
      unfold calN turnI
      dsimp only
      rw [getD_lt (by rw [List.length_map]; exact hl), List.getElem_map, turnA_id g hkd]
    have hm : calN (ix pl k) ∈ allP pl := by rw [hc]; exact (mem_all hk).2.2 _ (List.getElem_mem hl) hkd
    rw [hc', h.cut]
    unfold numO
    rw [List.length_map]
    refine num_turn (fun f hf n hn => ?_) hm _ (Nat.le_refl _)
    obtain ⟨a, _, _, h3, _⟩ := cut_at hf
    rw [h3]
    exact h.eq (.inl hn) (res_mem pl a)
  refine ⟨?_, key⟩
  unfold Go.Proofs.callO
  have eo : (ix (turnP g pl) k).1 = (ix pl k).1 := by rw [ix_turn h.zero]; rfl
  rw [eo]
  by_cases e : (ix pl k).1 = 57
  · rw [if_pos e, if_pos e]
    exact key e
  · rw [if_neg e, if_neg e]
theorem TurnOk.rwC (h : TurnOk g pl b') (hs : (shapeP b pl).1 = 0) {a : Nat} : ∀ n, a + n ≤ pl.length → Go.Proofs.rwC (turnP g pl) a n = Go.Proofs.rwC pl a n
  | 0, _ => rfl
  | n + 1, hn => by
    simp only [Go.Proofs.rwC]
    rw [h.rwC hs n (by omega), (h.callO hs (show a + n < pl.length by omega)).1]
theorem TurnOk.rowsC (h : TurnOk g pl b') (hs : (shapeP b pl).1 = 0) (hl : (layP b pl).1 = 0) : Go.Proofs.rowsC (turnP g pl) = Go.Proofs.rowsC pl := by
  unfold Go.Proofs.rowsC
  rw [h.cut, List.map_map]
  refine List.map_congr_left fun f hf => ?_
  obtain ⟨a, e, ha, he, hae, hel, _⟩ := cut_en hl hf
  show Go.Proofs.rwC (turnP g pl) f.at_.toNat (f.en.toNat - f.at_.toNat) = Go.Proofs.rwC pl f.at_.toNat (f.en.toNat - f.at_.toNat)
  exact h.rwC hs _ (by omega)
theorem TurnOk.flawC (h : TurnOk g pl b') (hs : (shapeP b pl).1 = 0) (hl : (layP b pl).1 = 0) {i k : Nat} (hk : k < pl.length) : Go.Proofs.flawC (turnP g pl) i k = Go.Proofs.flawC pl i k := by
  unfold Go.Proofs.flawC
  have eo : (ix (turnP g pl) k).1 = (ix pl k).1 := by rw [ix_turn h.zero]; rfl
  rw [eo, h.rowsC hs hl]
  by_cases e : (ix pl k).1 = 57
  · rw [if_pos e, if_pos e, (h.callO hs hk).2 e]
  · rw [if_neg e, if_neg e]
theorem findSome_congr {α β : Type} {F G : α → Option β} : ∀ {l : List α}, (∀ x ∈ l, F x = G x) → l.findSome? F = l.findSome? G
  | [], _ => rfl
  | a :: r, e => by
    rw [List.findSome?_cons, List.findSome?_cons, e a (List.mem_cons_self ..), findSome_congr fun x hx => e x (List.mem_cons_of_mem _ hx)]
theorem TurnOk.cnw (h : TurnOk g pl b') (hs : (shapeP b pl).1 = 0) (hl : (layP b pl).1 = 0) : cnwE b' (turnP g pl) = cnwE b pl := by
  unfold cnwE
  rw [h.chk9 hs, h.cut, List.length_map]
  have : firstC (turnP g pl) = firstC pl := by
    unfold firstC
    rw [h.cut, List.length_map]
    refine findSome_congr fun i hi => ?_
    have hi := List.mem_range.1 hi
    rw [getD_lt (by rw [List.length_map]; exact hi), getD_lt hi, List.getElem_map]
    obtain ⟨a, e, ha, he, hae, hel, _⟩ := cut_en hl (List.getElem_mem hi)
    show frowC (turnP g pl) i (cutF pl pl.length)[i].at_.toNat ((cutF pl pl.length)[i].en.toNat - (cutF pl pl.length)[i].at_.toNat) = _
    unfold frowC
    refine findSome_congr fun j hj => ?_
    have hj := List.mem_range.1 hj
    rw [h.flawC hs hl (by omega)]
  rw [this]
end
end Go.Proofs
namespace Go.Proofs
open Go.Gk Go.RowKit Go.Gr Go.St

theorem eq_of_sortedR {r : Nat → Nat → Prop} (hirr : ∀ x, ¬ r x x) (htr : ∀ x y z, r x y → r y z → r x z) : ∀ {l m : List Nat}, l.Pairwise r → m.Pairwise r → (∀ x, x ∈ l ↔ x ∈ m) → l = m
  | [], [], _, _, _ => rfl
  | [], b :: m, _, _, h => absurd ((h b).2 (by simp)) (by simp)
  | a :: l, [], _, _, h => absurd ((h a).1 (by simp)) (by simp)
  | a :: l, b :: m, hl, hm, h => by
    rw [List.pairwise_cons] at hl hm
    have e : a = b := by
      rcases List.mem_cons.1 ((h a).1 (by simp)) with e | e
      · exact e
      · rcases List.mem_cons.1 ((h b).2 (by simp)) with e' | e'
        · exact e'.symm
        · exact absurd (htr _ _ _ (hm.1 a e) (hl.1 b e')) (hirr b)
    subst e
    congr 1
    refine eq_of_sortedR hirr htr hl.2 hm.2 fun x => ⟨fun hx => ?_, fun hx => ?_⟩
    · rcases List.mem_cons.1 ((h x).1 (by simp [hx])) with e | e
      · subst e; exact absurd (hl.1 x hx) (hirr x)
      · exact e
    · rcases List.mem_cons.1 ((h x).2 (by simp [hx])) with e | e
      · subst e; exact absurd (hm.1 x hx) (hirr x)
      · exact e
/-- By depth, then by number. -/
def ordD (n : Nat) (dp : Nat → Nat) : Nat → List Nat
  | 0 => []
  | d + 1 => ordD n dp d ++ (List.range n).filter fun i => dp i == d
theorem mem_ordD {n : Nat} {dp : Nat → Nat} : ∀ {d x}, x ∈ ordD n dp d ↔ x < n ∧ dp x < d
  | 0, x => by simp [ordD]
  | d + 1, x => by
    show x ∈ ordD n dp d ++ _ ↔ _
    rw [List.mem_append, mem_ordD, List.mem_filter, List.mem_range, beq_iff_eq]
    omega
theorem ordD_sorted {n : Nat} {dp : Nat → Nat} : ∀ {d}, (ordD n dp d).Pairwise (lt fun i => (dp i : Int))
  | 0 => List.Pairwise.nil
  | d + 1 => by
    show (ordD n dp d ++ _).Pairwise _
    rw [List.pairwise_append]
    refine ⟨ordD_sorted, List.Pairwise.imp_of_mem ?_ (List.Pairwise.filter _ List.pairwise_lt_range), fun a ha b hb => ?_⟩
    · intro a b ha hb hab
      have h1 := (List.mem_filter.1 ha).2
      have h2 := (List.mem_filter.1 hb).2
      rw [beq_iff_eq] at h1 h2
      exact .inr ⟨by show (dp a : Int) = (dp b : Int); omega, hab⟩
    · have h1 := mem_ordD.1 ha
      have h2 := (List.mem_filter.1 hb).2
      rw [beq_iff_eq] at h2
      exact .inl (by show (dp a : Int) < (dp b : Int); omega)
theorem rowD_ordD {n : Nat} {d dp : Nat → Nat} (h : Bk (fun i => (dp i : Int)) d 0 n) (hd : ∀ i, i < n → dp i < n) : rowD n d = ordD n dp n := by
  refine eq_of_sortedR (fun x => lt_irr _) (fun x y z => lt_trans _) (l := rowD n d) ?_ ordD_sorted fun x => ?_
  · unfold rowD
    rw [List.pairwise_map]
    refine List.Pairwise.imp_of_mem ?_ List.pairwise_lt_range
    intro a b ha hb hab
    exact h.so a b (by omega) hab (List.mem_range.1 hb)
  · rw [mem_ordD]
    constructor
    · intro hx
      obtain ⟨i, hi, e⟩ := List.mem_map.1 hx
      have := (h.own i (by omega) (List.mem_range.1 hi)).2
      rw [e] at this
      exact ⟨this, hd x this⟩
    · rintro ⟨hx, _⟩
      obtain ⟨i, hi, e⟩ := rowD_all h hx
      exact List.mem_map.2 ⟨i, List.mem_range.2 hi, e⟩
theorem rkC_pos {rows : List (List Nat)} {i : Nat} (hi : i < rows.length) : 0 < rkC rows i := by
  unfold rkC
  exact List.countP_pos_iff.2 ⟨i, List.mem_range.2 hi, by simpa using Wy.refl⟩
theorem dep_rk {rows : List (List Nat)} (hn : NoRound rows) (hr : ∀ i, ∀ t ∈ rows.getD i [], t < rows.length) : ∀ (g i : Nat), rkC rows i ≤ g → i < rows.length → dep rows i + 1 ≤ rkC rows i
  | 0, i, h, hi => by have := rkC_pos hi; omega
  | g + 1, i, h, hi => by
    rcases dep_at hn i with e | ⟨k, hk, e⟩
    · have := rkC_pos hi; omega
    · have h1 := rkC_lt hn hk
      have h2 := dep_rk hn hr g k (by omega) (hr i k hk)
      omega
theorem dep_ltn {rows : List (List Nat)} (hn : NoRound rows) (hr : ∀ i, ∀ t ∈ rows.getD i [], t < rows.length) {i : Nat} (hi : i < rows.length) : dep rows i < rows.length := by
  have := dep_rk hn hr _ i (Nat.le_refl _) hi
  have := rkC_le (rows := rows) i
  omega
section
variable {rc : Nat} {rows : List (List Nat)} {w : World} {R : Value → World → Prop}
theorem cOrder_specO (hmax : rows.length ≤ 4096) (hn : NoRound rows) (hr : ∀ i, ∀ t ∈ rows.getD i [], t < rows.length) (h : IsCl w rc rows) (hR : ∀ r w', Below w.heap.size w w' → Own w' 3 1 r ((ordD rows.length (dep rows) rows.length).map iN) → R (.slice r.a r.l r.c) w') :
    callR Tryz.prog 29 #[.pointer (some (Gk.blk rc))] w R :=
  cOrder_spec hmax h fun r w' d hb ho hk => hR r w' hb (by rw [← rowD_ordD hk fun i hi => dep_ltn hn hr hi]; exact ho)
end

end Go.Proofs
namespace Go.Proofs
open Go.Gk
set_option linter.unusedVariables false
set_option maxRecDepth 100000

/-- intaglio.ids.Rename -/
def a_ids_Rename : Ann := (.seq none .nil (.seq none (.seq none .nil (.seq none .nil (.cond (.seq none .nil .nil) .nil))) (.seq none .nil (.seq (some ⟨[2, 3, 4, 5, 7], [(8, (.b .bool))]⟩) .nil (.seq none (.seq none .nil (.one (.loop ⟨[2, 3, 4, 5, 33, 34], [(8, (.b .bool)), (35, (.b (.int .i64)))]⟩ (.seq none .nil (.seq none (.cond .nil .nil) (.seq (some ⟨[2, 3, 4, 5, 33, 34, 35], [(8, (.b .bool))]⟩) (.one (.seq none .nil .nil)) .nil)))))) (.seq none (.seq none .nil (.cond (.seq none .nil .nil) .nil)) (.seq none .nil .nil)))))))
def L_ids_Rename (p0 : (Int × Int × Sl × Unit)) (p1 : Sl) (R : Value → World → Prop) (w : World) : Prop :=
 Nw (w.alloc (.cells #[(.int .u32 p0.1), (.int .u32 p0.2.1), (.slice p0.2.2.1.a p0.2.2.1.l p0.2.2.1.c)] 25)) fun w1 =>
 Nw (w1.alloc (.cells #[(.slice p1.a p1.l p1.c)] 57)) fun w2 =>
 Nw (w2.alloc (.cells #[(.int .u32 (0 : Int)), (.int .u32 (0 : Int)), (.slice none 0 0)] 25)) fun w3 =>
 Nw (w3.alloc (.cells #[(.int .i64 (0 : Int)), (.int .i64 (0 : Int))] 33)) fun w4 =>
 ldI w4 ((blk w.heap.size).add 0) .u32 fun x1 =>
 ldI w4 ((blk w.heap.size).add 1) .u32 fun x2 =>
 ldS w4 ((blk w.heap.size).add 2) fun x3 =>
 callR Tryz.prog 69 #[(.agg #[(.int .u32 x1), (.int .u32 x2), (.slice x3.a x3.l x3.c)])] w4 fun v4 w5 =>
 ∃ x5 : (Int × Int × Unit), v4 = (.agg #[(.int .i64 x5.1), (.int .i64 x5.2.1)]) ∧
 Nw (w5.alloc (.cells #[(.int .i64 (0 : Int)), (.int .i64 (0 : Int))] 33)) fun w6 =>
 Wr w6 (blk w5.heap.size) ∧
 Nw (w6.setCell (blk w5.heap.size) (.int .i64 x5.1)) fun w7 =>
 Wr w7 ((blk w5.heap.size).add 1) ∧
 Nw (w7.setCell ((blk w5.heap.size).add 1) (.int .i64 x5.2.1)) fun w8 =>
 ldI w8 (blk w5.heap.size) .i64 fun x6 =>
 ifB (x6 != (0 : Int))
 (ldI w8.drew ((blk w5.heap.size).add 0) .i64 fun x7 =>
 ldI w8.drew ((blk w5.heap.size).add 1) .i64 fun x8 =>
 Wr w8.drew (blk w2.heap.size) ∧
 Nw (w8.drew.setCell (blk w2.heap.size) (.int .u32 (0 : Int))) fun w9 =>
 Wr w9 ((blk w2.heap.size).add 1) ∧
 Nw (w9.setCell ((blk w2.heap.size).add 1) (.int .u32 (0 : Int))) fun w10 =>
 Wr w10 ((blk w2.heap.size).add 2) ∧
 Nw (w10.setCell ((blk w2.heap.size).add 2) (.slice none 0 0)) fun w11 =>
 w11.cell? ((blk w5.heap.size).add 0) = some (.int .i64 x7) ∧
 w11.cell? ((blk w5.heap.size).add 1) = some (.int .i64 x8) ∧
 Wr w11 (blk w3.heap.size) ∧
 Nw (w11.setCell (blk w3.heap.size) (.int .i64 x7)) fun w12 =>
 Wr w12 ((blk w3.heap.size).add 1) ∧
 Nw (w12.setCell ((blk w3.heap.size).add 1) (.int .i64 x8)) fun w13 =>
 ldI w13 ((blk w2.heap.size).add 0) .u32 fun x9 =>
 ldI w13 ((blk w2.heap.size).add 1) .u32 fun x10 =>
 ldS w13 ((blk w2.heap.size).add 2) fun x11 =>
 ldI w13 ((blk w3.heap.size).add 0) .i64 fun x12 =>
 ldI w13 ((blk w3.heap.size).add 1) .i64 fun x13 =>
 R (.tuple #[(.agg #[(.int .u32 x9), (.int .u32 x10), (.slice x11.a x11.l x11.c)]), (.agg #[(.int .i64 x12), (.int .i64 x13)])]) w13)
 (ldS w8 (blk w1.heap.size) fun x14 =>
 callR Tryz.prog 71 #[(.slice x14.a x14.l x14.c)] w8 fun v15 w14 =>
 ∃ x16 : Value, v15 = x16 ∧
 callR Tryz.prog 70 #[x16] w14 fun v17 w15 =>
 ∃ x18 : Sl, v17 = (.slice x18.a x18.l x18.c) ∧
 JoinW (S := Bool × Unit) (fun m19 =>
 ldS w15 (blk w1.heap.size) fun x21 =>
 ldI w15 ((blk w.heap.size).add 1) .u32 fun x22 =>
 ifB ((x21.l : Int) == (IntKind.i64.wrap x22))
 (ldS w15 (blk w1.heap.size) fun x23 =>
 (0 ≤ (0 : Int) ∧ (0 : Int) < (x23.l : Int)) ∧
 derefP x23.a fun a24 =>
 ldI w15 (a24.add 0) .u32 fun x25 =>
 m19 ((x25 == (0 : Int)), ()) w15)
 (m19 (false, ()) w15))
 (fun s20 w16 =>
 LoopW (S := Bool × Int × Unit) (fun s26 w17 n27 =>
 ifB (decide (s26.2.1 < (x18.l : Int)))
 (JoinW (S := Bool × Unit) (fun m28 =>
 (0 ≤ s26.2.1 ∧ s26.2.1 < (x18.l : Int)) ∧
 derefP x18.a fun a30 =>
 ldI w17 (a30.add (Int.toNat s26.2.1)) .u32 fun x31 =>
 ifB s26.1
 (m28 ((x31 == (IntKind.u32.wrap s26.2.1)), ()) w17)
 (m28 (false, ()) w17))
 (fun s29 w18 =>
 n27 (s29.1, (IntKind.i64.wrap (s26.2.1 + (1 : Int))), ()) w18))
 (ifB (!s26.1)
 (Wr w17 (blk w2.heap.size) ∧
 Nw (w17.setCell (blk w2.heap.size) (.int .u32 (0 : Int))) fun w19 =>
 Wr w19 ((blk w2.heap.size).add 1) ∧
 Nw (w19.setCell ((blk w2.heap.size).add 1) (.int .u32 (0 : Int))) fun w20 =>
 Wr w20 ((blk w2.heap.size).add 2) ∧
 Nw (w20.setCell ((blk w2.heap.size).add 2) (.slice none 0 0)) fun w21 =>
 Wr w21 (blk w3.heap.size) ∧
 Nw (w21.setCell (blk w3.heap.size) (.int .i64 (2 : Int))) fun w22 =>
 Wr w22 ((blk w3.heap.size).add 1) ∧
 Nw (w22.setCell ((blk w3.heap.size).add 1) (.int .i64 (0 : Int))) fun w23 =>
 ldI w23 ((blk w2.heap.size).add 0) .u32 fun x32 =>
 ldI w23 ((blk w2.heap.size).add 1) .u32 fun x33 =>
 ldS w23 ((blk w2.heap.size).add 2) fun x34 =>
 ldI w23 ((blk w3.heap.size).add 0) .i64 fun x35 =>
 ldI w23 ((blk w3.heap.size).add 1) .i64 fun x36 =>
 R (.tuple #[(.agg #[(.int .u32 x32), (.int .u32 x33), (.slice x34.a x34.l x34.c)]), (.agg #[(.int .i64 x35), (.int .i64 x36)])]) w23)
 (ldI w17 ((blk w.heap.size).add 0) .u32 fun x37 =>
 ldI w17 ((blk w.heap.size).add 1) .u32 fun x38 =>
 ldS w17 ((blk w.heap.size).add 2) fun x39 =>
 callR Tryz.prog 53 #[(.agg #[(.int .u32 x37), (.int .u32 x38), (.slice x39.a x39.l x39.c)]), (.func (.func 72) #[] #[(.pointer (some (blk w1.heap.size)))])] w17 fun v40 w24 =>
 ∃ x41 : (Int × Int × Sl × Unit), v40 = (.agg #[(.int .u32 x41.1), (.int .u32 x41.2.1), (.slice x41.2.2.1.a x41.2.2.1.l x41.2.2.1.c)]) ∧
 Wr w24 (blk w2.heap.size) ∧
 Nw (w24.setCell (blk w2.heap.size) (.int .u32 x41.1)) fun w25 =>
 Wr w25 ((blk w2.heap.size).add 1) ∧
 Nw (w25.setCell ((blk w2.heap.size).add 1) (.int .u32 x41.2.1)) fun w26 =>
 Wr w26 ((blk w2.heap.size).add 2) ∧
 Nw (w26.setCell ((blk w2.heap.size).add 2) (.slice x41.2.2.1.a x41.2.2.1.l x41.2.2.1.c)) fun w27 =>
 Wr w27 (blk w3.heap.size) ∧
 Nw (w27.setCell (blk w3.heap.size) (.int .i64 (0 : Int))) fun w28 =>
 Wr w28 ((blk w3.heap.size).add 1) ∧
 Nw (w28.setCell ((blk w3.heap.size).add 1) (.int .i64 (0 : Int))) fun w29 =>
 ldI w29 ((blk w2.heap.size).add 0) .u32 fun x42 =>
 ldI w29 ((blk w2.heap.size).add 1) .u32 fun x43 =>
 ldS w29 ((blk w2.heap.size).add 2) fun x44 =>
 ldI w29 ((blk w3.heap.size).add 0) .i64 fun x45 =>
 ldI w29 ((blk w3.heap.size).add 1) .i64 fun x46 =>
 R (.tuple #[(.agg #[(.int .u32 x42), (.int .u32 x43), (.slice x44.a x44.l x44.c)]), (.agg #[(.int .i64 x45), (.int .i64 x46)])]) w29)))
 (s20.1, (0 : Int), ()) w16))
theorem ids_Rename_calls (p0 : (Int × Int × Sl × Unit)) (p1 : Sl) (R : Value → World → Prop) (w : World) (h : L_ids_Rename p0 p1 R w) : Calls Tryz.prog 22 #[(.agg #[(.int .u32 p0.1), (.int .u32 p0.2.1), (.slice p0.2.2.1.a p0.2.2.1.l p0.2.2.1.c)]), (.slice p1.a p1.l p1.c)] w (Ret R) :=
 lw_calls (fs := Tryz.fs) (an := a_ids_Rename) (args := [(.agg #[(.int .u32 p0.1), (.int .u32 p0.2.1), (.slice p0.2.2.1.a p0.2.2.1.l p0.2.2.1.c)]), (.slice p1.a p1.l p1.c)]) Tryz.fsOK Tryz.mixed Tryz.func22 (by kernel_rfl) (by kernel_rfl)
 (Eq.mpr (by kernel_rfl : lwFn Tryz.prog Tryz.fs Tryz.f22 a_ids_Rename [(.agg #[(.int .u32 p0.1), (.int .u32 p0.2.1), (.slice p0.2.2.1.a p0.2.2.1.l p0.2.2.1.c)]), (.slice p1.a p1.l p1.c)] w R = L_ids_Rename p0 p1 R w) h)

/-- intaglio.intagliokit.CopyWords -/
def a_intagliokit_CopyWords : Ann := (.seq none .nil (.seq none .nil (.seq none (.seq none .nil (.one (.loop ⟨[0, 3], [(4, (.b (.int .i64)))]⟩ (.seq none (.seq none .nil (.cond .nil .nil)) (.seq none (.one .nil) .nil))))) (.seq none .nil .nil))))
def L_intagliokit_CopyWords (p0 : Sl) (R : Value → World → Prop) (w : World) : Prop :=
 (0 ≤ (p0.l : Int) ∧ (p0.l : Int) ≤ (p0.l : Int) ∧ (4 : Int) * (p0.l : Int) ≤ 281474976710656 ∧ (p0.l : Int) ≤ 9223372036854775807) ∧
 Nw (w.alloc (.cells (madeCells #[(.int .u32 (0 : Int))] (p0.l * 1)) 22)) fun w1 =>
 LoopW (S := Int × Unit) (fun s1 w2 n2 =>
 ifB (decide (s1.1 < (p0.l : Int)))
 ((0 ≤ s1.1 ∧ s1.1 < (p0.l : Int)) ∧
 derefP p0.a fun a3 =>
 ldI w2 (a3.add (Int.toNat s1.1)) .u32 fun x4 =>
 (0 ≤ s1.1 ∧ s1.1 < (p0.l : Int)) ∧
 Wr w2 ((blk w.heap.size).add (Int.toNat s1.1)) ∧
 Nw (w2.setCell ((blk w.heap.size).add (Int.toNat s1.1)) (.int .u32 x4)) fun w3 =>
 n2 ((IntKind.i64.wrap (s1.1 + (1 : Int))), ()) w3)
 (R (.slice (some (blk w.heap.size)) p0.l p0.l) w2))
 ((0 : Int), ()) w1
theorem intagliokit_CopyWords_calls (p0 : Sl) (R : Value → World → Prop) (w : World) (h : L_intagliokit_CopyWords p0 R w) : Calls Tryz.prog 23 #[(.slice p0.a p0.l p0.c)] w (Ret R) :=
 lw_calls (fs := Tryz.fs) (an := a_intagliokit_CopyWords) (args := [(.slice p0.a p0.l p0.c)]) Tryz.fsOK Tryz.mixed Tryz.func23 (by kernel_rfl) (by kernel_rfl)
 (Eq.mpr (by kernel_rfl : lwFn Tryz.prog Tryz.fs Tryz.f23 a_intagliokit_CopyWords [(.slice p0.a p0.l p0.c)] w R = L_intagliokit_CopyWords p0 R w) h)

/-- intaglio.ids.Rename 1 -/
def a_ids_Rename_1 : Ann := (.seq none .nil (.seq none .nil .nil))
def L_ids_Rename_1 (p0 : Int) (c0 : Addr) (R : Value → World → Prop) (w : World) : Prop :=
 ldS w c0 fun x1 =>
 (0 ≤ p0 ∧ p0 < (x1.l : Int)) ∧
 derefP x1.a fun a2 =>
 ldI w (a2.add (Int.toNat p0)) .u32 fun x3 =>
 R (.int .u32 x3) w
theorem ids_Rename_1_calls (p0 : Int) (c0 : Addr) (R : Value → World → Prop) (w : World) (h : L_ids_Rename_1 p0 c0 R w) : Calls Tryz.prog 72 #[(.int .u32 p0), (.pointer (some c0))] w (Ret R) :=
 lw_calls (fs := Tryz.fs) (an := a_ids_Rename_1) (args := [(.int .u32 p0), (.pointer (some c0))]) Tryz.fsOK Tryz.mixed Tryz.func72 (by kernel_rfl) (by kernel_rfl)
 (Eq.mpr (by kernel_rfl : lwFn Tryz.prog Tryz.fs Tryz.f72 a_ids_Rename_1 [(.int .u32 p0), (.pointer (some c0))] w R = L_ids_Rename_1 p0 c0 R w) h)

end Go.Proofs
namespace Go.Proofs
open Go.Gk
set_option linter.unusedVariables false
set_option maxRecDepth 100000

/-- slices.Sorted[uint32] -/
def a_slices_Sorted_uint32 : Ann := (.seq none .nil (.seq none .nil (.seq none .nil (.seq none .nil .nil))))
def L_slices_Sorted_uint32 (p0 : Value) (R : Value → World → Prop) (w : World) : Prop :=
 callR Tryz.prog 119 #[p0] w fun v1 w1 =>
 ∃ x2 : Sl, v1 = (.slice x2.a x2.l x2.c) ∧
 callR Tryz.prog 120 #[(.slice x2.a x2.l x2.c)] w1 fun v3 w2 =>
 v3 = (.tuple #[]) ∧
 R (.slice x2.a x2.l x2.c) w2
theorem slices_Sorted_uint32_calls (p0 : Value) (R : Value → World → Prop) (w : World) (h : L_slices_Sorted_uint32 p0 R w) : Calls Tryz.prog 70 #[p0] w (Ret R) :=
 lw_calls (fs := Tryz.fs) (an := a_slices_Sorted_uint32) (args := [p0]) Tryz.fsOK Tryz.mixed Tryz.func70 (by kernel_rfl) (by kernel_rfl)
 (Eq.mpr (by kernel_rfl : lwFn Tryz.prog Tryz.fs Tryz.f70 a_slices_Sorted_uint32 [p0] w R = L_slices_Sorted_uint32 p0 R w) h)

/-- slices.Values[[]uint32,uint32] -/
def a_slices_Values_suint32_uint32 : Ann := (.seq none .nil (.seq none .nil .nil))
def L_slices_Values_suint32_uint32 (p0 : Sl) (R : Value → World → Prop) (w : World) : Prop :=
 Nw (w.alloc (.cells #[(.slice p0.a p0.l p0.c)] 57)) fun w1 =>
 R (.func (.func 121) #[] #[(.pointer (some (blk w.heap.size)))]) w1
theorem slices_Values_suint32_uint32_calls (p0 : Sl) (R : Value → World → Prop) (w : World) (h : L_slices_Values_suint32_uint32 p0 R w) : Calls Tryz.prog 71 #[(.slice p0.a p0.l p0.c)] w (Ret R) :=
 lw_calls (fs := Tryz.fs) (an := a_slices_Values_suint32_uint32) (args := [(.slice p0.a p0.l p0.c)]) Tryz.fsOK Tryz.mixed Tryz.func71 (by kernel_rfl) (by kernel_rfl)
 (Eq.mpr (by kernel_rfl : lwFn Tryz.prog Tryz.fs Tryz.f71 a_slices_Values_suint32_uint32 [(.slice p0.a p0.l p0.c)] w R = L_slices_Values_suint32_uint32 p0 R w) h)

/-- slices.Collect[uint32] -/
def a_slices_Collect_uint32 : Ann := (.seq none .nil (.seq none .nil .nil))
def L_slices_Collect_uint32 (p0 : Value) (R : Value → World → Prop) (w : World) : Prop :=
 callR Tryz.prog 157 #[(.slice none 0 0), p0] w fun v1 w1 =>
 ∃ x2 : Sl, v1 = (.slice x2.a x2.l x2.c) ∧
 R (.slice x2.a x2.l x2.c) w1
theorem slices_Collect_uint32_calls (p0 : Value) (R : Value → World → Prop) (w : World) (h : L_slices_Collect_uint32 p0 R w) : Calls Tryz.prog 119 #[p0] w (Ret R) :=
 lw_calls (fs := Tryz.fs) (an := a_slices_Collect_uint32) (args := [p0]) Tryz.fsOK Tryz.mixed Tryz.func119 (by kernel_rfl) (by kernel_rfl)
 (Eq.mpr (by kernel_rfl : lwFn Tryz.prog Tryz.fs Tryz.f119 a_slices_Collect_uint32 [p0] w R = L_slices_Collect_uint32 p0 R w) h)

/-- slices.Sort[[]uint32,uint32] -/
def a_slices_Sort_suint32_uint32 : Ann := (.seq none .nil .nil)
def L_slices_Sort_suint32_uint32 (p0 : Sl) (R : Value → World → Prop) (w : World) : Prop :=
 callR Tryz.prog 152 #[(.int .u64 (IntKind.u64.wrap (p0.l : Int)))] w fun v1 w1 =>
 ∃ x2 : Int, v1 = (.int .i64 x2) ∧
 callR Tryz.prog 158 #[(.slice p0.a p0.l p0.c), (.int .i64 (0 : Int)), (.int .i64 (p0.l : Int)), (.int .i64 x2)] w1 fun v3 w2 =>
 v3 = (.tuple #[]) ∧
 R (.tuple #[]) w2
theorem slices_Sort_suint32_uint32_calls (p0 : Sl) (R : Value → World → Prop) (w : World) (h : L_slices_Sort_suint32_uint32 p0 R w) : Calls Tryz.prog 120 #[(.slice p0.a p0.l p0.c)] w (Ret R) :=
 lw_calls (fs := Tryz.fs) (an := a_slices_Sort_suint32_uint32) (args := [(.slice p0.a p0.l p0.c)]) Tryz.fsOK Tryz.mixed Tryz.func120 (by kernel_rfl) (by kernel_rfl)
 (Eq.mpr (by kernel_rfl : lwFn Tryz.prog Tryz.fs Tryz.f120 a_slices_Sort_suint32_uint32 [(.slice p0.a p0.l p0.c)] w R = L_slices_Sort_suint32_uint32 p0 R w) h)

/-- slices.Values[[]uint32,uint32] 1 -/
def a_slices_Values_suint32_uint32__1 : Ann := (.seq none .nil (.one (.loop ⟨[0, 5, 6], [(7, (.b (.int .i64)))]⟩ (.seq none .nil (.seq none (.cond .nil .nil) (.seq none (.one (.seq none .nil (.seq none .nil (.cond .nil .nil)))) .nil))))))
def L_slices_Values_suint32_uint32__1 (p0 : Value) (c0 : Addr) (R : Value → World → Prop) (w : World) : Prop :=
 ldS w c0 fun x1 =>
 LoopW (S := Int × Unit) (fun s2 w1 n3 =>
 ifB (decide (s2.1 < (x1.l : Int)))
 ((0 ≤ s2.1 ∧ s2.1 < (x1.l : Int)) ∧
 derefP x1.a fun a4 =>
 ldI w1 (a4.add (Int.toNat s2.1)) .u32 fun x5 =>
 callV Tryz.prog Tryz.fs p0 [(.int .u32 x5)] w1 fun v6 w2 =>
 ∃ x7 : Bool, v6 = (.bool x7) ∧
 ifB (!x7)
 (R (.tuple #[]) w2)
 (n3 ((IntKind.i64.wrap (s2.1 + (1 : Int))), ()) w2))
 (R (.tuple #[]) w1))
 ((0 : Int), ()) w
theorem slices_Values_suint32_uint32__1_calls (p0 : Value) (c0 : Addr) (R : Value → World → Prop) (w : World) (h : L_slices_Values_suint32_uint32__1 p0 c0 R w) : Calls Tryz.prog 121 #[p0, (.pointer (some c0))] w (Ret R) :=
 lw_calls (fs := Tryz.fs) (an := a_slices_Values_suint32_uint32__1) (args := [p0, (.pointer (some c0))]) Tryz.fsOK Tryz.mixed Tryz.func121 (by kernel_rfl) (by kernel_rfl)
 (Eq.mpr (by kernel_rfl : lwFn Tryz.prog Tryz.fs Tryz.f121 a_slices_Values_suint32_uint32__1 [p0, (.pointer (some c0))] w R = L_slices_Values_suint32_uint32__1 p0 c0 R w) h)

/-- math.bits.Len -/
def a_math_bits_Len : Ann := (.seq none .nil (.seq none (.cond (.seq none .nil .nil) .nil) (.seq none .nil .nil)))
def L_math_bits_Len (p0 : Int) (R : Value → World → Prop) (w : World) : Prop :=
 callR Tryz.prog 201 #[(.int .u64 p0)] w fun v1 w1 =>
 ∃ x2 : Int, v1 = (.int .i64 x2) ∧
 R (.int .i64 x2) w1
theorem math_bits_Len_calls (p0 : Int) (R : Value → World → Prop) (w : World) (h : L_math_bits_Len p0 R w) : Calls Tryz.prog 152 #[(.int .u64 p0)] w (Ret R) :=
 lw_calls (fs := Tryz.fs) (an := a_math_bits_Len) (args := [(.int .u64 p0)]) Tryz.fsOK Tryz.mixed Tryz.func152 (by kernel_rfl) (by kernel_rfl)
 (Eq.mpr (by kernel_rfl : lwFn Tryz.prog Tryz.fs Tryz.f152 a_math_bits_Len [(.int .u64 p0)] w R = L_math_bits_Len p0 R w) h)

/-- slices.AppendSeq[[]uint32,uint32] -/
def a_slices_AppendSeq_suint32_uint32 : Ann := (.seq none .nil (.seq none (.seq none .nil (.one (.loop ⟨[], [(7, (.b (.int .u32)))]⟩ (.seq none .nil (.one .nil))))) (.seq none .nil .nil)))
def L_slices_AppendSeq_suint32_uint32 (p0 : Sl) (p1 : Value) (R : Value → World → Prop) (w : World) : Prop :=
 Nw (w.alloc (.cells #[(.slice p0.a p0.l p0.c)] 57)) fun w1 =>
 RangeW Tryz.prog Tryz.fs p1 w1 (T := Int × Unit) (fun s1 => [(.int .u32 s1.1)])
 (fun mk2 l3 s1 w2 S4 =>
 w2.heap[l3]? = some (mk2 .ready none) ∧
 Nw (w2.putObj l3 (mk2 .busy none)) fun w3 =>
 ldS w3 (blk w.heap.size) fun x6 =>
 Nw (w3.alloc (.cells #[(.int .u32 s1.1)] 22)) fun w4 =>
 appendS Tryz.prog 57 (.slice x6.a x6.l x6.c) (.slice (some (blk w3.heap.size)) 1 1) w4 fun r7 w5 =>
 Wr w5 (blk w.heap.size) ∧
 Nw (w5.setCell (blk w.heap.size) (.slice r7.a r7.l r7.c)) fun w6 =>
 w6.heap[l3]? = some (mk2 .busy none) ∧
 S4 (.bool true) (w6.putObj l3 (mk2 .ready none)))
 (fun mk2 l3 d5 w7 =>
 rangeOut mk2 l3 .ready none w7 fun w8 =>
 ldS w8 (blk w.heap.size) fun x8 =>
 closeM (d5 :: []) w8 fun w9 =>
 R (.slice x8.a x8.l x8.c) w9)
theorem slices_AppendSeq_suint32_uint32_calls (p0 : Sl) (p1 : Value) (R : Value → World → Prop) (w : World) (h : L_slices_AppendSeq_suint32_uint32 p0 p1 R w) : Calls Tryz.prog 157 #[(.slice p0.a p0.l p0.c), p1] w (Ret R) :=
 lwR_calls (fs := Tryz.fs) (an := a_slices_AppendSeq_suint32_uint32) (args := [(.slice p0.a p0.l p0.c), p1]) Tryz.fsOK Tryz.mixed Tryz.func157 (by kernel_rfl) (by kernel_rfl)
 (Eq.mpr (by kernel_rfl : lwRFn Tryz.prog Tryz.fs Tryz.f157 a_slices_AppendSeq_suint32_uint32 [(.slice p0.a p0.l p0.c), p1] w R = L_slices_AppendSeq_suint32_uint32 p0 p1 R w) h)

/-- slices.pdqsortOrdered[uint32] -/
def a_slices_pdqsortOrdered_uint32 : Ann := (.seq none .nil (.seq none .nil (.one (.loop ⟨[0], [(1, (.b (.int .i64))), (2, (.b (.int .i64))), (3, (.b (.int .i64))), (8, (.b .bool)), (9, (.b .bool))]⟩ (.one (.seq none .nil (.seq none (.seq none .nil (.cond (.seq none .nil .nil) .nil)) (.seq none (.seq none .nil (.cond (.seq none .nil .nil) .nil)) (.seq (some ⟨[0, 1, 2, 8, 9, 10], [(3, (.b (.int .i64)))]⟩) (.seq none .nil (.cond (.seq none .nil .nil) .nil)) (.seq none .nil (.seq (some ⟨[0, 1, 2, 3, 8, 9, 10], [(11, (.b (.int .i64))), (12, (.b (.int .i64)))]⟩) (.seq none .nil (.cond (.seq none .nil (.seq none .nil .nil)) .nil)) (.seq (some ⟨[0, 1, 2, 3, 8, 9, 10, 11], []⟩) (.seq none .nil (.cond (.seq none .nil (.cond .nil .nil)) .nil)) (.seq (some ⟨[0, 2, 3, 10, 11], [(1, (.b (.int .i64)))]⟩) (.seq none .nil (.cond (.seq none .nil (.seq none .nil .nil)) .nil)) (.seq none .nil (.seq none .nil (.seq none .nil (.seq none .nil (.seq none .nil (.cond (.seq none .nil (.seq none .nil .nil)) (.seq none .nil (.seq none .nil .nil)))))))))))))))))))))
def L_slices_pdqsortOrdered_uint32 (p0 : Sl) (p1 : Int) (p2 : Int) (p3 : Int) (R : Value → World → Prop) (w : World) : Prop :=
 LoopW (S := Int × Int × Int × Bool × Bool × Unit) (fun s1 w1 n2 =>
 ifB (decide ((IntKind.i64.wrap (s1.2.1 - s1.1)) ≤ (12 : Int)))
 (callR Tryz.prog 208 #[(.slice p0.a p0.l p0.c), (.int .i64 s1.1), (.int .i64 s1.2.1)] w1 fun v3 w2 =>
 v3 = (.tuple #[]) ∧
 R (.tuple #[]) w2)
 (ifB (s1.2.2.1 == (0 : Int))
 (callR Tryz.prog 209 #[(.slice p0.a p0.l p0.c), (.int .i64 s1.1), (.int .i64 s1.2.1)] w1 fun v4 w3 =>
 v4 = (.tuple #[]) ∧
 R (.tuple #[]) w3)
 (JoinW (S := Int × Unit) (fun m5 =>
 ifB (!s1.2.2.2.1)
 (callR Tryz.prog 210 #[(.slice p0.a p0.l p0.c), (.int .i64 s1.1), (.int .i64 s1.2.1)] w1 fun v7 w4 =>
 v7 = (.tuple #[]) ∧
 m5 ((IntKind.i64.wrap (s1.2.2.1 - (1 : Int))), ()) w4)
 (m5 (s1.2.2.1, ()) w1))
 (fun s6 w5 =>
 callR Tryz.prog 211 #[(.slice p0.a p0.l p0.c), (.int .i64 s1.1), (.int .i64 s1.2.1)] w5 fun v8 w6 =>
 ∃ x9 : Int, ∃ x10 : Int, v8 = (.tuple #[(.int .i64 x9), (.int .i64 x10)]) ∧
 JoinW (S := Int × Int × Unit) (fun m11 =>
 ifB (x10 == (2 : Int))
 (callR Tryz.prog 212 #[(.slice p0.a p0.l p0.c), (.int .i64 s1.1), (.int .i64 s1.2.1)] w6 fun v13 w7 =>
 v13 = (.tuple #[]) ∧
 m11 ((IntKind.i64.wrap ((IntKind.i64.wrap (s1.2.1 - (1 : Int))) - (IntKind.i64.wrap (x9 - s1.1)))), (1 : Int), ()) w7)
 (m11 (x9, x10, ()) w6))
 (fun s12 w8 =>
 JoinW (S := Unit) (fun m14 =>
 ifB s1.2.2.2.1
 (ifB s1.2.2.2.2.1
 (ifB (s12.2.1 == (1 : Int))
 (callR Tryz.prog 213 #[(.slice p0.a p0.l p0.c), (.int .i64 s1.1), (.int .i64 s1.2.1)] w8 fun v16 w9 =>
 ∃ x17 : Bool, v16 = (.bool x17) ∧
 ifB x17
 (R (.tuple #[]) w9)
 (m14 (()) w9))
 (m14 (()) w8))
 (m14 (()) w8))
 (m14 (()) w8))
 (fun s15 w10 =>
 JoinW (S := Int × Unit) (fun m18 =>
 ifB (decide (s1.1 > (0 : Int)))
 ((0 ≤ (IntKind.i64.wrap (s1.1 - (1 : Int))) ∧ (IntKind.i64.wrap (s1.1 - (1 : Int))) < (p0.l : Int)) ∧
 derefP p0.a fun a20 =>
 ldI w10.drew (a20.add (Int.toNat (IntKind.i64.wrap (s1.1 - (1 : Int))))) .u32 fun x21 =>
 (0 ≤ s12.1 ∧ s12.1 < (p0.l : Int)) ∧
 derefP p0.a fun a22 =>
 ldI w10.drew (a22.add (Int.toNat s12.1)) .u32 fun x23 =>
 callR Tryz.prog 214 #[(.int .u32 x21), (.int .u32 x23)] w10.drew fun v24 w11 =>
 ∃ x25 : Bool, v24 = (.bool x25) ∧
 ifB (!x25)
 (callR Tryz.prog 215 #[(.slice p0.a p0.l p0.c), (.int .i64 s1.1), (.int .i64 s1.2.1), (.int .i64 s12.1)] w11 fun v26 w12 =>
 ∃ x27 : Int, v26 = (.int .i64 x27) ∧
 n2 (x27, s1.2.1, s6.1, s1.2.2.2.1, s1.2.2.2.2.1, ()) w12)
 (m18 (s1.1, ()) w11))
 (m18 (s1.1, ()) w10.drew))
 (fun s19 w13 =>
 callR Tryz.prog 216 #[(.slice p0.a p0.l p0.c), (.int .i64 s19.1), (.int .i64 s1.2.1), (.int .i64 s12.1)] w13 fun v28 w14 =>
 ∃ x29 : Int, ∃ x30 : Bool, v28 = (.tuple #[(.int .i64 x29), (.bool x30)]) ∧
 ifB (decide ((IntKind.i64.wrap (x29 - s19.1)) < (IntKind.i64.wrap (s1.2.1 - x29))))
 (callR Tryz.prog 158 #[(.slice p0.a p0.l p0.c), (.int .i64 s19.1), (.int .i64 x29), (.int .i64 s6.1)] w14 fun v31 w15 =>
 v31 = (.tuple #[]) ∧
 n2 ((IntKind.i64.wrap (x29 + (1 : Int))), s1.2.1, s6.1, (decide ((IntKind.i64.wrap (x29 - s19.1)) ≥ (IntKind.i64.wrap (Int.tdiv (IntKind.i64.wrap (s1.2.1 - s1.1)) (8 : Int))))), x30, ()) w15)
 (callR Tryz.prog 158 #[(.slice p0.a p0.l p0.c), (.int .i64 (IntKind.i64.wrap (x29 + (1 : Int)))), (.int .i64 s1.2.1), (.int .i64 s6.1)] w14 fun v32 w16 =>
 v32 = (.tuple #[]) ∧
 n2 (s19.1, x29, s6.1, (decide ((IntKind.i64.wrap (s1.2.1 - x29)) ≥ (IntKind.i64.wrap (Int.tdiv (IntKind.i64.wrap (s1.2.1 - s1.1)) (8 : Int))))), x30, ()) w16))))))))
 (p1, p2, p3, true, true, ()) w
theorem slices_pdqsortOrdered_uint32_calls (p0 : Sl) (p1 : Int) (p2 : Int) (p3 : Int) (R : Value → World → Prop) (w : World) (h : L_slices_pdqsortOrdered_uint32 p0 p1 p2 p3 R w) : Calls Tryz.prog 158 #[(.slice p0.a p0.l p0.c), (.int .i64 p1), (.int .i64 p2), (.int .i64 p3)] w (Ret R) :=
 lw_calls (fs := Tryz.fs) (an := a_slices_pdqsortOrdered_uint32) (args := [(.slice p0.a p0.l p0.c), (.int .i64 p1), (.int .i64 p2), (.int .i64 p3)]) Tryz.fsOK Tryz.mixed Tryz.func158 (by kernel_rfl) (by kernel_rfl)
 (Eq.mpr (by kernel_rfl : lwFn Tryz.prog Tryz.fs Tryz.f158 a_slices_pdqsortOrdered_uint32 [(.slice p0.a p0.l p0.c), (.int .i64 p1), (.int .i64 p2), (.int .i64 p3)] w R = L_slices_pdqsortOrdered_uint32 p0 p1 p2 p3 R w) h)

/-- math.bits.Len64 -/
def a_math_bits_Len64 : Ann := (.seq none .nil (.seq (some ⟨[], [(0, (.b (.int .u64))), (2, (.b (.int .i64)))]⟩) (.seq none .nil (.cond (.seq none .nil .nil) .nil)) (.seq (some ⟨[], [(0, (.b (.int .u64))), (2, (.b (.int .i64)))]⟩) (.seq none .nil (.cond (.seq none .nil .nil) .nil)) (.seq (some ⟨[], [(0, (.b (.int .u64))), (2, (.b (.int .i64)))]⟩) (.seq none .nil (.cond (.seq none .nil .nil) .nil)) (.seq none .nil .nil)))))
def L_math_bits_Len64 (p0 : Int) (R : Value → World → Prop) (w : World) : Prop :=
 JoinW (S := Int × Int × Unit) (fun m1 =>
 ifB (decide (p0 ≥ (4294967296 : Int)))
 (m1 ((Int.fdiv p0 (2 ^ (min 32 (IntKind.bits .u64)))), (32 : Int), ()) w)
 (m1 (p0, (0 : Int), ()) w))
 (fun s2 w1 =>
 JoinW (S := Int × Int × Unit) (fun m3 =>
 ifB (decide (s2.1 ≥ (65536 : Int)))
 (m3 ((Int.fdiv s2.1 (2 ^ (min 16 (IntKind.bits .u64)))), (IntKind.i64.wrap (s2.2.1 + (16 : Int))), ()) w1)
 (m3 (s2.1, s2.2.1, ()) w1))
 (fun s4 w2 =>
 JoinW (S := Int × Int × Unit) (fun m5 =>
 ifB (decide (s4.1 ≥ (256 : Int)))
 (m5 ((Int.fdiv s4.1 (2 ^ (min 8 (IntKind.bits .u64)))), (IntKind.i64.wrap (s4.2.1 + (8 : Int))), ()) w2)
 (m5 (s4.1, s4.2.1, ()) w2))
 (fun s6 w3 =>
 (0 ≤ (IntKind.u8.wrap s6.1) ∧ (IntKind.u8.wrap s6.1) < ((ByteArray.mk #[0, 1, 2, 2, 3, 3, 3, 3, 4, 4, 4, 4, 4, 4, 4, 4, 5, 5, 5, 5, 5, 5, 5, 5, 5, 5, 5, 5, 5, 5, 5, 5, 6, 6, 6, 6, 6, 6, 6, 6, 6, 6, 6, 6, 6, 6, 6, 6, 6, 6, 6, 6, 6, 6, 6, 6, 6, 6, 6, 6, 6, 6, 6, 6, 7, 7, 7, 7, 7, 7, 7, 7, 7, 7, 7, 7, 7, 7, 7, 7, 7, 7, 7, 7, 7, 7, 7, 7, 7, 7, 7, 7, 7, 7, 7, 7, 7, 7, 7, 7, 7, 7, 7, 7, 7, 7, 7, 7, 7, 7, 7, 7, 7, 7, 7, 7, 7, 7, 7, 7, 7, 7, 7, 7, 7, 7, 7, 7, 8, 8, 8, 8, 8, 8, 8, 8, 8, 8, 8, 8, 8, 8, 8, 8, 8, 8, 8, 8, 8, 8, 8, 8, 8, 8, 8, 8, 8, 8, 8, 8, 8, 8, 8, 8, 8, 8, 8, 8, 8, 8, 8, 8, 8, 8, 8, 8, 8, 8, 8, 8, 8, 8, 8, 8, 8, 8, 8, 8, 8, 8, 8, 8, 8, 8, 8, 8, 8, 8, 8, 8, 8, 8, 8, 8, 8, 8, 8, 8, 8, 8, 8, 8, 8, 8, 8, 8, 8, 8, 8, 8, 8, 8, 8, 8, 8, 8, 8, 8, 8, 8, 8, 8, 8, 8, 8, 8, 8, 8, 8, 8, 8, 8, 8, 8, 8, 8, 8, 8, 8, 8, 8, 8, 8, 8, 8, 8]).size : Int)) ∧
 R (.int .i64 (IntKind.i64.wrap (s6.2.1 + (IntKind.i64.wrap (byteI (ByteArray.mk #[0, 1, 2, 2, 3, 3, 3, 3, 4, 4, 4, 4, 4, 4, 4, 4, 5, 5, 5, 5, 5, 5, 5, 5, 5, 5, 5, 5, 5, 5, 5, 5, 6, 6, 6, 6, 6, 6, 6, 6, 6, 6, 6, 6, 6, 6, 6, 6, 6, 6, 6, 6, 6, 6, 6, 6, 6, 6, 6, 6, 6, 6, 6, 6, 7, 7, 7, 7, 7, 7, 7, 7, 7, 7, 7, 7, 7, 7, 7, 7, 7, 7, 7, 7, 7, 7, 7, 7, 7, 7, 7, 7, 7, 7, 7, 7, 7, 7, 7, 7, 7, 7, 7, 7, 7, 7, 7, 7, 7, 7, 7, 7, 7, 7, 7, 7, 7, 7, 7, 7, 7, 7, 7, 7, 7, 7, 7, 7, 8, 8, 8, 8, 8, 8, 8, 8, 8, 8, 8, 8, 8, 8, 8, 8, 8, 8, 8, 8, 8, 8, 8, 8, 8, 8, 8, 8, 8, 8, 8, 8, 8, 8, 8, 8, 8, 8, 8, 8, 8, 8, 8, 8, 8, 8, 8, 8, 8, 8, 8, 8, 8, 8, 8, 8, 8, 8, 8, 8, 8, 8, 8, 8, 8, 8, 8, 8, 8, 8, 8, 8, 8, 8, 8, 8, 8, 8, 8, 8, 8, 8, 8, 8, 8, 8, 8, 8, 8, 8, 8, 8, 8, 8, 8, 8, 8, 8, 8, 8, 8, 8, 8, 8, 8, 8, 8, 8, 8, 8, 8, 8, 8, 8, 8, 8, 8, 8, 8, 8, 8, 8, 8, 8, 8, 8, 8, 8]) (IntKind.u8.wrap s6.1)))))) w3)))
theorem math_bits_Len64_calls (p0 : Int) (R : Value → World → Prop) (w : World) (h : L_math_bits_Len64 p0 R w) : Calls Tryz.prog 201 #[(.int .u64 p0)] w (Ret R) :=
 lw_calls (fs := Tryz.fs) (an := a_math_bits_Len64) (args := [(.int .u64 p0)]) Tryz.fsOK Tryz.mixed Tryz.func201 (by kernel_rfl) (by kernel_rfl)
 (Eq.mpr (by kernel_rfl : lwFn Tryz.prog Tryz.fs Tryz.f201 a_math_bits_Len64 [(.int .u64 p0)] w R = L_math_bits_Len64 p0 R w) h)

/-- slices.insertionSortOrdered[uint32] -/
def a_slices_insertionSortOrdered_uint32 : Ann := (.seq none .nil (.one (.loop ⟨[0, 1, 2], [(6, (.b (.int .i64)))]⟩ (.seq none (.seq none .nil (.cond .nil .nil)) (.seq (some ⟨[0, 1, 2, 6], []⟩) (.one (.seq none .nil (.one (.loop ⟨[0, 1, 2, 6], [(7, (.b (.int .i64)))]⟩ (.seq (some ⟨[0, 1, 2, 6, 7], []⟩) (.seq none .nil (.cond .nil .nil)) (.seq none (.one .nil) .nil)))))) .nil)))))
def L_slices_insertionSortOrdered_uint32 (p0 : Sl) (p1 : Int) (p2 : Int) (R : Value → World → Prop) (w : World) : Prop :=
 LoopW (S := Int × Unit) (fun s1 w1 n2 =>
 ifB (decide (s1.1 < p2))
 (JoinW (S := Unit) (fun m3 =>
 LoopW (S := Int × Unit) (fun s5 w2 n6 =>
 JoinW (S := Unit) (fun m7 =>
 ifB (decide (s5.1 > p1))
 ((0 ≤ s5.1 ∧ s5.1 < (p0.l : Int)) ∧
 derefP p0.a fun a9 =>
 ldI w2.drew (a9.add (Int.toNat s5.1)) .u32 fun x10 =>
 (0 ≤ (IntKind.i64.wrap (s5.1 - (1 : Int))) ∧ (IntKind.i64.wrap (s5.1 - (1 : Int))) < (p0.l : Int)) ∧
 derefP p0.a fun a11 =>
 ldI w2.drew (a11.add (Int.toNat (IntKind.i64.wrap (s5.1 - (1 : Int))))) .u32 fun x12 =>
 callR Tryz.prog 214 #[(.int .u32 x10), (.int .u32 x12)] w2.drew fun v13 w3 =>
 ∃ x14 : Bool, v13 = (.bool x14) ∧
 ifB x14
 (m7 (()) w3)
 (m3 (()) w3))
 (m3 (()) w2.drew))
 (fun s8 w4 =>
 (0 ≤ (IntKind.i64.wrap (s5.1 - (1 : Int))) ∧ (IntKind.i64.wrap (s5.1 - (1 : Int))) < (p0.l : Int)) ∧
 derefP p0.a fun a15 =>
 ldI w4.drew (a15.add (Int.toNat (IntKind.i64.wrap (s5.1 - (1 : Int))))) .u32 fun x16 =>
 (0 ≤ s5.1 ∧ s5.1 < (p0.l : Int)) ∧
 derefP p0.a fun a17 =>
 ldI w4.drew (a17.add (Int.toNat s5.1)) .u32 fun x18 =>
 (0 ≤ s5.1 ∧ s5.1 < (p0.l : Int)) ∧
 derefP p0.a fun a19 =>
 Wr w4.drew (a19.add (Int.toNat s5.1)) ∧
 Nw (w4.drew.setCell (a19.add (Int.toNat s5.1)) (.int .u32 x16)) fun w5 =>
 (0 ≤ (IntKind.i64.wrap (s5.1 - (1 : Int))) ∧ (IntKind.i64.wrap (s5.1 - (1 : Int))) < (p0.l : Int)) ∧
 derefP p0.a fun a20 =>
 Wr w5 (a20.add (Int.toNat (IntKind.i64.wrap (s5.1 - (1 : Int))))) ∧
 Nw (w5.setCell (a20.add (Int.toNat (IntKind.i64.wrap (s5.1 - (1 : Int))))) (.int .u32 x18)) fun w6 =>
 n6 ((IntKind.i64.wrap (s5.1 - (1 : Int))), ()) w6))
 (s1.1, ()) w1)
 (fun s4 w7 =>
 n2 ((IntKind.i64.wrap (s1.1 + (1 : Int))), ()) w7))
 (R (.tuple #[]) w1))
 ((IntKind.i64.wrap (p1 + (1 : Int))), ()) w
theorem slices_insertionSortOrdered_uint32_calls (p0 : Sl) (p1 : Int) (p2 : Int) (R : Value → World → Prop) (w : World) (h : L_slices_insertionSortOrdered_uint32 p0 p1 p2 R w) : Calls Tryz.prog 208 #[(.slice p0.a p0.l p0.c), (.int .i64 p1), (.int .i64 p2)] w (Ret R) :=
 lw_calls (fs := Tryz.fs) (an := a_slices_insertionSortOrdered_uint32) (args := [(.slice p0.a p0.l p0.c), (.int .i64 p1), (.int .i64 p2)]) Tryz.fsOK Tryz.mixed Tryz.func208 (by kernel_rfl) (by kernel_rfl)
 (Eq.mpr (by kernel_rfl : lwFn Tryz.prog Tryz.fs Tryz.f208 a_slices_insertionSortOrdered_uint32 [(.slice p0.a p0.l p0.c), (.int .i64 p1), (.int .i64 p2)] w R = L_slices_insertionSortOrdered_uint32 p0 p1 p2 R w) h)

/-- slices.heapSortOrdered[uint32] -/
def a_slices_heapSortOrdered_uint32 : Ann := (.seq none .nil (.seq none .nil (.seq none .nil (.seq none (.seq none .nil (.one (.loop ⟨[0, 6, 7, 8], [(9, (.b (.int .i64)))]⟩ (.seq none (.seq none .nil (.cond .nil .nil)) (.seq none (.one .nil) .nil))))) (.seq none .nil (.one (.loop ⟨[0, 6, 7], [(10, (.b (.int .i64)))]⟩ (.seq none (.seq none .nil (.cond .nil .nil)) (.seq none (.one (.seq none .nil .nil)) .nil)))))))))
def L_slices_heapSortOrdered_uint32 (p0 : Sl) (p1 : Int) (p2 : Int) (R : Value → World → Prop) (w : World) : Prop :=
 LoopW (S := Int × Unit) (fun s1 w1 n2 =>
 ifB (decide (s1.1 ≥ (0 : Int)))
 (callR Tryz.prog 249 #[(.slice p0.a p0.l p0.c), (.int .i64 s1.1), (.int .i64 (IntKind.i64.wrap (p2 - p1))), (.int .i64 p1)] w1 fun v3 w2 =>
 v3 = (.tuple #[]) ∧
 n2 ((IntKind.i64.wrap (s1.1 - (1 : Int))), ()) w2)
 (LoopW (S := Int × Unit) (fun s4 w3 n5 =>
 ifB (decide (s4.1 ≥ (0 : Int)))
 ((0 ≤ (IntKind.i64.wrap (p1 + s4.1)) ∧ (IntKind.i64.wrap (p1 + s4.1)) < (p0.l : Int)) ∧
 derefP p0.a fun a6 =>
 ldI w3.drew (a6.add (Int.toNat (IntKind.i64.wrap (p1 + s4.1)))) .u32 fun x7 =>
 (0 ≤ p1 ∧ p1 < (p0.l : Int)) ∧
 derefP p0.a fun a8 =>
 ldI w3.drew (a8.add (Int.toNat p1)) .u32 fun x9 =>
 (0 ≤ p1 ∧ p1 < (p0.l : Int)) ∧
 derefP p0.a fun a10 =>
 Wr w3.drew (a10.add (Int.toNat p1)) ∧
 Nw (w3.drew.setCell (a10.add (Int.toNat p1)) (.int .u32 x7)) fun w4 =>
 (0 ≤ (IntKind.i64.wrap (p1 + s4.1)) ∧ (IntKind.i64.wrap (p1 + s4.1)) < (p0.l : Int)) ∧
 derefP p0.a fun a11 =>
 Wr w4 (a11.add (Int.toNat (IntKind.i64.wrap (p1 + s4.1)))) ∧
 Nw (w4.setCell (a11.add (Int.toNat (IntKind.i64.wrap (p1 + s4.1)))) (.int .u32 x9)) fun w5 =>
 callR Tryz.prog 249 #[(.slice p0.a p0.l p0.c), (.int .i64 (0 : Int)), (.int .i64 s4.1), (.int .i64 p1)] w5 fun v12 w6 =>
 v12 = (.tuple #[]) ∧
 n5 ((IntKind.i64.wrap (s4.1 - (1 : Int))), ()) w6)
 (R (.tuple #[]) w3))
 ((IntKind.i64.wrap ((IntKind.i64.wrap (p2 - p1)) - (1 : Int))), ()) w1))
 ((IntKind.i64.wrap (Int.tdiv (IntKind.i64.wrap ((IntKind.i64.wrap (p2 - p1)) - (1 : Int))) (2 : Int))), ()) w
theorem slices_heapSortOrdered_uint32_calls (p0 : Sl) (p1 : Int) (p2 : Int) (R : Value → World → Prop) (w : World) (h : L_slices_heapSortOrdered_uint32 p0 p1 p2 R w) : Calls Tryz.prog 209 #[(.slice p0.a p0.l p0.c), (.int .i64 p1), (.int .i64 p2)] w (Ret R) :=
 lw_calls (fs := Tryz.fs) (an := a_slices_heapSortOrdered_uint32) (args := [(.slice p0.a p0.l p0.c), (.int .i64 p1), (.int .i64 p2)]) Tryz.fsOK Tryz.mixed Tryz.func209 (by kernel_rfl) (by kernel_rfl)
 (Eq.mpr (by kernel_rfl : lwFn Tryz.prog Tryz.fs Tryz.f209 a_slices_heapSortOrdered_uint32 [(.slice p0.a p0.l p0.c), (.int .i64 p1), (.int .i64 p2)] w R = L_slices_heapSortOrdered_uint32 p0 p1 p2 R w) h)

/-- slices.breakPatternsOrdered[uint32] -/
def a_slices_breakPatternsOrdered_uint32 : Ann := (.seq none .nil (.seq none .nil (.cond (.seq none .nil (.seq none .nil (.seq none .nil (.one (.loop ⟨[0, 1, 6, 7, 8], [(9, (.b (.int .i64)))]⟩ (.seq none (.seq none .nil (.cond .nil .nil)) (.seq none (.one (.seq none .nil (.seq (some ⟨[0, 1, 6, 7, 8, 9], [(10, (.b (.int .i64)))]⟩) (.seq none .nil (.cond .nil .nil)) .nil))) .nil))))))) .nil)))
def L_slices_breakPatternsOrdered_uint32 (p0 : Sl) (p1 : Int) (p2 : Int) (R : Value → World → Prop) (w : World) : Prop :=
 ifB (decide ((IntKind.i64.wrap (p2 - p1)) ≥ (8 : Int)))
 (Nw (w.alloc (.cells #[(.int .u64 (0 : Int))] 290)) fun w1 =>
 Wr w1 (blk w.heap.size) ∧
 Nw (w1.setCell (blk w.heap.size) (.int .u64 (IntKind.u64.wrap (IntKind.i64.wrap (p2 - p1))))) fun w2 =>
 callR Tryz.prog 240 #[(.int .i64 (IntKind.i64.wrap (p2 - p1)))] w2 fun v1 w3 =>
 ∃ x2 : Int, v1 = (.int .u64 x2) ∧
 LoopW (S := Int × Unit) (fun s3 w4 n4 =>
 ifB (decide (s3.1 ≤ (IntKind.i64.wrap ((IntKind.i64.wrap (p1 + (IntKind.i64.wrap ((IntKind.i64.wrap (Int.tdiv (IntKind.i64.wrap (p2 - p1)) (4 : Int))) * (2 : Int))))) + (1 : Int)))))
 (callR Tryz.prog 241 #[(.pointer (some (blk w.heap.size)))] w4 fun v5 w5 =>
 ∃ x6 : Int, v5 = (.int .u64 x6) ∧
 JoinW (S := Int × Unit) (fun m7 =>
 ifB (decide ((IntKind.i64.wrap (IntKind.u64.wrap (BitVec.toNat (BitVec.ofInt (IntKind.bits .u64) x6 &&& BitVec.ofInt (IntKind.bits .u64) (IntKind.u64.wrap (x2 - (1 : Int)))) : Int))) ≥ (IntKind.i64.wrap (p2 - p1))))
 (m7 ((IntKind.i64.wrap ((IntKind.i64.wrap (IntKind.u64.wrap (BitVec.toNat (BitVec.ofInt (IntKind.bits .u64) x6 &&& BitVec.ofInt (IntKind.bits .u64) (IntKind.u64.wrap (x2 - (1 : Int)))) : Int))) - (IntKind.i64.wrap (p2 - p1)))), ()) w5)
 (m7 ((IntKind.i64.wrap (IntKind.u64.wrap (BitVec.toNat (BitVec.ofInt (IntKind.bits .u64) x6 &&& BitVec.ofInt (IntKind.bits .u64) (IntKind.u64.wrap (x2 - (1 : Int)))) : Int))), ()) w5))
 (fun s8 w6 =>
 (0 ≤ (IntKind.i64.wrap (p1 + s8.1)) ∧ (IntKind.i64.wrap (p1 + s8.1)) < (p0.l : Int)) ∧
 derefP p0.a fun a9 =>
 ldI w6.drew (a9.add (Int.toNat (IntKind.i64.wrap (p1 + s8.1)))) .u32 fun x10 =>
 (0 ≤ s3.1 ∧ s3.1 < (p0.l : Int)) ∧
 derefP p0.a fun a11 =>
 ldI w6.drew (a11.add (Int.toNat s3.1)) .u32 fun x12 =>
 (0 ≤ s3.1 ∧ s3.1 < (p0.l : Int)) ∧
 derefP p0.a fun a13 =>
 Wr w6.drew (a13.add (Int.toNat s3.1)) ∧
 Nw (w6.drew.setCell (a13.add (Int.toNat s3.1)) (.int .u32 x10)) fun w7 =>
 (0 ≤ (IntKind.i64.wrap (p1 + s8.1)) ∧ (IntKind.i64.wrap (p1 + s8.1)) < (p0.l : Int)) ∧
 derefP p0.a fun a14 =>
 Wr w7 (a14.add (Int.toNat (IntKind.i64.wrap (p1 + s8.1)))) ∧
 Nw (w7.setCell (a14.add (Int.toNat (IntKind.i64.wrap (p1 + s8.1)))) (.int .u32 x12)) fun w8 =>
 n4 ((IntKind.i64.wrap (s3.1 + (1 : Int))), ()) w8))
 (R (.tuple #[]) w4))
 ((IntKind.i64.wrap ((IntKind.i64.wrap (p1 + (IntKind.i64.wrap ((IntKind.i64.wrap (Int.tdiv (IntKind.i64.wrap (p2 - p1)) (4 : Int))) * (2 : Int))))) - (1 : Int))), ()) w3)
 (R (.tuple #[]) w)
theorem slices_breakPatternsOrdered_uint32_calls (p0 : Sl) (p1 : Int) (p2 : Int) (R : Value → World → Prop) (w : World) (h : L_slices_breakPatternsOrdered_uint32 p0 p1 p2 R w) : Calls Tryz.prog 210 #[(.slice p0.a p0.l p0.c), (.int .i64 p1), (.int .i64 p2)] w (Ret R) :=
 lw_calls (fs := Tryz.fs) (an := a_slices_breakPatternsOrdered_uint32) (args := [(.slice p0.a p0.l p0.c), (.int .i64 p1), (.int .i64 p2)]) Tryz.fsOK Tryz.mixed Tryz.func210 (by kernel_rfl) (by kernel_rfl)
 (Eq.mpr (by kernel_rfl : lwFn Tryz.prog Tryz.fs Tryz.f210 a_slices_breakPatternsOrdered_uint32 [(.slice p0.a p0.l p0.c), (.int .i64 p1), (.int .i64 p2)] w R = L_slices_breakPatternsOrdered_uint32 p0 p1 p2 R w) h)

/-- slices.choosePivotOrdered[uint32] -/
def a_slices_choosePivotOrdered_uint32 : Ann := (.seq none .nil (.seq none .nil (.seq none .nil (.seq none .nil (.seq none .nil (.seq none .nil (.seq (some ⟨[9], [(11, (.b (.int .i64)))]⟩) (.seq none .nil (.cond (.seq (some ⟨[0, 9], [(10, (.b (.int .i64))), (11, (.b (.int .i64))), (12, (.b (.int .i64)))]⟩) (.seq none .nil (.cond (.seq none .nil (.seq none .nil .nil)) .nil)) .nil) .nil)) (.seq none .nil (.one (.seq none .nil (.cond (.seq none .nil .nil) (.seq none .nil (.cond (.seq none .nil .nil) (.seq none .nil .nil))))))))))))))
def L_slices_choosePivotOrdered_uint32 (p0 : Sl) (p1 : Int) (p2 : Int) (R : Value → World → Prop) (w : World) : Prop :=
 Nw (w.alloc (.cells #[(.int .i64 (0 : Int))] 3)) fun w1 =>
 JoinW (S := Int × Unit) (fun m1 =>
 ifB (decide ((IntKind.i64.wrap (p2 - p1)) ≥ (8 : Int)))
 (JoinW (S := Int × Int × Int × Unit) (fun m3 =>
 ifB (decide ((IntKind.i64.wrap (p2 - p1)) ≥ (50 : Int)))
 (callR Tryz.prog 250 #[(.slice p0.a p0.l p0.c), (.int .i64 (IntKind.i64.wrap (p1 + (IntKind.i64.wrap ((IntKind.i64.wrap (Int.tdiv (IntKind.i64.wrap (p2 - p1)) (4 : Int))) * (1 : Int)))))), (.pointer (some (blk w.heap.size)))] w1 fun v5 w2 =>
 ∃ x6 : Int, v5 = (.int .i64 x6) ∧
 callR Tryz.prog 250 #[(.slice p0.a p0.l p0.c), (.int .i64 (IntKind.i64.wrap (p1 + (IntKind.i64.wrap ((IntKind.i64.wrap (Int.tdiv (IntKind.i64.wrap (p2 - p1)) (4 : Int))) * (2 : Int)))))), (.pointer (some (blk w.heap.size)))] w2 fun v7 w3 =>
 ∃ x8 : Int, v7 = (.int .i64 x8) ∧
 callR Tryz.prog 250 #[(.slice p0.a p0.l p0.c), (.int .i64 (IntKind.i64.wrap (p1 + (IntKind.i64.wrap ((IntKind.i64.wrap (Int.tdiv (IntKind.i64.wrap (p2 - p1)) (4 : Int))) * (3 : Int)))))), (.pointer (some (blk w.heap.size)))] w3 fun v9 w4 =>
 ∃ x10 : Int, v9 = (.int .i64 x10) ∧
 m3 (x6, x8, x10, ()) w4)
 (m3 ((IntKind.i64.wrap (p1 + (IntKind.i64.wrap ((IntKind.i64.wrap (Int.tdiv (IntKind.i64.wrap (p2 - p1)) (4 : Int))) * (1 : Int))))), (IntKind.i64.wrap (p1 + (IntKind.i64.wrap ((IntKind.i64.wrap (Int.tdiv (IntKind.i64.wrap (p2 - p1)) (4 : Int))) * (2 : Int))))), (IntKind.i64.wrap (p1 + (IntKind.i64.wrap ((IntKind.i64.wrap (Int.tdiv (IntKind.i64.wrap (p2 - p1)) (4 : Int))) * (3 : Int))))), ()) w1))
 (fun s4 w5 =>
 callR Tryz.prog 251 #[(.slice p0.a p0.l p0.c), (.int .i64 s4.1), (.int .i64 s4.2.1), (.int .i64 s4.2.2.1), (.pointer (some (blk w.heap.size)))] w5 fun v11 w6 =>
 ∃ x12 : Int, v11 = (.int .i64 x12) ∧
 m1 (x12, ()) w6))
 (m1 ((IntKind.i64.wrap (p1 + (IntKind.i64.wrap ((IntKind.i64.wrap (Int.tdiv (IntKind.i64.wrap (p2 - p1)) (4 : Int))) * (2 : Int))))), ()) w1))
 (fun s2 w7 =>
 ldI w7 (blk w.heap.size) .i64 fun x13 =>
 ifB (x13 == (0 : Int))
 (R (.tuple #[(.int .i64 s2.1), (.int .i64 (1 : Int))]) w7)
 (ifB (x13 == (12 : Int))
 (R (.tuple #[(.int .i64 s2.1), (.int .i64 (2 : Int))]) w7)
 (R (.tuple #[(.int .i64 s2.1), (.int .i64 (0 : Int))]) w7)))
theorem slices_choosePivotOrdered_uint32_calls (p0 : Sl) (p1 : Int) (p2 : Int) (R : Value → World → Prop) (w : World) (h : L_slices_choosePivotOrdered_uint32 p0 p1 p2 R w) : Calls Tryz.prog 211 #[(.slice p0.a p0.l p0.c), (.int .i64 p1), (.int .i64 p2)] w (Ret R) :=
 lw_calls (fs := Tryz.fs) (an := a_slices_choosePivotOrdered_uint32) (args := [(.slice p0.a p0.l p0.c), (.int .i64 p1), (.int .i64 p2)]) Tryz.fsOK Tryz.mixed Tryz.func211 (by kernel_rfl) (by kernel_rfl)
 (Eq.mpr (by kernel_rfl : lwFn Tryz.prog Tryz.fs Tryz.f211 a_slices_choosePivotOrdered_uint32 [(.slice p0.a p0.l p0.c), (.int .i64 p1), (.int .i64 p2)] w R = L_slices_choosePivotOrdered_uint32 p0 p1 p2 R w) h)

/-- slices.reverseRangeOrdered[uint32] -/
def a_slices_reverseRangeOrdered_uint32 : Ann := (.seq none .nil (.seq none .nil (.one (.loop ⟨[0], [(6, (.b (.int .i64))), (7, (.b (.int .i64)))]⟩ (.seq none (.seq none .nil (.cond .nil .nil)) (.one (.seq none .nil (.seq none .nil .nil))))))))
def L_slices_reverseRangeOrdered_uint32 (p0 : Sl) (p1 : Int) (p2 : Int) (R : Value → World → Prop) (w : World) : Prop :=
 LoopW (S := Int × Int × Unit) (fun s1 w1 n2 =>
 ifB (decide (s1.1 < s1.2.1))
 ((0 ≤ s1.2.1 ∧ s1.2.1 < (p0.l : Int)) ∧
 derefP p0.a fun a3 =>
 ldI w1.drew (a3.add (Int.toNat s1.2.1)) .u32 fun x4 =>
 (0 ≤ s1.1 ∧ s1.1 < (p0.l : Int)) ∧
 derefP p0.a fun a5 =>
 ldI w1.drew (a5.add (Int.toNat s1.1)) .u32 fun x6 =>
 (0 ≤ s1.1 ∧ s1.1 < (p0.l : Int)) ∧
 derefP p0.a fun a7 =>
 Wr w1.drew (a7.add (Int.toNat s1.1)) ∧
 Nw (w1.drew.setCell (a7.add (Int.toNat s1.1)) (.int .u32 x4)) fun w2 =>
 (0 ≤ s1.2.1 ∧ s1.2.1 < (p0.l : Int)) ∧
 derefP p0.a fun a8 =>
 Wr w2 (a8.add (Int.toNat s1.2.1)) ∧
 Nw (w2.setCell (a8.add (Int.toNat s1.2.1)) (.int .u32 x6)) fun w3 =>
 n2 ((IntKind.i64.wrap (s1.1 + (1 : Int))), (IntKind.i64.wrap (s1.2.1 - (1 : Int))), ()) w3)
 (R (.tuple #[]) w1))
 (p1, (IntKind.i64.wrap (p2 - (1 : Int))), ()) w
theorem slices_reverseRangeOrdered_uint32_calls (p0 : Sl) (p1 : Int) (p2 : Int) (R : Value → World → Prop) (w : World) (h : L_slices_reverseRangeOrdered_uint32 p0 p1 p2 R w) : Calls Tryz.prog 212 #[(.slice p0.a p0.l p0.c), (.int .i64 p1), (.int .i64 p2)] w (Ret R) :=
 lw_calls (fs := Tryz.fs) (an := a_slices_reverseRangeOrdered_uint32) (args := [(.slice p0.a p0.l p0.c), (.int .i64 p1), (.int .i64 p2)]) Tryz.fsOK Tryz.mixed Tryz.func212 (by kernel_rfl) (by kernel_rfl)
 (Eq.mpr (by kernel_rfl : lwFn Tryz.prog Tryz.fs Tryz.f212 a_slices_reverseRangeOrdered_uint32 [(.slice p0.a p0.l p0.c), (.int .i64 p1), (.int .i64 p2)] w R = L_slices_reverseRangeOrdered_uint32 p0 p1 p2 R w) h)

/-- slices.partialInsertionSortOrdered[uint32] -/
def a_slices_partialInsertionSortOrdered_uint32 : Ann := (.seq none .nil (.seq none .nil (.seq none (.seq none .nil (.one (.loop ⟨[0, 1, 2], [(7, (.b (.int .i64))), (8, (.b (.int .i64)))]⟩ (.seq none (.seq none .nil (.cond .nil .nil)) (.seq (some ⟨[0, 1, 2, 8], [(7, (.b (.int .i64)))]⟩) (.one (.seq (some ⟨[0, 1, 2, 8], [(7, (.b (.int .i64)))]⟩) (.one (.loop ⟨[0, 1, 2, 8], [(7, (.b (.int .i64)))]⟩ (.seq (some ⟨[0, 1, 2, 7, 8], []⟩) (.seq none .nil (.cond .nil .nil)) (.one .nil)))) (.seq none (.seq none .nil (.cond (.seq none .nil .nil) .nil)) (.seq none (.seq none .nil (.cond (.seq none .nil .nil) .nil)) (.seq none .nil (.seq (some ⟨[0, 1, 2, 7, 8], []⟩) (.seq none .nil (.cond (.seq none .nil (.one (.loop ⟨[0, 1, 2, 7, 8], [(9, (.b (.int .i64)))]⟩ (.seq none (.seq none .nil (.cond .nil .nil)) (.seq none (.one (.seq none (.seq none .nil (.cond .nil .nil)) .nil)) .nil))))) .nil)) (.seq none .nil (.cond (.seq none .nil (.one (.loop ⟨[0, 1, 2, 7, 8], [(10, (.b (.int .i64)))]⟩ (.seq none (.seq none .nil (.cond .nil .nil)) (.seq none (.one (.seq none (.seq none .nil (.cond .nil .nil)) .nil)) .nil))))) .nil)))))))) .nil))))) (.seq none .nil .nil))))
def L_slices_partialInsertionSortOrdered_uint32 (p0 : Sl) (p1 : Int) (p2 : Int) (R : Value → World → Prop) (w : World) : Prop :=
 LoopW (S := Int × Int × Unit) (fun s1 w1 n2 =>
 ifB (decide (s1.2.1 < (5 : Int)))
 (JoinW (S := Int × Unit) (fun m3 =>
 JoinW (S := Int × Unit) (fun m5 =>
 LoopW (S := Int × Unit) (fun s7 w2 n8 =>
 JoinW (S := Unit) (fun m9 =>
 ifB (decide (s7.1 < p2))
 ((0 ≤ s7.1 ∧ s7.1 < (p0.l : Int)) ∧
 derefP p0.a fun a11 =>
 ldI w2.drew (a11.add (Int.toNat s7.1)) .u32 fun x12 =>
 (0 ≤ (IntKind.i64.wrap (s7.1 - (1 : Int))) ∧ (IntKind.i64.wrap (s7.1 - (1 : Int))) < (p0.l : Int)) ∧
 derefP p0.a fun a13 =>
 ldI w2.drew (a13.add (Int.toNat (IntKind.i64.wrap (s7.1 - (1 : Int))))) .u32 fun x14 =>
 callR Tryz.prog 214 #[(.int .u32 x12), (.int .u32 x14)] w2.drew fun v15 w3 =>
 ∃ x16 : Bool, v15 = (.bool x16) ∧
 ifB (!x16)
 (m9 (()) w3)
 (m5 (s7.1, ()) w3))
 (m5 (s7.1, ()) w2.drew))
 (fun s10 w4 =>
 n8 ((IntKind.i64.wrap (s7.1 + (1 : Int))), ()) w4))
 (s1.1, ()) w1)
 (fun s6 w5 =>
 ifB (s6.1 == p2)
 (R (.bool true) w5)
 (ifB (decide ((IntKind.i64.wrap (p2 - p1)) < (50 : Int)))
 (R (.bool false) w5)
 ((0 ≤ (IntKind.i64.wrap (s6.1 - (1 : Int))) ∧ (IntKind.i64.wrap (s6.1 - (1 : Int))) < (p0.l : Int)) ∧
 derefP p0.a fun a17 =>
 ldI w5.drew (a17.add (Int.toNat (IntKind.i64.wrap (s6.1 - (1 : Int))))) .u32 fun x18 =>
 (0 ≤ s6.1 ∧ s6.1 < (p0.l : Int)) ∧
 derefP p0.a fun a19 =>
 ldI w5.drew (a19.add (Int.toNat s6.1)) .u32 fun x20 =>
 (0 ≤ s6.1 ∧ s6.1 < (p0.l : Int)) ∧
 derefP p0.a fun a21 =>
 Wr w5.drew (a21.add (Int.toNat s6.1)) ∧
 Nw (w5.drew.setCell (a21.add (Int.toNat s6.1)) (.int .u32 x18)) fun w6 =>
 (0 ≤ (IntKind.i64.wrap (s6.1 - (1 : Int))) ∧ (IntKind.i64.wrap (s6.1 - (1 : Int))) < (p0.l : Int)) ∧
 derefP p0.a fun a22 =>
 Wr w6 (a22.add (Int.toNat (IntKind.i64.wrap (s6.1 - (1 : Int))))) ∧
 Nw (w6.setCell (a22.add (Int.toNat (IntKind.i64.wrap (s6.1 - (1 : Int))))) (.int .u32 x20)) fun w7 =>
 JoinW (S := Unit) (fun m23 =>
 ifB (decide ((IntKind.i64.wrap (s6.1 - p1)) ≥ (2 : Int)))
 (LoopW (S := Int × Unit) (fun s25 w8 n26 =>
 ifB (decide (s25.1 ≥ (1 : Int)))
 ((0 ≤ s25.1 ∧ s25.1 < (p0.l : Int)) ∧
 derefP p0.a fun a27 =>
 ldI w8.drew (a27.add (Int.toNat s25.1)) .u32 fun x28 =>
 (0 ≤ (IntKind.i64.wrap (s25.1 - (1 : Int))) ∧ (IntKind.i64.wrap (s25.1 - (1 : Int))) < (p0.l : Int)) ∧
 derefP p0.a fun a29 =>
 ldI w8.drew (a29.add (Int.toNat (IntKind.i64.wrap (s25.1 - (1 : Int))))) .u32 fun x30 =>
 callR Tryz.prog 214 #[(.int .u32 x28), (.int .u32 x30)] w8.drew fun v31 w9 =>
 ∃ x32 : Bool, v31 = (.bool x32) ∧
 ifB (!x32)
 (m23 (()) w9)
 ((0 ≤ (IntKind.i64.wrap (s25.1 - (1 : Int))) ∧ (IntKind.i64.wrap (s25.1 - (1 : Int))) < (p0.l : Int)) ∧
 derefP p0.a fun a33 =>
 ldI w9.drew (a33.add (Int.toNat (IntKind.i64.wrap (s25.1 - (1 : Int))))) .u32 fun x34 =>
 (0 ≤ s25.1 ∧ s25.1 < (p0.l : Int)) ∧
 derefP p0.a fun a35 =>
 ldI w9.drew (a35.add (Int.toNat s25.1)) .u32 fun x36 =>
 (0 ≤ s25.1 ∧ s25.1 < (p0.l : Int)) ∧
 derefP p0.a fun a37 =>
 Wr w9.drew (a37.add (Int.toNat s25.1)) ∧
 Nw (w9.drew.setCell (a37.add (Int.toNat s25.1)) (.int .u32 x34)) fun w10 =>
 (0 ≤ (IntKind.i64.wrap (s25.1 - (1 : Int))) ∧ (IntKind.i64.wrap (s25.1 - (1 : Int))) < (p0.l : Int)) ∧
 derefP p0.a fun a38 =>
 Wr w10 (a38.add (Int.toNat (IntKind.i64.wrap (s25.1 - (1 : Int))))) ∧
 Nw (w10.setCell (a38.add (Int.toNat (IntKind.i64.wrap (s25.1 - (1 : Int))))) (.int .u32 x36)) fun w11 =>
 n26 ((IntKind.i64.wrap (s25.1 - (1 : Int))), ()) w11))
 (m23 (()) w8))
 ((IntKind.i64.wrap (s6.1 - (1 : Int))), ()) w7)
 (m23 (()) w7))
 (fun s24 w12 =>
 ifB (decide ((IntKind.i64.wrap (p2 - s6.1)) ≥ (2 : Int)))
 (LoopW (S := Int × Unit) (fun s39 w13 n40 =>
 ifB (decide (s39.1 < p2))
 ((0 ≤ s39.1 ∧ s39.1 < (p0.l : Int)) ∧
 derefP p0.a fun a41 =>
 ldI w13.drew (a41.add (Int.toNat s39.1)) .u32 fun x42 =>
 (0 ≤ (IntKind.i64.wrap (s39.1 - (1 : Int))) ∧ (IntKind.i64.wrap (s39.1 - (1 : Int))) < (p0.l : Int)) ∧
 derefP p0.a fun a43 =>
 ldI w13.drew (a43.add (Int.toNat (IntKind.i64.wrap (s39.1 - (1 : Int))))) .u32 fun x44 =>
 callR Tryz.prog 214 #[(.int .u32 x42), (.int .u32 x44)] w13.drew fun v45 w14 =>
 ∃ x46 : Bool, v45 = (.bool x46) ∧
 ifB (!x46)
 (m3 (s6.1, ()) w14)
 ((0 ≤ (IntKind.i64.wrap (s39.1 - (1 : Int))) ∧ (IntKind.i64.wrap (s39.1 - (1 : Int))) < (p0.l : Int)) ∧
 derefP p0.a fun a47 =>
 ldI w14.drew (a47.add (Int.toNat (IntKind.i64.wrap (s39.1 - (1 : Int))))) .u32 fun x48 =>
 (0 ≤ s39.1 ∧ s39.1 < (p0.l : Int)) ∧
 derefP p0.a fun a49 =>
 ldI w14.drew (a49.add (Int.toNat s39.1)) .u32 fun x50 =>
 (0 ≤ s39.1 ∧ s39.1 < (p0.l : Int)) ∧
 derefP p0.a fun a51 =>
 Wr w14.drew (a51.add (Int.toNat s39.1)) ∧
 Nw (w14.drew.setCell (a51.add (Int.toNat s39.1)) (.int .u32 x48)) fun w15 =>
 (0 ≤ (IntKind.i64.wrap (s39.1 - (1 : Int))) ∧ (IntKind.i64.wrap (s39.1 - (1 : Int))) < (p0.l : Int)) ∧
 derefP p0.a fun a52 =>
 Wr w15 (a52.add (Int.toNat (IntKind.i64.wrap (s39.1 - (1 : Int))))) ∧
 Nw (w15.setCell (a52.add (Int.toNat (IntKind.i64.wrap (s39.1 - (1 : Int))))) (.int .u32 x50)) fun w16 =>
 n40 ((IntKind.i64.wrap (s39.1 + (1 : Int))), ()) w16))
 (m3 (s6.1, ()) w13))
 ((IntKind.i64.wrap (s6.1 + (1 : Int))), ()) w12)
 (m3 (s6.1, ()) w12))))))
 (fun s4 w17 =>
 n2 (s4.1, (IntKind.i64.wrap (s1.2.1 + (1 : Int))), ()) w17))
 (R (.bool false) w1))
 ((IntKind.i64.wrap (p1 + (1 : Int))), (0 : Int), ()) w
theorem slices_partialInsertionSortOrdered_uint32_calls (p0 : Sl) (p1 : Int) (p2 : Int) (R : Value → World → Prop) (w : World) (h : L_slices_partialInsertionSortOrdered_uint32 p0 p1 p2 R w) : Calls Tryz.prog 213 #[(.slice p0.a p0.l p0.c), (.int .i64 p1), (.int .i64 p2)] w (Ret R) :=
 lw_calls (fs := Tryz.fs) (an := a_slices_partialInsertionSortOrdered_uint32) (args := [(.slice p0.a p0.l p0.c), (.int .i64 p1), (.int .i64 p2)]) Tryz.fsOK Tryz.mixed Tryz.func213 (by kernel_rfl) (by kernel_rfl)
 (Eq.mpr (by kernel_rfl : lwFn Tryz.prog Tryz.fs Tryz.f213 a_slices_partialInsertionSortOrdered_uint32 [(.slice p0.a p0.l p0.c), (.int .i64 p1), (.int .i64 p2)] w R = L_slices_partialInsertionSortOrdered_uint32 p0 p1 p2 R w) h)

/-- cmp.Less[uint32] -/
def a_cmp_Less_uint32 : Ann := (.seq none .nil (.seq none .nil .nil))
def L_cmp_Less_uint32 (p0 : Int) (p1 : Int) (R : Value → World → Prop) (w : World) : Prop :=
 callR Tryz.prog 252 #[(.int .u32 p0)] w fun v1 w1 =>
 ∃ x2 : Bool, v1 = (.bool x2) ∧
 ifB x2
 (callR Tryz.prog 252 #[(.int .u32 p1)] w1 fun v3 w2 =>
 ∃ x4 : Bool, v3 = (.bool x4) ∧
 ifB (!x4)
 (R (.bool true) w2)
 (R (.bool (decide (p0 < p1))) w2))
 (R (.bool (decide (p0 < p1))) w1)
theorem cmp_Less_uint32_calls (p0 : Int) (p1 : Int) (R : Value → World → Prop) (w : World) (h : L_cmp_Less_uint32 p0 p1 R w) : Calls Tryz.prog 214 #[(.int .u32 p0), (.int .u32 p1)] w (Ret R) :=
 lw_calls (fs := Tryz.fs) (an := a_cmp_Less_uint32) (args := [(.int .u32 p0), (.int .u32 p1)]) Tryz.fsOK Tryz.mixed Tryz.func214 (by kernel_rfl) (by kernel_rfl)
 (Eq.mpr (by kernel_rfl : lwFn Tryz.prog Tryz.fs Tryz.f214 a_cmp_Less_uint32 [(.int .u32 p0), (.int .u32 p1)] w R = L_cmp_Less_uint32 p0 p1 R w) h)

/-- slices.partitionEqualOrdered[uint32] -/
def a_slices_partitionEqualOrdered_uint32 : Ann := (.seq none .nil (.seq none .nil (.seq none .nil (.seq none (.one (.loop ⟨[0, 1], [(9, (.b (.int .i64))), (10, (.b (.int .i64)))]⟩ (.one (.seq (some ⟨[0, 1, 10], [(9, (.b (.int .i64)))]⟩) (.one (.loop ⟨[0, 1, 10], [(9, (.b (.int .i64)))]⟩ (.seq (some ⟨[0, 1, 9, 10], []⟩) (.seq none .nil (.cond .nil .nil)) (.one .nil)))) (.seq (some ⟨[0, 1, 9], [(10, (.b (.int .i64)))]⟩) (.one (.loop ⟨[0, 1, 9], [(10, (.b (.int .i64)))]⟩ (.seq (some ⟨[0, 1, 9, 10], []⟩) (.seq none .nil (.cond .nil .nil)) (.one .nil)))) (.seq none (.seq none .nil (.cond .nil .nil)) (.seq none .nil (.seq none .nil .nil)))))))) (.seq none .nil .nil)))))
def L_slices_partitionEqualOrdered_uint32 (p0 : Sl) (p1 : Int) (p2 : Int) (p3 : Int) (R : Value → World → Prop) (w : World) : Prop :=
 (0 ≤ p3 ∧ p3 < (p0.l : Int)) ∧
 derefP p0.a fun a1 =>
 ldI w.drew (a1.add (Int.toNat p3)) .u32 fun x2 =>
 (0 ≤ p1 ∧ p1 < (p0.l : Int)) ∧
 derefP p0.a fun a3 =>
 ldI w.drew (a3.add (Int.toNat p1)) .u32 fun x4 =>
 (0 ≤ p1 ∧ p1 < (p0.l : Int)) ∧
 derefP p0.a fun a5 =>
 Wr w.drew (a5.add (Int.toNat p1)) ∧
 Nw (w.drew.setCell (a5.add (Int.toNat p1)) (.int .u32 x2)) fun w1 =>
 (0 ≤ p3 ∧ p3 < (p0.l : Int)) ∧
 derefP p0.a fun a6 =>
 Wr w1 (a6.add (Int.toNat p3)) ∧
 Nw (w1.setCell (a6.add (Int.toNat p3)) (.int .u32 x4)) fun w2 =>
 LoopW (S := Int × Int × Unit) (fun s7 w3 n8 =>
 JoinW (S := Int × Unit) (fun m9 =>
 LoopW (S := Int × Unit) (fun s11 w4 n12 =>
 JoinW (S := Unit) (fun m13 =>
 ifB (decide (s11.1 ≤ s7.2.1))
 ((0 ≤ p1 ∧ p1 < (p0.l : Int)) ∧
 derefP p0.a fun a15 =>
 ldI w4.drew (a15.add (Int.toNat p1)) .u32 fun x16 =>
 (0 ≤ s11.1 ∧ s11.1 < (p0.l : Int)) ∧
 derefP p0.a fun a17 =>
 ldI w4.drew (a17.add (Int.toNat s11.1)) .u32 fun x18 =>
 callR Tryz.prog 214 #[(.int .u32 x16), (.int .u32 x18)] w4.drew fun v19 w5 =>
 ∃ x20 : Bool, v19 = (.bool x20) ∧
 ifB (!x20)
 (m13 (()) w5)
 (m9 (s11.1, ()) w5))
 (m9 (s11.1, ()) w4.drew))
 (fun s14 w6 =>
 n12 ((IntKind.i64.wrap (s11.1 + (1 : Int))), ()) w6))
 (s7.1, ()) w3)
 (fun s10 w7 =>
 JoinW (S := Int × Unit) (fun m21 =>
 LoopW (S := Int × Unit) (fun s23 w8 n24 =>
 JoinW (S := Unit) (fun m25 =>
 ifB (decide (s10.1 ≤ s23.1))
 ((0 ≤ p1 ∧ p1 < (p0.l : Int)) ∧
 derefP p0.a fun a27 =>
 ldI w8.drew (a27.add (Int.toNat p1)) .u32 fun x28 =>
 (0 ≤ s23.1 ∧ s23.1 < (p0.l : Int)) ∧
 derefP p0.a fun a29 =>
 ldI w8.drew (a29.add (Int.toNat s23.1)) .u32 fun x30 =>
 callR Tryz.prog 214 #[(.int .u32 x28), (.int .u32 x30)] w8.drew fun v31 w9 =>
 ∃ x32 : Bool, v31 = (.bool x32) ∧
 ifB x32
 (m25 (()) w9)
 (m21 (s23.1, ()) w9))
 (m21 (s23.1, ()) w8.drew))
 (fun s26 w10 =>
 n24 ((IntKind.i64.wrap (s23.1 - (1 : Int))), ()) w10))
 (s7.2.1, ()) w7)
 (fun s22 w11 =>
 ifB (decide (s10.1 > s22.1))
 (R (.int .i64 s10.1) w11)
 ((0 ≤ s22.1 ∧ s22.1 < (p0.l : Int)) ∧
 derefP p0.a fun a33 =>
 ldI w11.drew (a33.add (Int.toNat s22.1)) .u32 fun x34 =>
 (0 ≤ s10.1 ∧ s10.1 < (p0.l : Int)) ∧
 derefP p0.a fun a35 =>
 ldI w11.drew (a35.add (Int.toNat s10.1)) .u32 fun x36 =>
 (0 ≤ s10.1 ∧ s10.1 < (p0.l : Int)) ∧
 derefP p0.a fun a37 =>
 Wr w11.drew (a37.add (Int.toNat s10.1)) ∧
 Nw (w11.drew.setCell (a37.add (Int.toNat s10.1)) (.int .u32 x34)) fun w12 =>
 (0 ≤ s22.1 ∧ s22.1 < (p0.l : Int)) ∧
 derefP p0.a fun a38 =>
 Wr w12 (a38.add (Int.toNat s22.1)) ∧
 Nw (w12.setCell (a38.add (Int.toNat s22.1)) (.int .u32 x36)) fun w13 =>
 n8 ((IntKind.i64.wrap (s10.1 + (1 : Int))), (IntKind.i64.wrap (s22.1 - (1 : Int))), ()) w13))))
 ((IntKind.i64.wrap (p1 + (1 : Int))), (IntKind.i64.wrap (p2 - (1 : Int))), ()) w2
theorem slices_partitionEqualOrdered_uint32_calls (p0 : Sl) (p1 : Int) (p2 : Int) (p3 : Int) (R : Value → World → Prop) (w : World) (h : L_slices_partitionEqualOrdered_uint32 p0 p1 p2 p3 R w) : Calls Tryz.prog 215 #[(.slice p0.a p0.l p0.c), (.int .i64 p1), (.int .i64 p2), (.int .i64 p3)] w (Ret R) :=
 lw_calls (fs := Tryz.fs) (an := a_slices_partitionEqualOrdered_uint32) (args := [(.slice p0.a p0.l p0.c), (.int .i64 p1), (.int .i64 p2), (.int .i64 p3)]) Tryz.fsOK Tryz.mixed Tryz.func215 (by kernel_rfl) (by kernel_rfl)
 (Eq.mpr (by kernel_rfl : lwFn Tryz.prog Tryz.fs Tryz.f215 a_slices_partitionEqualOrdered_uint32 [(.slice p0.a p0.l p0.c), (.int .i64 p1), (.int .i64 p2), (.int .i64 p3)] w R = L_slices_partitionEqualOrdered_uint32 p0 p1 p2 p3 R w) h)

/-- slices.partitionOrdered[uint32] -/
def a_slices_partitionOrdered_uint32 : Ann := (.seq none .nil (.seq none .nil (.seq none .nil (.seq (some ⟨[0, 1, 11], [(10, (.b (.int .i64)))]⟩) (.one (.loop ⟨[0, 1, 11], [(10, (.b (.int .i64)))]⟩ (.seq (some ⟨[0, 1, 10, 11], []⟩) (.seq none .nil (.cond .nil .nil)) (.one .nil)))) (.seq (some ⟨[0, 1, 10], [(11, (.b (.int .i64)))]⟩) (.one (.loop ⟨[0, 1, 10], [(11, (.b (.int .i64)))]⟩ (.seq (some ⟨[0, 1, 10, 11], []⟩) (.seq none .nil (.cond .nil .nil)) (.one .nil)))) (.seq none (.seq none .nil (.cond (.seq none .nil (.seq none .nil .nil)) .nil)) (.seq none .nil (.seq none .nil (.seq none .nil (.seq none (.one (.loop ⟨[0, 1], [(10, (.b (.int .i64))), (11, (.b (.int .i64)))]⟩ (.one (.seq (some ⟨[0, 1, 11], [(10, (.b (.int .i64)))]⟩) (.one (.loop ⟨[0, 1, 11], [(10, (.b (.int .i64)))]⟩ (.seq (some ⟨[0, 1, 10, 11], []⟩) (.seq none .nil (.cond .nil .nil)) (.one .nil)))) (.seq (some ⟨[0, 1, 10], [(11, (.b (.int .i64)))]⟩) (.one (.loop ⟨[0, 1, 10], [(11, (.b (.int .i64)))]⟩ (.seq (some ⟨[0, 1, 10, 11], []⟩) (.seq none .nil (.cond .nil .nil)) (.one .nil)))) (.seq none (.seq none .nil (.cond .nil .nil)) (.seq none .nil (.seq none .nil .nil)))))))) (.seq none .nil (.seq none .nil .nil))))))))))))
def L_slices_partitionOrdered_uint32 (p0 : Sl) (p1 : Int) (p2 : Int) (p3 : Int) (R : Value → World → Prop) (w : World) : Prop :=
 (0 ≤ p3 ∧ p3 < (p0.l : Int)) ∧
 derefP p0.a fun a1 =>
 ldI w.drew (a1.add (Int.toNat p3)) .u32 fun x2 =>
 (0 ≤ p1 ∧ p1 < (p0.l : Int)) ∧
 derefP p0.a fun a3 =>
 ldI w.drew (a3.add (Int.toNat p1)) .u32 fun x4 =>
 (0 ≤ p1 ∧ p1 < (p0.l : Int)) ∧
 derefP p0.a fun a5 =>
 Wr w.drew (a5.add (Int.toNat p1)) ∧
 Nw (w.drew.setCell (a5.add (Int.toNat p1)) (.int .u32 x2)) fun w1 =>
 (0 ≤ p3 ∧ p3 < (p0.l : Int)) ∧
 derefP p0.a fun a6 =>
 Wr w1 (a6.add (Int.toNat p3)) ∧
 Nw (w1.setCell (a6.add (Int.toNat p3)) (.int .u32 x4)) fun w2 =>
 JoinW (S := Int × Unit) (fun m7 =>
 LoopW (S := Int × Unit) (fun s9 w3 n10 =>
 JoinW (S := Unit) (fun m11 =>
 ifB (decide (s9.1 ≤ (IntKind.i64.wrap (p2 - (1 : Int)))))
 ((0 ≤ s9.1 ∧ s9.1 < (p0.l : Int)) ∧
 derefP p0.a fun a13 =>
 ldI w3.drew (a13.add (Int.toNat s9.1)) .u32 fun x14 =>
 (0 ≤ p1 ∧ p1 < (p0.l : Int)) ∧
 derefP p0.a fun a15 =>
 ldI w3.drew (a15.add (Int.toNat p1)) .u32 fun x16 =>
 callR Tryz.prog 214 #[(.int .u32 x14), (.int .u32 x16)] w3.drew fun v17 w4 =>
 ∃ x18 : Bool, v17 = (.bool x18) ∧
 ifB x18
 (m11 (()) w4)
 (m7 (s9.1, ()) w4))
 (m7 (s9.1, ()) w3.drew))
 (fun s12 w5 =>
 n10 ((IntKind.i64.wrap (s9.1 + (1 : Int))), ()) w5))
 ((IntKind.i64.wrap (p1 + (1 : Int))), ()) w2)
 (fun s8 w6 =>
 JoinW (S := Int × Unit) (fun m19 =>
 LoopW (S := Int × Unit) (fun s21 w7 n22 =>
 JoinW (S := Unit) (fun m23 =>
 ifB (decide (s8.1 ≤ s21.1))
 ((0 ≤ s21.1 ∧ s21.1 < (p0.l : Int)) ∧
 derefP p0.a fun a25 =>
 ldI w7.drew (a25.add (Int.toNat s21.1)) .u32 fun x26 =>
 (0 ≤ p1 ∧ p1 < (p0.l : Int)) ∧
 derefP p0.a fun a27 =>
 ldI w7.drew (a27.add (Int.toNat p1)) .u32 fun x28 =>
 callR Tryz.prog 214 #[(.int .u32 x26), (.int .u32 x28)] w7.drew fun v29 w8 =>
 ∃ x30 : Bool, v29 = (.bool x30) ∧
 ifB (!x30)
 (m23 (()) w8)
 (m19 (s21.1, ()) w8))
 (m19 (s21.1, ()) w7.drew))
 (fun s24 w9 =>
 n22 ((IntKind.i64.wrap (s21.1 - (1 : Int))), ()) w9))
 ((IntKind.i64.wrap (p2 - (1 : Int))), ()) w6)
 (fun s20 w10 =>
 ifB (decide (s8.1 > s20.1))
 ((0 ≤ p1 ∧ p1 < (p0.l : Int)) ∧
 derefP p0.a fun a31 =>
 ldI w10.drew (a31.add (Int.toNat p1)) .u32 fun x32 =>
 (0 ≤ s20.1 ∧ s20.1 < (p0.l : Int)) ∧
 derefP p0.a fun a33 =>
 ldI w10.drew (a33.add (Int.toNat s20.1)) .u32 fun x34 =>
 (0 ≤ s20.1 ∧ s20.1 < (p0.l : Int)) ∧
 derefP p0.a fun a35 =>
 Wr w10.drew (a35.add (Int.toNat s20.1)) ∧
 Nw (w10.drew.setCell (a35.add (Int.toNat s20.1)) (.int .u32 x32)) fun w11 =>
 (0 ≤ p1 ∧ p1 < (p0.l : Int)) ∧
 derefP p0.a fun a36 =>
 Wr w11 (a36.add (Int.toNat p1)) ∧
 Nw (w11.setCell (a36.add (Int.toNat p1)) (.int .u32 x34)) fun w12 =>
 R (.tuple #[(.int .i64 s20.1), (.bool true)]) w12)
 ((0 ≤ s20.1 ∧ s20.1 < (p0.l : Int)) ∧
 derefP p0.a fun a37 =>
 ldI w10.drew (a37.add (Int.toNat s20.1)) .u32 fun x38 =>
 (0 ≤ s8.1 ∧ s8.1 < (p0.l : Int)) ∧
 derefP p0.a fun a39 =>
 ldI w10.drew (a39.add (Int.toNat s8.1)) .u32 fun x40 =>
 (0 ≤ s8.1 ∧ s8.1 < (p0.l : Int)) ∧
 derefP p0.a fun a41 =>
 Wr w10.drew (a41.add (Int.toNat s8.1)) ∧
 Nw (w10.drew.setCell (a41.add (Int.toNat s8.1)) (.int .u32 x38)) fun w13 =>
 (0 ≤ s20.1 ∧ s20.1 < (p0.l : Int)) ∧
 derefP p0.a fun a42 =>
 Wr w13 (a42.add (Int.toNat s20.1)) ∧
 Nw (w13.setCell (a42.add (Int.toNat s20.1)) (.int .u32 x40)) fun w14 =>
 LoopW (S := Int × Int × Unit) (fun s43 w15 n44 =>
 JoinW (S := Int × Unit) (fun m45 =>
 LoopW (S := Int × Unit) (fun s47 w16 n48 =>
 JoinW (S := Unit) (fun m49 =>
 ifB (decide (s47.1 ≤ s43.2.1))
 ((0 ≤ s47.1 ∧ s47.1 < (p0.l : Int)) ∧
 derefP p0.a fun a51 =>
 ldI w16.drew (a51.add (Int.toNat s47.1)) .u32 fun x52 =>
 (0 ≤ p1 ∧ p1 < (p0.l : Int)) ∧
 derefP p0.a fun a53 =>
 ldI w16.drew (a53.add (Int.toNat p1)) .u32 fun x54 =>
 callR Tryz.prog 214 #[(.int .u32 x52), (.int .u32 x54)] w16.drew fun v55 w17 =>
 ∃ x56 : Bool, v55 = (.bool x56) ∧
 ifB x56
 (m49 (()) w17)
 (m45 (s47.1, ()) w17))
 (m45 (s47.1, ()) w16.drew))
 (fun s50 w18 =>
 n48 ((IntKind.i64.wrap (s47.1 + (1 : Int))), ()) w18))
 (s43.1, ()) w15)
 (fun s46 w19 =>
 JoinW (S := Int × Unit) (fun m57 =>
 LoopW (S := Int × Unit) (fun s59 w20 n60 =>
 JoinW (S := Unit) (fun m61 =>
 ifB (decide (s46.1 ≤ s59.1))
 ((0 ≤ s59.1 ∧ s59.1 < (p0.l : Int)) ∧
 derefP p0.a fun a63 =>
 ldI w20.drew (a63.add (Int.toNat s59.1)) .u32 fun x64 =>
 (0 ≤ p1 ∧ p1 < (p0.l : Int)) ∧
 derefP p0.a fun a65 =>
 ldI w20.drew (a65.add (Int.toNat p1)) .u32 fun x66 =>
 callR Tryz.prog 214 #[(.int .u32 x64), (.int .u32 x66)] w20.drew fun v67 w21 =>
 ∃ x68 : Bool, v67 = (.bool x68) ∧
 ifB (!x68)
 (m61 (()) w21)
 (m57 (s59.1, ()) w21))
 (m57 (s59.1, ()) w20.drew))
 (fun s62 w22 =>
 n60 ((IntKind.i64.wrap (s59.1 - (1 : Int))), ()) w22))
 (s43.2.1, ()) w19)
 (fun s58 w23 =>
 ifB (decide (s46.1 > s58.1))
 ((0 ≤ p1 ∧ p1 < (p0.l : Int)) ∧
 derefP p0.a fun a69 =>
 ldI w23.drew (a69.add (Int.toNat p1)) .u32 fun x70 =>
 (0 ≤ s58.1 ∧ s58.1 < (p0.l : Int)) ∧
 derefP p0.a fun a71 =>
 ldI w23.drew (a71.add (Int.toNat s58.1)) .u32 fun x72 =>
 (0 ≤ s58.1 ∧ s58.1 < (p0.l : Int)) ∧
 derefP p0.a fun a73 =>
 Wr w23.drew (a73.add (Int.toNat s58.1)) ∧
 Nw (w23.drew.setCell (a73.add (Int.toNat s58.1)) (.int .u32 x70)) fun w24 =>
 (0 ≤ p1 ∧ p1 < (p0.l : Int)) ∧
 derefP p0.a fun a74 =>
 Wr w24 (a74.add (Int.toNat p1)) ∧
 Nw (w24.setCell (a74.add (Int.toNat p1)) (.int .u32 x72)) fun w25 =>
 R (.tuple #[(.int .i64 s58.1), (.bool false)]) w25)
 ((0 ≤ s58.1 ∧ s58.1 < (p0.l : Int)) ∧
 derefP p0.a fun a75 =>
 ldI w23.drew (a75.add (Int.toNat s58.1)) .u32 fun x76 =>
 (0 ≤ s46.1 ∧ s46.1 < (p0.l : Int)) ∧
 derefP p0.a fun a77 =>
 ldI w23.drew (a77.add (Int.toNat s46.1)) .u32 fun x78 =>
 (0 ≤ s46.1 ∧ s46.1 < (p0.l : Int)) ∧
 derefP p0.a fun a79 =>
 Wr w23.drew (a79.add (Int.toNat s46.1)) ∧
 Nw (w23.drew.setCell (a79.add (Int.toNat s46.1)) (.int .u32 x76)) fun w26 =>
 (0 ≤ s58.1 ∧ s58.1 < (p0.l : Int)) ∧
 derefP p0.a fun a80 =>
 Wr w26 (a80.add (Int.toNat s58.1)) ∧
 Nw (w26.setCell (a80.add (Int.toNat s58.1)) (.int .u32 x78)) fun w27 =>
 n44 ((IntKind.i64.wrap (s46.1 + (1 : Int))), (IntKind.i64.wrap (s58.1 - (1 : Int))), ()) w27))))
 ((IntKind.i64.wrap (s8.1 + (1 : Int))), (IntKind.i64.wrap (s20.1 - (1 : Int))), ()) w14)))
theorem slices_partitionOrdered_uint32_calls (p0 : Sl) (p1 : Int) (p2 : Int) (p3 : Int) (R : Value → World → Prop) (w : World) (h : L_slices_partitionOrdered_uint32 p0 p1 p2 p3 R w) : Calls Tryz.prog 216 #[(.slice p0.a p0.l p0.c), (.int .i64 p1), (.int .i64 p2), (.int .i64 p3)] w (Ret R) :=
 lw_calls (fs := Tryz.fs) (an := a_slices_partitionOrdered_uint32) (args := [(.slice p0.a p0.l p0.c), (.int .i64 p1), (.int .i64 p2), (.int .i64 p3)]) Tryz.fsOK Tryz.mixed Tryz.func216 (by kernel_rfl) (by kernel_rfl)
 (Eq.mpr (by kernel_rfl : lwFn Tryz.prog Tryz.fs Tryz.f216 a_slices_partitionOrdered_uint32 [(.slice p0.a p0.l p0.c), (.int .i64 p1), (.int .i64 p2), (.int .i64 p3)] w R = L_slices_partitionOrdered_uint32 p0 p1 p2 p3 R w) h)

/-- slices.nextPowerOfTwo -/
def a_slices_nextPowerOfTwo : Ann := (.seq none .nil (.seq none .nil .nil))
def L_slices_nextPowerOfTwo (p0 : Int) (R : Value → World → Prop) (w : World) : Prop :=
 callR Tryz.prog 152 #[(.int .u64 (IntKind.u64.wrap p0))] w fun v1 w1 =>
 ∃ x2 : Int, v1 = (.int .i64 x2) ∧
 ifB (decide (x2 < 0))
 (False)
 (R (.int .u64 (IntKind.u64.wrap ((1 : Int) * 2 ^ (min (Int.toNat x2) (IntKind.bits .u64))))) w1)
theorem slices_nextPowerOfTwo_calls (p0 : Int) (R : Value → World → Prop) (w : World) (h : L_slices_nextPowerOfTwo p0 R w) : Calls Tryz.prog 240 #[(.int .i64 p0)] w (Ret R) :=
 lw_calls (fs := Tryz.fs) (an := a_slices_nextPowerOfTwo) (args := [(.int .i64 p0)]) Tryz.fsOK Tryz.mixed Tryz.func240 (by kernel_rfl) (by kernel_rfl)
 (Eq.mpr (by kernel_rfl : lwFn Tryz.prog Tryz.fs Tryz.f240 a_slices_nextPowerOfTwo [(.int .i64 p0)] w R = L_slices_nextPowerOfTwo p0 R w) h)

/-- (*slices.xorshift).Next -/
def a_slices_xorshift_Next : Ann := (.seq none .nil (.seq none .nil (.seq none .nil (.seq none .nil (.seq none .nil .nil)))))
def L_slices_xorshift_Next (p0 : Option Addr) (R : Value → World → Prop) (w : World) : Prop :=
 derefP p0 fun a1 =>
 ldI w.drew a1 .u64 fun x2 =>
 derefP p0 fun a3 =>
 ldI w.drew a3 .u64 fun x4 =>
 derefP p0 fun a5 =>
 Wr w.drew a5 ∧
 Nw (w.drew.setCell a5 (.int .u64 (IntKind.u64.wrap (BitVec.toNat (BitVec.ofInt (IntKind.bits .u64) x2 ^^^ BitVec.ofInt (IntKind.bits .u64) (IntKind.u64.wrap (x4 * 2 ^ (min 13 (IntKind.bits .u64))))) : Int)))) fun w1 =>
 derefP p0 fun a6 =>
 ldI w1.drew a6 .u64 fun x7 =>
 derefP p0 fun a8 =>
 ldI w1.drew a8 .u64 fun x9 =>
 derefP p0 fun a10 =>
 Wr w1.drew a10 ∧
 Nw (w1.drew.setCell a10 (.int .u64 (IntKind.u64.wrap (BitVec.toNat (BitVec.ofInt (IntKind.bits .u64) x7 ^^^ BitVec.ofInt (IntKind.bits .u64) (Int.fdiv x9 (2 ^ (min 7 (IntKind.bits .u64))))) : Int)))) fun w2 =>
 derefP p0 fun a11 =>
 ldI w2.drew a11 .u64 fun x12 =>
 derefP p0 fun a13 =>
 ldI w2.drew a13 .u64 fun x14 =>
 derefP p0 fun a15 =>
 Wr w2.drew a15 ∧
 Nw (w2.drew.setCell a15 (.int .u64 (IntKind.u64.wrap (BitVec.toNat (BitVec.ofInt (IntKind.bits .u64) x12 ^^^ BitVec.ofInt (IntKind.bits .u64) (IntKind.u64.wrap (x14 * 2 ^ (min 17 (IntKind.bits .u64))))) : Int)))) fun w3 =>
 derefP p0 fun a16 =>
 ldI w3 a16 .u64 fun x17 =>
 R (.int .u64 x17) w3
theorem slices_xorshift_Next_calls (p0 : Option Addr) (R : Value → World → Prop) (w : World) (h : L_slices_xorshift_Next p0 R w) : Calls Tryz.prog 241 #[(.pointer p0)] w (Ret R) :=
 lw_calls (fs := Tryz.fs) (an := a_slices_xorshift_Next) (args := [(.pointer p0)]) Tryz.fsOK Tryz.mixed Tryz.func241 (by kernel_rfl) (by kernel_rfl)
 (Eq.mpr (by kernel_rfl : lwFn Tryz.prog Tryz.fs Tryz.f241 a_slices_xorshift_Next [(.pointer p0)] w R = L_slices_xorshift_Next p0 R w) h)

/-- slices.siftDownOrdered[uint32] -/
def a_slices_siftDownOrdered_uint32 : Ann := (.seq none .nil (.one (.loop ⟨[0, 2, 3], [(8, (.b (.int .i64)))]⟩ (.one (.seq none .nil (.seq none (.seq none .nil (.cond .nil .nil)) (.seq (some ⟨[0, 2, 3, 8], [(9, (.b (.int .i64)))]⟩) (.seq none .nil (.cond .nil .nil)) (.seq none (.seq none .nil (.cond .nil .nil)) (.seq none .nil .nil)))))))))
def L_slices_siftDownOrdered_uint32 (p0 : Sl) (p1 : Int) (p2 : Int) (p3 : Int) (R : Value → World → Prop) (w : World) : Prop :=
 LoopW (S := Int × Unit) (fun s1 w1 n2 =>
 ifB (decide ((IntKind.i64.wrap ((IntKind.i64.wrap ((2 : Int) * s1.1)) + (1 : Int))) ≥ p2))
 (R (.tuple #[]) w1)
 (JoinW (S := Int × Unit) (fun m3 =>
 ifB (decide ((IntKind.i64.wrap ((IntKind.i64.wrap ((IntKind.i64.wrap ((2 : Int) * s1.1)) + (1 : Int))) + (1 : Int))) < p2))
 ((0 ≤ (IntKind.i64.wrap (p3 + (IntKind.i64.wrap ((IntKind.i64.wrap ((2 : Int) * s1.1)) + (1 : Int))))) ∧ (IntKind.i64.wrap (p3 + (IntKind.i64.wrap ((IntKind.i64.wrap ((2 : Int) * s1.1)) + (1 : Int))))) < (p0.l : Int)) ∧
 derefP p0.a fun a5 =>
 ldI w1.drew (a5.add (Int.toNat (IntKind.i64.wrap (p3 + (IntKind.i64.wrap ((IntKind.i64.wrap ((2 : Int) * s1.1)) + (1 : Int))))))) .u32 fun x6 =>
 (0 ≤ (IntKind.i64.wrap ((IntKind.i64.wrap (p3 + (IntKind.i64.wrap ((IntKind.i64.wrap ((2 : Int) * s1.1)) + (1 : Int))))) + (1 : Int))) ∧ (IntKind.i64.wrap ((IntKind.i64.wrap (p3 + (IntKind.i64.wrap ((IntKind.i64.wrap ((2 : Int) * s1.1)) + (1 : Int))))) + (1 : Int))) < (p0.l : Int)) ∧
 derefP p0.a fun a7 =>
 ldI w1.drew (a7.add (Int.toNat (IntKind.i64.wrap ((IntKind.i64.wrap (p3 + (IntKind.i64.wrap ((IntKind.i64.wrap ((2 : Int) * s1.1)) + (1 : Int))))) + (1 : Int))))) .u32 fun x8 =>
 callR Tryz.prog 214 #[(.int .u32 x6), (.int .u32 x8)] w1.drew fun v9 w2 =>
 ∃ x10 : Bool, v9 = (.bool x10) ∧
 ifB x10
 (m3 ((IntKind.i64.wrap ((IntKind.i64.wrap ((IntKind.i64.wrap ((2 : Int) * s1.1)) + (1 : Int))) + (1 : Int))), ()) w2)
 (m3 ((IntKind.i64.wrap ((IntKind.i64.wrap ((2 : Int) * s1.1)) + (1 : Int))), ()) w2))
 (m3 ((IntKind.i64.wrap ((IntKind.i64.wrap ((2 : Int) * s1.1)) + (1 : Int))), ()) w1.drew))
 (fun s4 w3 =>
 (0 ≤ (IntKind.i64.wrap (p3 + s1.1)) ∧ (IntKind.i64.wrap (p3 + s1.1)) < (p0.l : Int)) ∧
 derefP p0.a fun a11 =>
 ldI w3.drew (a11.add (Int.toNat (IntKind.i64.wrap (p3 + s1.1)))) .u32 fun x12 =>
 (0 ≤ (IntKind.i64.wrap (p3 + s4.1)) ∧ (IntKind.i64.wrap (p3 + s4.1)) < (p0.l : Int)) ∧
 derefP p0.a fun a13 =>
 ldI w3.drew (a13.add (Int.toNat (IntKind.i64.wrap (p3 + s4.1)))) .u32 fun x14 =>
 callR Tryz.prog 214 #[(.int .u32 x12), (.int .u32 x14)] w3.drew fun v15 w4 =>
 ∃ x16 : Bool, v15 = (.bool x16) ∧
 ifB (!x16)
 (R (.tuple #[]) w4)
 ((0 ≤ (IntKind.i64.wrap (p3 + s4.1)) ∧ (IntKind.i64.wrap (p3 + s4.1)) < (p0.l : Int)) ∧
 derefP p0.a fun a17 =>
 ldI w4.drew (a17.add (Int.toNat (IntKind.i64.wrap (p3 + s4.1)))) .u32 fun x18 =>
 (0 ≤ (IntKind.i64.wrap (p3 + s1.1)) ∧ (IntKind.i64.wrap (p3 + s1.1)) < (p0.l : Int)) ∧
 derefP p0.a fun a19 =>
 ldI w4.drew (a19.add (Int.toNat (IntKind.i64.wrap (p3 + s1.1)))) .u32 fun x20 =>
 (0 ≤ (IntKind.i64.wrap (p3 + s1.1)) ∧ (IntKind.i64.wrap (p3 + s1.1)) < (p0.l : Int)) ∧
 derefP p0.a fun a21 =>
 Wr w4.drew (a21.add (Int.toNat (IntKind.i64.wrap (p3 + s1.1)))) ∧
 Nw (w4.drew.setCell (a21.add (Int.toNat (IntKind.i64.wrap (p3 + s1.1)))) (.int .u32 x18)) fun w5 =>
 (0 ≤ (IntKind.i64.wrap (p3 + s4.1)) ∧ (IntKind.i64.wrap (p3 + s4.1)) < (p0.l : Int)) ∧
 derefP p0.a fun a22 =>
 Wr w5 (a22.add (Int.toNat (IntKind.i64.wrap (p3 + s4.1)))) ∧
 Nw (w5.setCell (a22.add (Int.toNat (IntKind.i64.wrap (p3 + s4.1)))) (.int .u32 x20)) fun w6 =>
 n2 (s4.1, ()) w6))))
 (p1, ()) w
theorem slices_siftDownOrdered_uint32_calls (p0 : Sl) (p1 : Int) (p2 : Int) (p3 : Int) (R : Value → World → Prop) (w : World) (h : L_slices_siftDownOrdered_uint32 p0 p1 p2 p3 R w) : Calls Tryz.prog 249 #[(.slice p0.a p0.l p0.c), (.int .i64 p1), (.int .i64 p2), (.int .i64 p3)] w (Ret R) :=
 lw_calls (fs := Tryz.fs) (an := a_slices_siftDownOrdered_uint32) (args := [(.slice p0.a p0.l p0.c), (.int .i64 p1), (.int .i64 p2), (.int .i64 p3)]) Tryz.fsOK Tryz.mixed Tryz.func249 (by kernel_rfl) (by kernel_rfl)
 (Eq.mpr (by kernel_rfl : lwFn Tryz.prog Tryz.fs Tryz.f249 a_slices_siftDownOrdered_uint32 [(.slice p0.a p0.l p0.c), (.int .i64 p1), (.int .i64 p2), (.int .i64 p3)] w R = L_slices_siftDownOrdered_uint32 p0 p1 p2 p3 R w) h)

/-- slices.medianAdjacentOrdered[uint32] -/
def a_slices_medianAdjacentOrdered_uint32 : Ann := (.seq none .nil (.seq none .nil .nil))
def L_slices_medianAdjacentOrdered_uint32 (p0 : Sl) (p1 : Int) (p2 : Option Addr) (R : Value → World → Prop) (w : World) : Prop :=
 callR Tryz.prog 251 #[(.slice p0.a p0.l p0.c), (.int .i64 (IntKind.i64.wrap (p1 - (1 : Int)))), (.int .i64 p1), (.int .i64 (IntKind.i64.wrap (p1 + (1 : Int)))), (.pointer p2)] w fun v1 w1 =>
 ∃ x2 : Int, v1 = (.int .i64 x2) ∧
 R (.int .i64 x2) w1
theorem slices_medianAdjacentOrdered_uint32_calls (p0 : Sl) (p1 : Int) (p2 : Option Addr) (R : Value → World → Prop) (w : World) (h : L_slices_medianAdjacentOrdered_uint32 p0 p1 p2 R w) : Calls Tryz.prog 250 #[(.slice p0.a p0.l p0.c), (.int .i64 p1), (.pointer p2)] w (Ret R) :=
 lw_calls (fs := Tryz.fs) (an := a_slices_medianAdjacentOrdered_uint32) (args := [(.slice p0.a p0.l p0.c), (.int .i64 p1), (.pointer p2)]) Tryz.fsOK Tryz.mixed Tryz.func250 (by kernel_rfl) (by kernel_rfl)
 (Eq.mpr (by kernel_rfl : lwFn Tryz.prog Tryz.fs Tryz.f250 a_slices_medianAdjacentOrdered_uint32 [(.slice p0.a p0.l p0.c), (.int .i64 p1), (.pointer p2)] w R = L_slices_medianAdjacentOrdered_uint32 p0 p1 p2 R w) h)

/-- slices.medianOrdered[uint32] -/
def a_slices_medianOrdered_uint32 : Ann := (.seq none .nil (.seq none .nil (.seq none .nil (.seq none .nil (.seq none .nil .nil)))))
def L_slices_medianOrdered_uint32 (p0 : Sl) (p1 : Int) (p2 : Int) (p3 : Int) (p4 : Option Addr) (R : Value → World → Prop) (w : World) : Prop :=
 callR Tryz.prog 271 #[(.slice p0.a p0.l p0.c), (.int .i64 p1), (.int .i64 p2), (.pointer p4)] w fun v1 w1 =>
 ∃ x2 : Int, ∃ x3 : Int, v1 = (.tuple #[(.int .i64 x2), (.int .i64 x3)]) ∧
 callR Tryz.prog 271 #[(.slice p0.a p0.l p0.c), (.int .i64 x3), (.int .i64 p3), (.pointer p4)] w1 fun v4 w2 =>
 ∃ x5 : Int, ∃ x6 : Int, v4 = (.tuple #[(.int .i64 x5), (.int .i64 x6)]) ∧
 callR Tryz.prog 271 #[(.slice p0.a p0.l p0.c), (.int .i64 x2), (.int .i64 x5), (.pointer p4)] w2 fun v7 w3 =>
 ∃ x8 : Int, ∃ x9 : Int, v7 = (.tuple #[(.int .i64 x8), (.int .i64 x9)]) ∧
 R (.int .i64 x9) w3
theorem slices_medianOrdered_uint32_calls (p0 : Sl) (p1 : Int) (p2 : Int) (p3 : Int) (p4 : Option Addr) (R : Value → World → Prop) (w : World) (h : L_slices_medianOrdered_uint32 p0 p1 p2 p3 p4 R w) : Calls Tryz.prog 251 #[(.slice p0.a p0.l p0.c), (.int .i64 p1), (.int .i64 p2), (.int .i64 p3), (.pointer p4)] w (Ret R) :=
 lw_calls (fs := Tryz.fs) (an := a_slices_medianOrdered_uint32) (args := [(.slice p0.a p0.l p0.c), (.int .i64 p1), (.int .i64 p2), (.int .i64 p3), (.pointer p4)]) Tryz.fsOK Tryz.mixed Tryz.func251 (by kernel_rfl) (by kernel_rfl)
 (Eq.mpr (by kernel_rfl : lwFn Tryz.prog Tryz.fs Tryz.f251 a_slices_medianOrdered_uint32 [(.slice p0.a p0.l p0.c), (.int .i64 p1), (.int .i64 p2), (.int .i64 p3), (.pointer p4)] w R = L_slices_medianOrdered_uint32 p0 p1 p2 p3 p4 R w) h)

/-- cmp.isNaN[uint32] -/
def a_cmp_isNaN_uint32 : Ann := (.seq none .nil (.seq none .nil .nil))
def L_cmp_isNaN_uint32 (p0 : Int) (R : Value → World → Prop) (w : World) : Prop :=
 R (.bool (p0 != p0)) w
theorem cmp_isNaN_uint32_calls (p0 : Int) (R : Value → World → Prop) (w : World) (h : L_cmp_isNaN_uint32 p0 R w) : Calls Tryz.prog 252 #[(.int .u32 p0)] w (Ret R) :=
 lw_calls (fs := Tryz.fs) (an := a_cmp_isNaN_uint32) (args := [(.int .u32 p0)]) Tryz.fsOK Tryz.mixed Tryz.func252 (by kernel_rfl) (by kernel_rfl)
 (Eq.mpr (by kernel_rfl : lwFn Tryz.prog Tryz.fs Tryz.f252 a_cmp_isNaN_uint32 [(.int .u32 p0)] w R = L_cmp_isNaN_uint32 p0 R w) h)

/-- slices.order2Ordered[uint32] -/
def a_slices_order2Ordered_uint32 : Ann := (.seq none .nil (.seq none (.seq none .nil (.cond (.seq none .nil (.seq none .nil .nil)) .nil)) (.seq none .nil .nil)))
def L_slices_order2Ordered_uint32 (p0 : Sl) (p1 : Int) (p2 : Int) (p3 : Option Addr) (R : Value → World → Prop) (w : World) : Prop :=
 (0 ≤ p2 ∧ p2 < (p0.l : Int)) ∧
 derefP p0.a fun a1 =>
 ldI w.drew (a1.add (Int.toNat p2)) .u32 fun x2 =>
 (0 ≤ p1 ∧ p1 < (p0.l : Int)) ∧
 derefP p0.a fun a3 =>
 ldI w.drew (a3.add (Int.toNat p1)) .u32 fun x4 =>
 callR Tryz.prog 214 #[(.int .u32 x2), (.int .u32 x4)] w.drew fun v5 w1 =>
 ∃ x6 : Bool, v5 = (.bool x6) ∧
 ifB x6
 (derefP p3 fun a7 =>
 ldI w1 a7 .i64 fun x8 =>
 derefP p3 fun a9 =>
 Wr w1 a9 ∧
 Nw (w1.setCell a9 (.int .i64 (IntKind.i64.wrap (x8 + (1 : Int))))) fun w2 =>
 R (.tuple #[(.int .i64 p2), (.int .i64 p1)]) w2)
 (R (.tuple #[(.int .i64 p1), (.int .i64 p2)]) w1)
theorem slices_order2Ordered_uint32_calls (p0 : Sl) (p1 : Int) (p2 : Int) (p3 : Option Addr) (R : Value → World → Prop) (w : World) (h : L_slices_order2Ordered_uint32 p0 p1 p2 p3 R w) : Calls Tryz.prog 271 #[(.slice p0.a p0.l p0.c), (.int .i64 p1), (.int .i64 p2), (.pointer p3)] w (Ret R) :=
 lw_calls (fs := Tryz.fs) (an := a_slices_order2Ordered_uint32) (args := [(.slice p0.a p0.l p0.c), (.int .i64 p1), (.int .i64 p2), (.pointer p3)]) Tryz.fsOK Tryz.mixed Tryz.func271 (by kernel_rfl) (by kernel_rfl)
 (Eq.mpr (by kernel_rfl : lwFn Tryz.prog Tryz.fs Tryz.f271 a_slices_order2Ordered_uint32 [(.slice p0.a p0.l p0.c), (.int .i64 p1), (.int .i64 p2), (.pointer p3)] w R = L_slices_order2Ordered_uint32 p0 p1 p2 p3 R w) h)

end Go.Proofs
namespace Go.Proofs
open Go.Gk Go.RowKit

abbrev ltI : Int → Int → Bool := Go.Sort.ltInt
def Dtw (w : World) (g : Nat) (rest : List Value) (d : Array Int) : Prop := Blk w g 22 (d.toList.map (Value.int .u32) ++ rest)
theorem Fr.chg {B b : Nat} {X : Nat → Prop} {w0 w w' : World} (h : Fr B X w0 w) (c : Chg b w w') (hb : X b ∨ B ≤ b) : Fr B X w0 w' :=
  h.trans ⟨c.os, c.tape, c.output, Nat.le_of_eq c.size.symm, fun k hk hx => c.block k (fun e => by
    rcases hb with hb | hb
    · exact hx (e ▸ hb)
    · omega)⟩
theorem Fr.onto {X : Nat → Prop} {B : Nat} {w0 w w' : World} (h : Fr B X w0 w) (k : Fr w.heap.size X w w') (hB : B ≤ w.heap.size) : Fr B X w0 w' := h.trans (k.mono hB fun _ _ h => h)
section
variable {w w' : World} {g : Nat} {rest : List Value} {d : Array Int}
theorem Dtw.drew (h : Dtw w g rest d) : Dtw w.drew g rest d := Blk.drew h
theorem Dtw.below (h : Dtw w g rest d) (hb : Below w.heap.size w w') : Dtw w' g rest d := Blk.below h hb
theorem Dtw.lt (h : Dtw w g rest d) : g < w.heap.size := Blk.lt h
theorem Dtw.cell (h : Dtw w g rest d) {i : Nat} (hi : i < d.size) : w.cell? ((blk g).add i) = some (.int .u32 d[i]!) := by
  refine Blk.cell h ?_
  rw [List.getElem?_append_left (by simpa using hi)]
  simp [hi]
theorem Dtw.set (h : Dtw w g rest d) {i : Nat} (hi : i < d.size) (v : Int) : Wr w ((blk g).add i) ∧ Dtw (w.setCell ((blk g).add i) (.int .u32 v)) g rest (d.setIfInBounds i v) := by
  refine ⟨Blk.wr h (by simp; omega), ?_⟩
  have := Blk.set h i (.int .u32 v)
  rw [List.set_append_left _ _ (by simpa using hi), ← List.map_set] at this
  unfold Dtw
  rw [Array.toList_setIfInBounds]
  exact this
theorem Dtw.at (h : Dtw w g rest d) {e : Int} {i n : Nat} (he : e = (i : Int)) (hi : i < d.size) (hn : n = d.size) {φ : Int → Prop} (hφ : φ d[i]!) :
    (0 ≤ e ∧ e < (n : Int)) ∧ derefP (some (blk g)) fun a => ldI w (a.add (Int.toNat e)) .u32 φ := by
  subst he
  exact ⟨⟨by omega, by omega⟩, derefP_some rfl ⟨_, h.cell hi, hφ⟩⟩
theorem Dtw.swap (h : Dtw w g rest d) {e1 e2 : Int} {i j n : Nat} (h1 : e1 = (i : Int)) (h2 : e2 = (j : Int)) (hi : i < d.size) (hj : j < d.size) (hn : n = d.size) {K : World → Prop} (hK : ∀ w', Dtw w' g rest (Go.Sort.swp d j i) → Chg g w w' → K w') :
    (0 ≤ e1 ∧ e1 < (n : Int)) ∧ derefP (some (blk g)) fun a1 => ldI w.drew (a1.add (Int.toNat e1)) .u32 fun x1 =>
    (0 ≤ e2 ∧ e2 < (n : Int)) ∧ derefP (some (blk g)) fun a2 => ldI w.drew (a2.add (Int.toNat e2)) .u32 fun x2 =>
    (0 ≤ e2 ∧ e2 < (n : Int)) ∧ derefP (some (blk g)) fun a3 => Wr w.drew (a3.add (Int.toNat e2)) ∧ Nw (w.drew.setCell (a3.add (Int.toNat e2)) (.int .u32 x1)) fun w1 =>
    (0 ≤ e1 ∧ e1 < (n : Int)) ∧ derefP (some (blk g)) fun a4 => Wr w1 (a4.add (Int.toNat e1)) ∧ Nw (w1.setCell (a4.add (Int.toNat e1)) (.int .u32 x2)) fun w2 => K w2 := by
  subst h1 h2
  obtain ⟨s1, s2⟩ := h.drew.set hj d[i]!
  obtain ⟨s3, s4⟩ := s2.set (i := i) (by simpa using hi) d[j]!
  refine h.drew.at rfl hi hn (h.drew.at rfl hj hn ⟨⟨by omega, by omega⟩, derefP_some rfl ⟨s1, Nw.mk ⟨⟨by omega, by omega⟩, derefP_some rfl ⟨s3, Nw.mk (hK _ s4 ?_)⟩⟩⟩⟩)
  exact (((Chg.refl g w).drew).trans (Chg.set g j _ _)).trans (Chg.set g i _ _)
end
section
variable {w : World} {g n c : Nat} {rest : List Value} {d : Array Int} {R : Value → World → Prop}
theorem Less_spec {x y : Int} (hR : R (.bool (ltI x y)) w) : callR Tryz.prog 214 #[.int .u32 x, .int .u32 y] w R := by
  refine callR.of (cmp_Less_uint32_calls x y R w ?_) fun _ _ h => h
  refine callR.of (cmp_isNaN_uint32_calls x _ w ?_) fun _ _ h => h
  exact ⟨_, rfl, ifB_false (by simp) hR⟩

theorem ins_stop {a j : Nat} {d : Array Int} (h : j ≤ a ∨ ltI d[j]! d[j - 1]! = false) : Go.Sort.insInner ltI a j d = d := by
  cases j with
  | zero => rfl
  | succ j =>
    rw [Go.Sort.insInner, if_neg]
    intro hh
    rw [Bool.and_eq_true, decide_eq_true_eq] at hh
    rcases h with h | h
    · omega
    · rw [Nat.add_sub_cancel] at h
      rw [h] at hh
      cases hh.2
theorem ins_go {a j : Nat} {d : Array Int} (h1 : a < j) (h2 : ltI d[j]! d[j - 1]! = true) : Go.Sort.insInner ltI a j d = Go.Sort.insInner ltI a (j - 1) (Go.Sort.swp d j (j - 1)) := by
  cases j with
  | zero => omega
  | succ j =>
    rw [Nat.add_sub_cancel] at h2 ⊢
    rw [Go.Sort.insInner, if_pos]
    rw [h2, Bool.and_true, decide_eq_true_eq]
    exact h1
theorem insU_spec {a b : Nat} (hD : Dtw w g rest d) (hn : n = d.size) (hmax : n ≤ 35184372088832) (hab : a ≤ b) (hb : b ≤ n)
    (hR : ∀ w', Dtw w' g rest (Go.Sort.insertionSort ltI d a b) → Fr w.heap.size (· = g) w w' → R (.tuple #[]) w') :
    callR Tryz.prog 208 #[.slice (some (blk g)) n c, .int .i64 (a : Int), .int .i64 (b : Int)] w R := by
  refine callR.of (slices_insertionSortOrdered_uint32_calls ⟨some (blk g), n, c⟩ a b R w ?_) fun _ _ h => h
  refine LoopW.ghost (fun k (st : Int × Unit) w' => ∃ (i : Nat) (d' : Array Int), st = ((i : Int), ()) ∧ k = b - i ∧ a + 1 ≤ i ∧ Dtw w' g rest d' ∧ d'.size = n ∧ Go.Sort.insOuter ltI a b i d' = Go.Sort.insertionSort ltI d a b ∧ Fr w.heap.size (· = g) w w') (b - (a + 1))
    ⟨a + 1, d, by rw [wrap64_succ (by omega)], rfl, Nat.le_refl _, hD, hn.symm, rfl, Fr.refl _ _ _⟩ ?_
  rintro _ _ w1 ⟨i, d1, rfl, rfl, hi, hD1, hn1, he, hF⟩ next hnext
  refine ifB_dec (fun h => ?_) (fun h => ?_)
  · have hib : i < b := by dsimp only at h; omega
    refine JoinW.cut (fun _ w' => ∃ d2, Dtw w' g rest d2 ∧ d2.size = n ∧ d2 = Go.Sort.insInner ltI a i d1 ∧ Fr w.heap.size (· = g) w w') ?_ ?_
    · refine LoopW.ghost (fun k (st : Int × Unit) w' => ∃ (j : Nat) (d2 : Array Int), st = ((j : Int), ()) ∧ k = j ∧ j ≤ i ∧ a ≤ j ∧ Dtw w' g rest d2 ∧ d2.size = n ∧ Go.Sort.insInner ltI a j d2 = Go.Sort.insInner ltI a i d1 ∧ Fr w.heap.size (· = g) w w') i
        ⟨i, d1, rfl, rfl, Nat.le_refl _, by omega, hD1, hn1, rfl, hF⟩ ?_
      rintro j _ w2 ⟨_, d2, rfl, rfl, hj, haj, hD2, hn2, he2, hF2⟩ next2 hnext2
      refine JoinW.cut (fun _ w' => Dtw w' g rest d2 ∧ Fr w.heap.size (· = g) w w' ∧ a < j ∧ ltI d2[j]! d2[j - 1]! = true) ?_ ?_
      · refine ifB_dec (fun h => ?_) (fun h => ?_)
        · have hj' : a < j := by dsimp only at h; omega
          refine hD2.drew.at rfl (by omega) hn2.symm (hD2.drew.at (i := j - 1) (by rw [wrap64_in (by dsimp only; omega) (by dsimp only; omega)]; dsimp only; omega) (by omega) hn2.symm (Less_spec ⟨_, rfl, ?_⟩))
          refine ifB_bool (fun hb => ⟨hD2.drew, hF2.drew, hj', hb⟩) (fun hb => ⟨d2, hD2.drew, hn2, ?_, hF2.drew⟩)
          rw [← he2, ins_stop (.inr hb)]
        · exact ⟨d2, hD2.drew, hn2, by rw [← he2, ins_stop (.inl (by dsimp only at h; omega))], hF2.drew⟩
      · rintro _ w3 ⟨hD3, hF3, haj', hlt⟩
        have e1 : IntKind.i64.wrap ((j : Int) - 1) = ((j - 1 : Nat) : Int) := by rw [wrap64_in (by omega) (by omega)]; omega
        refine hD3.swap (i := j - 1) (j := j) e1 rfl (by omega) (by omega) hn2.symm fun w4 hD4 c4 => ?_
        rw [show IntKind.i64.wrap ((((j : Int), ()) : Int × Unit).1 - 1) = ((j - 1 : Nat) : Int) from e1]
        exact hnext2 (j - 1) _ _ (by omega) ⟨j - 1, _, rfl, rfl, by omega, by omega, hD4, by rw [Go.Sort.size_swp]; exact hn2, by rw [← he2, ins_go haj' hlt], hF3.chg c4 (.inl rfl)⟩
    · rintro _ w2 ⟨d2, hD2, hn2, e2, hF2⟩
      rw [wrap64_succ (by omega)]
      refine hnext (b - (i + 1)) _ _ (by omega) ⟨i + 1, d2, rfl, rfl, by omega, hD2, hn2, ?_, hF2⟩
      rw [← he, e2]
      conv => rhs; rw [Go.Sort.insOuter, if_pos hib]
  · have : ¬ i < b := by dsimp only at h; omega
    rw [Go.Sort.insOuter, if_neg this] at he
    subst he
    exact hR w1 hD1 hF

theorem wr64 {x : Int} {k : Nat} (h : x = (k : Int)) (hk : k ≤ 9223372036854775807) : IntKind.i64.wrap x = (k : Int) := by rw [h]; exact wrap64_in (by omega) (by omega)
theorem sift_stop {hi f r : Nat} {d : Array Int} (h : 2 * r + 1 ≥ hi) : Go.Sort.siftDown ltI hi f r d = d := by rw [Go.Sort.siftDown, dif_pos h]
/-- The greater child. -/
def kid (hi f r : Nat) (d : Array Int) : Nat := if 2 * r + 2 < hi ∧ ltI d[f + (2 * r + 1)]! d[f + (2 * r + 2)]! = true then 2 * r + 2 else 2 * r + 1
theorem kid_lt {hi f r : Nat} {d : Array Int} (h : ¬ 2 * r + 1 ≥ hi) : kid hi f r d < hi ∧ r < kid hi f r d := by unfold kid; split <;> omega
theorem sift_end {hi f r : Nat} {d : Array Int} (h : ¬ 2 * r + 1 ≥ hi) (hl : ltI d[f + r]! d[f + kid hi f r d]! = false) : Go.Sort.siftDown ltI hi f r d = d := by
  rw [Go.Sort.siftDown, dif_neg h]
  unfold kid at hl
  by_cases e : 2 * r + 2 < hi ∧ ltI d[f + (2 * r + 1)]! d[f + (2 * r + 2)]! = true
  · rw [if_pos e] at hl
    rw [if_pos (by rw [Bool.and_eq_true, decide_eq_true_eq]; exact e), if_pos (by rw [hl]; rfl)]
  · rw [if_neg e] at hl
    rw [if_neg (by rw [Bool.and_eq_true, decide_eq_true_eq]; exact e), if_pos (by rw [hl]; rfl)]
theorem sift_go {hi f r : Nat} {d : Array Int} (h : ¬ 2 * r + 1 ≥ hi) (hl : ltI d[f + r]! d[f + kid hi f r d]! = true) : Go.Sort.siftDown ltI hi f r d = Go.Sort.siftDown ltI hi f (kid hi f r d) (Go.Sort.swp d (f + r) (f + kid hi f r d)) := by
  have hk := kid_lt (f := f) (d := d) h
  conv => lhs; rw [Go.Sort.siftDown, dif_neg h]
  unfold kid at hl hk ⊢
  by_cases e : 2 * r + 2 < hi ∧ ltI d[f + (2 * r + 1)]! d[f + (2 * r + 2)]! = true
  · rw [if_pos e] at hl hk ⊢
    rw [if_pos (by rw [Bool.and_eq_true, decide_eq_true_eq]; exact e), if_neg (by rw [hl]; simp), dif_pos hk.1]
  · rw [if_neg e] at hl ⊢
    rw [if_neg (by rw [Bool.and_eq_true, decide_eq_true_eq]; exact e), if_neg (by rw [hl]; simp)]
theorem sift_spec {lo hi f : Nat} (hD : Dtw w g rest d) (hn : n = d.size) (hmax : n ≤ 35184372088832) (hf : f + hi ≤ n) (hlo : lo ≤ n)
    (hR : ∀ w', Dtw w' g rest (Go.Sort.siftDown ltI hi f lo d) → Fr w.heap.size (· = g) w w' → R (.tuple #[]) w') :
    callR Tryz.prog 249 #[.slice (some (blk g)) n c, .int .i64 (lo : Int), .int .i64 (hi : Int), .int .i64 (f : Int)] w R := by
  refine callR.of (slices_siftDownOrdered_uint32_calls ⟨some (blk g), n, c⟩ lo hi f R w ?_) fun _ _ h => h
  refine LoopW.ghost (fun k (st : Int × Unit) w' => ∃ (r : Nat) (d' : Array Int), st = ((r : Int), ()) ∧ k = n - r ∧ r ≤ n ∧ Dtw w' g rest d' ∧ d'.size = n ∧ Go.Sort.siftDown ltI hi f r d' = Go.Sort.siftDown ltI hi f lo d ∧ Fr w.heap.size (· = g) w w') (n - lo)
    ⟨lo, d, rfl, rfl, hlo, hD, hn.symm, rfl, Fr.refl _ _ _⟩ ?_
  rintro _ _ w1 ⟨r, d1, rfl, rfl, hr, hD1, hn1, he, hF⟩ next hnext
  have e1 : IntKind.i64.wrap (IntKind.i64.wrap (2 * (r : Int)) + 1) = ((2 * r + 1 : Nat) : Int) := by
    have e0 : IntKind.i64.wrap (2 * (r : Int)) = ((2 * r : Nat) : Int) := wr64 (by omega) (by omega)
    rw [e0]
    exact wr64 (by omega) (by omega)
  have e2 : IntKind.i64.wrap (((2 * r + 1 : Nat) : Int) + 1) = ((2 * r + 2 : Nat) : Int) := wr64 (by omega) (by omega)
  dsimp only
  rw [e1]
  refine ifB_dec (fun h => ?_) (fun h => ?_)
  · rw [sift_stop (by omega)] at he
    subst he
    exact hR w1 hD1 hF
  have hge : ¬ 2 * r + 1 ≥ hi := by omega
  obtain ⟨hk1, hk2⟩ := kid_lt (f := f) (d := d1) hge
  refine JoinW.cut (fun (st : Int × Unit) w' => st.1 = ((kid hi f r d1 : Nat) : Int) ∧ Dtw w' g rest d1 ∧ Fr w.heap.size (· = g) w w') ?_ ?_
  · rw [e2]
    have e3 : IntKind.i64.wrap ((f : Int) + ((2 * r + 1 : Nat) : Int)) = ((f + (2 * r + 1) : Nat) : Int) := wr64 (by omega) (by omega)
    rw [e3]
    have e4 : IntKind.i64.wrap (((f + (2 * r + 1) : Nat) : Int) + 1) = ((f + (2 * r + 2) : Nat) : Int) := wr64 (by omega) (by omega)
    rw [e4]
    refine ifB_dec (fun h => ?_) (fun h => ?_)
    · refine hD1.drew.at rfl (by omega) hn1.symm (hD1.drew.at rfl (by omega) hn1.symm (Less_spec ⟨_, rfl, ?_⟩))
      refine ifB_bool (fun hb => ⟨?_, hD1.drew, hF.drew⟩) (fun hb => ⟨?_, hD1.drew, hF.drew⟩)
      · unfold kid; rw [if_pos ⟨by omega, hb⟩]
      · unfold kid; rw [if_neg (fun g => by rw [hb] at g; cases g.2)]
    · refine ⟨?_, hD1.drew, hF.drew⟩
      unfold kid; rw [if_neg (fun g => by omega)]
  · rintro ⟨ck, _⟩ w2 ⟨ec, hD2, hF2⟩
    dsimp only at ec ⊢
    subst ec
    have e5 : IntKind.i64.wrap ((f : Int) + (r : Int)) = ((f + r : Nat) : Int) := wr64 (by omega) (by omega)
    have e6 : IntKind.i64.wrap ((f : Int) + ((kid hi f r d1 : Nat) : Int)) = ((f + kid hi f r d1 : Nat) : Int) := wr64 (by omega) (by omega)
    rw [e5, e6]
    refine hD2.drew.at rfl (by omega) hn1.symm (hD2.drew.at rfl (by omega) hn1.symm (Less_spec ⟨_, rfl, ?_⟩))
    refine ifB_not (ifB_bool (fun hb => ?_) (fun hb => ?_))
    · refine hD2.drew.swap (i := f + kid hi f r d1) (j := f + r) rfl rfl (by omega) (by omega) hn1.symm fun w3 hD3 c3 => ?_
      exact hnext (n - kid hi f r d1) _ _ (by omega) ⟨_, _, rfl, rfl, by omega, hD3, by rw [Go.Sort.size_swp]; exact hn1, by rw [← he, sift_go hge hb], hF2.drew.chg c3 (.inl rfl)⟩
    · rw [sift_end hge hb] at he
      subst he
      exact hR _ hD2.drew hF2.drew
theorem size_sift (hi f r : Nat) (d : Array Int) : (Go.Sort.siftDown ltI hi f r d).size = d.size := by
  fun_induction Go.Sort.siftDown ltI hi f r d <;> simp_all [Go.Sort.size_swp]
theorem heap_spec {a b : Nat} (hD : Dtw w g rest d) (hn : n = d.size) (hmax : n ≤ 35184372088832) (hab : a < b) (hb : b ≤ n)
    (hR : ∀ w', Dtw w' g rest (Go.Sort.heapSort ltI d a b) → Fr w.heap.size (· = g) w w' → R (.tuple #[]) w') :
    callR Tryz.prog 209 #[.slice (some (blk g)) n c, .int .i64 (a : Int), .int .i64 (b : Int)] w R := by
  refine callR.of (slices_heapSortOrdered_uint32_calls ⟨some (blk g), n, c⟩ a b R w ?_) fun _ _ h => h
  have e1 : IntKind.i64.wrap ((b : Int) - (a : Int)) = ((b - a : Nat) : Int) := wr64 (by omega) (by omega)
  have e2 : IntKind.i64.wrap (((b - a : Nat) : Int) - 1) = ((b - a - 1 : Nat) : Int) := wr64 (by omega) (by omega)
  have e3 : IntKind.i64.wrap (Int.tdiv ((b - a - 1 : Nat) : Int) 2) = (((b - a - 1) / 2 : Nat) : Int) := wr64 (by rw [Int.tdiv_eq_ediv_of_nonneg (by omega)]; omega) (by omega)
  have down : ∀ k : Nat, k ≤ n → IntKind.i64.wrap ((k : Int) - 1) = (k : Int) - 1 := fun k hk => wrap64_in (by omega) (by omega)
  unfold L_slices_heapSortOrdered_uint32
  rw [e1, e2, e3]
  generalize hh : Go.Sort.heapBuild ltI (b - a) a ((b - a - 1) / 2 + 1) d = dh
  refine LoopW.ghost (fun k (st : Int × Unit) w' => ∃ (d' : Array Int), st = ((k : Int) - 1, ()) ∧ k ≤ n ∧ 2 * k ≤ b - a + 1 ∧ Dtw w' g rest d' ∧ d'.size = n ∧ Go.Sort.heapBuild ltI (b - a) a k d' = dh ∧ Fr w.heap.size (· = g) w w') ((b - a - 1) / 2 + 1)
    ⟨d, (by rw [Prod.mk.injEq]; exact ⟨by omega, rfl⟩), by omega, by omega, hD, hn.symm, hh, Fr.refl _ _ _⟩ ?_
  rintro k _ w1 ⟨d1, rfl, hk, hk2, hD1, hn1, he, hF⟩ next hnext
  dsimp only
  refine ifB_dec (fun h => ?_) (fun h => ?_)
  · obtain ⟨m, rfl⟩ : ∃ m, k = m + 1 := ⟨k - 1, by omega⟩
    rw [show (((m + 1 : Nat) : Int) - 1) = (m : Int) by omega]
    refine sift_spec (lo := m) hD1 hn1.symm hmax (by omega) (by omega) fun w2 hD2 hF2 => ⟨rfl, ?_⟩
    rw [down m (by omega)]
    exact hnext m _ _ (by omega) ⟨_, rfl, by omega, by omega, hD2, by rw [size_sift]; exact hn1, he, hF.onto hF2 hF.size⟩
  · have hk0 : k = 0 := by omega
    subst hk0
    have he : d1 = dh := he
    subst he
    have hfin : Go.Sort.heapSort ltI d a b = Go.Sort.heapPop ltI a (b - a) d1 := by unfold Go.Sort.heapSort; rw [hh]
    refine LoopW.ghost (fun k (st : Int × Unit) w' => ∃ (d' : Array Int), st = ((k : Int) - 1, ()) ∧ k ≤ b - a ∧ Dtw w' g rest d' ∧ d'.size = n ∧ Go.Sort.heapPop ltI a k d' = Go.Sort.heapSort ltI d a b ∧ Fr w.heap.size (· = g) w w') (b - a)
      ⟨d1, (by rw [Prod.mk.injEq]; exact ⟨by omega, rfl⟩), Nat.le_refl _, hD1, hn1, hfin.symm, hF⟩ ?_
    rintro k _ w2 ⟨d2, rfl, hkb, hD2, hn2, he2, hF2⟩ next2 hnext2
    dsimp only
    refine ifB_dec (fun h => ?_) (fun h => ?_)
    · obtain ⟨m, rfl⟩ : ∃ m, k = m + 1 := ⟨k - 1, by omega⟩
      rw [show (((m + 1 : Nat) : Int) - 1) = (m : Int) by omega]
      have e4 : IntKind.i64.wrap ((a : Int) + (m : Int)) = ((a + m : Nat) : Int) := wr64 (by omega) (by omega)
      rw [e4]
      refine hD2.swap (i := a + m) (j := a) rfl rfl (by omega) (by omega) hn2.symm fun w3 hD3 c3 => ?_
      have hF3 := hF2.chg c3 (.inl rfl)
      refine sift_spec (lo := 0) (hi := m) (f := a) hD3 (by rw [Go.Sort.size_swp]; exact hn2.symm) hmax (by omega) (by omega) fun w4 hD4 hF4 => ⟨rfl, ?_⟩
      rw [down m (by omega)]
      exact hnext2 m _ _ (by omega) ⟨_, rfl, by omega, hD4, by rw [size_sift, Go.Sort.size_swp]; exact hn2, he2, hF3.onto hF4 hF3.size⟩
    · have hk0 : k = 0 := by omega
      subst hk0
      have he2 : d2 = Go.Sort.heapSort ltI d a b := he2
      subst he2
      exact hR w2 hD2 hF2

theorem reverse_spec {a b : Nat} (hD : Dtw w g rest d) (hn : n = d.size) (hmax : n ≤ 35184372088832) (hab : a < b) (hb : b ≤ n)
    (hR : ∀ w', Dtw w' g rest (Go.Sort.reverseRange d a b) → Fr w.heap.size (· = g) w w' → R (.tuple #[]) w') :
    callR Tryz.prog 212 #[.slice (some (blk g)) n c, .int .i64 (a : Int), .int .i64 (b : Int)] w R := by
  refine callR.of (slices_reverseRangeOrdered_uint32_calls ⟨some (blk g), n, c⟩ a b R w ?_) fun _ _ h => h
  have e1 : IntKind.i64.wrap ((b : Int) - 1) = ((b - 1 : Nat) : Int) := wr64 (by omega) (by omega)
  unfold L_slices_reverseRangeOrdered_uint32
  rw [e1]
  refine LoopW.ghost (fun k (st : Int × Int × Unit) w' => ∃ (i j : Nat) (d' : Array Int), st = ((i : Int), (j : Int), ()) ∧ k = j - i ∧ j < n ∧ i ≤ n ∧ Dtw w' g rest d' ∧ d'.size = n ∧ Go.Sort.reverseLoop i j d' = Go.Sort.reverseRange d a b ∧ Fr w.heap.size (· = g) w w') (b - 1 - a)
    ⟨a, b - 1, d, rfl, rfl, by omega, by omega, hD, hn.symm, rfl, Fr.refl _ _ _⟩ ?_
  rintro _ _ w1 ⟨i, j, d1, rfl, rfl, hj, hi, hD1, hn1, he, hF⟩ next hnext
  refine ifB_dec (fun h => ?_) (fun h => ?_)
  · have hij : i < j := by dsimp only at h; omega
    refine hD1.swap (i := j) (j := i) rfl rfl (by omega) (by omega) hn1.symm fun w2 hD2 c2 => ?_
    dsimp only
    rw [wrap64_succ (by omega), wr64 (k := j - 1) (by omega) (by omega)]
    refine hnext (j - 1 - (i + 1)) _ _ (by omega) ⟨i + 1, j - 1, _, rfl, rfl, by omega, by omega, hD2, by rw [Go.Sort.size_swp]; exact hn1, ?_, hF.chg c2 (.inl rfl)⟩
    rw [← he]
    conv => rhs; rw [Go.Sort.reverseLoop, if_pos hij]
  · have : ¬ i < j := by dsimp only at h; omega
    rw [Go.Sort.reverseLoop, if_neg this] at he
    subst he
    exact hR w1 hD1 hF
end
end Go.Proofs

namespace Go.Proofs
open Go.Gk Go.RowKit

theorem scanUp_stop {p : Int → Bool} {d : Array Int} {j i : Nat} (h : j < i ∨ p d[i]! = false) : Go.Sort.scanUp p d j i = i := by
  rw [Go.Sort.scanUp, if_neg]
  intro hh
  rw [Bool.and_eq_true, decide_eq_true_eq] at hh
  rcases h with h | h
  · omega
  · rw [h] at hh; cases hh.2
theorem scanUp_goU {p : Int → Bool} {d : Array Int} {j i : Nat} (h1 : i ≤ j) (h2 : p d[i]! = true) : Go.Sort.scanUp p d j (i + 1) = Go.Sort.scanUp p d j i := by
  conv => rhs; rw [Go.Sort.scanUp, if_pos (by rw [Bool.and_eq_true, decide_eq_true_eq]; exact ⟨h1, h2⟩)]
theorem scanDown_stop {p : Int → Bool} {d : Array Int} {i j : Nat} (h : j < i ∨ p d[j]! = false) : Go.Sort.scanDown p d i j = j := by
  cases j with
  | zero => rfl
  | succ j =>
    rw [Go.Sort.scanDown, if_neg]
    intro hh
    rw [Bool.and_eq_true, decide_eq_true_eq] at hh
    rcases h with h | h
    · omega
    · rw [h] at hh; cases hh.2
theorem scanDown_goU {p : Int → Bool} {d : Array Int} {i j : Nat} (h1 : i ≤ j + 1) (h2 : p d[j + 1]! = true) : Go.Sort.scanDown p d i j = Go.Sort.scanDown p d i (j + 1) := by
  conv => rhs; rw [Go.Sort.scanDown, if_pos (by rw [Bool.and_eq_true, decide_eq_true_eq]; exact ⟨h1, h2⟩)]
theorem up_le {p : Int → Bool} {d : Array Int} {j i : Nat} (h : i ≤ j + 1) : i ≤ Go.Sort.scanUp p d j i ∧ Go.Sort.scanUp p d j i ≤ j + 1 :=
  ⟨Go.Sort.scanUp_ge p d j i, by
    by_cases e : i ≤ j
    · fun_induction Go.Sort.scanUp p d j i with
      | case1 i hc ih =>
        by_cases e2 : i + 1 ≤ j
        · exact ih (by omega) e2
        · rw [scanUp_stop (.inl (by omega))]; omega
      | case2 i hc => omega
    · rw [scanUp_stop (.inl (by omega))]; omega⟩
theorem down_le {p : Int → Bool} {d : Array Int} {i : Nat} : ∀ {j : Nat}, i ≤ j + 1 → Go.Sort.scanDown p d i j ≤ j ∧ i ≤ Go.Sort.scanDown p d i j + 1
  | 0, h => ⟨Nat.le_refl _, h⟩
  | j + 1, h => by
    rw [Go.Sort.scanDown]
    split
    · rename_i hc
      rw [Bool.and_eq_true, decide_eq_true_eq] at hc
      have := down_le (p := p) (d := d) (j := j) hc.1
      omega
    · omega
theorem no_meet {p q : Int → Bool} {d : Array Int} {i0 j0 I J : Nat} (hq : ∀ x, q x = !p x) (hI : Go.Sort.scanUp p d j0 i0 = I) (hJ : Go.Sort.scanDown q d I j0 = J) (h : ¬ I > J) (h0 : 0 < I) : I < J := by
  have s1 := Go.Sort.scanUp_spec p d j0 _ i0 rfl
  have s2 := Go.Sort.scanDown_spec q d I j0
  rw [hI] at s1
  rw [hJ] at s2
  rcases Nat.lt_or_ge I J with q1 | q1
  · exact q1
  · exfalso
    have e : I = J := by omega
    have e1 := s1.2.2.2 (by have := s2.1; omega)
    have e2 := s2.2.2.2 (by omega) (by omega)
    rw [hq, ← e, e1] at e2
    cases e2
section
variable {w : World} {g n c : Nat} {rest : List Value} {d : Array Int} {R : Value → World → Prop}
theorem partEq_spec {a b pv : Nat} (hD : Dtw w g rest d) (hn : n = d.size) (hmax : n ≤ 35184372088832) (hab : a < b) (hb : b ≤ n) (hp1 : a ≤ pv) (hp2 : pv < b)
    (hR : ∀ w', Dtw w' g rest (Go.Sort.partitionEqual ltI d a b pv).2 → Fr w.heap.size (· = g) w w' → R (.int .i64 ((Go.Sort.partitionEqual ltI d a b pv).1 : Int)) w') :
    callR Tryz.prog 215 #[.slice (some (blk g)) n c, .int .i64 (a : Int), .int .i64 (b : Int), .int .i64 (pv : Int)] w R := by
  refine callR.of (slices_partitionEqualOrdered_uint32_calls ⟨some (blk g), n, c⟩ a b pv R w ?_) fun _ _ h => h
  have ea : IntKind.i64.wrap ((a : Int) + 1) = ((a + 1 : Nat) : Int) := wr64 (by omega) (by omega)
  have eb : IntKind.i64.wrap ((b : Int) - 1) = ((b - 1 : Nat) : Int) := wr64 (by omega) (by omega)
  unfold L_slices_partitionEqualOrdered_uint32
  rw [ea, eb]
  refine hD.swap (i := pv) (j := a) rfl rfl (by omega) (by omega) hn fun w1 hD1 c1 => ?_
  have hF1 := (Fr.refl w.heap.size (· = g) w).chg c1 (.inl rfl)
  refine LoopW.ghost (fun k (st : Int × Int × Unit) w' => ∃ (i j : Nat) (d' : Array Int), st = ((i : Int), (j : Int), ()) ∧ k = j + 1 - i ∧ a < i ∧ i ≤ j + 1 ∧ j < b ∧ Dtw w' g rest d' ∧ d'.size = n ∧ Go.Sort.partEqLoop ltI a i j d' = Go.Sort.partitionEqual ltI d a b pv ∧ Fr w.heap.size (· = g) w w') (b - 1 + 1 - (a + 1))
    ⟨a + 1, b - 1, _, rfl, rfl, by omega, by omega, by omega, hD1, by rw [Go.Sort.size_swp]; exact hn.symm, rfl, hF1⟩ ?_
  rintro _ _ w2 ⟨i0, j0, d2, rfl, rfl, hi, hij0, hjb, hD2, hn2, he, hF2⟩ next hnext
  dsimp only
  obtain ⟨u1, u2⟩ := up_le (p := fun x => !ltI d2[a]! x) (d := d2) (j := j0) (i := i0) hij0
  obtain ⟨v1, v2⟩ := down_le (p := fun x => ltI d2[a]! x) (d := d2) (i := Go.Sort.scanUp (fun x => !ltI d2[a]! x) d2 j0 i0) (j := j0) u2
  refine JoinW.cut (fun (st : Int × Unit) w' => st.1 = ((Go.Sort.scanUp (fun x => !ltI d2[a]! x) d2 j0 i0 : Nat) : Int) ∧ Dtw w' g rest d2 ∧ Fr w.heap.size (· = g) w w') ?_ ?_
  · clear u1 u2 v1 v2
    refine LoopW.ghost (fun k (st : Int × Unit) w' => ∃ i : Nat, st = ((i : Int), ()) ∧ k = j0 + 1 - i ∧ i0 ≤ i ∧ i ≤ j0 + 1 ∧ Go.Sort.scanUp (fun x => !ltI d2[a]! x) d2 j0 i = Go.Sort.scanUp (fun x => !ltI d2[a]! x) d2 j0 i0 ∧ Dtw w' g rest d2 ∧ Fr w.heap.size (· = g) w w') (j0 + 1 - i0)
      ⟨i0, rfl, rfl, Nat.le_refl _, by omega, rfl, hD2, hF2⟩ ?_
    rintro _ _ wq ⟨i, rfl, rfl, hi0, hi1, hsc, hDq, hFq⟩ nextq hnextq
    refine JoinW.cut (fun _ w' => i ≤ j0 ∧ (fun x => !ltI d2[a]! x) d2[i]! = true ∧ Dtw w' g rest d2 ∧ Fr w.heap.size (· = g) w w') ?_ ?_
    · refine ifB_dec (fun h => ?_) (fun h => ?_)
      · have hij : i ≤ j0 := by dsimp only at h; omega
        refine (hDq.drew.at rfl (by omega) hn2.symm (hDq.drew.at rfl (by omega) hn2.symm (Less_spec ⟨_, rfl, ?_⟩)))
        refine ifB_not (ifB_bool (fun hb => ?_) (fun hb => ?_))
        · exact ⟨by rw [← hsc, scanUp_stop (p := fun x => !ltI d2[a]! x) (.inr (by rw [hb]; rfl))], hDq.drew, hFq.drew⟩
        · exact ⟨hij, by dsimp only; rw [hb]; rfl, hDq.drew, hFq.drew⟩
      · exact ⟨by rw [← hsc, scanUp_stop (p := fun x => !ltI d2[a]! x) (.inl (by dsimp only at h; omega))], hDq.drew, hFq.drew⟩
    · rintro _ wr ⟨hij, hp, hDr, hFr⟩
      rw [wrap64_succ (by omega)]
      exact hnextq (j0 + 1 - (i + 1)) _ _ (by omega) ⟨i + 1, rfl, rfl, by omega, by omega, by rw [← hsc, scanUp_goU (p := fun x => !ltI d2[a]! x) hij hp], hDr, hFr⟩
  rintro ⟨i2, _⟩ w3 ⟨e2, hD3, hF3⟩
  dsimp only at e2 ⊢
  subst e2
  have heq := Go.Sort.partEqLoop_eq (lt := ltI) a i0 j0 d2
  generalize hI : Go.Sort.scanUp (fun x => !ltI d2[a]! x) d2 j0 i0 = I at u1 u2 v1 v2 heq ⊢
  refine JoinW.cut (fun (st : Int × Unit) w' => st.1 = ((Go.Sort.scanDown (fun x => ltI d2[a]! x) d2 I j0 : Nat) : Int) ∧ Dtw w' g rest d2 ∧ Fr w.heap.size (· = g) w w') ?_ ?_
  · clear v1 v2 heq
    refine LoopW.ghost (fun k (st : Int × Unit) w' => st = ((k : Int), ()) ∧ k ≤ j0 ∧ I ≤ k + 1 ∧ Go.Sort.scanDown (fun x => ltI d2[a]! x) d2 (I) k = Go.Sort.scanDown (fun x => ltI d2[a]! x) d2 (I) j0 ∧ Dtw w' g rest d2 ∧ Fr w.heap.size (· = g) w w') j0
      ⟨rfl, Nat.le_refl _, by omega, rfl, hD3, hF3⟩ ?_
    rintro j _ wq ⟨rfl, hj0, hj1, hsc, hDq, hFq⟩ nextq hnextq
    refine JoinW.cut (fun _ w' => I ≤ j ∧ (fun x => ltI d2[a]! x) d2[j]! = true ∧ Dtw w' g rest d2 ∧ Fr w.heap.size (· = g) w w') ?_ ?_
    · refine ifB_dec (fun h => ?_) (fun h => ?_)
      · have hij : I ≤ j := by dsimp only at h; omega
        refine hDq.drew.at rfl (by omega) hn2.symm (hDq.drew.at rfl (by omega) hn2.symm (Less_spec ⟨_, rfl, ?_⟩))
        refine ifB_bool (fun hb => ⟨hij, hb, hDq.drew, hFq.drew⟩) (fun hb => ⟨by rw [← hsc, scanDown_stop (p := fun x => ltI d2[a]! x) (.inr hb)], hDq.drew, hFq.drew⟩)
      · exact ⟨by rw [← hsc, scanDown_stop (p := fun x => ltI d2[a]! x) (.inl (by dsimp only at h; omega))], hDq.drew, hFq.drew⟩
    · rintro _ wr ⟨hij, hp, hDr, hFr⟩
      obtain ⟨m, rfl⟩ : ∃ m, j = m + 1 := ⟨j - 1, by omega⟩
      rw [show IntKind.i64.wrap (((((m + 1 : Nat) : Int), ()) : Int × Unit).1 - 1) = (m : Int) from wr64 (by dsimp only; omega) (by omega)]
      exact hnextq m _ _ (by omega) ⟨rfl, by omega, by omega, by rw [← hsc, scanDown_goU (p := fun x => ltI d2[a]! x) hij hp], hDr, hFr⟩
  rintro ⟨j2, _⟩ w4 ⟨e2, hD4, hF4⟩
  dsimp only at e2 ⊢
  subst e2
  generalize hJ : Go.Sort.scanDown (fun x => ltI d2[a]! x) d2 I j0 = J at v1 v2 heq ⊢
  refine ifB_dec (fun h => ?_) (fun h => ?_)
  · have h : I > J := by omega
    rw [if_pos h, he] at heq
    have := hR w4
    rw [heq] at this
    exact this hD4 hF4
  · have h : ¬ I > J := by omega
    rw [if_neg h] at heq
    have hIJ : I < J := no_meet (fun x => (Bool.not_not _).symm) hI hJ h (by omega)
    refine hD4.swap (i := J) (j := I) rfl rfl (by omega) (by omega) hn2.symm fun w5 hD5 c5 => ?_
    rw [wr64 (k := I + 1) (by omega) (by omega), wr64 (k := J - 1) (by omega) (by omega)]
    exact hnext (J - 1 + 1 - (I + 1)) _ _ (by omega) ⟨I + 1, J - 1, _, rfl, rfl, by omega, by omega, by omega, hD5, by rw [Go.Sort.size_swp]; exact hn2, by rw [← heq, he], hF4.chg c5 (.inl rfl)⟩
theorem ptn_spec {a b pv : Nat} (hD : Dtw w g rest d) (hn : n = d.size) (hmax : n ≤ 35184372088832) (hab : a < b) (hb : b ≤ n) (hp1 : a ≤ pv) (hp2 : pv < b)
    (hR : ∀ w', Dtw w' g rest (Go.Sort.partition ltI d a b pv).2.2 → Fr w.heap.size (· = g) w w' → R (.tuple #[.int .i64 ((Go.Sort.partition ltI d a b pv).1 : Int), .bool (Go.Sort.partition ltI d a b pv).2.1]) w') :
    callR Tryz.prog 216 #[.slice (some (blk g)) n c, .int .i64 (a : Int), .int .i64 (b : Int), .int .i64 (pv : Int)] w R := by
  refine callR.of (slices_partitionOrdered_uint32_calls ⟨some (blk g), n, c⟩ a b pv R w ?_) fun _ _ h => h
  have ea : IntKind.i64.wrap ((a : Int) + 1) = ((a + 1 : Nat) : Int) := wr64 (by omega) (by omega)
  have eb : IntKind.i64.wrap ((b : Int) - 1) = ((b - 1 : Nat) : Int) := wr64 (by omega) (by omega)
  unfold L_slices_partitionOrdered_uint32
  rw [ea, eb]
  refine hD.swap (i := pv) (j := a) rfl rfl (by omega) (by omega) hn fun w1 hD1 c1 => ?_
  have hF1 := (Fr.refl w.heap.size (· = g) w).chg c1 (.inl rfl)
  have hn1 : (Go.Sort.swp d a pv).size = n := by rw [Go.Sort.size_swp]; exact hn.symm
  have hpt : Go.Sort.partition ltI d a b pv = (if Go.Sort.scanUp (fun x => ltI x (Go.Sort.swp d a pv)[a]!) (Go.Sort.swp d a pv) (b - 1) (a + 1) > Go.Sort.scanDown (fun x => !ltI x (Go.Sort.swp d a pv)[a]!) (Go.Sort.swp d a pv) (Go.Sort.scanUp (fun x => ltI x (Go.Sort.swp d a pv)[a]!) (Go.Sort.swp d a pv) (b - 1) (a + 1)) (b - 1) then
    (Go.Sort.scanDown (fun x => !ltI x (Go.Sort.swp d a pv)[a]!) (Go.Sort.swp d a pv) (Go.Sort.scanUp (fun x => ltI x (Go.Sort.swp d a pv)[a]!) (Go.Sort.swp d a pv) (b - 1) (a + 1)) (b - 1), true, Go.Sort.swp (Go.Sort.swp d a pv) (Go.Sort.scanDown (fun x => !ltI x (Go.Sort.swp d a pv)[a]!) (Go.Sort.swp d a pv) (Go.Sort.scanUp (fun x => ltI x (Go.Sort.swp d a pv)[a]!) (Go.Sort.swp d a pv) (b - 1) (a + 1)) (b - 1)) a)
    else ((Go.Sort.partLoop ltI a (Go.Sort.scanUp (fun x => ltI x (Go.Sort.swp d a pv)[a]!) (Go.Sort.swp d a pv) (b - 1) (a + 1) + 1) (Go.Sort.scanDown (fun x => !ltI x (Go.Sort.swp d a pv)[a]!) (Go.Sort.swp d a pv) (Go.Sort.scanUp (fun x => ltI x (Go.Sort.swp d a pv)[a]!) (Go.Sort.swp d a pv) (b - 1) (a + 1)) (b - 1) - 1) (Go.Sort.swp (Go.Sort.swp d a pv) (Go.Sort.scanUp (fun x => ltI x (Go.Sort.swp d a pv)[a]!) (Go.Sort.swp d a pv) (b - 1) (a + 1)) (Go.Sort.scanDown (fun x => !ltI x (Go.Sort.swp d a pv)[a]!) (Go.Sort.swp d a pv) (Go.Sort.scanUp (fun x => ltI x (Go.Sort.swp d a pv)[a]!) (Go.Sort.swp d a pv) (b - 1) (a + 1)) (b - 1)))).1, false,
      Go.Sort.swp (Go.Sort.partLoop ltI a (Go.Sort.scanUp (fun x => ltI x (Go.Sort.swp d a pv)[a]!) (Go.Sort.swp d a pv) (b - 1) (a + 1) + 1) (Go.Sort.scanDown (fun x => !ltI x (Go.Sort.swp d a pv)[a]!) (Go.Sort.swp d a pv) (Go.Sort.scanUp (fun x => ltI x (Go.Sort.swp d a pv)[a]!) (Go.Sort.swp d a pv) (b - 1) (a + 1)) (b - 1) - 1) (Go.Sort.swp (Go.Sort.swp d a pv) (Go.Sort.scanUp (fun x => ltI x (Go.Sort.swp d a pv)[a]!) (Go.Sort.swp d a pv) (b - 1) (a + 1)) (Go.Sort.scanDown (fun x => !ltI x (Go.Sort.swp d a pv)[a]!) (Go.Sort.swp d a pv) (Go.Sort.scanUp (fun x => ltI x (Go.Sort.swp d a pv)[a]!) (Go.Sort.swp d a pv) (b - 1) (a + 1)) (b - 1)))).2 (Go.Sort.partLoop ltI a (Go.Sort.scanUp (fun x => ltI x (Go.Sort.swp d a pv)[a]!) (Go.Sort.swp d a pv) (b - 1) (a + 1) + 1) (Go.Sort.scanDown (fun x => !ltI x (Go.Sort.swp d a pv)[a]!) (Go.Sort.swp d a pv) (Go.Sort.scanUp (fun x => ltI x (Go.Sort.swp d a pv)[a]!) (Go.Sort.swp d a pv) (b - 1) (a + 1)) (b - 1) - 1) (Go.Sort.swp (Go.Sort.swp d a pv) (Go.Sort.scanUp (fun x => ltI x (Go.Sort.swp d a pv)[a]!) (Go.Sort.swp d a pv) (b - 1) (a + 1)) (Go.Sort.scanDown (fun x => !ltI x (Go.Sort.swp d a pv)[a]!) (Go.Sort.swp d a pv) (Go.Sort.scanUp (fun x => ltI x (Go.Sort.swp d a pv)[a]!) (Go.Sort.swp d a pv) (b - 1) (a + 1)) (b - 1)))).1 a)) := by
    unfold Go.Sort.partition
    rfl
  generalize hpp : Go.Sort.partition ltI d a b pv = pp at hR hpt
  generalize Go.Sort.swp d a pv = d1 at hD1 hn1 hpt
  have hbb : b - 1 < b := by omega
  generalize hB1 : b - 1 = b1 at hpt hbb ⊢
  obtain ⟨u1, u2⟩ := up_le (p := fun x => ltI x d1[a]!) (d := d1) (j := b1) (i := a + 1) (by omega)
  obtain ⟨v1, v2⟩ := down_le (p := fun x => !ltI x d1[a]!) (d := d1) (i := Go.Sort.scanUp (fun x => ltI x d1[a]!) d1 b1 (a + 1)) (j := b1) u2
  refine JoinW.cut (fun (st : Int × Unit) w' => st.1 = ((Go.Sort.scanUp (fun x => ltI x d1[a]!) d1 b1 (a + 1) : Nat) : Int) ∧ Dtw w' g rest d1 ∧ Fr w.heap.size (· = g) w w') ?_ ?_
  · clear u1 u2 v1 v2 hpt
    refine LoopW.ghost (fun k (st : Int × Unit) w' => ∃ i : Nat, st = ((i : Int), ()) ∧ k = b1 + 1 - i ∧ (a + 1) ≤ i ∧ i ≤ b1 + 1 ∧ Go.Sort.scanUp (fun x => ltI x d1[a]!) d1 b1 i = Go.Sort.scanUp (fun x => ltI x d1[a]!) d1 b1 (a + 1) ∧ Dtw w' g rest d1 ∧ Fr w.heap.size (· = g) w w') (b1 + 1 - (a + 1))
      ⟨(a + 1), rfl, rfl, Nat.le_refl _, by omega, rfl, hD1, hF1⟩ ?_
    rintro _ _ wq ⟨i, rfl, rfl, hi0, hi1, hsc, hDq, hFq⟩ nextq hnextq
    refine JoinW.cut (fun _ w' => i ≤ b1 ∧ (fun x => ltI x d1[a]!) d1[i]! = true ∧ Dtw w' g rest d1 ∧ Fr w.heap.size (· = g) w w') ?_ ?_
    · refine ifB_dec (fun h => ?_) (fun h => ?_)
      · have hij : i ≤ b1 := by dsimp only at h; omega
        refine (hDq.drew.at rfl (by omega) hn1.symm (hDq.drew.at rfl (by omega) hn1.symm (Less_spec ⟨_, rfl, ?_⟩)))
        refine ifB_bool (fun hb => ⟨hij, hb, hDq.drew, hFq.drew⟩) (fun hb => ⟨by rw [← hsc, scanUp_stop (p := fun x => ltI x d1[a]!) (.inr hb)], hDq.drew, hFq.drew⟩)
      · exact ⟨by rw [← hsc, scanUp_stop (p := fun x => ltI x d1[a]!) (.inl (by dsimp only at h; omega))], hDq.drew, hFq.drew⟩
    · rintro _ wr ⟨hij, hp, hDr, hFr⟩
      rw [wrap64_succ (by omega)]
      exact hnextq (b1 + 1 - (i + 1)) _ _ (by omega) ⟨i + 1, rfl, rfl, by omega, by omega, by rw [← hsc, scanUp_goU (p := fun x => ltI x d1[a]!) hij hp], hDr, hFr⟩
  rintro ⟨i2, _⟩ w3 ⟨e2, hD3, hF3⟩
  dsimp only at e2 ⊢
  subst e2
  generalize hI : Go.Sort.scanUp (fun x => ltI x d1[a]!) d1 b1 (a + 1) = I at u1 u2 v1 v2 hpt ⊢
  refine JoinW.cut (fun (st : Int × Unit) w' => st.1 = ((Go.Sort.scanDown (fun x => !ltI x d1[a]!) d1 I b1 : Nat) : Int) ∧ Dtw w' g rest d1 ∧ Fr w.heap.size (· = g) w w') ?_ ?_
  · clear v1 v2 hpt
    refine LoopW.ghost (fun k (st : Int × Unit) w' => st = ((k : Int), ()) ∧ k ≤ b1 ∧ I ≤ k + 1 ∧ Go.Sort.scanDown (fun x => !ltI x d1[a]!) d1 (I) k = Go.Sort.scanDown (fun x => !ltI x d1[a]!) d1 (I) b1 ∧ Dtw w' g rest d1 ∧ Fr w.heap.size (· = g) w w') b1
      ⟨rfl, Nat.le_refl _, by omega, rfl, hD3, hF3⟩ ?_
    rintro j _ wq ⟨rfl, hj0, hj1, hsc, hDq, hFq⟩ nextq hnextq
    refine JoinW.cut (fun _ w' => I ≤ j ∧ (fun x => !ltI x d1[a]!) d1[j]! = true ∧ Dtw w' g rest d1 ∧ Fr w.heap.size (· = g) w w') ?_ ?_
    · refine ifB_dec (fun h => ?_) (fun h => ?_)
      · have hij : I ≤ j := by dsimp only at h; omega
        refine hDq.drew.at rfl (by omega) hn1.symm (hDq.drew.at rfl (by omega) hn1.symm (Less_spec ⟨_, rfl, ?_⟩))
        refine ifB_not (ifB_bool (fun hb => ?_) (fun hb => ?_))
        · exact ⟨by rw [← hsc, scanDown_stop (p := fun x => !ltI x d1[a]!) (.inr (by rw [hb]; rfl))], hDq.drew, hFq.drew⟩
        · exact ⟨hij, by dsimp only; rw [hb]; rfl, hDq.drew, hFq.drew⟩
      · exact ⟨by rw [← hsc, scanDown_stop (p := fun x => !ltI x d1[a]!) (.inl (by dsimp only at h; omega))], hDq.drew, hFq.drew⟩
    · rintro _ wr ⟨hij, hp, hDr, hFr⟩
      obtain ⟨m, rfl⟩ : ∃ m, j = m + 1 := ⟨j - 1, by omega⟩
      rw [show IntKind.i64.wrap (((((m + 1 : Nat) : Int), ()) : Int × Unit).1 - 1) = (m : Int) from wr64 (by dsimp only; omega) (by omega)]
      exact hnextq m _ _ (by omega) ⟨rfl, by omega, by omega, by rw [← hsc, scanDown_goU (p := fun x => !ltI x d1[a]!) hij hp], hDr, hFr⟩
  rintro ⟨j2, _⟩ w4 ⟨e2, hD4, hF4⟩
  dsimp only at e2 ⊢
  subst e2
  generalize hJ : Go.Sort.scanDown (fun x => !ltI x d1[a]!) d1 I b1 = J at v1 v2 hpt ⊢
  refine ifB_dec (fun h => ?_) (fun h => ?_)
  · have h : I > J := by omega
    rw [if_pos h] at hpt
    subst hpt
    refine hD4.swap (i := a) (j := J) rfl rfl (by omega) (by omega) hn1.symm fun w5 hD5 c5 => ?_
    exact hR w5 hD5 (hF4.chg c5 (.inl rfl))
  · have h : ¬ I > J := by omega
    rw [if_neg h] at hpt
    refine hD4.swap (i := J) (j := I) rfl rfl (by omega) (by omega) hn1.symm fun w5 hD5 c5 => ?_
    have hF5 := hF4.chg c5 (.inl rfl)
    have hn5 : (Go.Sort.swp d1 I J).size = n := by rw [Go.Sort.size_swp]; exact hn1
    generalize Go.Sort.swp d1 I J = d5 at hD5 hn5 hpt
    generalize hpl : Go.Sort.partLoop ltI a (I + 1) (J - 1) d5 = L at hpt
    have hIJ : I < J := no_meet (fun _ => rfl) hI hJ h (by omega)
    rw [wr64 (k := I + 1) (by omega) (by omega), wr64 (k := J - 1) (by omega) (by omega)]
    refine LoopW.ghost (fun k (st : Int × Int × Unit) w' => ∃ (i j : Nat) (d' : Array Int), st = ((i : Int), (j : Int), ()) ∧ k = j + 1 - i ∧ a < i ∧ i ≤ j + 1 ∧ j < b ∧ Dtw w' g rest d' ∧ d'.size = n ∧ Go.Sort.partLoop ltI a i j d' = L ∧ Fr w.heap.size (· = g) w w') (J - 1 + 1 - (I + 1))
      ⟨I + 1, J - 1, _, rfl, rfl, by omega, by omega, by omega, hD5, hn5, hpl, hF5⟩ ?_
    clear hpl hD5 hn5 hF5 c5
    rintro _ _ w2 ⟨i0, j0, d2, rfl, rfl, hi, hij0, hjb, hD2, hn2, he, hF2⟩ next hnext
    dsimp only
    obtain ⟨u1', u2'⟩ := up_le (p := fun x => ltI x d2[a]!) (d := d2) (j := j0) (i := i0) hij0
    obtain ⟨v1', v2'⟩ := down_le (p := fun x => !ltI x d2[a]!) (d := d2) (i := Go.Sort.scanUp (fun x => ltI x d2[a]!) d2 j0 i0) (j := j0) u2'
    refine JoinW.cut (fun (st : Int × Unit) w' => st.1 = ((Go.Sort.scanUp (fun x => ltI x d2[a]!) d2 j0 i0 : Nat) : Int) ∧ Dtw w' g rest d2 ∧ Fr w.heap.size (· = g) w w') ?_ ?_
    · clear u1' u2' v1' v2' hpt
      refine LoopW.ghost (fun k (st : Int × Unit) w' => ∃ i : Nat, st = ((i : Int), ()) ∧ k = j0 + 1 - i ∧ i0 ≤ i ∧ i ≤ j0 + 1 ∧ Go.Sort.scanUp (fun x => ltI x d2[a]!) d2 j0 i = Go.Sort.scanUp (fun x => ltI x d2[a]!) d2 j0 i0 ∧ Dtw w' g rest d2 ∧ Fr w.heap.size (· = g) w w') (j0 + 1 - i0)
        ⟨i0, rfl, rfl, Nat.le_refl _, by omega, rfl, hD2, hF2⟩ ?_
      rintro _ _ wq ⟨i, rfl, rfl, hi0, hi1, hsc, hDq, hFq⟩ nextq hnextq
      refine JoinW.cut (fun _ w' => i ≤ j0 ∧ (fun x => ltI x d2[a]!) d2[i]! = true ∧ Dtw w' g rest d2 ∧ Fr w.heap.size (· = g) w w') ?_ ?_
      · refine ifB_dec (fun h => ?_) (fun h => ?_)
        · have hij : i ≤ j0 := by dsimp only at h; omega
          refine (hDq.drew.at rfl (by omega) hn2.symm (hDq.drew.at rfl (by omega) hn2.symm (Less_spec ⟨_, rfl, ?_⟩)))
          refine ifB_bool (fun hb => ⟨hij, hb, hDq.drew, hFq.drew⟩) (fun hb => ⟨by rw [← hsc, scanUp_stop (p := fun x => ltI x d2[a]!) (.inr hb)], hDq.drew, hFq.drew⟩)
        · exact ⟨by rw [← hsc, scanUp_stop (p := fun x => ltI x d2[a]!) (.inl (by dsimp only at h; omega))], hDq.drew, hFq.drew⟩
      · rintro _ wr ⟨hij, hp, hDr, hFr⟩
        rw [wrap64_succ (by omega)]
        exact hnextq (j0 + 1 - (i + 1)) _ _ (by omega) ⟨i + 1, rfl, rfl, by omega, by omega, by rw [← hsc, scanUp_goU (p := fun x => ltI x d2[a]!) hij hp], hDr, hFr⟩
    rintro ⟨i2, _⟩ w3 ⟨e2, hD3, hF3⟩
    dsimp only at e2 ⊢
    subst e2
    have heq := Go.Sort.partLoop_eq (lt := ltI) a i0 j0 d2
    generalize hI' : Go.Sort.scanUp (fun x => ltI x d2[a]!) d2 j0 i0 = I' at u1' u2' v1' v2' heq ⊢
    refine JoinW.cut (fun (st : Int × Unit) w' => st.1 = ((Go.Sort.scanDown (fun x => !ltI x d2[a]!) d2 I' j0 : Nat) : Int) ∧ Dtw w' g rest d2 ∧ Fr w.heap.size (· = g) w w') ?_ ?_
    · clear v1' v2' heq hpt
      refine LoopW.ghost (fun k (st : Int × Unit) w' => st = ((k : Int), ()) ∧ k ≤ j0 ∧ I' ≤ k + 1 ∧ Go.Sort.scanDown (fun x => !ltI x d2[a]!) d2 (I') k = Go.Sort.scanDown (fun x => !ltI x d2[a]!) d2 (I') j0 ∧ Dtw w' g rest d2 ∧ Fr w.heap.size (· = g) w w') j0
        ⟨rfl, Nat.le_refl _, by omega, rfl, hD3, hF3⟩ ?_
      rintro j _ wq ⟨rfl, hj0, hj1, hsc, hDq, hFq⟩ nextq hnextq
      refine JoinW.cut (fun _ w' => I' ≤ j ∧ (fun x => !ltI x d2[a]!) d2[j]! = true ∧ Dtw w' g rest d2 ∧ Fr w.heap.size (· = g) w w') ?_ ?_
      · refine ifB_dec (fun h => ?_) (fun h => ?_)
        · have hij : I' ≤ j := by dsimp only at h; omega
          refine hDq.drew.at rfl (by omega) hn2.symm (hDq.drew.at rfl (by omega) hn2.symm (Less_spec ⟨_, rfl, ?_⟩))
          refine ifB_not (ifB_bool (fun hb => ?_) (fun hb => ?_))
          · exact ⟨by rw [← hsc, scanDown_stop (p := fun x => !ltI x d2[a]!) (.inr (by rw [hb]; rfl))], hDq.drew, hFq.drew⟩
          · exact ⟨hij, by dsimp only; rw [hb]; rfl, hDq.drew, hFq.drew⟩
        · exact ⟨by rw [← hsc, scanDown_stop (p := fun x => !ltI x d2[a]!) (.inl (by dsimp only at h; omega))], hDq.drew, hFq.drew⟩
      · rintro _ wr ⟨hij, hp, hDr, hFr⟩
        obtain ⟨m, rfl⟩ : ∃ m, j = m + 1 := ⟨j - 1, by omega⟩
        rw [show IntKind.i64.wrap (((((m + 1 : Nat) : Int), ()) : Int × Unit).1 - 1) = (m : Int) from wr64 (by dsimp only; omega) (by omega)]
        exact hnextq m _ _ (by omega) ⟨rfl, by omega, by omega, by rw [← hsc, scanDown_goU (p := fun x => !ltI x d2[a]!) hij hp], hDr, hFr⟩
    rintro ⟨j2, _⟩ w4 ⟨e2, hD4, hF4⟩
    dsimp only at e2 ⊢
    subst e2
    generalize hJ' : Go.Sort.scanDown (fun x => !ltI x d2[a]!) d2 I' j0 = J' at v1' v2' heq ⊢
    refine ifB_dec (fun h => ?_) (fun h => ?_)
    · have h : I' > J' := by omega
      rw [if_pos h, he] at heq
      refine hD4.swap (i := a) (j := J') rfl rfl (by omega) (by omega) hn2.symm fun w5 hD5 c5 => ?_
      subst heq
      dsimp only at hpt
      subst hpt
      exact hR w5 hD5 (hF4.chg c5 (.inl rfl))
    · have h : ¬ I' > J' := by omega
      rw [if_neg h] at heq
      have hIJ' : I' < J' := no_meet (fun _ => rfl) hI' hJ' h (by omega)
      refine hD4.swap (i := J') (j := I') rfl rfl (by omega) (by omega) hn2.symm fun w5 hD5 c5 => ?_
      rw [wr64 (k := I' + 1) (by omega) (by omega), wr64 (k := J' - 1) (by omega) (by omega)]
      exact hnext (J' - 1 + 1 - (I' + 1)) _ _ (by omega) ⟨I' + 1, J' - 1, _, rfl, rfl, by omega, by omega, by omega, hD5, by rw [Go.Sort.size_swp]; exact hn2, by rw [← heq, he], hF4.chg c5 (.inl rfl)⟩
end
end Go.Proofs

namespace Go.Proofs
open Go.Gk Go.RowKit

theorem scanS_stop {d : Array Int} {b i : Nat} (h : b ≤ i ∨ ltI d[i]! d[i - 1]! = true) : Go.Sort.scanSorted ltI d b i = i := by
  rw [Go.Sort.scanSorted, if_neg]
  intro hh
  rw [Bool.and_eq_true, decide_eq_true_eq] at hh
  rcases h with h | h
  · omega
  · rw [h] at hh; cases hh.2
theorem scanS_go {d : Array Int} {b i : Nat} (h1 : i < b) (h2 : ltI d[i]! d[i - 1]! = false) : Go.Sort.scanSorted ltI d b (i + 1) = Go.Sort.scanSorted ltI d b i := by
  conv => rhs; rw [Go.Sort.scanSorted, if_pos (by rw [Bool.and_eq_true, decide_eq_true_eq, h2]; exact ⟨h1, rfl⟩)]
theorem shD_stop {d : Array Int} {j : Nat} (h : j = 0 ∨ ltI d[j]! d[j - 1]! = false) : Go.Sort.shiftDown ltI j d = d := by
  cases j with
  | zero => rfl
  | succ j =>
    rw [Go.Sort.shiftDown, if_pos]
    rcases h with h | h
    · omega
    · rw [Nat.add_sub_cancel] at h; rw [h]; rfl
theorem shD_go {d : Array Int} {j : Nat} (h : ltI d[j + 1]! d[j]! = true) : Go.Sort.shiftDown ltI (j + 1) d = Go.Sort.shiftDown ltI j (Go.Sort.swp d (j + 1) j) := by
  conv => lhs; rw [Go.Sort.shiftDown, if_neg (by rw [h]; simp)]
theorem shU_stop {d : Array Int} {b j : Nat} (h : b ≤ j ∨ ltI d[j]! d[j - 1]! = false) : Go.Sort.shiftUp ltI b j d = d := by
  rw [Go.Sort.shiftUp]
  split
  · rcases h with h | h
    · omega
    · rw [h]; rfl
  · rfl
theorem shU_go {d : Array Int} {b j : Nat} (h0 : j < b) (h : ltI d[j]! d[j - 1]! = true) : Go.Sort.shiftUp ltI b j d = Go.Sort.shiftUp ltI b (j + 1) (Go.Sort.swp d j (j - 1)) := by
  conv => lhs; rw [Go.Sort.shiftUp, if_pos h0, if_neg (by rw [h]; simp)]
section
variable {w : World} {g n c : Nat} {rest : List Value} {d : Array Int} {R : Value → World → Prop}
theorem partial_spec {a b : Nat} (hD : Dtw w g rest d) (hn : n = d.size) (hmax : n ≤ 35184372088832) (hab : a < b) (hb : b ≤ n)
    (hR : ∀ w', Dtw w' g rest (Go.Sort.partialInsertionSort ltI d a b).1 → Fr w.heap.size (· = g) w w' → R (.bool (Go.Sort.partialInsertionSort ltI d a b).2) w') :
    callR Tryz.prog 213 #[.slice (some (blk g)) n c, .int .i64 (a : Int), .int .i64 (b : Int)] w R := by
  refine callR.of (slices_partialInsertionSortOrdered_uint32_calls ⟨some (blk g), n, c⟩ a b R w ?_) fun _ _ h => h
  have ea : IntKind.i64.wrap ((a : Int) + 1) = ((a + 1 : Nat) : Int) := wr64 (by omega) (by omega)
  have eba : IntKind.i64.wrap ((b : Int) - (a : Int)) = ((b - a : Nat) : Int) := wr64 (by omega) (by omega)
  unfold L_slices_partialInsertionSortOrdered_uint32
  rw [ea, eba]
  generalize hgoal : Go.Sort.partialInsertionSort ltI d a b = pp at hR
  have hgoal : Go.Sort.partialIns ltI a b 5 (a + 1) d = pp := hgoal
  refine LoopW.ghost (fun s (st : Int × Int × Unit) w' => ∃ (i : Nat) (d' : Array Int), st = ((i : Int), (5 : Int) - (s : Int), ()) ∧ s ≤ 5 ∧ a + 1 ≤ i ∧ i ≤ b ∧ Dtw w' g rest d' ∧ d'.size = n ∧ Go.Sort.partialIns ltI a b s i d' = pp ∧ Fr w.heap.size (· = g) w w') 5
    ⟨a + 1, d, rfl, Nat.le_refl _, Nat.le_refl _, by omega, hD, hn.symm, hgoal, Fr.refl _ _ _⟩ ?_
  rintro s _ w1 ⟨i0, d1, rfl, hs, hi0, hib, hD1, hn1, he, hF⟩ next hnext
  dsimp only
  refine ifB_dec (fun h => ?_) (fun h => ?_)
  · obtain ⟨s, rfl⟩ : ∃ m, s = m + 1 := ⟨s - 1, by omega⟩
    rw [show IntKind.i64.wrap ((5 : Int) - ((s + 1 : Nat) : Int) + 1) = (5 : Int) - (s : Int) by rw [wrap64_in (by omega) (by omega)]; omega]
    refine JoinW.cut (fun (st : Int × Unit) w' => ∃ (i : Nat) (d' : Array Int), st = ((i : Int), ()) ∧ a + 1 ≤ i ∧ i ≤ b ∧ Dtw w' g rest d' ∧ d'.size = n ∧ Go.Sort.partialIns ltI a b s i d' = pp ∧ Fr w.heap.size (· = g) w w') ?_ ?_
    rotate_left
    · rintro _ w2 ⟨i, d2, rfl, q1, q2, q3, q4, q5, q6⟩
      exact hnext s _ _ (by omega) ⟨i, d2, rfl, by omega, q1, q2, q3, q4, q5, q6⟩
    refine JoinW.cut (fun (st : Int × Unit) w' => ∃ i : Nat, st = ((i : Int), ()) ∧ i = Go.Sort.scanSorted ltI d1 b i0 ∧ a + 1 ≤ i ∧ i ≤ b ∧ Dtw w' g rest d1 ∧ Fr w.heap.size (· = g) w w') ?_ ?_
    · refine LoopW.ghost (fun k (st : Int × Unit) w' => ∃ i : Nat, st = ((i : Int), ()) ∧ k = b - i ∧ a + 1 ≤ i ∧ i ≤ b ∧ Go.Sort.scanSorted ltI d1 b i = Go.Sort.scanSorted ltI d1 b i0 ∧ Dtw w' g rest d1 ∧ Fr w.heap.size (· = g) w w') (b - i0)
        ⟨i0, rfl, rfl, hi0, hib, rfl, hD1, hF⟩ ?_
      rintro _ _ wq ⟨i, rfl, rfl, q1, q2, hsc, hDq, hFq⟩ nextq hnextq
      dsimp only
      have ei : IntKind.i64.wrap ((i : Int) - 1) = ((i - 1 : Nat) : Int) := wr64 (by omega) (by omega)
      rw [ei]
      refine JoinW.cut (fun _ w' => i < b ∧ ltI d1[i]! d1[i - 1]! = false ∧ Dtw w' g rest d1 ∧ Fr w.heap.size (· = g) w w') ?_ ?_
      · refine ifB_dec (fun h => ?_) (fun h => ?_)
        · have hib' : i < b := by omega
          refine hDq.drew.at rfl (by omega) hn1.symm (hDq.drew.at rfl (by omega) hn1.symm (Less_spec ⟨_, rfl, ?_⟩))
          refine ifB_not (ifB_bool (fun hb => ?_) (fun hb => ⟨hib', hb, hDq.drew, hFq.drew⟩))
          exact ⟨i, rfl, by rw [← hsc, scanS_stop (.inr hb)], q1, q2, hDq.drew, hFq.drew⟩
        · exact ⟨i, rfl, by rw [← hsc, scanS_stop (.inl (by omega))], q1, q2, hDq.drew, hFq.drew⟩
      · rintro _ wr ⟨hib', hb, hDr, hFr⟩
        rw [wrap64_succ (by omega)]
        exact hnextq (b - (i + 1)) _ _ (by omega) ⟨i + 1, rfl, rfl, by omega, by omega, by rw [← hsc, scanS_go hib' hb], hDr, hFr⟩
    rintro _ w2 ⟨i, rfl, ei, q1, q2, hD2, hF2⟩
    dsimp only
    have hps : Go.Sort.partialIns ltI a b (s + 1) i0 d1 = (if i = b then (d1, true) else if b - a < 50 then (d1, false) else
        Go.Sort.partialIns ltI a b s i (if b - i ≥ 2 then Go.Sort.shiftUp ltI b (i + 1) (if i - a ≥ 2 then Go.Sort.shiftDown ltI (i - 1) (Go.Sort.swp d1 i (i - 1)) else Go.Sort.swp d1 i (i - 1)) else (if i - a ≥ 2 then Go.Sort.shiftDown ltI (i - 1) (Go.Sort.swp d1 i (i - 1)) else Go.Sort.swp d1 i (i - 1)))) := by
      rw [ei]; rfl
    rw [hps] at he
    refine ifB_beq (fun e => ?_) (fun e => ?_)
    · rw [if_pos (by omega)] at he
      subst he
      exact hR w2 hD2 hF2
    have hib2 : i < b := by omega
    rw [if_neg (by omega)] at he
    refine ifB_dec (fun h5 => ?_) (fun h5 => ?_)
    · rw [if_pos (by omega)] at he
      subst he
      exact hR w2 hD2 hF2
    rw [if_neg (by omega)] at he
    have ei1 : IntKind.i64.wrap ((i : Int) - 1) = ((i - 1 : Nat) : Int) := wr64 (by omega) (by omega)
    have eia : IntKind.i64.wrap ((i : Int) - (a : Int)) = ((i - a : Nat) : Int) := wr64 (by omega) (by omega)
    have ebi : IntKind.i64.wrap ((b : Int) - (i : Int)) = ((b - i : Nat) : Int) := wr64 (by omega) (by omega)
    have ei2 : IntKind.i64.wrap ((i : Int) + 1) = ((i + 1 : Nat) : Int) := wr64 (by omega) (by omega)
    rw [ei1, eia, ebi, ei2]
    refine hD2.swap (i := i - 1) (j := i) rfl rfl (by omega) (by omega) hn1.symm fun w3 hD3 c3 => ?_
    have hF3 := hF2.chg c3 (.inl rfl)
    have hn3 : (Go.Sort.swp d1 i (i - 1)).size = n := by rw [Go.Sort.size_swp]; exact hn1
    generalize Go.Sort.swp d1 i (i - 1) = d3 at hD3 hn3 he
    refine JoinW.cut (fun _ w' => ∃ d4, Dtw w' g rest d4 ∧ d4.size = n ∧ d4 = (if i - a ≥ 2 then Go.Sort.shiftDown ltI (i - 1) d3 else d3) ∧ Fr w.heap.size (· = g) w w') ?_ ?_
    · refine ifB_dec (fun h2 => ?_) (fun h2 => ?_)
      · rw [if_pos (by omega)]
        refine LoopW.ghost (fun k (st : Int × Unit) w' => ∃ d' : Array Int, st = ((k : Int), ()) ∧ k < i ∧ Dtw w' g rest d' ∧ d'.size = n ∧ Go.Sort.shiftDown ltI k d' = Go.Sort.shiftDown ltI (i - 1) d3 ∧ Fr w.heap.size (· = g) w w') (i - 1)
          ⟨d3, rfl, by omega, hD3, hn3, rfl, hF3⟩ ?_
        rintro j _ wq ⟨dq, rfl, hji, hDq, hnq, hsq, hFq⟩ nextq hnextq
        dsimp only
        refine ifB_dec (fun h => ?_) (fun h => ?_)
        · obtain ⟨m, rfl⟩ : ∃ m, j = m + 1 := ⟨j - 1, by omega⟩
          have em : IntKind.i64.wrap (((m + 1 : Nat) : Int) - 1) = (m : Int) := wr64 (by omega) (by omega)
          rw [em]
          refine hDq.drew.at rfl (by omega) hnq.symm (hDq.drew.at rfl (by omega) hnq.symm (Less_spec ⟨_, rfl, ?_⟩))
          refine ifB_not (ifB_bool (fun hb => ?_) (fun hb => ⟨dq, hDq.drew, hnq, by rw [← hsq, shD_stop (.inr hb)], hFq.drew⟩))
          refine hDq.drew.swap (i := m) (j := m + 1) rfl rfl (by omega) (by omega) hnq.symm fun wr hDr cr => ?_
          exact hnextq m _ _ (by omega) ⟨_, rfl, by omega, hDr, by rw [Go.Sort.size_swp]; exact hnq, by rw [← hsq, shD_go hb], hFq.drew.chg cr (.inl rfl)⟩
        · exact ⟨dq, hDq, hnq, by rw [← hsq, shD_stop (.inl (by omega))], hFq⟩
      · rw [if_neg (by omega)]
        exact ⟨d3, hD3, hn3, rfl, hF3⟩
    rintro _ w4 ⟨d4, hD4, hn4, e4, hF4⟩
    rw [← e4] at he
    clear e4
    refine ifB_dec (fun h2 => ?_) (fun h2 => ?_)
    · rw [if_pos (by omega)] at he
      refine LoopW.ghost (fun k (st : Int × Unit) w' => ∃ (j : Nat) (d' : Array Int), st = ((j : Int), ()) ∧ k = b - j ∧ i < j ∧ Dtw w' g rest d' ∧ d'.size = n ∧ Go.Sort.shiftUp ltI b j d' = Go.Sort.shiftUp ltI b (i + 1) d4 ∧ Fr w.heap.size (· = g) w w') (b - (i + 1))
        ⟨i + 1, d4, rfl, rfl, by omega, hD4, hn4, rfl, hF4⟩ ?_
      rintro _ _ wq ⟨j, dq, rfl, rfl, hij, hDq, hnq, hsq, hFq⟩ nextq hnextq
      dsimp only
      refine ifB_dec (fun h => ?_) (fun h => ?_)
      · have em : IntKind.i64.wrap ((j : Int) - 1) = ((j - 1 : Nat) : Int) := wr64 (by omega) (by omega)
        rw [em]
        refine hDq.drew.at rfl (by omega) hnq.symm (hDq.drew.at rfl (by omega) hnq.symm (Less_spec ⟨_, rfl, ?_⟩))
        refine ifB_not (ifB_bool (fun hb => ?_) (fun hb => ⟨i, dq, rfl, q1, q2, hDq.drew, hnq, ?_, hFq.drew⟩))
        · refine hDq.drew.swap (i := j - 1) (j := j) rfl rfl (by omega) (by omega) hnq.symm fun wr hDr cr => ?_
          rw [wrap64_succ (by omega)]
          exact hnextq (b - (j + 1)) _ _ (by omega) ⟨j + 1, _, rfl, rfl, by omega, hDr, by rw [Go.Sort.size_swp]; exact hnq, by rw [← hsq, shU_go (by omega) hb], hFq.drew.chg cr (.inl rfl)⟩
        · rw [← he, ← hsq, shU_stop (.inr hb)]
      · exact ⟨i, dq, rfl, q1, q2, hDq, hnq, by rw [← he, ← hsq, shU_stop (.inl (by omega))], hFq⟩
    · rw [if_neg (by omega)] at he
      exact ⟨i, d4, rfl, q1, q2, hD4, hn4, he, hF4⟩
  · have hs0 : s = 0 := by omega
    subst hs0
    have he : (d1, false) = pp := he
    subst he
    exact hR w1 hD1 hF

theorem order2_spec {i j r : Nat} {s : Int} {T : TypeId} (hD : Dtw w g rest d) (hn : n = d.size) (hi : i < n) (hj : j < n) (hS : Blk w r T [.int .i64 s]) (hT : T ≠ 22)
    (hR : ∀ w' (p q : Nat) s', ((p = i ∧ q = j) ∨ (p = j ∧ q = i)) → Dtw w' g rest d → Blk w' r T [.int .i64 s'] → Chg r w w' → R (.tuple #[.int .i64 (p : Int), .int .i64 (q : Int)]) w') :
    callR Tryz.prog 271 #[.slice (some (blk g)) n c, .int .i64 (i : Int), .int .i64 (j : Int), .pointer (some (blk r))] w R := by
  refine callR.of (slices_order2Ordered_uint32_calls ⟨some (blk g), n, c⟩ i j (some (blk r)) R w ?_) fun _ _ h => h
  have hne : g ≠ r := Blk.apart hD hS hT.symm
  refine hD.drew.at rfl (by omega) hn (hD.drew.at rfl (by omega) hn (Less_spec ⟨_, rfl, ?_⟩))
  refine ifB_bool (fun hb => ?_) (fun hb => ?_)
  · refine derefP_some rfl (hS.drew.rI0 rfl (derefP_some rfl ⟨hS.drew.wr0 (by simp), Nw.mk ?_⟩))
    have c1 := ((Chg.refl r w).drew).trans (Chg.set r 0 w.drew (.int .i64 (IntKind.i64.wrap (s + 1))))
    exact hR _ j i _ (.inr ⟨rfl, rfl⟩) (c1.blk hD hne) (hS.drew.set0 _) c1
  · exact hR _ i j s (.inl ⟨rfl, rfl⟩) hD.drew hS.drew (Chg.refl r w).drew
theorem median_spec {i j k r : Nat} {s : Int} {T : TypeId} (hD : Dtw w g rest d) (hn : n = d.size) (hi : i < n) (hj : j < n) (hk : k < n) (hS : Blk w r T [.int .i64 s]) (hT : T ≠ 22)
    (hR : ∀ w' (p : Nat) s', (p = i ∨ p = j ∨ p = k) → Dtw w' g rest d → Blk w' r T [.int .i64 s'] → Chg r w w' → R (.int .i64 (p : Int)) w') :
    callR Tryz.prog 251 #[.slice (some (blk g)) n c, .int .i64 (i : Int), .int .i64 (j : Int), .int .i64 (k : Int), .pointer (some (blk r))] w R := by
  refine callR.of (slices_medianOrdered_uint32_calls ⟨some (blk g), n, c⟩ i j k (some (blk r)) R w ?_) fun _ _ h => h
  refine order2_spec (n := n) (c := c) hD hn hi hj hS hT fun w1 a1 b1 s1 h1 hD1 hS1 c1 => ⟨_, _, rfl, ?_⟩
  refine order2_spec (n := n) (c := c) hD1 hn (i := b1) (j := k) (by omega) hk hS1 hT fun w2 a2 b2 s2 h2 hD2 hS2 c2 => ⟨_, _, rfl, ?_⟩
  refine order2_spec (n := n) (c := c) hD2 hn (i := a1) (j := a2) (by omega) (by omega) hS2 hT fun w3 a3 b3 s3 h3 hD3 hS3 c3 => ⟨_, _, rfl, ?_⟩
  exact hR w3 b3 s3 (by omega) hD3 hS3 ((c1.trans c2).trans c3)
theorem medianA_spec {i r : Nat} {s : Int} {T : TypeId} (hD : Dtw w g rest d) (hn : n = d.size) (hmax : n ≤ 35184372088832) (h0 : 0 < i) (hi : i + 1 < n) (hS : Blk w r T [.int .i64 s]) (hT : T ≠ 22)
    (hR : ∀ w' (p : Nat) s', (i - 1 ≤ p ∧ p ≤ i + 1) → Dtw w' g rest d → Blk w' r T [.int .i64 s'] → Chg r w w' → R (.int .i64 (p : Int)) w') :
    callR Tryz.prog 250 #[.slice (some (blk g)) n c, .int .i64 (i : Int), .pointer (some (blk r))] w R := by
  refine callR.of (slices_medianAdjacentOrdered_uint32_calls ⟨some (blk g), n, c⟩ i (some (blk r)) R w ?_) fun _ _ h => h
  have e1 : IntKind.i64.wrap ((i : Int) - 1) = ((i - 1 : Nat) : Int) := wr64 (by omega) (by omega)
  have e2 : IntKind.i64.wrap ((i : Int) + 1) = ((i + 1 : Nat) : Int) := wr64 (by omega) (by omega)
  unfold L_slices_medianAdjacentOrdered_uint32
  rw [e1, e2]
  refine median_spec (n := n) (c := c) hD hn (by omega) (by omega) (by omega) hS hT fun w1 p s1 hp hD1 hS1 c1 => ⟨_, rfl, ?_⟩
  exact hR w1 p s1 (by omega) hD1 hS1 c1
theorem pivot_spec {a b : Nat} (hD : Dtw w g rest d) (hn : n = d.size) (hmax : n ≤ 35184372088832) (hab : a < b) (hb : b ≤ n)
    (hR : ∀ w' (p : Nat) h, a ≤ p → p < b → Dtw w' g rest d → Fr w.heap.size (· = g) w w' → R (.tuple #[.int .i64 (p : Int), .int .i64 h]) w') :
    callR Tryz.prog 211 #[.slice (some (blk g)) n c, .int .i64 (a : Int), .int .i64 (b : Int)] w R := by
  refine callR.of (slices_choosePivotOrdered_uint32_calls ⟨some (blk g), n, c⟩ a b R w ?_) fun _ _ h => h
  have eba : IntKind.i64.wrap ((b : Int) - (a : Int)) = ((b - a : Nat) : Int) := wr64 (by omega) (by omega)
  generalize hl : b - a = l at eba
  have e4 : IntKind.i64.wrap (Int.tdiv (l : Int) 4) = ((l / 4 : Nat) : Int) := wr64 (by rw [Int.tdiv_eq_ediv_of_nonneg (by omega)]; omega) (by omega)
  generalize hq : l / 4 = q at e4
  have m1 : IntKind.i64.wrap ((q : Int) * 1) = (q : Int) := wr64 (by omega) (by omega)
  have m2 : IntKind.i64.wrap ((q : Int) * 2) = ((q * 2 : Nat) : Int) := wr64 (by omega) (by omega)
  have m3 : IntKind.i64.wrap ((q : Int) * 3) = ((q * 3 : Nat) : Int) := wr64 (by omega) (by omega)
  have a1 : IntKind.i64.wrap ((a : Int) + (q : Int)) = ((a + q : Nat) : Int) := wr64 (by omega) (by omega)
  have a2 : IntKind.i64.wrap ((a : Int) + ((q * 2 : Nat) : Int)) = ((a + q * 2 : Nat) : Int) := wr64 (by omega) (by omega)
  have a3 : IntKind.i64.wrap ((a : Int) + ((q * 3 : Nat) : Int)) = ((a + q * 3 : Nat) : Int) := wr64 (by omega) (by omega)
  unfold L_slices_choosePivotOrdered_uint32
  rw [eba, e4, m1, m2, m3, a1, a2, a3]
  refine lay_of fun w1 hS1 b1 z1 => ?_
  have hD1 := hD.below b1
  have hT : 3 ≠ 22 := by decide
  have hgl := hD.lt
  refine JoinW.cut (fun (st : Int × Unit) w' => ∃ (p : Nat) (s : Int), st = ((p : Int), ()) ∧ a ≤ p ∧ p < b ∧ Dtw w' g rest d ∧ Blk w' w.heap.size 3 [.int .i64 s] ∧ Chg w.heap.size w1 w') ?_ ?_
  · refine ifB_dec (fun h8 => ?_) (fun h8 => ?_)
    · refine JoinW.cut (fun (st : Int × Int × Int × Unit) w' => ∃ (i j k : Nat) (s : Int), st = ((i : Int), (j : Int), (k : Int), ()) ∧ (a ≤ i ∧ i < b) ∧ (a ≤ j ∧ j < b) ∧ (a ≤ k ∧ k < b) ∧ Dtw w' g rest d ∧ Blk w' w.heap.size 3 [.int .i64 s] ∧ Chg w.heap.size w1 w') ?_ ?_
      · refine ifB_dec (fun h50 => ?_) (fun h50 => ?_)
        · refine medianA_spec (n := n) (c := c) hD1 hn hmax (by omega) (by omega) hS1 hT fun w2 p1 s2 hp1 hD2 hS2 c2 => ⟨_, rfl, ?_⟩
          refine medianA_spec (n := n) (c := c) hD2 hn hmax (by omega) (by omega) hS2 hT fun w3 p2 s3 hp2 hD3 hS3 c3 => ⟨_, rfl, ?_⟩
          refine medianA_spec (n := n) (c := c) hD3 hn hmax (by omega) (by omega) hS3 hT fun w4 p3 s4 hp3 hD4 hS4 c4 => ⟨_, rfl, ?_⟩
          exact ⟨p1, p2, p3, s4, rfl, by omega, by omega, by omega, hD4, hS4, (c2.trans c3).trans c4⟩
        · exact ⟨a + q, a + q * 2, a + q * 3, 0, rfl, by omega, by omega, by omega, hD1, hS1, Chg.refl _ _⟩
      · rintro _ w2 ⟨i, j, k, s, rfl, hi, hj, hk, hD2, hS2, c2⟩
        refine median_spec (n := n) (c := c) hD2 hn (i := i) (j := j) (k := k) (by omega) (by omega) (by omega) hS2 hT fun w3 p s3 hp hD3 hS3 c3 => ⟨_, rfl, ?_⟩
        exact ⟨p, s3, rfl, by omega, by omega, hD3, hS3, c2.trans c3⟩
    · exact ⟨a + q * 2, 0, rfl, by omega, by omega, hD1, hS1, Chg.refl _ _⟩
  · rintro _ w2 ⟨p, s, rfl, hp1, hp2, hD2, hS2, c2⟩
    have hF : Fr w.heap.size (· = g) w w2 := (Fr.of_below b1).chg c2 (.inr (Nat.le_refl _))
    refine hS2.rI0 rfl (ifB_beq (fun _ => hR w2 p _ hp1 hp2 hD2 hF) (fun _ => ifB_beq (fun _ => hR w2 p _ hp1 hp2 hD2 hF) (fun _ => hR w2 p _ hp1 hp2 hD2 hF)))
end
end Go.Proofs

namespace Go.Proofs
open Go.Gk Go.RowKit

abbrev lenTab : ByteArray := ByteArray.mk #[0, 1, 2, 2, 3, 3, 3, 3, 4, 4, 4, 4, 4, 4, 4, 4, 5, 5, 5, 5, 5, 5, 5, 5, 5, 5, 5, 5, 5, 5, 5, 5, 6, 6, 6, 6, 6, 6, 6, 6, 6, 6, 6, 6, 6, 6, 6, 6, 6, 6, 6, 6, 6, 6, 6, 6, 6, 6, 6, 6, 6, 6, 6, 6, 7, 7, 7, 7, 7, 7, 7, 7, 7, 7, 7, 7, 7, 7, 7, 7, 7, 7, 7, 7, 7, 7, 7, 7, 7, 7, 7, 7, 7, 7, 7, 7, 7, 7, 7, 7, 7, 7, 7, 7, 7, 7, 7, 7, 7, 7, 7, 7, 7, 7, 7, 7, 7, 7, 7, 7, 7, 7, 7, 7, 7, 7, 7, 7, 8, 8, 8, 8, 8, 8, 8, 8, 8, 8, 8, 8, 8, 8, 8, 8, 8, 8, 8, 8, 8, 8, 8, 8, 8, 8, 8, 8, 8, 8, 8, 8, 8, 8, 8, 8, 8, 8, 8, 8, 8, 8, 8, 8, 8, 8, 8, 8, 8, 8, 8, 8, 8, 8, 8, 8, 8, 8, 8, 8, 8, 8, 8, 8, 8, 8, 8, 8, 8, 8, 8, 8, 8, 8, 8, 8, 8, 8, 8, 8, 8, 8, 8, 8, 8, 8, 8, 8, 8, 8, 8, 8, 8, 8, 8, 8, 8, 8, 8, 8, 8, 8, 8, 8, 8, 8, 8, 8, 8, 8, 8, 8, 8, 8, 8, 8, 8, 8, 8, 8, 8, 8, 8, 8, 8, 8, 8, 8]
theorem lenTab_ok : ((List.range 256).all fun m => decide ((lenTab.data.getD m 0).toNat ≤ 8) && (m == 0 || decide (2 ^ (lenTab.data.getD m 0).toNat ≤ 2 * m))) = true := by decide +kernel
theorem lenTab_at {m : Nat} (hm : m < 256) : ∃ t : Nat, byteI lenTab (m : Int) = (t : Int) ∧ t ≤ 8 ∧ (0 < m → 2 ^ t ≤ 2 * m) := by
  have h := List.all_eq_true.1 lenTab_ok m (List.mem_range.2 hm)
  rw [Bool.and_eq_true, decide_eq_true_eq, Bool.or_eq_true, decide_eq_true_eq, beq_iff_eq] at h
  exact ⟨_, rfl, h.1, fun h0 => h.2.resolve_left (by omega)⟩
theorem fdivP (x k : Nat) (hk : k < 64) : Int.fdiv (x : Int) (2 ^ (min k (IntKind.bits .u64))) = ((x / 2 ^ k : Nat) : Int) := by
  have hm : min k (IntKind.bits .u64) = k := by rw [show IntKind.bits .u64 = 64 from rfl]; omega
  rw [hm, show ((2 : Int) ^ k) = ((2 ^ k : Nat) : Int) by simp, Int.ofNat_fdiv]
theorem shift_le {x m L k : Nat} (h : 0 < x → 0 < m ∧ 2 ^ L * m ≤ x) (hm : 2 ^ k ≤ m) : 0 < x → 0 < m / 2 ^ k ∧ 2 ^ (L + k) * (m / 2 ^ k) ≤ x := fun hx => by
  obtain ⟨h1, h2⟩ := h hx
  refine ⟨Nat.div_pos hm (Nat.two_pow_pos k), ?_⟩
  rw [Nat.pow_add, Nat.mul_assoc]
  exact Nat.le_trans (Nat.mul_le_mul_left _ (Nat.mul_div_le m (2 ^ k))) h2
section
variable {w : World} {R : Value → World → Prop}
theorem Len64_spec {x : Nat} (hx : x ≤ 70368744177664) (hR : ∀ L : Nat, L ≤ 64 → (0 < x → 2 ^ L ≤ 2 * x) → R (.int .i64 (L : Int)) w) : callR Tryz.prog 201 #[.int .u64 (x : Int)] w R := by
  refine callR.of (math_bits_Len64_calls x R w ?_) fun _ _ h => h
  refine JoinW.cut (fun (st : Int × Int × Unit) w' => w' = w ∧ ∃ m L : Nat, st = ((m : Int), (L : Int), ()) ∧ m < 2 ^ 32 ∧ L ≤ 32 ∧ (0 < x → 0 < m ∧ 2 ^ L * m ≤ x)) ?_ ?_
  · refine ifB_dec (fun h => ?_) (fun h => ?_)
    · rw [fdivP x 32 (by decide)]
      exact ⟨rfl, x / 2 ^ 32, 32, rfl, by omega, Nat.le_refl _, by have := shift_le (x := x) (m := x) (L := 0) (k := 32) (fun h => ⟨h, by omega⟩) (by omega); simpa using this⟩
    · exact ⟨rfl, x, 0, rfl, by omega, by omega, fun h => ⟨h, by omega⟩⟩
  rintro _ w ⟨rfl, m1, L1, rfl, h1, h2, h3⟩
  refine JoinW.cut (fun (st : Int × Int × Unit) w' => w' = w ∧ ∃ m L : Nat, st = ((m : Int), (L : Int), ()) ∧ m < 2 ^ 16 ∧ L ≤ 48 ∧ (0 < x → 0 < m ∧ 2 ^ L * m ≤ x)) ?_ ?_
  · refine ifB_dec (fun h => ?_) (fun h => ?_)
    · dsimp only at h ⊢
      rw [fdivP m1 16 (by decide)]
      have e : IntKind.i64.wrap ((L1 : Int) + 16) = ((L1 + 16 : Nat) : Int) := by rw [wrap64_in (by omega) (by omega)]; omega
      rw [e]
      exact ⟨rfl, m1 / 2 ^ 16, L1 + 16, rfl, by omega, by omega, shift_le h3 (by omega)⟩
    · exact ⟨rfl, m1, L1, rfl, by dsimp only at h; omega, by omega, h3⟩
  rintro _ w ⟨rfl, m2, L2, rfl, h4, h5, h6⟩
  refine JoinW.cut (fun (st : Int × Int × Unit) w' => w' = w ∧ ∃ m L : Nat, st = ((m : Int), (L : Int), ()) ∧ m < 2 ^ 8 ∧ L ≤ 56 ∧ (0 < x → 0 < m ∧ 2 ^ L * m ≤ x)) ?_ ?_
  · refine ifB_dec (fun h => ?_) (fun h => ?_)
    · dsimp only at h ⊢
      rw [fdivP m2 8 (by decide)]
      have e : IntKind.i64.wrap ((L2 : Int) + 8) = ((L2 + 8 : Nat) : Int) := by rw [wrap64_in (by omega) (by omega)]; omega
      rw [e]
      exact ⟨rfl, m2 / 2 ^ 8, L2 + 8, rfl, by omega, by omega, shift_le h6 (by omega)⟩
    · exact ⟨rfl, m2, L2, rfl, by dsimp only at h; omega, by omega, h6⟩
  rintro _ w ⟨rfl, m3, L3, rfl, h7, h8, h9⟩
  dsimp only
  have e8 : IntKind.u8.wrap (m3 : Int) = (m3 : Int) := by rw [IntKind.wrap_u8]; omega
  rw [e8]
  obtain ⟨t, ht, ht8, htm⟩ := lenTab_at (m := m3) (by omega)
  refine ⟨⟨by omega, Int.lt_of_lt_of_le (b := 256) (by omega) (by decide +kernel)⟩, ?_⟩
  · rw [ht, wrap64_in (x := (t : Int)) (by omega) (by omega)]
    have e : IntKind.i64.wrap ((L3 : Int) + (t : Int)) = ((L3 + t : Nat) : Int) := by rw [wrap64_in (by omega) (by omega)]; omega
    rw [e]
    refine hR (L3 + t) (by omega) fun hx0 => ?_
    obtain ⟨k1, k2⟩ := h9 hx0
    have := htm k1
    rw [Nat.pow_add]
    calc 2 ^ L3 * 2 ^ t ≤ 2 ^ L3 * (2 * m3) := Nat.mul_le_mul_left _ this
      _ = 2 * (2 ^ L3 * m3) := by rw [Nat.mul_left_comm]
      _ ≤ 2 * x := Nat.mul_le_mul_left _ k2
theorem Len_spec {x : Nat} (hx : x ≤ 70368744177664) (hR : ∀ L : Nat, L ≤ 64 → (0 < x → 2 ^ L ≤ 2 * x) → R (.int .i64 (L : Int)) w) : callR Tryz.prog 152 #[.int .u64 (x : Int)] w R := by
  refine callR.of (math_bits_Len_calls x R w ?_) fun _ _ h => h
  exact Len64_spec hx fun L h1 h2 => ⟨_, rfl, hR L h1 h2⟩
theorem uwrap {x : Nat} (hx : x ≤ 9223372036854775807) : IntKind.u64.wrap (x : Int) = (x : Int) := by
  rw [IntKind.wrap_u64]
  exact Int.emod_eq_of_lt (by omega) (by omega)
theorem nextPow_spec {x : Nat} (h0 : 0 < x) (hx : x ≤ 35184372088832) (hR : ∀ L : Nat, 2 ^ L ≤ 2 * x → R (.int .u64 ((2 ^ L : Nat) : Int)) w) : callR Tryz.prog 240 #[.int .i64 (x : Int)] w R := by
  refine callR.of (slices_nextPowerOfTwo_calls x R w ?_) fun _ _ h => h
  unfold L_slices_nextPowerOfTwo
  rw [uwrap (by omega)]
  refine Len_spec (by omega) fun L h1 h2 => ⟨_, rfl, ?_⟩
  have h3 := h2 h0
  refine ifB_dec (fun h => by omega) (fun _ => ?_)
  have e : (1 : Int) * 2 ^ (min (Int.toNat (L : Int)) (IntKind.bits .u64)) = ((2 ^ L : Nat) : Int) := by
    rw [show min (Int.toNat (L : Int)) (IntKind.bits .u64) = L by rw [show IntKind.bits .u64 = 64 from rfl, Int.toNat_natCast]; omega]
    simp
  rw [e, uwrap (by omega)]
  exact hR L h3
theorem mask {x : Int} {L : Nat} (hL : 2 ^ L ≤ 70368744177664) : ∃ v : Nat, v < 2 ^ L ∧
    IntKind.i64.wrap (IntKind.u64.wrap ((BitVec.toNat (BitVec.ofInt (IntKind.bits .u64) x &&& BitVec.ofInt (IntKind.bits .u64) (IntKind.u64.wrap (((2 ^ L : Nat) : Int) - 1))) : Nat) : Int)) = (v : Int) := by
  have hp := Nat.two_pow_pos L
  have q1 : ((2 ^ L : Nat) : Int) - 1 = ((2 ^ L - 1 : Nat) : Int) := by omega
  have q2 := uwrap (x := 2 ^ L - 1) (by omega)
  rw [q1, q2, BitVec.toNat_and]
  have hb : (BitVec.ofInt (IntKind.bits .u64) ((2 ^ L - 1 : Nat) : Int)).toNat = 2 ^ L - 1 := by
    rw [BitVec.ofInt_natCast, BitVec.toNat_ofNat, show IntKind.bits .u64 = 64 from rfl]
    exact Nat.mod_eq_of_lt (by omega)
  rw [hb]
  have hle := Nat.and_le_right (n := (BitVec.ofInt (IntKind.bits .u64) x).toNat) (m := 2 ^ L - 1)
  exact ⟨(BitVec.ofInt (IntKind.bits .u64) x).toNat &&& (2 ^ L - 1), by omega, by rw [uwrap (by omega), wrap64_in (by omega) (by omega)]⟩
theorem xorNext_spec {r : Nat} {T : TypeId} {x : Int} (hS : Blk w r T [.int .u64 x]) (hR : ∀ w' y, Blk w' r T [.int .u64 y] → Chg r w w' → R (.int .u64 y) w') : callR Tryz.prog 241 #[.pointer (some (blk r))] w R := by
  refine callR.of (slices_xorshift_Next_calls (some (blk r)) R w ?_) fun _ _ h => h
  have one : ∀ {w : World} {x : Int} {v : Int → Int → Int} {K : World → Prop}, Blk w r T [.int .u64 x] → (∀ w' y, Blk w' r T [.int .u64 y] → Chg r w w' → K w') →
      derefP (some (blk r)) fun a1 => ldI w.drew a1 .u64 fun x2 => derefP (some (blk r)) fun a3 => ldI w.drew a3 .u64 fun x4 => derefP (some (blk r)) fun a5 => Wr w.drew a5 ∧ Nw (w.drew.setCell a5 (.int .u64 (v x2 x4))) K := fun hS hK =>
    derefP_some rfl (hS.drew.rI0 rfl (derefP_some rfl (hS.drew.rI0 rfl (derefP_some rfl ⟨hS.drew.wr0 (by simp), Nw.mk (hK _ _ (hS.drew.set0 _) (((Chg.refl r _).drew).trans (Chg.set r 0 _ _)))⟩))))
  refine one (v := fun x2 x4 => IntKind.u64.wrap ((BitVec.toNat (BitVec.ofInt (IntKind.bits .u64) x2 ^^^ BitVec.ofInt (IntKind.bits .u64) (IntKind.u64.wrap (x4 * 2 ^ (min 13 (IntKind.bits .u64))))) : Nat) : Int)) hS fun w1 y1 hS1 c1 => ?_
  refine one (v := fun x2 x4 => IntKind.u64.wrap ((BitVec.toNat (BitVec.ofInt (IntKind.bits .u64) x2 ^^^ BitVec.ofInt (IntKind.bits .u64) (Int.fdiv x4 (2 ^ (min 7 (IntKind.bits .u64))))) : Nat) : Int)) hS1 fun w2 y2 hS2 c2 => ?_
  refine one (v := fun x2 x4 => IntKind.u64.wrap ((BitVec.toNat (BitVec.ofInt (IntKind.bits .u64) x2 ^^^ BitVec.ofInt (IntKind.bits .u64) (IntKind.u64.wrap (x4 * 2 ^ (min 17 (IntKind.bits .u64))))) : Nat) : Int)) hS2 fun w3 y3 hS3 c3 => ?_
  exact derefP_some rfl (hS3.rI0 rfl (hR w3 y3 hS3 ((c1.trans c2).trans c3)))
end
section
variable {w : World} {g n c : Nat} {rest : List Value} {d : Array Int} {R : Value → World → Prop}
theorem break_spec {a b : Nat} (hD : Dtw w g rest d) (hn : n = d.size) (hmax : n ≤ 35184372088832) (hab : a < b) (hb : b ≤ n)
    (hR : ∀ w' d', Dtw w' g rest d' → Go.Sort.PermIn a b d d' → Fr w.heap.size (· = g) w w' → R (.tuple #[]) w') :
    callR Tryz.prog 210 #[.slice (some (blk g)) n c, .int .i64 (a : Int), .int .i64 (b : Int)] w R := by
  refine callR.of (slices_breakPatternsOrdered_uint32_calls ⟨some (blk g), n, c⟩ a b R w ?_) fun _ _ h => h
  have eba : IntKind.i64.wrap ((b : Int) - (a : Int)) = ((b - a : Nat) : Int) := wr64 (by omega) (by omega)
  generalize hl : b - a = l at eba
  unfold L_slices_breakPatternsOrdered_uint32
  rw [eba]
  refine ifB_dec (fun h8 => ?_) (fun h8 => hR w d hD (Go.Sort.permIn_refl d a b) (Fr.refl _ _ _))
  have e4 : IntKind.i64.wrap (Int.tdiv (l : Int) 4) = ((l / 4 : Nat) : Int) := wr64 (by rw [Int.tdiv_eq_ediv_of_nonneg (by omega)]; omega) (by omega)
  generalize hq : l / 4 = q at e4
  have m2 : IntKind.i64.wrap ((q : Int) * 2) = ((q * 2 : Nat) : Int) := wr64 (by omega) (by omega)
  have a2 : IntKind.i64.wrap ((a : Int) + ((q * 2 : Nat) : Int)) = ((a + q * 2 : Nat) : Int) := wr64 (by omega) (by omega)
  have a3 : IntKind.i64.wrap (((a + q * 2 : Nat) : Int) + 1) = ((a + q * 2 + 1 : Nat) : Int) := wr64 (by omega) (by omega)
  have a4 : IntKind.i64.wrap (((a + q * 2 : Nat) : Int) - 1) = ((a + q * 2 - 1 : Nat) : Int) := wr64 (by omega) (by omega)
  rw [e4, m2, a2, a3, a4]
  refine Nw.gen fun w1 e1 => ?_
  have hS1 : ∃ T, T = 290 ∧ Blk w1 w.heap.size T [.int .u64 0] := ⟨_, rfl, by rw [e1]; exact Blk.new _ _ _⟩
  obtain ⟨T, hT, hS1⟩ := hS1
  have hT' : T ≠ 22 := by rw [hT]; decide
  clear hT
  have b1 : Below w.heap.size w w1 := by rw [e1]; exact (Below.refl _ _).alloc (Nat.le_refl _) _
  clear e1
  have hgl := hD.lt
  refine ⟨hS1.wr0 (by simp), Nw.gen fun w2 e2 => ?_⟩
  have c2 : Chg w.heap.size w1 w2 := by rw [e2]; exact Chg.set w.heap.size 0 w1 _
  have hS2 : Blk w2 w.heap.size T [.int .u64 (IntKind.u64.wrap (l : Int))] := by rw [e2]; exact hS1.set0 _
  clear e2
  have hD2 := c2.blk (hD.below b1) (by omega)
  have hF2 : Fr w.heap.size (· = g) w w2 := (Fr.of_below b1).chg c2 (.inr (Nat.le_refl _))
  refine nextPow_spec (by omega) (by omega) fun L hL => ⟨_, rfl, ?_⟩
  refine LoopW.ghost (fun k (st : Int × Unit) w' => ∃ (i : Nat) (d' : Array Int) (x : Int), st = ((i : Int), ()) ∧ k = a + q * 2 + 2 - i ∧ a ≤ i ∧ i ≤ a + q * 2 + 2 ∧ Dtw w' g rest d' ∧ Go.Sort.PermIn a b d d' ∧ Blk w' w.heap.size T [.int .u64 x] ∧ Fr w.heap.size (· = g) w w') (a + q * 2 + 2 - (a + q * 2 - 1))
    ⟨a + q * 2 - 1, d, _, rfl, rfl, by omega, by omega, hD2, Go.Sort.permIn_refl d a b, hS2, hF2⟩ ?_
  rintro _ _ w3 ⟨i, d3, x3, rfl, rfl, hi1, hi2, hD3, hP3, hS3, hF3⟩ next hnext
  dsimp only
  have hn3 : d3.size = n := by rw [hP3.1]; exact hn.symm
  refine ifB_dec (fun h => ?_) (fun h => hR w3 d3 hD3 hP3 hF3)
  refine xorNext_spec hS3 fun w4 y hS4 c4 => ⟨_, rfl, ?_⟩
  have hD4 := c4.blk hD3 (Blk.apart hD3 hS3 hT'.symm)
  have hF4 := hF3.chg c4 (.inr (Nat.le_refl _))
  obtain ⟨v, hv, ev⟩ := mask (x := y) (L := L) (by omega)
  rw [ev]
  refine JoinW.cut (fun (st : Int × Unit) w' => w' = w4 ∧ ∃ o : Nat, st = ((o : Int), ()) ∧ o < l) ?_ ?_
  · refine ifB_dec (fun h => ?_) (fun h => ?_)
    · rw [wr64 (x := (v : Int) - (l : Int)) (k := v - l) (by omega) (by omega)]
      exact ⟨rfl, v - l, rfl, by omega⟩
    · exact ⟨rfl, v, rfl, by omega⟩
  · rintro _ _ ⟨rfl, o, rfl, ho⟩
    dsimp only
    have eo : IntKind.i64.wrap ((a : Int) + (o : Int)) = ((a + o : Nat) : Int) := wr64 (by omega) (by omega)
    rw [eo]
    refine Dtw.swap (hD4) (i := a + o) (j := i) rfl rfl (by omega) (by omega) hn3.symm fun w5 hD5 c5 => ?_
    rw [wrap64_succ (by omega)]
    refine hnext (a + q * 2 + 2 - (i + 1)) _ _ (by omega) ⟨i + 1, _, y, rfl, rfl, by omega, by omega, hD5, ?_, c5.blk hS4 (Ne.symm (Blk.apart hD3 hS3 hT'.symm)), hF4.chg c5 (.inl rfl)⟩
    exact Go.Sort.permIn_trans _ _ _ a b hP3 (Go.Sort.swp_permIn d3 a b i (a + o) (by omega) (by omega) (by omega) (by omega) (by omega))

theorem pdq_spec : ∀ (N a b : Nat) (lim : Int) (w : World) (d : Array Int) (R : Value → World → Prop), b - a ≤ N → Dtw w g rest d → n = d.size → n ≤ 35184372088832 → a ≤ b → b ≤ n → Go.Sort.Below ltI a b d →
    (∀ w' d', Dtw w' g rest d' → Go.Sort.PermIn a b d d' → Go.Sort.SortedIn ltI a b d' → Fr w.heap.size (· = g) w w' → R (.tuple #[]) w') →
    callR Tryz.prog 158 #[.slice (some (blk g)) n c, .int .i64 (a : Int), .int .i64 (b : Int), .int .i64 lim] w R := by
  intro N
  induction N with
  | zero =>
    intro a b lim w d R hN hD hn hmax hab hb hB hR
    refine callR.of (slices_pdqsortOrdered_uint32_calls ⟨some (blk g), n, c⟩ a b lim R w ?_) fun _ _ h => h
    refine LoopW.ghost (fun _ st w' => st = ((a : Int), (b : Int), lim, true, true, ()) ∧ w' = w) 0 ⟨rfl, rfl⟩ ?_
    rintro _ _ w1 ⟨rfl, rfl⟩ next _
    dsimp only
    have e : IntKind.i64.wrap ((b : Int) - (a : Int)) = ((b - a : Nat) : Int) := wr64 (by omega) (by omega)
    rw [e]
    refine ifB_dec (fun h => ?_) (fun h => by omega)
    refine insU_spec hD hn hmax hab hb fun w2 hD2 hF2 => ⟨rfl, ?_⟩
    obtain ⟨p1, p2⟩ := Go.Sort.insertionSort_holds Go.Sort.swo_ltInt d a b hab (by omega)
    exact hR w2 _ hD2 p1 p2 hF2
  | succ N ih =>
    intro a0 b0 lim0 w d0 R hN hD0 hn0 hmax hab0 hb0 hB0 hR
    refine callR.of (slices_pdqsortOrdered_uint32_calls ⟨some (blk g), n, c⟩ a0 b0 lim0 R w ?_) fun _ _ h => h
    refine LoopW.ghost (fun k (st : Int × Int × Int × Bool × Bool × Unit) w' => ∃ (a b : Nat) (lim : Int) (wb wp : Bool) (d : Array Int), st = ((a : Int), (b : Int), lim, wb, wp, ()) ∧ k = b - a ∧ b - a ≤ N + 1 ∧ a ≤ b ∧ b ≤ n ∧ Dtw w' g rest d ∧ d.size = n ∧ Go.Sort.Below ltI a b d ∧
      (∀ D, Go.Sort.PermIn a b d D → Go.Sort.SortedIn ltI a b D → Go.Sort.PermIn a0 b0 d0 D ∧ Go.Sort.SortedIn ltI a0 b0 D) ∧ Fr w.heap.size (· = g) w w') (b0 - a0)
      ⟨a0, b0, lim0, true, true, d0, rfl, rfl, hN, hab0, hb0, hD0, hn0.symm, hB0, fun D h1 h2 => ⟨h1, h2⟩, Fr.refl _ _ _⟩ ?_
    rintro _ _ w1 ⟨a, b, lim, wb, wp, d, rfl, rfl, hk, hab, hb, hD, hn, hB, hC, hF⟩ next hnext
    dsimp only
    have e : IntKind.i64.wrap ((b : Int) - (a : Int)) = ((b - a : Nat) : Int) := wr64 (by omega) (by omega)
    rw [e]
    refine ifB_dec (fun h => ?_) (fun h12 => ?_)
    · refine insU_spec hD hn.symm hmax hab hb fun w2 hD2 hF2 => ⟨rfl, ?_⟩
      obtain ⟨p1, p2⟩ := Go.Sort.insertionSort_holds Go.Sort.swo_ltInt d a b hab (by omega)
      obtain ⟨q1, q2⟩ := hC _ p1 p2
      exact hR w2 _ hD2 q1 q2 (hF.onto hF2 hF.size)
    have h12 : 12 < b - a := by omega
    refine ifB_beq (fun _ => ?_) (fun _ => ?_)
    · refine heap_spec hD hn.symm hmax (by omega) hb fun w2 hD2 hF2 => ⟨rfl, ?_⟩
      obtain ⟨p1, p2⟩ := Go.Sort.heapSort_holds Go.Sort.swo_ltInt d a b hab (by omega)
      obtain ⟨q1, q2⟩ := hC _ p1 p2
      exact hR w2 _ hD2 q1 q2 (hF.onto hF2 hF.size)
    refine JoinW.cut (fun _ w' => ∃ d1, Dtw w' g rest d1 ∧ Go.Sort.PermIn a b d d1 ∧ Fr w.heap.size (· = g) w w') ?_ ?_
    · refine ifB_not (ifB_bool (fun _ => ⟨d, hD, Go.Sort.permIn_refl d a b, hF⟩) (fun _ => ?_))
      exact break_spec hD hn.symm hmax (by omega) hb fun w2 d2 hD2 hP2 hF2 => ⟨rfl, d2, hD2, hP2, hF.onto hF2 hF.size⟩
    rintro ⟨lim1, _⟩ w2 ⟨d1, hD1, hP1, hF1⟩
    have hn1 : d1.size = n := by rw [hP1.1]; exact hn
    have hB1 := hB.perm (by omega) hP1
    dsimp only
    refine pivot_spec hD1 hn1.symm hmax (by omega) hb fun w3 pv hint hp1 hp2 hD1' hF3 => ⟨_, _, rfl, ?_⟩
    have hF3 := hF1.onto hF3 hF1.size
    refine JoinW.cut (fun (st : Int × Int × Unit) w' => ∃ (p : Nat) (h : Int) (d2 : Array Int), st = ((p : Int), h, ()) ∧ a ≤ p ∧ p < b ∧ Dtw w' g rest d2 ∧ Go.Sort.PermIn a b d1 d2 ∧ Fr w.heap.size (· = g) w w') ?_ ?_
    · refine ifB_beq (fun _ => ?_) (fun _ => ⟨pv, hint, d1, rfl, hp1, hp2, hD1', Go.Sort.permIn_refl d1 a b, hF3⟩)
      refine reverse_spec hD1' hn1.symm hmax (by omega) hb fun w4 hD4 hF4 => ⟨rfl, ?_⟩
      have e1 : IntKind.i64.wrap ((b : Int) - 1) = ((b - 1 : Nat) : Int) := wr64 (by omega) (by omega)
      have e2 : IntKind.i64.wrap ((pv : Int) - (a : Int)) = ((pv - a : Nat) : Int) := wr64 (by omega) (by omega)
      have e3 : IntKind.i64.wrap (((b - 1 : Nat) : Int) - ((pv - a : Nat) : Int)) = ((b - 1 - (pv - a) : Nat) : Int) := wr64 (by omega) (by omega)
      rw [e1, e2, e3]
      exact ⟨b - 1 - (pv - a), 1, _, rfl, by omega, by omega, hD4, Go.Sort.reverseRange_holds d1 a b hab (by omega), hF3.onto hF4 hF3.size⟩
    rintro _ w4 ⟨p, hi, d2, rfl, hp3, hp4, hD2, hP2, hF4⟩
    have hn2 : d2.size = n := by rw [hP2.1]; exact hn1
    have hB2 := hB1.perm (by omega) hP2
    have hP02 := Go.Sort.permIn_trans _ _ _ a b hP1 hP2
    dsimp only
    refine JoinW.cut (fun _ w' => ∃ d3, Dtw w' g rest d3 ∧ Go.Sort.PermIn a b d2 d3 ∧ Fr w.heap.size (· = g) w w') ?_ ?_
    · have same : ∃ d3, Dtw w4 g rest d3 ∧ Go.Sort.PermIn a b d2 d3 ∧ Fr w.heap.size (· = g) w w4 := ⟨d2, hD2, Go.Sort.permIn_refl d2 a b, hF4⟩
      refine ifB_bool (fun _ => ifB_bool (fun _ => ifB_beq (fun _ => ?_) (fun _ => same)) (fun _ => same)) (fun _ => same)
      refine partial_spec hD2 hn2.symm hmax (by omega) hb fun w5 hD5 hF5 => ⟨_, rfl, ?_⟩
      obtain ⟨p1, p2⟩ := Go.Sort.partialInsertionSort_holds Go.Sort.swo_ltInt d2 a b (by omega) (by omega) hB2
      refine ifB_bool (fun hs => ?_) (fun _ => ⟨_, hD5, p1, hF4.onto hF5 hF4.size⟩)
      obtain ⟨q1, q2⟩ := hC _ (Go.Sort.permIn_trans _ _ _ a b hP02 p1) (p2 hs)
      exact hR w5 _ hD5 q1 q2 (hF4.onto hF5 hF4.size)
    rintro _ w5 ⟨d3, hD3, hP3, hF5⟩
    have hn3 : d3.size = n := by rw [hP3.1]; exact hn2
    have hB3 := hB2.perm (by omega) hP3
    have hP03 := Go.Sort.permIn_trans _ _ _ a b hP02 hP3
    have hC3 : ∀ D, Go.Sort.PermIn a b d3 D → Go.Sort.SortedIn ltI a b D → Go.Sort.PermIn a0 b0 d0 D ∧ Go.Sort.SortedIn ltI a0 b0 D := fun D h1 h2 => hC D (Go.Sort.permIn_trans _ _ _ a b hP03 h1) h2
    refine JoinW.cut (fun (st : Int × Unit) w' => st = ((a : Int), ()) ∧ Dtw w' g rest d3 ∧ Fr w.heap.size (· = g) w w') ?_ ?_
    · refine ifB_dec (fun h => ?_) (fun h => ⟨rfl, hD3.drew, hF5.drew⟩)
      have ha0 : 0 < a := by omega
      have e1 : IntKind.i64.wrap ((a : Int) - 1) = ((a - 1 : Nat) : Int) := wr64 (by omega) (by omega)
      rw [e1]
      refine hD3.drew.at rfl (by omega) hn3.symm (hD3.drew.at rfl (by omega) hn3.symm (Less_spec ⟨_, rfl, ?_⟩))
      refine ifB_not (ifB_bool (fun _ => ⟨rfl, hD3.drew, hF5.drew⟩) (fun hl => ?_))
      refine partEq_spec hD3.drew hn3.symm hmax (by omega) hb hp3 hp4 fun w6 hD6 hF6 => ⟨_, rfl, ?_⟩
      obtain ⟨r1, r2, r3, r4, r5⟩ := Go.Sort.round_eq (lt := ltI) Go.Sort.swo_ltInt (Go.Sort.partitionEqual_holds ltI) ha0 hp3 hp4 (by omega) hB3 hl (Prod.eta _).symm
      exact hnext (b - (Go.Sort.partitionEqual ltI d3 a b p).1) _ _ (by omega) ⟨_, b, lim1, wb, wp, _, rfl, rfl, by omega, r2, hb, hD6, by rw [r3]; exact hn3, r4, fun D h1 h2 => by
        obtain ⟨s1, s2⟩ := r5 D h1 h2
        exact hC3 D s1 s2, hF5.drew.onto hF6 hF5.drew.size⟩
    rintro _ w6 ⟨rfl, hD6, hF6⟩
    dsimp only
    refine ptn_spec hD6 hn3.symm hmax (by omega) hb hp3 hp4 fun w7 hD7 hF7 => ⟨_, _, rfl, ?_⟩
    have hF7 := hF6.onto hF7 hF6.size
    obtain ⟨r1, r2, r3, r4, r5, r6, r7⟩ := Go.Sort.round_part (lt := ltI) Go.Sort.swo_ltInt (Go.Sort.partition_holds ltI) hp3 hp4 (by omega) hB3 (mid := (Go.Sort.partition ltI d3 a b p).1) (ap := (Go.Sort.partition ltI d3 a b p).2.1) (d4 := (Go.Sort.partition ltI d3 a b p).2.2) rfl
    generalize (Go.Sort.partition ltI d3 a b p).1 = mid at r1 r2 r4 r5 r6 r7 ⊢
    generalize (Go.Sort.partition ltI d3 a b p).2.1 = ap
    generalize (Go.Sort.partition ltI d3 a b p).2.2 = d4 at hD7 r3 r4 r5 r6 r7
    have hn4 : d4.size = n := by rw [r3]; exact hn3
    have e1 : IntKind.i64.wrap ((mid : Int) + 1) = ((mid + 1 : Nat) : Int) := wr64 (by omega) (by omega)
    rw [e1]
    refine ifB_dec (fun _ => ?_) (fun _ => ?_)
    · refine ih a mid lim1 w7 d4 _ (by omega) hD7 hn4.symm hmax r1 (by omega) r4 fun w8 d8 hD8 hP8 hS8 hF8 => ⟨rfl, ?_⟩
      obtain ⟨t1, t2⟩ := r6 d8 hP8 hS8
      exact hnext (b - (mid + 1)) _ _ (by omega) ⟨mid + 1, b, lim1, _, _, d8, rfl, rfl, by omega, by omega, hb, hD8, by rw [hP8.1]; exact hn4, t1, fun D h1 h2 => by
        obtain ⟨s1, s2⟩ := t2 D h1 h2
        exact hC3 D s1 s2, hF7.onto hF8 hF7.size⟩
    · refine ih (mid + 1) b lim1 w7 d4 _ (by omega) hD7 hn4.symm hmax (by omega) hb r5 fun w8 d8 hD8 hP8 hS8 hF8 => ⟨rfl, ?_⟩
      obtain ⟨t1, t2⟩ := r7 d8 hP8 hS8
      exact hnext (mid - a) _ _ (by omega) ⟨a, mid, lim1, _, _, d8, rfl, rfl, by omega, r1, by omega, hD8, by rw [hP8.1]; exact hn4, t1, fun D h1 h2 => by
        obtain ⟨s1, s2⟩ := t2 D h1 h2
        exact hC3 D s1 s2, hF7.onto hF8 hF7.size⟩
end
end Go.Proofs

namespace Go.Proofs
open Go.Gk Go.RowKit

section
variable {w : World} {R : Value → World → Prop}
theorem sort_nil (hR : R (.tuple #[]) w) : callR Tryz.prog 120 #[.slice none 0 0] w R := by
  refine callR.of (slices_Sort_suint32_uint32_calls ⟨none, 0, 0⟩ R w ?_) fun _ _ h => h
  unfold L_slices_Sort_suint32_uint32
  have e0 : IntKind.u64.wrap (((⟨none, 0, 0⟩ : Sl).l : Nat) : Int) = ((0 : Nat) : Int) := by decide
  rw [e0]
  refine Len_spec (x := 0) (by omega) fun L _ _ => ⟨_, rfl, ?_⟩
  refine callR.of (slices_pdqsortOrdered_uint32_calls ⟨none, 0, 0⟩ 0 0 L _ w ?_) fun _ _ h => h
  refine LoopW.ghost (fun _ st w' => st = ((0 : Int), (0 : Int), (L : Int), true, true, ()) ∧ w' = w) 0 ⟨rfl, rfl⟩ ?_
  rintro _ _ w ⟨rfl, rfl⟩ next _
  refine ifB_true (by show decide (IntKind.i64.wrap ((0 : Int) - 0) ≤ 12) = true; decide) ?_
  refine callR.of (slices_insertionSortOrdered_uint32_calls ⟨none, 0, 0⟩ 0 0 _ w ?_) fun _ _ h => h
  refine LoopW.ghost (fun _ (st : Int × Unit) w' => st = (1, ()) ∧ w' = w) 0 ⟨rfl, rfl⟩ ?_
  rintro _ _ w ⟨rfl, rfl⟩ next _
  exact ifB_false (by decide) ⟨rfl, rfl, hR⟩
theorem SortU_spec {r : Sl} {T : List Int} (h : Own w 22 1 r (T.map (Value.int .u32))) (hmax : T.length ≤ 35184372088832)
    (hR : ∀ (A : List Int) w', Own w' 22 1 r (A.map (Value.int .u32)) → A.Perm T → A.Pairwise (· ≤ ·) → Fr w.heap.size (fun k => r.a = some (blk k)) w w' → R (.tuple #[]) w') :
    callR Tryz.prog 120 #[.slice r.a r.l r.c] w R := by
  obtain ⟨h0, hc⟩ := h
  rw [List.length_map, Nat.mul_one] at h0
  rcases hc with rfl | ⟨g, cs, ha, hB, h1, h2, h3, h4⟩
  · have hT : T = [] := List.eq_nil_of_length_eq_zero h0
    subst hT
    exact sort_nil (hR [] w (Own.nil _ _ _) (List.Perm.refl _) List.Pairwise.nil (Fr.refl _ _ _))
  · obtain ⟨ra, rl, rc⟩ := r
    dsimp only at h0 ha h1 h2 h3 h4
    subst ha
    have hD : Dtw w g (cs.drop rl) T.toArray := by
      unfold Dtw
      rw [Nat.mul_one] at h4
      rw [List.toList_toArray, ← h4, List.take_append_drop]
      exact hB
    refine callR.of (slices_Sort_suint32_uint32_calls ⟨some (blk g), rl, rc⟩ R w ?_) fun _ _ h => h
    unfold L_slices_Sort_suint32_uint32
    dsimp only
    rw [uwrap (x := rl) (by omega)]
    refine Len_spec (by omega) fun L _ _ => ⟨_, rfl, ?_⟩
    have hp := pdq_spec (g := g) (n := rl) (c := rc) (rest := cs.drop rl) rl 0 rl (L : Int) w T.toArray (fun v w' => v = .tuple #[] ∧ R (.tuple #[]) w') (by omega) hD (by simpa using h0.symm) (by omega) (by omega) (Nat.le_refl _) (.inl rfl) fun w' d' hD' hP hS hF => ⟨rfl, ?_⟩
    · exact hp
    · have hsz : d'.size = rl := by rw [hP.1]; simpa using h0
      refine hR d'.toList w' ⟨by rw [List.length_map, Nat.mul_one]; simpa using hsz, .inr ⟨g, _, rfl, hD', h1, h2, ?_, ?_⟩⟩ ?_ ?_ (hF.mono (Nat.le_refl _) fun k _ hk => by rw [hk])
      · rw [List.length_append, List.length_map, List.length_drop, h3, Nat.mul_one, Array.length_toList, hsz]
        omega
      · rw [List.take_left' (by rw [List.length_map, Array.length_toList, hsz, Nat.mul_one])]
      · have := hP.2.2
        rw [Array.toList_extract, Array.toList_extract, List.extract_eq_take_drop, List.extract_eq_take_drop] at this
        simp only [List.drop_zero, Nat.sub_zero] at this
        rwa [List.take_of_length_le (by rw [Array.length_toList]; omega), List.take_of_length_le (by omega)] at this
      · rw [List.pairwise_iff_getElem]
        intro i j hi hj hij
        rw [Array.length_toList] at hi hj
        have := hS i j (Nat.zero_le _) hij (by omega)
        rw [getElem!_pos d' i hi, getElem!_pos d' j hj] at this
        have := of_decide_eq_false this
        simp only [Array.getElem_toList]
        omega
/-- append: what lies below B stays. -/
theorem push_at {P : Program} {t e : TypeId} {sz bytes B : Nat} (he : ElemT P t e sz bytes) {w : World} {s : Sl} {xs : List Value} (h : Own w e sz s xs) (hB0 : B ≤ w.heap.size) (hF : Fresh B s) {vs : List Value} (hvs : vs.length = sz) (hv : ∀ u ∈ vs, u.oneCell' = true) {b c : Nat} {T : TypeId}
    (hB : Blk w b T vs) (h63 : s.l + 1 ≤ 9223372036854775807) (hbytes : (s.l + 1) * bytes ≤ 140737488355328) {k : Sl → World → Prop}
    (hk : ∀ r w', Own w' e sz r (xs ++ vs) → Below B w w' → Fresh B r → k r w') : appendS P t (.slice s.a s.l s.c) (.slice (some (blk b)) 1 c) w k := by
  refine append_own he h (news := vs) (by omega) (fun j u hj => hB.cell hj) hv h63 hbytes fun r w' h1 hl' hg => ?_
  rcases hg with ⟨_, _, h3⟩ | ⟨b', h3, h4, h5⟩
  · rw [h3] at hl'; omega
  · have hbb : B ≤ b' := by
      rcases h4 with h4 | h4
      · exact hF _ h4
      · omega
    exact hk r w' h1 (below_grown h5 hbb hB0) (fun a ha => by rw [h3] at ha; cases ha; exact hbb)
theorem AppendSeq_spec {s : Sl} {T : List Int} {vb : Nat} {Tv : TypeId} (hS : IsS (Value.int .u32) w s T) (hV : Blk w vb Tv [.slice s.a s.l s.c]) (hmax : T.length ≤ 35184372088832)
    (hR : ∀ r w', Own w' 22 1 r (T.map (Value.int .u32)) → Fresh w.heap.size r → Below w.heap.size w w' → R (.slice r.a r.l r.c) w') :
    callR Tryz.prog 157 #[.slice none 0 0, .func (.func 121) #[] #[.pointer (some (blk vb))]] w R := by
  refine callR.of (slices_AppendSeq_suint32_uint32_calls ⟨none, 0, 0⟩ _ R w ?_) fun _ _ h => h
  refine lay_of fun w4 hC4 b4 z4 => ?_
  have hC4 : Blk w4 w.heap.size 57 [.slice none 0 0] := hC4
  intro mk hy
  have hcf : Tryz.fs.contains 121 = true := by kernel_rfl
  unfold callF
  simp only [hcf]
  generalize hw5 : ((w4.alloc (.deferred (some []))).alloc (mk .ready none)) = w5
  have b5 : Below w4.heap.size w4 w5 := by rw [← hw5]; exact laid_below w4 _ _
  have z5 : w5.heap.size = w4.heap.size + 2 := by rw [← hw5]; exact laid_size w4 _ _
  have hd5 : w5.heap[w4.heap.size]? = some (.deferred (some [])) := by rw [← hw5]; exact laid_d w4 _ _
  have hl5 : w5.heap[w4.heap.size + 1]? = some (mk .ready none) := by rw [← hw5]; exact laid_l w4 _ _
  clear hw5
  have b45 := b4.on b5
  have hlt := hV.lt
  refine callR.of (slices_Values_suint32_uint32__1_calls (.func (.yield (w4.heap.size + 1)) #[] #[]) (blk vb) _ w5 ?_) fun _ _ h => h
  refine ((hV.below b4).below b5).cell0 rfl |> fun hc => ⟨s, hc, ?_⟩
  have hsl := hS.len
  refine LoopW.count T.length hS.bound (fun k w' => w'.heap[w4.heap.size + 1]? = some (mk .ready none) ∧ w'.heap[w4.heap.size]? = some (.deferred (some [])) ∧ w5.heap.size ≤ w'.heap.size ∧ Below w.heap.size w w' ∧
    ∃ r, Blk w' w.heap.size 57 [.slice r.a r.l r.c] ∧ Own w' 22 1 r ((T.take k).map (Value.int .u32)) ∧ Fresh w5.heap.size r)
    ⟨hl5, hd5, Nat.le_refl _, b45, ⟨none, 0, 0⟩, hC4.below b5, Own.nil _ _ _, fun a ha => by (cases ha)⟩ ?_
  rintro k w6 hk ⟨hl6, hd6, hz6, hb6, r, hC6, hO6, hF6⟩ next hnext
  refine ifB_dec (fun h => ?_) (fun h => ?_)
  · have hkl : k < T.length := by dsimp only at h; omega
    refine elemU (hS.below hb6) hkl ?_
    refine hy (T[k], ()) w6 _ hl6 ?_
    have hlt6 : w4.heap.size + 1 < w6.heap.size := (Array.getElem?_eq_some_iff.1 hl6).1
    refine ⟨hl6, Nw.gen fun w7 e7 => ?_⟩
    have ho7 : ∀ b, b ≠ w4.heap.size + 1 → w7.heap[b]? = w6.heap[b]? := fun b hb => by rw [e7]; exact World.putObj_heap_other hb
    have hz7 : w7.heap.size = w6.heap.size := by rw [e7]; simp
    have hl7 : w7.heap[w4.heap.size + 1]? = some (mk .busy none) := by rw [e7]; exact put_self hlt6 _
    have hb7 : Below w.heap.size w w7 := by rw [e7]; exact hb6.putObj (by omega) _
    clear e7
    have hC7 := hC6.of_block (ho7 _ (by omega))
    have hO7 : Own w7 22 1 r ((T.take k).map (Value.int .u32)) := hO6.of_block fun a ha => ho7 _ (by have := hF6 a ha; omega)
    have hd7 : w7.heap[w4.heap.size]? = some (.deferred (some [])) := by rw [ho7 _ (by omega)]; exact hd6
    refine hC7.cell0 rfl |> fun hc => ⟨r, hc, ?_⟩
    refine lay_of fun w8 hD8 b8 z8 => ?_
    have hrl : r.l = k := by
      have := hO6.1
      rw [List.length_map, List.length_take] at this
      omega
    refine push_at eU32 (hO7.below b8) (B := w5.heap.size) (by have := b8.size; omega) hF6 rfl (by simp [Value.oneCell']) hD8 (by omega) (by omega) fun r' w9 hO9 b9 hF9 => ?_
    have b79 : Below w5.heap.size w7 w9 := (b8.mono (by omega)).trans b9
    have kb : ∀ i, i < w5.heap.size → w9.heap[i]? = w7.heap[i]? := fun i hi => b79.block i hi
    have hC9 := hC7.of_block (kb _ (by omega))
    refine ⟨hC9.wr0 (by simp), Nw.gen fun w10 e10 => ?_⟩
    have c10 : Chg w.heap.size w9 w10 := by rw [e10]; exact Chg.set w.heap.size 0 w9 _
    have hC10 : Blk w10 w.heap.size 57 [.slice r'.a r'.l r'.c] := by rw [e10]; exact hC9.set0 _
    clear e10
    have hl10 : w10.heap[w4.heap.size + 1]? = some (mk .busy none) := by rw [c10.block _ (by omega), kb _ (by omega)]; exact hl7
    have hlt10 : w4.heap.size + 1 < w10.heap.size := (Array.getElem?_eq_some_iff.1 hl10).1
    have s79 := b79.size
    have s10 := c10.size
    refine ⟨hl10, ⟨true, rfl, ifB_false rfl (hnext _ hkl ⟨put_self hlt10 _, ?_, by simp; omega, ?_, r', ?_, ?_, hF9⟩)⟩⟩
    · rw [World.putObj_heap_other (by omega), c10.block _ (by omega), kb _ (by omega)]
      exact hd7
    · exact (c10.below (hb7.trans (b79.mono (by omega))) (Nat.le_refl _)).putObj (by omega) _
    · exact hC10.put (by omega) _
    · rw [List.take_succ_eq_append_getElem hkl, List.map_append]
      have hO10 : Own w10 22 1 r' ((T.take k).map (Value.int .u32) ++ [Value.int .u32 T[k]]) := hO9.of_block fun a ha => c10.block _ (by have := hF9 a ha; omega)
      exact hO10.of_block fun a ha => World.putObj_heap_other (by have := hF9 a ha; omega)
  · have hk' : k = T.length := by dsimp only at h; omega
    subst hk'
    rw [List.take_length] at hO6
    refine ⟨hl6, ?_⟩
    have hC7 := hC6.put (l := w4.heap.size + 1) (by omega) (mk .exhausted none)
    refine hC7.cell0 rfl |> fun hc => ⟨r, hc, ?_⟩
    refine closeM_one (by rw [World.putObj_heap_other (by omega)]; exact hd6) ?_
    refine hR r _ ?_ (fun a ha => by have := hF6 a ha; omega) ((hb6.putObj (by omega) _).putObj (by omega) _)
    refine (hO6.of_block fun a ha => World.putObj_heap_other (by have := hF6 a ha; omega)).of_block fun a ha => World.putObj_heap_other (by have := hF6 a ha; omega)
theorem Sorted_spec {s : Sl} {T : List Int} {vb : Nat} {Tv : TypeId} (hS : IsS (Value.int .u32) w s T) (hV : Blk w vb Tv [.slice s.a s.l s.c]) (hmax : T.length ≤ 35184372088832)
    (hR : ∀ r (A : List Int) w', Own w' 22 1 r (A.map (Value.int .u32)) → A.Perm T → A.Pairwise (· ≤ ·) → Below w.heap.size w w' → R (.slice r.a r.l r.c) w') :
    callR Tryz.prog 70 #[.func (.func 121) #[] #[.pointer (some (blk vb))]] w R := by
  refine callR.of (slices_Sorted_uint32_calls _ R w ?_) fun _ _ h => h
  refine callR.of (slices_Collect_uint32_calls _ _ w ?_) fun _ _ h => h
  refine AppendSeq_spec hS hV hmax fun r w1 hO1 hF1 b1 => ⟨r, rfl, r, rfl, ?_⟩
  refine SortU_spec hO1 hmax fun A w2 hO2 hP hA hF2 => ⟨rfl, ?_⟩
  refine hR r A w2 hO2 hP hA (b1.trans ⟨hF2.os, hF2.tape, hF2.output, hF2.size, fun k hk => hF2.block k (by have := b1.size; omega) fun e => ?_⟩)
  have := hF1 _ e
  have : (blk k).block = k := rfl
  omega
end
end Go.Proofs
namespace Go.Proofs
open Go.Gk Go.RowKit Go.Gm

end Go.Proofs

namespace Go.Proofs
open Go.Gk Go.RowKit Go.Gm

end Go.Proofs
namespace Go.Proofs
open Go.Gk Go.RowKit Go.Gm

/-- What Rename comes to. -/
noncomputable def rnmP (x : Mo) (pl : List PI) (T : List Int) : Int × Int × List PI := if (shapeP x.2.1 pl).1 ≠ 0 then (0, 0, []) else if wayB x.2.1 T = true then (x.1, x.2.1, turnP (toG T) pl) else (0, 0, [])
noncomputable def rnmS (x : Mo) (pl : List PI) (T : List Int) : Int × Int := if (shapeP x.2.1 pl).1 ≠ 0 then ((shapeP x.2.1 pl).1, ((shapeP x.2.1 pl).2 : Int)) else if wayB x.2.1 T = true then (0, 0) else (2, 0)
section
variable {x : Mo} {pl : List PI} {w : World} {R : Value → World → Prop} {s : Sl} {T : List Int}
theorem CopyWords_spec (hs : IsS (Value.int .u32) w s T) (hmax : 4 * T.length ≤ 140737488351232)
    (hR : ∀ w', Own w' 22 1 ⟨some (blk w.heap.size), T.length, T.length⟩ (T.map (Value.int .u32)) → Below w.heap.size w w' → R (.slice (some (blk w.heap.size)) T.length T.length) w') :
    callR Tryz.prog 23 #[.slice s.a s.l s.c] w R := by
  refine callR.of (intagliokit_CopyWords_calls s R w ?_) fun _ _ h => h
  have hl := hs.len
  unfold L_intagliokit_CopyWords
  rw [hl]
  refine ⟨⟨by omega, by omega, by omega, by omega⟩, Nw.gen fun w1 e1 => ?_⟩
  have hD1 : Blk w1 w.heap.size 22 ((List.replicate T.length (0 : Int)).map (Value.int .u32)) := by rw [e1, List.map_replicate]; exact Blk.made w _ _ _
  have b1 : Below w.heap.size w w1 := by rw [e1]; exact (Below.refl _ _).alloc (Nat.le_refl _) _
  clear e1
  refine LoopW.count T.length (by omega) (fun k w' => Below w.heap.size w w' ∧ ∃ C : List Int, Blk w' w.heap.size 22 (C.map (Value.int .u32)) ∧ C.length = T.length ∧ ∀ j (h : j < C.length) (h' : j < T.length), j < k → C[j] = T[j]) ⟨b1, _, hD1, by simp, fun j _ _ h => by omega⟩ ?_
  rintro k w2 hk ⟨hb, C, hC, hCl, hval⟩ next hnext
  refine ifB_dec (fun h => ?_) (fun h => ?_)
  · have hlt : k < T.length := by dsimp only at h; omega
    have hel := elemU (hs.below hb) hlt (φ := fun x => (0 ≤ (k : Int) ∧ (k : Int) < ((T.length : Nat) : Int)) ∧ Wr w2 ((blk w.heap.size).add (Int.toNat (k : Int))) ∧ Nw (w2.setCell ((blk w.heap.size).add (Int.toNat (k : Int))) (.int .u32 x)) fun w3 => next ((IntKind.i64.wrap ((k : Int) + 1)), ()) w3) ?_
    · rw [hl] at hel
      exact hel
    · have c3 := Chg.set w.heap.size k w2 (.int .u32 T[k])
      refine ⟨⟨by omega, by omega⟩, hC.wr (by rw [List.length_map]; omega), Nw.mk (hnext _ hlt ⟨c3.below hb (Nat.le_refl _), C.set k T[k], ?_, by rw [List.length_set]; exact hCl, fun j h1 h2 h3 => ?_⟩)⟩
      · rw [List.map_set]; exact hC.set _ _
      · by_cases e : k = j
        · subst e; rw [List.getElem_set_self]
        · rw [List.getElem_set_ne e]
          exact hval j (by rw [List.length_set] at h1; exact h1) h2 (by omega)
  · have hk' : k = T.length := by dsimp only at h; omega
    have e : C = T := List.ext_getElem hCl fun j h1 h2 => hval j h1 h2 (by omega)
    subst e
    exact hR w2 ⟨by rw [List.length_map, Nat.mul_one], .inr ⟨_, _, rfl, hC, Nat.le_refl _, (by dsimp only; omega), by rw [List.length_map, Nat.mul_one], by rw [Nat.mul_one]; exact List.take_of_length_le (by rw [List.length_map]; exact Nat.le_refl _)⟩⟩ hb
theorem outMS {bm bs : Nat} {cs ds : List Value} {g bd e a : Int} {t : Sl} {K : Int → Int → Sl → Int → Int → World → Prop} (hM : Blk w bm 25 cs) (hS : Blk w bs 33 ds) (h3 : cs.length = 3) (h2 : ds.length = 2)
    (hK : ∀ w', Chg bm w w' → ∀ w'', Chg bs w' w'' → K g bd t e a w'') :
    Wr w (blk bm) ∧ Nw (w.setCell (blk bm) (.int .u32 g)) fun w1 => Wr w1 ((blk bm).add 1) ∧ Nw (w1.setCell ((blk bm).add 1) (.int .u32 bd)) fun w2 => Wr w2 ((blk bm).add 2) ∧ Nw (w2.setCell ((blk bm).add 2) (.slice t.a t.l t.c)) fun w3 =>
    Wr w3 (blk bs) ∧ Nw (w3.setCell (blk bs) (.int .i64 e)) fun w4 => Wr w4 ((blk bs).add 1) ∧ Nw (w4.setCell ((blk bs).add 1) (.int .i64 a)) fun w5 =>
    ldI w5 ((blk bm).add 0) .u32 fun x1 => ldI w5 ((blk bm).add 1) .u32 fun x2 => ldS w5 ((blk bm).add 2) fun x3 => ldI w5 ((blk bs).add 0) .i64 fun x4 => ldI w5 ((blk bs).add 1) .i64 fun x5 => K x1 x2 x3 x4 x5 w5 := by
  have hne : bs ≠ bm := Blk.apart hS hM (by decide)
  refine st3 hM h3 fun w3 hM3 c3 => st2 (c3.blk hS hne) h2 fun w5 hS5 c5 => ?_
  exact Mo.load (x := (g, bd, t, ())) (c5.blk hM3 hne.symm) (Sp.load hS5 (hK w3 c3 w5 c5))
theorem Rename_spec (hN : IsPl w x.2.2.1 pl) (hp : PlOk pl) (h0 : 0 ≤ x.2.1) (hs : IsS (Value.int .u32) w s T) (hmax : T.length ≤ 35184372088832)
    (hR : ∀ (y : Mo) ql w', Below w.heap.size w w' → OwnPl w' w.heap.size y.2.2.1 ql → (y.1, y.2.1, ql) = rnmP x pl T → R (.tuple #[moA y, .agg #[.int .i64 (rnmS x pl T).1, .int .i64 (rnmS x pl T).2]]) w') :
    callR Tryz.prog 22 #[moA x, .slice s.a s.l s.c] w R := by
  refine callR.of (ids_Rename_calls x s R w ?_) fun _ _ h => h
  refine lay_of fun w1 hB1 b1 z1 => ?_
  have hB1 : Blk w1 w.heap.size 25 (moV x) := hB1
  refine lay_of fun w2 hV2 b2 z2 => ?_
  have hV2 : Blk w2 w1.heap.size 57 [.slice s.a s.l s.c] := hV2
  refine lay_of fun w3 hM3 b3 z3 => ?_
  have hM3 : Blk w3 w2.heap.size 25 [.int .u32 0, .int .u32 0, .slice none 0 0] := hM3
  refine lay_of fun w4 hS4 b4 z4 => ?_
  have hS4 : Blk w4 w3.heap.size 33 [.int .i64 0, .int .i64 0] := hS4
  have b14 := (b2.on b3).on b4
  have hb4 := b1.on b14
  refine Mo.load (hB1.below b14) ?_
  refine Shape_spec (x := x) (hN.below hb4) hp fun w5 b5 => ⟨((shapeP x.2.1 pl).1, ((shapeP x.2.1 pl).2 : Int), ()), rfl, ?_⟩
  refine box2 rfl fun w8 h8 b8 z8 => ?_
  have s5 := b5.size
  have b48 := b5.on b8
  have hb8 := hb4.on b48
  have hB8 := (hB1.below b14).below b48
  have hV8 := ((hV2.below b3).below b4).below b48
  have hM8 := (hM3.below b4).below b48
  have hS8 := hS4.below b48
  refine h8.rI0 rfl (ifB_bne (fun e => ?_) (fun e => ?_))
  · have e' : (shapeP x.2.1 pl).1 ≠ 0 := e
    have er : rnmS x pl T = ((shapeP x.2.1 pl).1, ((shapeP x.2.1 pl).2 : Int)) := by unfold rnmS; rw [if_pos e']
    rw [er] at hR
    refine Sp.load h8.drew ?_
    refine st3 hM8.drew rfl fun w9 hM9 c9 => ?_
    have h9 := c9.blk h8.drew (by omega)
    refine ⟨h9.cell (n := 0) rfl, h9.cell (n := 1) rfl, ?_⟩
    refine st2 (c9.blk hS8.drew (by omega)) rfl fun w10 hS10 c10 => ?_
    refine Mo.load (x := (0, 0, ⟨none, 0, 0⟩, ())) (c10.blk hM9 (by omega)) (Sp.load hS10 ?_)
    exact hR (0, 0, ⟨none, 0, 0⟩, ()) [] w10 (c10.below (c9.below hb8.drew (by omega)) (by omega)) (OwnPl.nil _ _) (by unfold rnmP; rw [if_pos e'])
  have e' : ¬ (shapeP x.2.1 pl).1 ≠ 0 := fun h => h e
  have hsh : (shapeP x.2.1 pl).1 = 0 := e
  have nb := (shape_ok hsh).1
  have hrg := ids_range hp h0 hsh
  refine hV8.cell0 rfl |> fun hc => ⟨s, hc, ?_⟩
  refine callR.of (slices_Values_suint32_uint32_calls s _ w8 ?_) fun _ _ h => h
  refine lay_of fun w14 hW14 b14' z14 => ⟨_, rfl, ?_⟩
  have hs14 := hs.below (hb8.on b14')
  refine Sorted_spec (s := s) (T := T) hs14 hW14 hmax fun r A w15 hA15 hP hA b15 => ⟨r, rfl, ?_⟩
  have b815 := b14'.on b15
  have hb15 := hb8.on b815
  have hB15 := hB8.below b815
  have hV15 := hV8.below b815
  have hM15 := hM8.below b815
  have hS15 := hS8.below b815
  have hs15 := hs.below hb15
  have hl := hs.len
  have hAl : A.length = T.length := hP.length_eq
  have hrs := hA15.isS
  have hrl := hrs.len
  refine JoinW.cut (fun (st : Bool × Unit) w' => w' = w15 ∧ (st.1 = true ↔ (T.length : Int) = x.2.1 ∧ T.getD 0 1 = 0)) ?_ ?_
  · refine hV15.cell0 rfl |> fun hc => ⟨s, hc, hB15.rI (n := 1) (x := x.2.1) rfl ?_⟩
    rw [wrap64_in (x := x.2.1) (by omega) (by omega)]
    refine ifB_beq (fun e1 => ?_) (fun e1 => ⟨rfl, ⟨fun h => (by cases h), fun h => absurd (by omega) e1⟩⟩)
    refine hV15.cell0 rfl |> fun hc => ⟨s, hc, ?_⟩
    have hT0 : 0 < T.length := by omega
    obtain ⟨a, ha⟩ := hs15.base hT0
    refine ⟨⟨by omega, by omega⟩, derefP_some ha ⟨T[0], hs15.cell a ha 0 hT0, rfl, ?_⟩⟩
    dsimp only
    rw [getD_lt hT0, beq_iff_eq]
    exact ⟨fun h => ⟨by omega, h⟩, fun h => h.2⟩
  rintro ⟨ok0, _⟩ w15 ⟨rfl, hok0⟩
  dsimp only at hok0 ⊢
  refine LoopW.ghost (fun k (st : Bool × Int × Unit) w' => ∃ n : Nat, st.2.1 = (n : Int) ∧ k = A.length - n ∧ n ≤ A.length ∧ w' = w15 ∧ (st.1 = true ↔ ok0 = true ∧ ∀ j (h : j < A.length), j < n → A[j] = (j : Int))) A.length
    ⟨0, rfl, rfl, Nat.zero_le _, rfl, ⟨fun h => ⟨h, fun j _ h => by omega⟩, fun h => h.1⟩⟩ ?_
  rintro _ ⟨ok, _, _⟩ w15 ⟨n, e2, rfl, hn, rfl, hok⟩ next hnext
  dsimp only at e2 hok
  subst e2
  refine ifB_dec (fun h => ?_) (fun h => ?_)
  · have hnl : n < A.length := by dsimp only at h; omega
    refine JoinW.cut (fun (st : Bool × Unit) w' => w' = w15 ∧ (st.1 = true ↔ ok0 = true ∧ ∀ j (h : j < A.length), j < n + 1 → A[j] = (j : Int))) ?_ ?_
    · refine elemU hrs hnl ?_
      refine ifB_bool (fun ht => ⟨rfl, ?_⟩) (fun hf => ⟨rfl, ?_⟩)
      · obtain ⟨k1, k2⟩ := hok.1 ht
        obtain ⟨k3, _⟩ := hok0.1 k1
        dsimp only
        rw [wrapU32_in (by omega) (by omega), beq_iff_eq]
        constructor
        · intro g
          refine ⟨k1, fun j hj hjn => ?_⟩
          by_cases ej : j = n
          · subst ej; exact g
          · exact k2 j hj (by omega)
        · intro g
          exact g.2 n hnl (by omega)
      · dsimp only
        constructor
        · intro g; cases g
        · intro g
          have hf : ok = false := hf
          rw [hok.2 ⟨g.1, fun j hj hjn => g.2 j hj (by omega)⟩] at hf
          cases hf
    · rintro ⟨ok', _⟩ w15 ⟨rfl, hok'⟩
      dsimp only at hok' ⊢
      rw [wrap64_succ (by omega)]
      exact hnext (A.length - (n + 1)) _ _ (by omega) ⟨n + 1, rfl, rfl, by omega, rfl, hok'⟩
  · have hn' : n = A.length := by dsimp only at h; omega
    subst hn'
    have hway : ok = true ↔ WayP x.2.1 T := by
      rw [hok, hok0]
      constructor
      · rintro ⟨⟨g1, g2⟩, g3⟩
        exact ⟨g1, g2, (sorted_iff hP hA).2 fun j hj => g3 j hj hj⟩
      · intro g
        exact ⟨⟨g.len, g.zero⟩, fun j hj _ => (sorted_iff hP hA).1 g.perm j hj⟩
    have l2 := hM8.lt
    have l3 := hS8.lt
    have s15 := b815.size
    refine ifB_not (ifB_bool (fun hok1 => ?_) (fun hok1 => ?_))
    · have hw : WayP x.2.1 T := hway.1 hok1
      have er : rnmS x pl T = (0, 0) := by unfold rnmS; rw [if_neg e', if_pos (wayB_true hw)]
      rw [er] at hR
      refine Mo.load hB15 ?_
      have hcf : Tryz.fs.contains 72 = true := by kernel_rfl
      refine turned_spec (x := x) (g := toG T) (hN.below hb15) hp (fun w' hb' m hm => ?_) fun t w16 hO16 b16 => ⟨(x.1, x.2.1, t, ()), rfl, ?_⟩
      · unfold callV
        simp only [hcf]
        refine callR.of (ids_Rename_1_calls m (blk w1.heap.size) _ w' ?_) fun _ _ h => h
        obtain ⟨m1, m2⟩ := hrg m hm
        have hmT : m.toNat < T.length := by have := hw.len; omega
        refine (hV15.below hb').cell0 rfl |> fun hc => ⟨s, hc, ?_⟩
        have hel := elemU (hs15.below hb') hmT (φ := fun v => (fun v w'' => v = Value.int .u32 (toG T m) ∧ Below w'.heap.size w' w'') (Value.int .u32 v) w') ⟨by unfold toG; rw [getD_lt hmT], Below.refl _ _⟩
        rw [show ((m.toNat : Nat) : Int) = m by omega] at hel
        exact hel
      refine outMS (g := x.1) (bd := x.2.1) (t := t) (e := 0) (a := 0) (hM15.below b16) (hS15.below b16) rfl rfl fun w17 c17 w18 c18 => ?_
      have s16 := b16.size
      refine hR (x.1, x.2.1, t, ()) (turnP (toG T) pl) w18 (c18.below (c17.below (hb15.on b16) (by omega)) (by omega)) ?_ (by unfold rnmP; rw [if_neg e', if_pos (wayB_true hw)])
      exact ((hO16.chg c17 (by omega)).chg c18 (by omega)).lower (by omega)
    · have hw : ¬ WayP x.2.1 T := fun h => by rw [hway.2 h] at hok1; cases hok1
      have er : rnmS x pl T = (2, 0) := by unfold rnmS; rw [if_neg e', if_neg (by rw [wayB_false hw]; simp)]
      rw [er] at hR
      refine outMS (g := 0) (bd := 0) (t := ⟨none, 0, 0⟩) (e := 2) (a := 0) hM15 hS15 rfl rfl fun w17 c17 w18 c18 => ?_
      exact hR (0, 0, ⟨none, 0, 0⟩, ()) [] w18 (c18.below (c17.below hb15 (by omega)) (by omega)) (OwnPl.nil _ _) (by unfold rnmP; rw [if_neg e', if_neg (by rw [wayB_false hw]; simp)])
end
end Go.Proofs
