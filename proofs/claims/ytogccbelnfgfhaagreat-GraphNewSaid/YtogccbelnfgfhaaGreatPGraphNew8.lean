/-
  Part 8 of what GraphNew is proved by: functions walked, and what they come to.
-/
import Derived.Test.YtogccbelnfgfhaaGreatPGraphNew7
namespace Go.Proofs
open Go.Gk Go.RowKit Go.Gm

noncomputable def nxE (x : Mo) (pl : List PI) (f : FnL) : List (List Nat) := if (gnwE x pl f).1 = 0 then edges (rowsP pl f.bk) else []
noncomputable def mvE (x : Mo) (pl : List PI) (f : FnL) : List Mg := if (gnwE x pl f).1 = 0 then mgsP pl f.bk else []
section
variable {w : World} {R : Value → World → Prop}
theorem elemMg {s : Sl} {l : List Mg} (h : IsM w s l) {k : Nat} (hk : k < l.length) {φ : Int → Int → Int → Prop} (hφ : φ l[k].1 l[k].2.1 l[k].2.2) :
    (0 ≤ (k : Int) ∧ (k : Int) < (s.l : Int)) ∧ derefP s.a fun a => ldI w ((a.add (Int.toNat (k : Int) * 3)).add 0) .u8 fun x => ldI w ((a.add (Int.toNat (k : Int) * 3)).add 1) .i64 fun y => ldI w ((a.add (Int.toNat (k : Int) * 3)).add 2) .i64 fun z => φ x y z := by
  obtain ⟨a, ha⟩ := IsC.base h hk
  have hcell := IsC.cell h a ha k hk
  refine ⟨⟨by omega, by have := IsC.len h; omega⟩, derefP_some ha ⟨_, ?_, _, ?_, _, ?_, hφ⟩⟩
  · rw [add_add']; exact hcell 0 (by omega)
  · rw [add_add']; exact hcell 1 (by omega)
  · rw [add_add']; exact hcell 2 (by omega)
theorem EqM_spec {s t : Sl} {l m : List Mg} (hs : IsM w s l) (ht : IsM w t m) (hR : ∀ w', Below w.heap.size w w' → R (.bool (decide (l = m))) w') : callR Tryz.prog 34 #[.slice s.a s.l s.c, .slice t.a t.l t.c] w R := by
  refine callR.of (intagliolaw14_merges_calls s t R w ?_) fun _ _ h => h
  have h1 := IsC.len hs
  have h2 := IsC.len ht
  have no : l ≠ m → ∀ {w'}, Below w.heap.size w w' → R (.bool false) w' := fun h {w'} hb => by
    have := hR w' hb
    rwa [decide_eq_false h] at this
  refine ifB_bne (fun e => no (fun h => e (by rw [h1, h2, h])) (Below.refl _ _)) (fun e => ?_)
  refine LoopW.count l.length (IsC.bound hs) (fun k w' => Below w.heap.size w w' ∧ ∀ j (q1 : j < l.length) (q2 : j < m.length), j < k → l[j] = m[j]) ⟨Below.refl _ _, fun j _ _ h => by omega⟩ ?_
  rintro k w1 hk ⟨hb, hj⟩ next hnext
  refine ifB_dec (fun h => ?_) (fun h => ?_)
  · have hlt : k < l.length := by dsimp only at h; omega
    have hlm : k < m.length := by omega
    refine elemMg (IsC.below mgV_len hs hb.drew) hlt (elemMg (IsC.below mgV_len ht hb.drew) hlm (ifB_not (ifB_bool (fun e => hnext _ hlt ⟨hb.drew, fun j q1 q2 hjk => ?_⟩) (fun e => no (fun g => ?_) hb.drew))))
    · by_cases ej : j = k
      · subst ej
        simp only [Bool.and_true, Bool.and_eq_true, beq_iff_eq] at e
        exact Prod.ext e.1 (Prod.ext e.2.1 e.2.2)
      · exact hj j q1 q2 (by omega)
    · subst g
      simp at e
  · have hk' : k = l.length := by dsimp only at h; omega
    have := hR w1 hb
    rwa [decide_eq_true (List.ext_getElem (by omega) fun j q1 q2 => hj j q1 q2 (by omega))] at this
end
section
variable {x : Mo} {pl : List PI} {w : World} {R : Value → World → Prop} {v : Fv} {f : FnL}
theorem IsM.none (w : World) : IsM w ⟨none, 0, 0⟩ [] := ⟨rfl, Nat.le_refl _, Nat.zero_le _, fun _ => rfl, fun a ha => by cases ha⟩
theorem gNew_all (hN : IsPl w x.2.2.1 pl) (hp : PlOk pl) (h0 : 0 ≤ x.2.1) (hf : IsFn w v f)
    (hR : ∀ w' p ms, Below w.heap.size w w' → GP w' p (nxE x pl f) → IsM w' ms (mvE x pl f) → R (.tuple #[.pointer p, .slice ms.a ms.l ms.c, .agg #[.int .i64 (gnwE x pl f).1, .int .i64 (gnwE x pl f).2]]) w') :
    callR Tryz.prog 33 #[moA x, fvA v] w R := by
  refine gNew_spec (x := x) (v := v) hN hp h0 hf (fun w' e a hb he hne => ?_) (fun w' gb ms hb h0' _ hG hNx hM => ?_)
  · have := hR w' none ⟨none, 0, 0⟩ hb
    unfold nxE mvE at this
    rw [← he, if_neg hne, if_neg hne] at this
    exact this (.inl ⟨rfl, rfl⟩) (IsM.none _)
  · have := hR w' (some (blk gb)) ms hb
    unfold nxE mvE at this
    rw [h0', if_pos rfl, if_pos rfl] at this
    exact this (.inr ⟨gb, rfl, hNx, hG⟩) hM
theorem rNew_all (hN : IsPl w x.2.2.1 pl) (hp : PlOk pl) (h0 : 0 ≤ x.2.1) (hf : IsFn w v f)
    (hR : ∀ w' p ms, Below w.heap.size w w' → RP w' p (nxE x pl f) → IsM w' ms (mvE x pl f) → R (.tuple #[.pointer p, .slice ms.a ms.l ms.c, .agg #[.int .i64 (gnwE x pl f).1, .int .i64 (gnwE x pl f).2]]) w') :
    callR Tryz.prog 32 #[moA x, fvA v] w R := by
  refine rNew_spec (x := x) (v := v) hN hp h0 hf (fun w' e a hb he hne => ?_) (fun w' gb ms hb h0' _ hG hNx hM => ?_)
  · have := hR w' none ⟨none, 0, 0⟩ hb
    unfold nxE mvE at this
    rw [← he, if_neg hne, if_neg hne] at this
    exact this (.inl ⟨rfl, rfl⟩) (IsM.none _)
  · have := hR w' (some (blk gb)) ms hb
    unfold nxE mvE at this
    rw [h0', if_pos rfl, if_pos rfl] at this
    exact this (.inr ⟨gb, rfl, hNx, hG⟩) hM
theorem one_spec (hN : IsPl w x.2.2.1 pl) (hp : PlOk pl) (h0 : 0 ≤ x.2.1) (hf : IsFn w v f) (hR : ∀ w', Below w.heap.size w w' → R (.bool true) w') :
    callR Tryz.prog 9 #[moA x, fvA v] w R := by
  refine callR.of (intagliolaw14_one_calls x v R w ?_) fun _ _ h => h
  refine lay_of fun w1 hB1 b1 z1 => ?_
  have hB1 : Blk w1 w.heap.size 25 (moV x) := hB1
  refine lay_of fun w2 hV2 b2 z2 => ?_
  have hV2 : Blk w2 w1.heap.size 29 (fvV v) := hV2
  have hb2 := b1.on b2
  have hB2 := hB1.below b2
  refine Mo.load hB2 (Fv.load (v := v) hV2 ?_)
  refine rNew_all (x := x) (v := v) (hN.below hb2) hp h0 (hf.below hb2) fun w3 p ms b3 hP3 hM3 => ⟨p, ms, ((gnwE x pl f).1, (gnwE x pl f).2, ()), rfl, ?_⟩
  refine box2 rfl fun w6 hS6 b6 z6 => ?_
  have b26 := b3.on b6
  have hb6 := hb2.on b26
  have hB6 := hB2.below b26
  refine Mo.load hB6 ?_
  refine CopyModule_spec (x := x) (hN.below hb6) hp fun cb w7 _ _ hC7 b7 => ⟨(x.1, x.2.1, ⟨some (blk cb), pl.length, pl.length⟩, ()), rfl, ?_⟩
  refine box3 rfl fun w11 hD11 b11 z11 => ?_
  have hD11 : Blk w11 w7.heap.size 25 (moV (x.1, x.2.1, ⟨some (blk cb), pl.length, pl.length⟩, ())) := hD11
  have b611 := b7.on b11
  have hb11 := hb6.on b611
  have hC11 := hC7.below b11
  refine Mo.load hD11 (Fv.load (v := v) ((hV2.below b26).below b611) ?_)
  have eg : gnwE (x.1, x.2.1, ⟨some (blk cb), pl.length, pl.length⟩, ()) pl f = gnwE x pl f := rfl
  have en : nxE (x.1, x.2.1, ⟨some (blk cb), pl.length, pl.length⟩, ()) pl f = nxE x pl f := rfl
  have em : mvE (x.1, x.2.1, ⟨some (blk cb), pl.length, pl.length⟩, ()) pl f = mvE x pl f := rfl
  refine gNew_all (x := (x.1, x.2.1, ⟨some (blk cb), pl.length, pl.length⟩, ())) (v := v) hC11 hp h0 (hf.below hb11) fun w12 q mt b12 hQ12 hM12 => ⟨q, mt, ((gnwE x pl f).1, (gnwE x pl f).2, ()), rfl, ?_⟩
  rw [en] at hQ12
  rw [em] at hM12
  refine box2 rfl fun w15 hS15 b15 z15 => ?_
  have b1115 := b12.on b15
  have b615 := b611.on b1115
  have hb15 := hb6.on b615
  refine Sp.load hS15 (Sp.load (hS6.below b615) (ifB_true (by simp) ?_))
  refine EqM_spec (IsC.below mgV_len hM12 b15) (IsC.below mgV_len hM3 (b6.on b615)) fun w16 b16 => ⟨_, rfl, ifB_true (decide_eq_true rfl) ?_⟩
  have b1216 := b15.on b16
  have b616 := b615.on b16
  refine told_spec (hQ12.below b1216) (hP3.below (b6.on b616)) fun w17 b17 => ⟨true, rfl, ifB_true rfl ?_⟩
  have b1117 := (b1115.on b16).on b17
  have b617 := b616.on b17
  have hb17 := hb6.on b617
  refine Mo.load (hD11.below b1117) (Mo.load (hB6.below b617) ?_)
  refine Module_spec (x := (x.1, x.2.1, ⟨some (blk cb), pl.length, pl.length⟩, ())) (y := x) (hC11.below b1117) (hN.below hb17) fun w18 b18 => ⟨_, rfl, ?_⟩
  have := hR w18 (hb17.on b18)
  rwa [decide_eq_true ⟨rfl, rfl, rfl⟩]
theorem GraphNew_spec (hN : IsPl w x.2.2.1 pl) (hp : PlOk pl) (hbd : 0 ≤ x.2.1 ∧ x.2.1 ≤ 4294967295) (hf : IsFn w v f) (hR : ∀ w', Below w.heap.size w w' → R (.bool true) w') :
    callR Tryz.prog 3 #[moA x, fvA v] w R := by
  refine callR.of (intagliolaw14_GraphNew_calls x v R w ?_) fun _ _ h => h
  refine lay_of fun w1 hB1 b1 z1 => ?_
  have hB1 : Blk w1 w.heap.size 25 (moV x) := hB1
  refine lay_of fun w2 hV2 b2 z2 => ?_
  have hV2 : Blk w2 w1.heap.size 29 (fvV v) := hV2
  have hb2 := b1.on b2
  have hB2 := hB1.below b2
  have hN2 := hN.below hb2
  refine Mo.load hB2 ?_
  refine callR.mono (S := fun val w3 => ∃ fs L e a, val = .tuple #[.slice fs.a fs.l fs.c, .agg #[.int .i64 e, .int .i64 a]] ∧ Below w2.heap.size w2 w3 ∧ Fns w3 fs L) (rCut_spec (x := x) hN2 hp (fun fs L w3 _ b3 hL _ => ⟨fs, L, 0, 0, rfl, b3, hL⟩) (fun w3 _ b3 => ⟨⟨none, 0, 0⟩, [], _, _, rfl, b3, Fns.nil _⟩)) ?_
  rintro _ w3 ⟨fs, L, e, a, rfl, b3, hL⟩
  refine ⟨fs, (e, a, ()), rfl, ?_⟩
  refine box2 rfl fun w6 hS6 b6 z6 => ?_
  have b26 := b3.on b6
  have hb6 := hb2.on b26
  have hL6 := hL.below b6
  have hll := hL.len
  have hc5 : IsC 5 feV w6 fs L := Own.isC feV_len (by omega) hL6.own
  have hbd5 := hc5.bound
  refine JoinW.cut (fun (_ : Unit) w' => Below w6.heap.size w6 w') ?_ ?_
  · refine LoopW.count L.length hbd5 (fun k w' => Below w6.heap.size w6 w') (Below.refl _ _) ?_
    intro k w7 hk b7 next hnext
    refine JoinW.cut (fun (_ : Unit) w' => w' = w7 ∧ k < L.length) (ifB_dec (fun h => ifB_dec (fun _ => ⟨rfl, by dsimp only at h; omega⟩) (fun _ => b7)) (fun _ => b7)) ?_
    rintro _ w8 ⟨rfl, hlt⟩
    have b7d := b7.drew
    have hb7d := hb6.on b7d
    have hL7 := hL6.below b7d
    refine Mo.load ((hB2.below b26).below b7d) (elemFn hL7 hlt ?_)
    refine one_spec (x := x) (v := (L[k].1.id, L[k].1.at_, L[k].2.1, L[k].2.2, L[k].1.en, ())) (f := L[k].1) (hN.below hb7d) hp hbd.1 (hL7.isFn (List.getElem_mem hlt)) fun w9 b9 => ⟨true, rfl, ifB_false rfl (hnext w9 hlt (b7d.on b9))⟩
  rintro _ w10 b10
  have hb10 := hb6.on b10
  have hB10 := (hB2.below b26).below b10
  refine JoinW.cut (fun (_ : Unit) w' => Below w6.heap.size w6 w') ?_ ?_
  · refine ifB_dec (fun h => ?_) (fun _ => b10)
    have h0 : 0 < L.length := by omega
    have hL10 := hL6.below b10
    refine elemFn hL10 (k := 0) h0 ?_
    refine Nw.gen fun w11 e11 => ?_
    have hX11 : Blk w11 w10.heap.size 29 [.int .u32 0, .int .i64 0, .slice none 0 0, .slice none 0 0, .int .i64 0] := by rw [e11]; exact Blk.new w10 _ #[_, _, _, _, _]
    have b11 : Below w10.heap.size w10 w11 := by rw [e11]; exact (Below.refl _ _).alloc (Nat.le_refl _) _
    clear e11
    refine st5 hX11 rfl fun w16 hX16 c16 => ?_
    have b16 : Below w10.heap.size w10 w16 := c16.below b11 (Nat.le_refl _)
    refine hX16.rI (n := 4) (x := L[0].1.en) rfl ⟨hX16.wr (show 4 < 5 by omega), ?_⟩
    refine Nw.gen fun w17 e17 => ?_
    have hX17 : Blk w17 w10.heap.size 29 (fvV (L[0].1.id, L[0].1.at_, L[0].2.1, L[0].2.2, IntKind.i64.wrap (L[0].1.en + 1), ())) := by rw [e17]; exact hX16.set 4 _
    have b17 : Below w10.heap.size w10 w17 := by rw [e17]; exact (Chg.set _ 4 w16 _).below b16 (Nat.le_refl _)
    clear e17
    have b617 := b10.on b17
    have hb17 := hb6.on b617
    refine Mo.load ((hB2.below b26).below b617) (Fv.load (v := (L[0].1.id, L[0].1.at_, L[0].2.1, L[0].2.2, IntKind.i64.wrap (L[0].1.en + 1), ())) hX17 ?_)
    have hF := (hL6.below b617).isFn (List.getElem_mem h0)
    refine one_spec (x := x) (v := (L[0].1.id, L[0].1.at_, L[0].2.1, L[0].2.2, IntKind.i64.wrap (L[0].1.en + 1), ())) (f := { L[0].1 with en := IntKind.i64.wrap (L[0].1.en + 1) }) (hN.below hb17) hp hbd.1 ⟨hF.id, hF.at_, hF.ps, hF.bk, rfl⟩ fun w18 b18 => ⟨true, rfl, ifB_false rfl (b617.on b18)⟩
  rintro _ w19 b19
  have b219 := b26.on b19
  have hb19 := hb2.on b219
  refine Mo.load (hB2.below b219) (Fv.load (v := v) (hV2.below b219) ?_)
  refine one_spec (x := x) (v := v) (hN.below hb19) hp hbd.1 (hf.below hb19) fun w20 b20 => ⟨true, rfl, ifB_true rfl ?_⟩
  exact awake_spec fun w21 b21 => ⟨true, rfl, hR w21 ((hb19.on b20).on b21)⟩
end
end Go.Proofs
