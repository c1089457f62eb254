/-
  The statement CallsOrder.
-/
import Derived.Test.Ytjplhoollkeihaa17r
namespace Go.Proofs
open Go.Gk Go.RowKit Go.Gr Go.St

section
variable {rows : List (List Nat)}
theorem foldl_ge {f : Nat → Nat} : ∀ {l : List Nat} {m : Nat}, m ≤ l.foldl (fun m k => max m (f k + 1)) m ∧ ∀ k ∈ l, f k + 1 ≤ l.foldl (fun m k => max m (f k + 1)) m
  | [], _ => ⟨Nat.le_refl _, fun k hk => by cases hk⟩
  | a :: l, m => by
    rw [List.foldl_cons]
    obtain ⟨h1, h2⟩ := foldl_ge (f := f) (l := l) (m := max m (f a + 1))
    refine ⟨by omega, fun k hk => ?_⟩
    rcases List.mem_cons.1 hk with rfl | hk
    · omega
    · exact h2 k hk
theorem dep_lt (hn : NoRound rows) {i k : Nat} (hk : k ∈ rows.getD i []) : dep rows k < dep rows i := by
  have := (foldl_ge (f := dep rows) (l := rows.getD i []) (m := 0)).2 k hk
  rw [← dep_eq hn] at this
  omega
abbrev cl1 : List (List Int) := [[1], []]
abbrev cl2 : List (List Int) := [[1], [0]]
theorem cl1_rise : riseLL cl1 = [[1], []] := by decide +kernel
theorem cl2_rise : riseLL cl2 = [[1], [0]] := by decide +kernel
theorem cl1_good : Good cl1 := by unfold Good; decide +kernel
theorem cl2_good : Good cl2 := by unfold Good; decide +kernel
theorem cl1_no : NoRound [[1], []] := by
  rintro ⟨i, k, hk, hw⟩
  have e : i = 0 ∧ k = 1 := by
    match i with
    | 0 => simp at hk; exact ⟨rfl, hk⟩
    | 1 => simp at hk
    | i + 2 => simp at hk
  obtain ⟨rfl, rfl⟩ := e
  have : ∀ {b}, Wy [[1], []] 1 b → b = 1 := fun h => by
    induction h with
    | refl => rfl
    | step _ e ih => rw [ih] at e; simp at e
  have := this hw
  omega
theorem cl2_round : ¬ NoRound [[1], [0]] := fun h => h ⟨0, 1, by simp, .step .refl (by simp)⟩
theorem cl1_dep0 : dep [[1], []] 0 = 1 := by decide +kernel
theorem cl1_dep1 : dep [[1], []] 1 = 0 := by decide +kernel
theorem rowD_nodup {n : Nat} {d : Nat → Nat} {dp : Nat → Int} (h : Bk dp d 0 n) : (rowD n d).Nodup := by
  unfold rowD
  rw [List.Nodup, List.pairwise_map]
  refine List.Pairwise.imp_of_mem ?_ List.pairwise_lt_range
  intro a b ha hb hab e
  have := h.so a b (by omega) hab (List.mem_range.1 hb)
  rw [e] at this
  exact lt_irr dp this
theorem rowD_all {n : Nat} {d : Nat → Nat} {dp : Nat → Int} (h : Bk dp d 0 n) {j : Nat} (hj : j < n) : ∃ i, i < n ∧ d i = j := by
  by_cases e : j ∈ rowD n d
  · obtain ⟨i, hi, e⟩ := List.mem_map.1 e
    exact ⟨i, List.mem_range.1 hi, e⟩
  · have := nodup_lt (rowD_nodup h) (fun x hx => by
      obtain ⟨i, hi, e⟩ := List.mem_map.1 hx
      have := h.own i (by omega) (List.mem_range.1 hi)
      omega) hj e
    simp at this
theorem rowD_inj {n : Nat} {d : Nat → Nat} {dp : Nat → Int} (h : Bk dp d 0 n) {i j : Nat} (hi : i < n) (hj : j < n) (e : d i = d j) : i = j := by
  rcases Nat.lt_trichotomy i j with q | q | q
  · have := h.so i j (by omega) q hj; rw [e] at this; exact absurd this (lt_irr dp)
  · exact q
  · have := h.so j i (by omega) q hi; rw [e] at this; exact absurd this (lt_irr dp)
theorem isI_of {w : World} {b : Nat} {T : TypeId} {l : List Int} (h : Blk w b T (l.map (Value.int .i64))) (hm : l.length ≤ 9223372036854775807) : IsI w ⟨some (Gk.blk b), l.length, l.length⟩ l := Blk.isS h rfl rfl (Nat.le_refl _) hm

set_option maxRecDepth 20000 in
set_option maxHeartbeats 8000000 in
theorem CallsOrder_spec {s : Sl} {hs : List Sl} {ll : List (List Int)} {w : World} {R : Value → World → Prop} (hI : IsII w s hs ll) (h24 : 24 * ll.length ≤ 140737488351232) (h8 : ∀ l ∈ ll, 8 * l.length ≤ 140737488351232)
    (hR : ∀ w', Below w.heap.size w w' → R (.bool true) w') : callR Try.prog 25 #[.slice s.a s.l s.c] w R := by
  refine callR.of (intagliolaw17_CallsOrder_calls s R w ?_) fun _ _ h => h
  have hsl : s.l = ll.length := by have := hI.top.len; have := hI.len; omega
  have al : ∀ (wa : World) (o : Obj), Below wa.heap.size wa (wa.alloc o) := fun wa o => (Below.refl _ _).alloc (Nat.le_refl _) _
  refine Nw.gen fun w1 hw1 => Nw.gen fun w2 hw2 => Nw.gen fun w3 hw3 => ?_
  have k1 : Blk w1 w.heap.size 3 [.int .i64 1] := by rw [hw1]; exact Blk.new w _ #[_]
  have b1 : Below w.heap.size w w1 := by rw [hw1]; exact al _ _
  have b2 : Below w1.heap.size w1 w2 := by rw [hw2]; exact al _ _
  have k2 : Blk w2 w1.heap.size 3 [] := by rw [hw2]; exact Blk.new w1 _ #[]
  have b3 : Below w2.heap.size w2 w3 := by rw [hw3]; exact al _ _
  have k3 : Blk w3 w2.heap.size 32 [.slice (some (Gk.blk w.heap.size)) 1 1, .slice (some (Gk.blk w1.heap.size)) 0 0] := by rw [hw3]; exact Blk.new w2 _ #[_, _]
  have b03 : Below w.heap.size w w3 := b1.trans ((b2.mono b1.size).trans (b3.mono (by have := b1.size; have := b2.size; omega)))
  clear hw1 hw2 hw3
  have i3 : IsII w3 ⟨some (Gk.blk w2.heap.size), 2, 2⟩ [⟨some (Gk.blk w.heap.size), 1, 1⟩, ⟨some (Gk.blk w1.heap.size), 0, 0⟩] cl1 := by
    refine ⟨Blk.isS (f := Sl.val) k3 rfl rfl (Nat.le_refl _) (show 2 ≤ 9223372036854775807 by decide), rfl, fun i hi _ => ?_⟩
    match i, hi with
    | 0, _ => exact Blk.isS (f := Value.int .i64) (l := [1]) ((k1.below b2).below b3) rfl rfl (Nat.le_refl _) (show 1 ≤ 9223372036854775807 by decide)
    | 1, _ => exact Blk.isS (f := Value.int .i64) (l := []) (k2.below b3) rfl rfl (Nat.le_refl _) (show 0 ≤ 9223372036854775807 by decide)
  have ge : ∀ {x : Sl} {y : Nat}, x = ⟨some (Gk.blk y), 2, 2⟩ → True := fun _ => trivial
  clear ge
  refine cOf_spec (s := ⟨some (Gk.blk w2.heap.size), 2, 2⟩) i3 (by decide) (fun h => absurd h (by decide)) (fun _ h => absurd cl1_good h) (fun _ _ h => absurd (by rw [cl1_rise]; exact cl1_no) h) fun _ _ _ w4 rc4 b4 hC4 => ⟨some (Gk.blk rc4), 0, rfl, ?_⟩
  rw [cl1_rise] at hC4
  have b04 := b03.trans (b4.mono b03.size)
  refine JoinW.cut (fun _ w' => w' = w4) ?_ ?_
  · refine ifB_false (by decide) (cDeep_spec (i := 0) hC4 (by decide) ⟨_, rfl, ?_⟩)
    rw [cl1_dep0]
    refine ifB_false (by decide) (cDeep_spec (i := 1) hC4 (by decide) ⟨_, rfl, ?_⟩)
    rw [cl1_dep1]
    exact ifB_false (by decide) rfl
  rintro _ w7 e7
  have e7 := e7.symm
  subst e7
  refine Nw.gen fun w8 hw8 => Nw.gen fun w9 hw9 => Nw.gen fun w10 hw10 => ?_
  have k8 : Blk w8 w4.heap.size 3 [.int .i64 1] := by rw [hw8]; exact Blk.new w4 _ #[_]
  have b8 : Below w4.heap.size w4 w8 := by rw [hw8]; exact al _ _
  have k9 : Blk w9 w8.heap.size 3 [.int .i64 0] := by rw [hw9]; exact Blk.new w8 _ #[_]
  have b9 : Below w8.heap.size w8 w9 := by rw [hw9]; exact al _ _
  have k10 : Blk w10 w9.heap.size 32 [.slice (some (Gk.blk w4.heap.size)) 1 1, .slice (some (Gk.blk w8.heap.size)) 1 1] := by rw [hw10]; exact Blk.new w9 _ #[_, _]
  have b10 : Below w9.heap.size w9 w10 := by rw [hw10]; exact al _ _
  have b410 : Below w4.heap.size w4 w10 := b8.trans ((b9.mono b8.size).trans (b10.mono (by have := b8.size; have := b9.size; omega)))
  have b010 := b04.trans (b410.mono b04.size)
  clear hw8 hw9 hw10
  have i10 : IsII w10 ⟨some (Gk.blk w9.heap.size), 2, 2⟩ [⟨some (Gk.blk w4.heap.size), 1, 1⟩, ⟨some (Gk.blk w8.heap.size), 1, 1⟩] cl2 := by
    refine ⟨Blk.isS (f := Sl.val) k10 rfl rfl (Nat.le_refl _) (show 2 ≤ 9223372036854775807 by decide), rfl, fun i hi _ => ?_⟩
    match i, hi with
    | 0, _ => exact Blk.isS (f := Value.int .i64) (l := [1]) ((k8.below b9).below b10) rfl rfl (Nat.le_refl _) (show 1 ≤ 9223372036854775807 by decide)
    | 1, _ => exact Blk.isS (f := Value.int .i64) (l := [0]) (k9.below b10) rfl rfl (Nat.le_refl _) (show 1 ≤ 9223372036854775807 by decide)
  refine cOf_spec (s := ⟨some (Gk.blk w9.heap.size), 2, 2⟩) i10 (by decide) (fun h => absurd h (by decide)) (fun _ h => absurd cl2_good h) (fun _ _ _ w11 b11 => ⟨none, 171, rfl, ifB_false (by decide) ?_⟩) fun _ _ h => absurd h (by rw [cl2_rise]; exact cl2_round)
  have b011 := b010.trans (b11.mono b010.size)
  refine ccopied_spec (hI.below b011) h24 h8 fun r14 w12 hs12 b12 hI12 => ⟨r14, rfl, ?_⟩
  have b012 := b011.trans (b12.mono b011.size)
  have bz := b012.size
  refine cOf_spec hI12 h8 (fun _ w13 b13 => ⟨none, 4, rfl, ifB_true (by decide) (hR w13 (b012.trans (b13.mono bz)))⟩) (fun _ _ w13 b13 => ⟨none, 3, rfl, ifB_true (by decide) (hR w13 (b012.trans (b13.mono bz)))⟩) (fun _ _ _ w13 b13 => ⟨none, 171, rfl, ifB_true (by decide) (hR w13 (b012.trans (b13.mono bz)))⟩) fun hmax hG hN w13 rc b13 hC => ⟨some (Gk.blk rc), 0, rfl, ifB_false (by decide) ?_⟩
  have b013 := b012.trans (b13.mono bz)
  have hrl : (riseLL ll).length = ll.length := riseLL_len
  have hmr : ∀ {i : Nat} (hi : i < ll.length) {x : Nat}, x ∈ (riseLL ll).getD i [] ↔ (x : Int) ∈ ll[i] := fun hi => mem_riseLL hG hi
  have hrowle : ∀ i, ((riseLL ll).getD i []).length ≤ 4096 := fun i => by
    by_cases e : i < ll.length
    · rw [riseLL_get e]; have := riseL_le ll.length ((ll[i]).map Int.toNat); omega
    · simp [List.getD, List.getElem?_eq_none (show ll.length ≤ i by omega)]
  generalize riseLL ll = rows at *
  obtain ⟨n, hn⟩ : ∃ n, n = ll.length := ⟨_, rfl⟩
  refine cOrder_spec (by omega) hC fun r19 w14 d b14 o19 hBk => ⟨r19, rfl, ?_⟩
  rw [hrl, ← hn] at o19 hBk
  have b014 := b013.trans (b14.mono b013.size)
  have hC14 := hC.below b14
  have l19 := own_len o19
  have l19 : r19.l = n := by simpa using l19
  refine JoinW.cut (fun _ w' => w' = w14) (ifB_bne (fun h => absurd (by omega) h) fun _ => cLen_spec hC14 ⟨_, rfl, ifB_bne (fun h => absurd (by omega) h) fun _ => rfl⟩) ?_
  rintro _ w16 e16
  have e16 := e16.symm
  subst e16
  refine ⟨⟨by omega, by omega, by omega, by omega⟩, Nw.gen fun w17 hw17 => ?_⟩
  obtain ⟨ba, hba⟩ : ∃ ba, ba = w14.heap.size := ⟨_, rfl⟩
  have hA17 : Blk w17 ba 3 (dvL n fun _ => 0) := by
    have e : dvL n (fun _ => 0) = List.replicate n (.int .i64 0) := by
      apply List.ext_getElem
      · simp
      · intro k h1 h2; simp
    rw [hw17, hba, hsl, ← hn, e]
    exact Blk.made w14 _ _ n
  have b17 : Below w14.heap.size w14 w17 := by rw [hw17]; exact al _ _
  have z17 : w17.heap.size = w14.heap.size + 1 := by rw [hw17]; simp
  rw [← hba]
  clear hw17
  have i19 : IsI w14 r19 ((rowD n d).map fun (x : Nat) => (x : Int)) := IsS.toI (Own.isS o19)
  have get19 : ∀ {w' : World}, Below w14.heap.size w14 w' → ∀ {k : Nat}, k < n → ∀ {φ : Int → Prop}, φ (d k : Int) → (0 ≤ (k : Int) ∧ (k : Int) < (r19.l : Int)) ∧ derefP r19.a fun a => ldI w' (a.add (Int.toNat (k : Int))) .i64 φ := fun {w'} hb {k} hk {φ} hφ => by
    refine elemI (i19.below hb) (k := k) (by simp; exact hk) ?_
    simpa using hφ
  have dlt : ∀ {k}, k < n → d k < n := fun {k} hk => (hBk.own k (by omega) hk).2
  have bnd : ∀ {k : Nat}, k < n → (0 ≤ (k : Int) ∧ (k : Int) < (s.l : Int)) := fun {k} hk => ⟨by omega, by omega⟩
  have setA : ∀ {w' : World} {av : Nat → Int} {j : Nat} {v : Int}, Below w14.heap.size w14 w' → Blk w' ba 3 (dvL n av) → j < n → ∀ {K : World → Prop}, (∀ w'', Below w14.heap.size w14 w'' → Blk w'' ba 3 (dvL n fun i => if i = j then v else av i) → K w'') → Wr w' ((Gk.blk ba).add (Int.toNat (j : Int))) ∧ Nw (w'.setCell ((Gk.blk ba).add (Int.toNat (j : Int))) (.int .i64 v)) K := fun {w' av j v} hb hB hj {K} hK => by
    refine ⟨hB.wr (n := j) (by simp; exact hj), Nw.mk (hK _ (hb.setCell (by rw [add_block]; show w14.heap.size ≤ ba; omega) _) ?_)⟩
    rw [← dvL_set]
    exact hB.set j _
  have getA : ∀ {w' : World} {av : Nat → Int} {j : Nat}, Blk w' ba 3 (dvL n av) → j < n → ∀ {φ : Int → Prop}, φ (av j) → ldI w' ((Gk.blk ba).add (Int.toNat (j : Int))) .i64 φ := fun {w' av j} hB hj {φ} hφ => ⟨_, hB.cell (n := j) (by simp [hj]), hφ⟩
  -- all stand in the order once
  refine LoopW.count n (by omega) (fun k w' => Below w14.heap.size w14 w' ∧ ∃ av : Nat → Int, Blk w' ba 3 (dvL n av) ∧ (∀ i, i < k → av (d i) = 1) ∧ ∀ j, (∀ i, i < k → d i ≠ j) → av j = 0) ⟨b17, _, hA17, fun i hi => by omega, fun _ _ => rfl⟩ ?_
  rintro k w18 hk ⟨b18, av, hA, hv1, hv0⟩ next hnext
  refine ifB_dec (fun hlt => ?_) (fun hge => ?_)
  · have hlt : k < n := by dsimp only at hlt; omega
    have hdk := dlt hlt
    refine JoinW.cut (fun _ w' => w' = w18) (get19 b18 hlt (ifB_dec (fun h => absurd h (by omega)) fun _ => get19 b18 hlt (ifB_dec (fun h => absurd h (by omega)) fun _ => rfl))) ?_
    rintro _ w19 e19
    have e19 := e19.symm
    subst e19
    refine get19 b18 hlt ⟨bnd hdk, getA hA hdk ⟨bnd hdk, ?_⟩⟩
    have a0 : av (d k) = 0 := hv0 _ fun i hi e => by have := rowD_inj hBk (by omega) hlt e; omega
    rw [a0]
    refine setA b18 hA hdk fun w20 b20 hA20 => hnext _ hlt ⟨b20, _, hA20, fun i hi => ?_, fun j hj => ?_⟩
    · by_cases e : d i = d k
      · rw [if_pos e]; rfl
      · rw [if_neg e]
        exact hv1 i (by
          by_cases e' : i = k
          · subst e'; exact absurd rfl e
          · omega)
    · rw [if_neg (fun e => hj k (by omega) e.symm)]
      exact hv0 j fun i hi => hj i (by omega)
  have hkn : k = n := by dsimp only at hge; omega
  subst hkn
  refine LoopW.count k (by omega) (fun _ w' => w' = w18) rfl ?_
  rintro j w21 hj rfl next2 hnext2
  refine ifB_dec (fun hlt => ?_) (fun _ => ?_)
  · have hlt : j < k := by dsimp only at hlt; omega
    refine ⟨bnd hlt, getA hA hlt (ifB_bne (fun h => ?_) fun _ => hnext2 _ hlt rfl)⟩
    obtain ⟨i, hi, e⟩ := rowD_all hBk hlt
    rw [← e] at h
    exact absurd (hv1 i hi) h
  clear hnext2 next2 hnext next
  refine LoopW.count k (by omega) (fun m w' => Below w14.heap.size w14 w' ∧ ∃ av : Nat → Int, Blk w' ba 3 (dvL k av) ∧ ∀ i, i < m → av (d i) = (i : Int)) ⟨b18, av, hA, fun i hi => by omega⟩ ?_
  rintro m w22 hm ⟨b22, av2, hA2, hv2⟩ next hnext
  refine ifB_dec (fun hlt => ?_) (fun hge => ?_)
  · have hlt : m < k := by dsimp only at hlt; omega
    have hdk := dlt hlt
    refine get19 b22 hlt ⟨bnd hdk, setA b22 hA2 hdk fun w23 b23 hA23 => hnext _ hlt ⟨b23, _, hA23, fun i hi => ?_⟩⟩
    by_cases e : d i = d m
    · rw [if_pos e, rowD_inj hBk (by omega) hlt e]
    · rw [if_neg e]
      exact hv2 i (by
        by_cases e' : i = m
        · subst e'; exact absurd rfl e
        · omega)
  have hmk : m = k := by dsimp only at hge; omega
  subst hmk
  clear hnext next
  have b022 := b014.trans (b22.mono b014.size)
  have hI22 := hI.below b022
  have hC22 := hC14.below b22
  have z22 := b022.size
  -- where a number stands
  have pos : ∀ {j : Nat}, j < m → ∃ p, p < m ∧ d p = j ∧ av2 j = (p : Int) := fun {j} hj => by
    obtain ⟨p, hp, e⟩ := rowD_all hBk hj
    exact ⟨p, hp, e, by rw [← e]; exact hv2 p hp⟩
  refine LoopW.count m (by omega) (fun _ w' => Below w22.heap.size w22 w') (Below.refl _ _) ?_
  rintro i w24 hi b24 next hnext
  refine ifB_dec (fun hlt => ?_) (fun _ => hR w24 (b022.trans (b24.mono z22)))
  have hlt : i < m := by dsimp only at hlt; omega
  have hil : i < ll.length := by omega
  have hih : i < hs.length := by have := hI.len; omega
  have hir : i < rows.length := by omega
  have hlen8 := h8 _ (List.getElem_mem hil)
  refine LoopW.count (ll[i]).length (by omega) (fun _ w' => Below w22.heap.size w22 w') b24 ?_
  rintro q w25 hq b25 next2 hnext2
  have hI25 := hI22.below b25
  have hrow := hI25.row i hih hil
  have hrw := hrow.len
  refine elemS hI25.top (k := i) hih (ifB_dec (fun hlt2 => ?_) fun hge2 => ?_)
  · have hlt2 : q < (ll[i]).length := by dsimp only at hlt2; omega
    refine elemS hI25.top (k := i) hih (elemI hrow hlt2 ?_)
    have hxg := hG _ (List.getElem_mem hil) _ (List.getElem_mem hlt2)
    obtain ⟨j, hj⟩ : ∃ j : Nat, (ll[i])[q] = (j : Int) := ⟨((ll[i])[q]).toNat, by omega⟩
    have hjm : j < m := by omega
    have hjr : j < rows.length := by omega
    have hji : j ∈ rows.getD i [] := (hmr hil).2 (by rw [← hj]; exact List.getElem_mem _)
    rw [hj]
    have hdl := dep_lt hN hji
    have b25d : Below w22.heap.size w22 w25.drew := b25.drew
    have hA25 := hA2.below b25d
    have hC25 := hC22.below b25d
    refine JoinW.cut (fun _ w' => Below w22.heap.size w22 w') ?_ ?_
    · obtain ⟨p1, hp1, e1, v1⟩ := pos hjm
      obtain ⟨p2, hp2, e2, v2⟩ := pos hlt
      refine ⟨bnd hjm, getA hA25 hjm ⟨bnd hlt, getA hA25 hlt ?_⟩⟩
      rw [v1, v2]
      have hpp : p1 < p2 := by
        rcases Nat.lt_trichotomy p1 p2 with q | q | q
        · exact q
        · rw [q, e2] at e1; subst e1; omega
        · have := hBk.so p2 p1 (by omega) q hp1
          rw [e1, e2] at this
          unfold lt at this
          dsimp only at this
          omega
      refine ifB_dec (fun h => absurd h (by omega)) fun _ => cDeep_spec hC25 hjr ⟨_, rfl, cDeep_spec hC25 hir ⟨_, rfl, ifB_dec (fun h => absurd h (by omega)) fun _ => ?_⟩⟩
      refine cCalls_spec hrowle hC25 hir fun r61 w28 b28 o61 => ⟨r61, rfl, chas_spec (IsS.toI (Own.isS o61)) fun b hb => ⟨b, rfl, ifB_not (ifB_bool (fun _ => ?_) fun eb => ?_)⟩⟩
      · have b228 := b25d.trans (b28.mono b25d.size)
        refine cCalled_spec (by omega) (hC22.below b228) (i := j) fun r65 w30 b30 o65 => ⟨r65, rfl, chas_spec (IsS.toI (Own.isS o65)) fun b2 hb2 => ⟨b2, rfl, ifB_not (ifB_bool (fun _ => ?_) fun eb => ?_)⟩⟩
        · have b230 := b228.trans (b30.mono b228.size)
          refine cReached_spec (by omega) (hC22.below b230) hjr fun r69 w32 b32 o69 => ⟨r69, rfl, chas_spec (IsS.toI (Own.isS o69)) fun b3 hb3 => ⟨b3, rfl, ifB_bool (fun eb => ?_) fun _ => b230.trans (b32.mono b230.size)⟩⟩
          obtain ⟨y, hy, ey⟩ := List.mem_map.1 (hb3.1 eb)
          have hyw := wyB_iff.1 (List.mem_filter.1 hy).2
          rw [show y = i by omega] at hyw
          exact absurd ⟨i, j, hji, hyw⟩ hN
        · have := hb2.2 (List.mem_map.2 ⟨i, List.mem_filter.2 ⟨List.mem_range.2 hir, by rw [List.contains_iff_mem]; exact hji⟩, rfl⟩)
          rw [this] at eb
          cases eb
      · have := hb.2 (List.mem_map.2 ⟨j, hji, rfl⟩)
        rw [this] at eb
        cases eb
    · intro _ w34 b34
      have z34 := b34.size
      refine cReached_spec (by omega) (hC22.below b34) hjr fun r73 w35 b35 o73 => ⟨r73, rfl, ?_⟩
      have b235 := b34.trans (b35.mono z34)
      have z35 := b235.size
      obtain ⟨L, hL⟩ : ∃ L, L = (List.range rows.length).filter (wyB rows j) := ⟨_, rfl⟩
      rw [← hL] at o73
      have i73 : IsI w35 r73 (L.map fun (x : Nat) => (x : Int)) := IsS.toI (Own.isS o73)
      have l73 := own_len o73
      have hLl : L.length ≤ 4096 := by
        rw [hL]
        have := List.length_filter_le (wyB rows j) (List.range rows.length)
        rw [List.length_range] at this
        omega
      refine LoopW.count L.length (by omega) (fun _ w' => Below w35.heap.size w35 w') (Below.refl _ _) ?_
      rintro e w36 he b36 next3 hnext3
      refine ifB_dec (fun hlt3 => ?_) (fun _ => hnext2 _ hlt2 (b235.trans (b36.mono z35)))
      have hlt3 : e < L.length := by dsimp only at hlt3; omega
      have b36d : Below w35.heap.size w35 w36.drew := b36.drew
      obtain ⟨a76, ha76⟩ := i73.base (i := e) (by simp; exact hlt3)
      have i73d := i73.below b36d
      have c0 := i73d.cell a76 ha76 e (by simp; exact hlt3)
      rw [List.getElem_map] at c0
      refine ⟨⟨by omega, by omega⟩, derefP_some ha76 ⟨_, c0, ?_⟩⟩
      have b236 := b235.trans (b36d.mono z35)
      refine cReached_spec (by omega) (hC22.below b236) hir fun r79 w37 b37 o79 => ⟨r79, rfl, ?_, ?_⟩
      · have b37' : Below w35.heap.size w35 w37 := b36d.trans (b37.mono b36d.size)
        have := (i73.below b37').cell a76 ha76 e (by simp; exact hlt3)
        rw [List.getElem_map] at this
        exact this
      · refine chas_spec (IsS.toI (Own.isS o79)) fun b hb => ⟨b, rfl, ifB_not (ifB_bool (fun _ => hnext3 _ hlt3 (b36d.trans (b37.mono b36d.size))) fun eb => ?_)⟩
        have hm := List.getElem_mem hlt3
        have hm2 : L[e] ∈ (List.range rows.length).filter (wyB rows j) := by rw [← hL]; exact hm
        obtain ⟨m1, m2⟩ := List.mem_filter.1 hm2
        have := hb.2 (List.mem_map.2 ⟨L[e], List.mem_filter.2 ⟨m1, wyB_iff.2 (Wy.head hji (wyB_iff.1 m2))⟩, rfl⟩)
        rw [this] at eb
        cases eb
  · have hqe : q = (ll[i]).length := by dsimp only at hge2; omega
    refine cReached_spec (by omega) (hC22.below b25) hir fun r83 w39 b39 o83 => ⟨r83, rfl, chas_spec (IsS.toI (Own.isS o83)) fun b hb => ⟨b, rfl, ifB_not (ifB_bool (fun _ => hnext _ hlt (b25.trans (b39.mono b25.size))) fun eb => ?_)⟩⟩
    have := hb.2 (List.mem_map.2 ⟨i, List.mem_filter.2 ⟨List.mem_range.2 hir, wyB_iff.2 .refl⟩, rfl⟩)
    rw [this] at eb
    cases eb
end

end Go.Proofs
