/-
  The document's depths.
-/
import Derived.Test.Ytjplhoollkeihaa17g
namespace Go.Proofs
open Go.Gk Go.RowKit Go.Gr

section
variable {s : Sl} {hs : List Sl} {ll : List (List Int)} {w : World} {R : Value → World → Prop}
theorem foldl_geD {f : Nat → Nat} : ∀ {l : List Nat} {m : Nat}, m ≤ l.foldl (fun m k => max m (f k + 1)) m ∧ ∀ k ∈ l, f k + 1 ≤ l.foldl (fun m k => max m (f k + 1)) m
  | [], _ => ⟨Nat.le_refl _, fun k hk => by cases hk⟩
  | a :: l, m => by
    rw [List.foldl_cons]
    obtain ⟨h1, h2⟩ := foldl_geD (f := f) (l := l) (m := max m (f a + 1))
    refine ⟨by omega, fun k hk => ?_⟩
    rcases List.mem_cons.1 hk with rfl | hk
    · omega
    · exact h2 k hk
theorem dep_mem {rows : List (List Nat)} (hn : NoRound rows) {i k : Nat} (hk : k ∈ rows.getD i []) : dep rows k < dep rows i := by
  have := (foldl_geD (f := dep rows) (l := rows.getD i []) (m := 0)).2 k hk
  rw [← dep_eq hn] at this
  omega
theorem dep_ge {rows : List (List Nat)} (hn : NoRound rows) {f : Nat → Nat} : ∀ (g i : Nat), rkC rows i ≤ g → (∀ i, ∀ k ∈ rows.getD i [], f k + 1 ≤ f i) → dep rows i ≤ f i
  | 0, i, h, _ => by
    rw [dep_eq hn]
    refine foldl_le (Nat.zero_le _) fun k hk => ?_
    have := rkC_lt hn hk
    omega
  | g + 1, i, h, hf => by
    rw [dep_eq hn]
    refine foldl_le (Nat.zero_le _) fun k hk => ?_
    have h1 := rkC_lt hn hk
    have h2 := dep_ge hn g k (by omega) hf
    have h3 := hf i k hk
    omega
theorem foldl_at {f : Nat → Nat} : ∀ {l : List Nat} {m : Nat}, l.foldl (fun m k => max m (f k + 1)) m = m ∨ ∃ k ∈ l, l.foldl (fun m k => max m (f k + 1)) m = f k + 1
  | [], m => .inl rfl
  | a :: l, m => by
    rw [List.foldl_cons]
    rcases foldl_at (f := f) (l := l) (m := max m (f a + 1)) with h | ⟨k, hk, h⟩
    · rw [h]
      by_cases e : f a + 1 ≤ m
      · left; omega
      · right; exact ⟨a, by simp, by omega⟩
    · exact .inr ⟨k, by simp [hk], h⟩
theorem dep_at {rows : List (List Nat)} (hn : NoRound rows) (i : Nat) : dep rows i = 0 ∨ ∃ k ∈ rows.getD i [], dep rows i = dep rows k + 1 := by
  rw [dep_eq hn]
  exact foldl_at
set_option maxHeartbeats 8000000 in
theorem rDeeps_spec (h : IsII w s hs ll) (h8 : ∀ l ∈ ll, 8 * l.length ≤ 140737488351232) (hmax : ll.length ≤ 4096) (hG : Good ll) (hN : NoRound (riseLL ll))
    (hR : ∀ r w', Below w.heap.size w w' → IsI w' r ((List.range ll.length).map fun i => (dep (riseLL ll) i : Int)) → R (.slice r.a r.l r.c) w') : callR Try.prog 180 #[.slice s.a s.l s.c] w R := by
  refine callR.of (intaglioref17_Deeps_calls s R w ?_) fun _ _ h => h
  have hsl : s.l = ll.length := by have := h.top.len; have := h.len; omega
  have hmr : ∀ {i : Nat} (hi : i < ll.length) {x : Nat}, x ∈ (riseLL ll).getD i [] ↔ (x : Int) ∈ ll[i] := fun hi => mem_riseLL hG hi
  have hrl : (riseLL ll).length = ll.length := riseLL_len
  generalize riseLL ll = rows at *
  obtain ⟨n, hn⟩ : ∃ n, n = ll.length := ⟨_, rfl⟩
  have hdl : ∀ i, dep rows i ≤ 4096 := fun i => by have := dep_len hN i; omega
  refine ⟨⟨by omega, by omega, by omega, by omega⟩, Nw.gen fun w1 hw1 => ?_⟩
  obtain ⟨b, hb⟩ : ∃ b, b = w.heap.size := ⟨_, rfl⟩
  have hA1 : Blk w1 b 3 (dvL n fun _ => ((0 : Nat) : Int)) := by
    have e : dvL n (fun _ => ((0 : Nat) : Int)) = List.replicate n (.int .i64 0) := by
      apply List.ext_getElem
      · simp
      · intro k h1 h2; simp
    rw [hw1, hb, hsl, ← hn, e]
    exact Blk.made w _ _ n
  have b1 : Below w.heap.size w w1 := by rw [hw1]; exact (Below.refl _ _).alloc (Nat.le_refl _) _
  rw [← hb]
  clear hw1
  have fin : ∀ {w2 : World} {f : Nat → Nat}, Below w.heap.size w w2 → Blk w2 b 3 (dvL n fun j => (f j : Int)) → (∀ i, i < n → f i = dep rows i) → R (.slice (some (Gk.blk b)) s.l s.l) w2 := fun {w2 f} b2 hB hf => by
    have e : dvL n (fun j => (f j : Int)) = ((List.range n).map fun i => (dep rows i : Int)).map (Value.int .i64) := by
      rw [List.map_map]
      exact List.map_congr_left fun j hj => by simp only [Function.comp]; rw [hf j (List.mem_range.1 hj)]
    rw [e] at hB
    have := hR ⟨some (Gk.blk b), n, n⟩ w2 b2 (by rw [← hn]; exact Blk.isS hB rfl (by simp) (Nat.le_refl _) (by show n ≤ _; omega))
    rw [hsl, ← hn]
    exact this
  -- what is kept: nothing is above its depth; what changed is told
  let Ok : (Nat → Nat) → World → Prop := fun f w' => Below w.heap.size w w' ∧ Blk w' b 3 (dvL n fun j => (f j : Int)) ∧ ∀ i, f i ≤ dep rows i
  refine LoopW.ghost (fun g (st : Bool × Int × Unit) w' => ∃ (rd : Nat) (f : Nat → Nat), rd ≤ n + 1 ∧ g = n + 1 - rd ∧ st.2 = ((rd : Int), ()) ∧ Ok f w' ∧ (∀ i, i < n → dep rows i ≤ rd → f i = dep rows i) ∧ (st.1 = false → ∀ i, i < n → f i = dep rows i)) (n + 1) ⟨0, fun _ => 0, by omega, by omega, rfl, ⟨b1, hA1, fun _ => Nat.zero_le _⟩, (fun i _ h => by show 0 = dep rows i; omega), fun q => by cases q⟩ ?_
  rintro _ ⟨more, ri, _⟩ w2 ⟨rd, f, hrd, rfl, est, hO, hlow, hfin⟩ next hnext
  have eri : ri = (rd : Int) := by have := congrArg Prod.fst est; exact this
  subst eri
  dsimp only
  refine JoinW.cut (fun _ w' => w' = w2 ∧ rd ≤ n) ?_ ?_
  · refine ifB_bool (fun em => ifB_dec (fun hle => ⟨rfl, by omega⟩) fun hgt => fin hO.1 hO.2.1 fun i hi => hlow i hi (by have := dep_len hN i; omega)) fun em => fin hO.1 hO.2.1 (hfin em)
  rintro _ w3 ⟨e3, hrn⟩
  have e3 := e3.symm
  subst e3
  -- one round
  let St : Bool → (Nat → Nat) → (Nat → Nat) → Prop := fun mo f' f => (mo = false → f' = f) ∧ (∀ j, f j ≤ f' j)
  refine LoopW.countS n (by omega) (fun i (mo : Bool) w' => ∃ f', Ok f' w' ∧ St mo f' f ∧ (∀ i', i' < i → ∀ k ∈ rows.getD i' [], f k + 1 ≤ f' i')) ⟨f, hO, ⟨fun _ => rfl, fun _ => Nat.le_refl _⟩, fun i' h => by omega⟩ ?_
  rintro i mo w4 hi ⟨f4, hO4, hS4, hc4⟩ next2 hnext2
  refine ifB_dec (fun hlti => ?_) (fun hgei => ?_)
  · have hlti : i < n := by dsimp only at hlti; omega
    have hil : i < ll.length := by omega
    have hih : i < hs.length := by have := h.len; omega
    have hl8 := h8 _ (List.getElem_mem hil)
    refine LoopW.countS (ll[i]).length (by omega) (fun m (mo : Bool) w' => ∃ f', Ok f' w' ∧ St mo f' f ∧ (∀ i', i' < i → ∀ k ∈ rows.getD i' [], f k + 1 ≤ f' i') ∧ ∀ q (hq : q < (ll[i]).length), q < m → ∀ k : Nat, (ll[i])[q] = (k : Int) → f k + 1 ≤ f' i) ⟨f4, hO4, hS4, hc4, fun _ _ h => by omega⟩ ?_
    rintro m mo5 w5 hm ⟨f5, hO5, hS5, hc5, hd5⟩ next3 hnext3
    have h5 := h.below hO5.1
    have hrw := (h5.row i hih hil).len
    refine elemS h5.top (k := i) hih (ifB_dec (fun hltm => ?_) fun hgem => ?_)
    · have hltm : m < (ll[i]).length := by dsimp only at hltm; omega
      have hxg := hG _ (List.getElem_mem hil) _ (List.getElem_mem hltm)
      obtain ⟨x, hx⟩ : ∃ x : Nat, (ll[i])[m] = (x : Int) := ⟨((ll[i])[m]).toNat, by omega⟩
      have hxn : x < n := by omega
      have hxr : x ∈ rows.getD i [] := (hmr hil).2 (by rw [← hx]; exact List.getElem_mem _)
      have bd : Below w.heap.size w w5.drew := hO5.1.drew
      have h5d := h.below bd
      have hBd : Blk w5.drew b 3 (dvL n fun j => (f5 j : Int)) := hO5.2.1.drew
      have get : ∀ {j : Nat}, j < n → ∀ {φ : Int → Prop}, φ (f5 j : Int) → ldI w5.drew ((Gk.blk b).add (Int.toNat (j : Int))) .i64 φ := fun {j} hj {φ} hφ => ⟨_, hBd.cell (n := j) (by simp [hj]), hφ⟩
      have bnd : ∀ {j : Nat}, j < n → (0 ≤ (j : Int) ∧ (j : Int) < (s.l : Int)) := fun {j} hj => ⟨by omega, by omega⟩
      have hfx := hO5.2.2 x
      have hdx := hdl x
      have ew : IntKind.i64.wrap ((f5 x : Int) + 1) = ((f5 x + 1 : Nat) : Int) := by rw [wrap64_succ (by omega)]
      refine JoinW.cut (fun (st : Bool × Unit) w' => ∃ f', Ok f' w' ∧ St st.1 f' f ∧ (∀ i', i' < i → ∀ k ∈ rows.getD i' [], f k + 1 ≤ f' i') ∧ ∀ q (hq : q < (ll[i]).length), q < m + 1 → ∀ k : Nat, (ll[i])[q] = (k : Int) → f k + 1 ≤ f' i) ?_ fun st w' hh => hnext3 _ _ hltm hh
      refine elemS h5d.top (k := i) hih (elemI (h5d.row i hih hil) hltm ?_)
      rw [hx]
      refine ⟨bnd hxn, get hxn ⟨bnd hlti, get hlti ?_⟩⟩
      rw [ew]
      refine ifB_dec (fun hgt => ⟨bnd hlti, ?_⟩) fun hle => ⟨f5, ⟨bd, hBd, hO5.2.2⟩, hS5, hc5, fun q hq hqm k hk => ?_⟩
      · have hgt : f5 i < f5 x + 1 := by omega
        obtain ⟨⟨_, q2⟩⟩ : Nonempty (Unit ×' True) := ⟨⟨(), trivial⟩⟩
        clear q2
        have inner : derefP s.a fun a19 => ldS w5.drew (a19.add (Int.toNat (i : Int))) fun x20 => (0 ≤ (m : Int) ∧ (m : Int) < (x20.l : Int)) ∧ derefP x20.a fun a21 => ldI w5.drew (a21.add (Int.toNat (m : Int))) .i64 fun x22 => (0 ≤ x22 ∧ x22 < (s.l : Int)) ∧ ldI w5.drew ((Gk.blk b).add (Int.toNat x22)) .i64 fun x23 => (0 ≤ (i : Int) ∧ (i : Int) < (s.l : Int)) ∧ Wr w5.drew ((Gk.blk b).add (Int.toNat (i : Int))) ∧ Nw (w5.drew.setCell ((Gk.blk b).add (Int.toNat (i : Int))) (.int .i64 (IntKind.i64.wrap (x23 + (1 : Int))))) fun w6 => (fun (st : Bool × Unit) w' => ∃ f', Ok f' w' ∧ St st.1 f' f ∧ (∀ i', i' < i → ∀ k ∈ rows.getD i' [], f k + 1 ≤ f' i') ∧ ∀ q (hq : q < (ll[i]).length), q < m + 1 → ∀ k : Nat, (ll[i])[q] = (k : Int) → f k + 1 ≤ f' i) (true, ()) w6 := by
          refine (elemS h5d.top (k := i) hih (elemI (h5d.row i hih hil) hltm ?_)).2
          rw [hx]
          refine ⟨bnd hxn, get hxn ⟨bnd hlti, hBd.wr (n := i) (by simp; exact hlti), Nw.mk ?_⟩⟩
          rw [ew]
          refine ⟨fun j => if j = i then f5 x + 1 else f5 j, ⟨bd.setCell (by rw [add_block]; show w.heap.size ≤ b; omega) _, ?_, fun j => ?_⟩, ⟨(fun q => by cases q), fun j => ?_⟩, fun i' hi' k hk => ?_, fun q hq hqm k hk => ?_⟩
          · have e : dvL n (fun j => ((if j = i then f5 x + 1 else f5 j : Nat) : Int)) = (dvL n fun j => (f5 j : Int)).set i (.int .i64 ((f5 x + 1 : Nat) : Int)) := by
              rw [dvL_set]
              refine List.map_congr_left fun j _ => ?_
              by_cases q : j = i
              · simp only [if_pos q]
              · simp only [if_neg q]
            rw [e]
            exact hBd.set i _
          · by_cases e : j = i
            · simp only [if_pos e]
              rw [e]
              have := dep_mem hN hxr
              omega
            · simp only [if_neg e]; exact hO5.2.2 j
          · have := hS5.2 j
            by_cases e : j = i
            · simp only [if_pos e]; subst e; omega
            · simp only [if_neg e]; exact this
          · simp only [if_neg (show ¬ i' = i by omega)]; exact hc5 i' hi' k hk
          · simp only [if_true]
            by_cases e : q = m
            · subst e
              have : k = x := by omega
              subst this
              have := hS5.2 k
              omega
            · have := hd5 q hq (by omega) k hk
              omega
        exact inner
      · by_cases e : q = m
        · subst e
          have : k = x := by omega
          subst this
          have := hS5.2 k
          omega
        · exact hd5 q hq (by omega) k hk
    · have hme : m = (ll[i]).length := by dsimp only at hgem; omega
      subst hme
      refine hnext2 _ _ hlti ⟨f5, hO5, hS5, fun i' hi' k hk => ?_⟩
      by_cases e : i' = i
      · subst e
        obtain ⟨p, hp, ep⟩ := List.getElem_of_mem ((hmr hil).1 hk)
        exact hd5 p hp hp k ep
      · exact hc5 i' (by omega) k hk
  · have hin : i = n := by dsimp only at hgei; omega
    subst hin
    refine hnext (i + 1 - (rd + 1)) _ _ (by omega) ⟨rd + 1, f4, by omega, rfl, by dsimp only; rw [wrap64_succ (by omega)], hO4, fun j hj hd => ?_, fun q => ?_⟩
    · -- one level more is right
      have h1 := hO4.2.2 j
      rcases dep_at hN j with e | ⟨k, hk, e⟩
      · omega
      · have hkn : k < i := by
          have hmem := (hmr (by omega : j < ll.length)).1 hk
          have := hG _ (List.getElem_mem _) _ hmem
          omega
        have h2 := hlow k hkn (by omega)
        have h3 := hc4 j hj k hk
        omega
    · have e := hS4.1 q
      rw [e] at hc4 ⊢
      intro j hj
      have h1 := hO.2.2 j
      have h2 := dep_ge hN (f := f) (rkC rows j) j (Nat.le_refl _) (fun a k hk => by
        have ha := mem_ltC hk
        exact hc4 a (by omega) k hk)
      omega
end

end Go.Proofs
