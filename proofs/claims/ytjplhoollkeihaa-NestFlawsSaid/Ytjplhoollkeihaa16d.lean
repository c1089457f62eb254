/-
  nest.of.
-/
import Derived.Test.Ytjplhoollkeihaa16c
namespace Go.Proofs
open Go.Gk Go.RowKit Go.Gr Go.Dm

/-- The nodes that a merge adds to Next. -/
def extL (x : Mg) : List Nat := if x.1 = 0 then [] else if x.1 = 2 then [x.2.1.toNat, x.2.2.toNat] else [x.2.1.toNat]
def wrow (nx : List (List Nat)) (ml : List Mg) (i : Nat) : List Nat := nx.getD i [] ++ extL (ml.getD i (0, 0, 0))
def wideL (nx : List (List Nat)) (ml : List Mg) : List (List Nat) := (List.range nx.length).map (wrow nx ml)
def wideX (nx : List (List Nat)) (ml : List Mg) : List (List Nat) := (wideL nx ml).map dedup
abbrev wideI (nx : List (List Nat)) (ml : List Mg) : List (List Int) := (wideL nx ml).map fun l => l.map fun (x : Nat) => (x : Int)
theorem edges_wide (nx : List (List Nat)) (ml : List Mg) : edges (wideI nx ml) = wideX nx ml := by
  have e : (fun l : List Int => l.map Int.toNat) ∘ (fun l : List Nat => l.map fun (x : Nat) => (x : Int)) = id := by
    funext l
    simp only [Function.comp_apply, List.map_map, id_eq]
    have : Int.toNat ∘ (fun (x : Nat) => (x : Int)) = id := by funext x; rfl
    rw [this, List.map_id]
  unfold edges natRows wideI wideX
  rw [List.map_map (l := wideL nx ml), e, List.map_id]
theorem extL_lt {n : Nat} {x : Mg} (h : FitP n x) : ∀ t ∈ extL x, t < n := by
  intro t ht
  unfold extL at ht
  by_cases h0 : x.1 = 0
  · rw [if_pos h0] at ht; cases ht
  · rw [if_neg h0] at ht
    have h1 := h.2.1 h0
    by_cases h2 : x.1 = 2
    · rw [if_pos h2] at ht
      have h3 := h.2.2 h2
      simp only [List.mem_cons, List.not_mem_nil, or_false] at ht
      rcases ht with rfl | rfl <;> omega
    · rw [if_neg h2] at ht
      simp only [List.mem_cons, List.not_mem_nil, or_false] at ht
      omega
theorem extL_len (x : Mg) : (extL x).length ≤ 2 := by
  unfold extL
  split
  · simp
  · split <;> simp
theorem getD_fit {n : Nat} {ml : List Mg} (h : Fit n ml) {i : Nat} (hi : i < n) : FitP n (ml.getD i (0, 0, 0)) := by
  have hl : i < ml.length := by rw [h.1]; exact hi
  have : ml.getD i (0, 0, 0) = ml[i] := by simp [List.getD, hl]
  rw [this]
  exact h.2 _ (List.getElem_mem hl)
theorem wrow_lt {nx : List (List Nat)} {ml : List Mg} (hx : NxOk nx) (h : Fit nx.length ml) {i : Nat} (hi : i < nx.length) : ∀ t ∈ wrow nx ml i, t < nx.length := by
  intro t ht
  rcases List.mem_append.1 ht with ht | ht
  · exact hx.rows i t ht
  · exact extL_lt (getD_fit h hi) t ht
theorem wideI_good {nx : List (List Nat)} {ml : List Mg} (hx : NxOk nx) (h : Fit nx.length ml) : Good (wideI nx ml) := by
  intro l hl x hxl
  obtain ⟨l', hl', rfl⟩ := List.mem_map.1 hl
  obtain ⟨t, ht, rfl⟩ := List.mem_map.1 hxl
  obtain ⟨i, hi, rfl⟩ := List.mem_map.1 hl'
  have := wrow_lt hx h (List.mem_range.1 hi) t ht
  have e : (wideI nx ml).length = nx.length := by simp [wideI, wideL]
  rw [e]
  omega

theorem append_ints {w : World} {s : Sl} {xs : List Nat} {B0 : Nat} (h : Own w 3 1 s (xs.map iN)) (hf : Fresh B0 s) (hB : B0 ≤ w.heap.size) {b c m : Nat} {T : TypeId} {ys : List Nat} (hBy : Blk w b T (ys.map iN)) (hm : m = ys.length) (hlen : xs.length + ys.length ≤ 1099511627776)
    {k : Sl → World → Prop} (hk : ∀ r w', Below B0 w w' → Own w' 3 1 r ((xs ++ ys).map iN) → Fresh B0 r → k r w') :
    appendS Try.prog 32 (.slice s.a s.l s.c) (.slice (some (Gk.blk b)) m c) w k := by
  subst hm
  have hsl := own_len h
  refine append_own eInt h (m := ys.length) (news := ys.map iN) (by simp) (fun j u hj => hBy.cell hj) (fun u hu => ?_) (by omega) (by omega) fun r w' h1 _ h3 => ?_
  · obtain ⟨x, _, rfl⟩ := List.mem_map.1 hu; rfl
  · rw [← List.map_append] at h1
    rcases h3 with ⟨h4, h5, h6⟩ | ⟨b', h4, h5, h6⟩
    · subst h5
      exact hk _ _ (Below.refl _ _) h1 (fun a ha => by rw [h4] at ha; cases ha)
    · have hb : B0 ≤ b' := by
        rcases h5 with h5 | h5
        · have := hf _ h5; exact this
        · omega
      exact hk _ _ (below_grown h6 hb hB) h1 (fun a ha => by rw [h4] at ha; cases ha; exact hb)

/-- A nested in memory. -/
structure Ne (w : World) (nb gb : Nat) (g : Nst) : Prop where
  ex : ∃ hsl hh wb tb ms, Ne0 w nb gb hsl g wb tb ms ∧ IsNN w hsl hh ((List.range g.nx.length).map g.hd)
theorem Ne.below {w w' : World} {nb gb : Nat} {g : Nst} (h : Ne w nb gb g) (hb : Below w.heap.size w w') : Ne w' nb gb g :=
  let ⟨hsl, hh, wb, tb, ms, h1, h2⟩ := h.ex; ⟨hsl, hh, wb, tb, ms, h1.below hb, h2.below hb⟩

/-- The rows of Next and what merges add, under way; below T they lie. -/
structure WS (w : World) (bh n : Nat) (row : Nat → List Nat) (T k : Nat) (w' : World) : Prop where
  b : Below w.heap.size w w'
  wT : w.heap.size ≤ T
  bT : bh < T
  size : T ≤ w'.heap.size
  rows : ∃ hs : List Sl, hs.length = n ∧ Blk w' bh 32 (hs.map Sl.val) ∧ ∀ (i : Nat) (h : i < hs.length), i < k → Own w' 3 1 hs[i] ((row i).map iN) ∧ ∀ a, hs[i].a = some a → a.block < T
theorem WS.grow {w w' w'' : World} {bh n : Nat} {row : Nat → List Nat} {T k : Nat} (h : WS w bh n row T k w') (hb : Below T w' w'') : WS w bh n row T k w'' := by
  obtain ⟨hs, h1, h2, h3⟩ := h.rows
  have := h.bT
  have hz := hb.size
  have hz' := h.size
  exact ⟨h.b.trans (hb.mono h.wT), h.wT, h.bT, by omega, hs, h1, h2.of_block (hb.block _ (by omega)), fun i hi hk => ⟨(h3 i hi hk).1.of_block fun a ha => hb.block _ ((h3 i hi hk).2 a ha), (h3 i hi hk).2⟩⟩
theorem WS.up {w w' : World} {bh n : Nat} {row : Nat → List Nat} {T k : Nat} (h : WS w bh n row T k w') : WS w bh n row w'.heap.size k w' := by
  obtain ⟨hs, h1, h2, h3⟩ := h.rows
  have := h.bT
  have hz' := h.size
  exact ⟨h.b, by have := h.wT; omega, by omega, Nat.le_refl _, hs, h1, h2, fun i hi hk => ⟨(h3 i hi hk).1, fun a ha => ((h3 i hi hk).1.lt ha).2⟩⟩
/-- A header is put. -/
theorem WS.put {w w' w'' : World} {bh n : Nat} {row : Nat → List Nat} {T k : Nat} {r : Sl} {l : List Nat} (h : WS w bh n row T k w') (hbh : w.heap.size ≤ bh) (hw : w'' = w'.setCell ((Gk.blk bh).add k) (.slice r.a r.l r.c)) (hjn : k < n) (ho : Own w' 3 1 r (l.map iN)) :
    WS w bh n row T k w'' ∧ w''.cell? ((Gk.blk bh).add k) = some (.slice r.a r.l r.c) ∧ Own w'' 3 1 r (l.map iN) ∧ (l = row k → WS w bh n row w''.heap.size (k + 1) w'') := by
  subst hw
  obtain ⟨hs, h1, h2, h3⟩ := h.rows
  have keep : ∀ {r' : Sl} {xs : List Value}, Own w' 3 1 r' xs → Own (w'.setCell ((Gk.blk bh).add k) (.slice r.a r.l r.c)) 3 1 r' xs := fun {r' xs} ho' => ho'.of_block fun a ha => heap_set_other (own_ne ho' h2 (by decide) ha) _ _
  have e : Blk (w'.setCell ((Gk.blk bh).add k) (.slice r.a r.l r.c)) bh 32 ((hs.set k r).map Sl.val) := by rw [List.map_set]; exact h2.set k _
  have hb' : Below w.heap.size w (w'.setCell ((Gk.blk bh).add k) (.slice r.a r.l r.c)) := h.b.setCell (by rw [add_block]; exact hbh) _
  have hz : (w'.setCell ((Gk.blk bh).add k) (.slice r.a r.l r.c)).heap.size = w'.heap.size := by simp [World.setCell]
  have hT := h.wT
  have hbT := h.bT
  have hs' := h.size
  refine ⟨⟨hb', hT, hbT, by omega, hs.set k r, by rw [List.length_set]; exact h1, e, fun i hi hk => ?_⟩, ?_, keep ho, fun hl => ⟨hb', by omega, by omega, Nat.le_refl _, hs.set k r, by rw [List.length_set]; exact h1, e, fun i hi hk => ?_⟩⟩
  · simp only [List.getElem_set_ne (show k ≠ i by omega)]
    have := h3 i (by simpa using hi) hk
    exact ⟨keep this.1, this.2⟩
  · exact e.cell (n := k) (by rw [List.getElem?_map, List.getElem?_set_self (by omega)]; rfl)
  · by_cases hik : i = k
    · subst hik
      simp only [List.getElem_set_self]
      rw [← hl]
      exact ⟨keep ho, fun a ha => by rw [hz]; exact (ho.lt ha).2⟩
    · simp only [List.getElem_set_ne (show k ≠ i by omega)]
      have := h3 i (by simpa using hi) (by omega)
      exact ⟨keep this.1, fun a ha => by have := this.2 a ha; omega⟩
theorem WS.wr {w w' : World} {bh n : Nat} {row : Nat → List Nat} {T k : Nat} (h : WS w bh n row T k w') {j : Nat} (hj : j < n) : Wr w' ((Gk.blk bh).add j) := by
  obtain ⟨hs, h1, h2, h3⟩ := h.rows
  exact h2.wr (by rw [List.length_map]; omega)

set_option maxRecDepth 20000 in
set_option maxHeartbeats 8000000 in
theorem of_spec {p : Option Addr} {gb : Nat} {nx : List (List Nat)} {s : Sl} {ml : List Mg} {w : World} {R : Value → World → Prop}
    (hp : p = none → R (.tuple #[.pointer none, .int .i64 1]) w) (hpg : ∀ a, p = some a → a = Gk.blk gb ∧ NxOk nx ∧ IsG w gb nx) (hM : IsM w s ml)
    (hbad : p ≠ none → ¬ Fit nx.length ml → ∀ w', Below w.heap.size w w' → R (.tuple #[.pointer none, .int .i64 2]) w')
    (hok : p ≠ none → Fit nx.length ml → ∀ w' nb g, Below w.heap.size w w' → Ne w' nb gb g → g.nx = nx → g.ml = ml → g.wx = wideX nx ml → R (.tuple #[.pointer (some (Gk.blk nb)), .int .i64 0]) w') :
    callR Try.prog 120 #[.pointer p, .slice s.a s.l s.c] w R := by
  refine callR.of (nest_of_calls p s R w ?_) fun _ _ h => h
  cases p with
  | none => exact ifB_true rfl (hp rfl)
  | some a =>
  obtain ⟨rfl, hx, hG⟩ := hpg a rfl
  have hmx := hx.max
  refine ifB_false rfl ?_
  refine fit_spec hG hmx hM fun b w1 b1 hb => ⟨b, rfl, ifB_not (ifB_bool (fun e => ?_) (fun e => hbad (by simp) (fun hf => by rw [hb.2 hf] at e; cases e) w1 b1))⟩
  have hf := hb.1 e
  clear hb e b hbad
  have hok := hok (by simp) hf
  have hl := hM.len
  have hml := hf.1
  refine gLen_spec (hG.below b1) ⟨_, rfl, makeOk (.inl rfl) hmx, Nw.gen fun w3 hw3 => ?_⟩
  rw [show Int.toNat (nx.length : Int) = nx.length from rfl] at hw3 ⊢
  obtain ⟨bh, hbh⟩ : ∃ bh, bh = w1.heap.size := ⟨_, rfl⟩
  have z1 := b1.size
  have hs3 : WS w bh nx.length (wrow nx ml) w3.heap.size 0 w3 := by
    have hB : Blk w3 bh 32 (List.replicate nx.length (.slice none 0 0)) := by rw [hw3, hbh]; exact Blk.made w1 _ _ nx.length
    have hz : w3.heap.size = w1.heap.size + 1 := by rw [hw3]; simp
    refine ⟨by rw [hw3]; exact b1.alloc z1 _, by omega, by omega, Nat.le_refl _, List.replicate nx.length ⟨none, 0, 0⟩, by simp, by simpa [Sl.val] using hB, fun i hi hk => by omega⟩
  rw [← hbh]
  clear hw3
  have bnd : ∀ {k : Nat}, k < nx.length → (0 ≤ (k : Int) ∧ (k : Int) < ((Int.toNat (nx.length : Int) : Nat) : Int)) := fun {k} hk => ⟨by omega, by omega⟩
  refine LoopW.count nx.length (by omega) (fun k w' => WS w bh nx.length (wrow nx ml) w'.heap.size k w') hs3 ?_
  rintro k w4 hk hS next hnext
  refine ifB_dec (fun hlt => ?_) (fun hge => ?_)
  · have hlt : k < nx.length := by dsimp only at hlt; omega
    have hkm : k < ml.length := by omega
    refine JoinW.cut (fun _ w' => WS w bh nx.length (wrow nx ml) w'.heap.size (k + 1) w') ?_ (fun _ w' h => ?_)
    · refine elemM (IsC.mbelow hM hS.b) hkm (mcopy fun w8 hB8 b8 z8 => ?_)
      have hS8 := hS.grow b8
      have hfk : FitP nx.length ml[k] := hf.2 _ (List.getElem_mem hkm)
      have hwr : wrow nx ml k = nx.getD k [] ++ extL ml[k] := by unfold wrow; congr 2; simp [List.getD, hkm]
      refine Next_spec hx (hG.below hS8.b) fun r w9 o9 f9 b9 => ⟨r, rfl, bnd hlt, ?_⟩
      rw [rowAt_nat] at o9
      have hS9 := hS8.grow (b9.mono (by omega))
      have hrl := hx.row_le k
      have hel := extL_len ml[k]
      have hbT := hS.bT
      rw [show Int.toNat (k : Int) = k from rfl]
      refine ⟨hS9.wr hlt, Nw.gen fun w10 hw10 => ?_⟩
      obtain ⟨hS10, hc10, ho10, hn10⟩ := hS9.put (by omega) hw10 hlt o9
      have hB10 : Blk w10 w4.heap.size 82 [.int .u8 ml[k].1, .int .i64 ml[k].2.1, .int .i64 ml[k].2.2] := by
        rw [hw10]; exact (hB8.below b9).other (by rw [add_block]; show w4.heap.size ≠ bh; omega) _
      have z9 := b9.size
      have z10 : w10.heap.size = w9.heap.size := by rw [hw10]; simp [World.setCell]
      clear hw10 hS9
      -- what is added, and put
      have add : ∀ (w11 : World) (m c : Nat) (K : Unit → World → Prop), (∀ u w', WS w bh nx.length (wrow nx ml) w'.heap.size (k + 1) w' → K u w') → Below w10.heap.size w10 w11 → Blk w11 w10.heap.size 3 ((extL ml[k]).map iN) → m = (extL ml[k]).length →
          w11.cell? ((Gk.blk bh).add k) = some (.slice r.a r.l r.c) ∧
          appendS Try.prog 32 (.slice r.a r.l r.c) (.slice (some (Gk.blk w10.heap.size)) m c) w11 fun r22 w15 =>
            (0 ≤ (k : Int) ∧ (k : Int) < ((Int.toNat (nx.length : Int) : Nat) : Int)) ∧
            Wr w15 ((Gk.blk bh).add k) ∧
            Nw (w15.setCell ((Gk.blk bh).add k) (.slice r22.a r22.l r22.c)) fun w16 => K () w16 := fun w11 m c K hK b11 hA hm => by
        have hS11 := hS10.grow (b11.mono (by omega))
        have hc11 : w11.cell? ((Gk.blk bh).add k) = some (.slice r.a r.l r.c) := by
          rw [World.cell?_of_block (w := w10) (by rw [add_block]; exact b11.block _ (show bh < w10.heap.size by omega))]
          exact hc10
        have z11 := b11.size
        refine ⟨hc11, append_ints (B0 := w8.heap.size) (ho10.below b11) f9 (by omega) hA hm (by omega) fun r12 w12 b12 o12 f12 => ?_⟩
        have hS12 := hS11.grow (b12.mono (by omega))
        refine ⟨bnd hlt, hS12.wr hlt, Nw.gen fun w13 hw13 => ?_⟩
        obtain ⟨_, _, _, hn13⟩ := hS12.put (by omega) hw13 hlt o12
        exact hK () _ (hn13 hwr.symm)
      refine ⟨_, hB10.cell0 rfl, ifB_beq (fun h0 => ?_) (fun h0 => ifB_beq (fun h2 => ?_) (fun h2 => ?_))⟩
      · exact hn10 (by rw [hwr]; unfold extL; rw [if_pos h0, List.append_nil])
      · -- a loop's head
        refine ⟨bnd hlt, r, hc10, _, hB10.cell (n := 1) rfl, _, hB10.cell (n := 2) rfl, Nw.gen fun w11 hw11 => ?_⟩
        have h1 := hfk.2.1 h0
        have h3 := hfk.2.2 h2
        refine add w11 2 2 (fun _ w' => WS w bh nx.length (wrow nx ml) w'.heap.size (k + 1) w') (fun _ _ h => h) (by rw [hw11]; exact (Below.refl _ _).drew.alloc (Nat.le_refl _) _) ?_ (by unfold extL; rw [if_neg h0, if_pos h2]; rfl)
        have := Blk.new w10.drew 3 #[(.int .i64 ml[k].2.1), (.int .i64 ml[k].2.2)]
        rw [hw11]
        unfold extL
        rw [if_neg h0, if_pos h2]
        simp only [List.map_cons, List.map_nil, iN, Int.toNat_of_nonneg h1.1, Int.toNat_of_nonneg h3.1]
        exact this
      · refine ⟨bnd hlt, r, hc10, _, hB10.cell (n := 1) rfl, Nw.gen fun w11 hw11 => ?_⟩
        have h1 := hfk.2.1 h0
        refine add w11 1 1 (fun _ w' => WS w bh nx.length (wrow nx ml) w'.heap.size (k + 1) w') (fun _ _ h => h) (by rw [hw11]; exact (Below.refl _ _).drew.alloc (Nat.le_refl _) _) ?_ (by unfold extL; rw [if_neg h0, if_neg h2]; rfl)
        have := Blk.new w10.drew 3 #[(.int .i64 ml[k].2.1)]
        rw [hw11]
        unfold extL
        rw [if_neg h0, if_neg h2]
        simp only [List.map_cons, List.map_nil, iN, Int.toNat_of_nonneg h1.1]
        exact this
    · exact hnext _ hlt h
  · have hkn : k = nx.length := by dsimp only at hge; omega
    subst hkn
    refine CloneM_spec (IsC.mbelow hM hS.b) (by omega) fun ms w18 m18 _ b18 _ => ⟨ms, rfl, ?_⟩
    have hS18 := hS.grow b18
    refine gLen_spec (hG.below hS18.b) ⟨_, rfl, makeOk (.inl rfl) hmx, Nw.gen fun w20 hw20 => ?_⟩
    rw [show Int.toNat (nx.length : Int) = nx.length from rfl] at hw20 ⊢
    obtain ⟨b2, hb2⟩ : ∃ b2, b2 = w18.heap.size := ⟨_, rfl⟩
    have hH20 : Blk w20 b2 32 ((List.replicate nx.length (⟨none, 0, 0⟩ : Sl)).map Sl.val) := by
      have := Blk.made w18 32 (.slice none 0 0) nx.length
      rw [← hw20, ← hb2] at this
      simpa [Sl.val] using this
    have b20 : Below w18.heap.size w18 w20 := by rw [hw20]; exact (Below.refl _ _).alloc (Nat.le_refl _) _
    have z20 : w20.heap.size = w18.heap.size + 1 := by rw [hw20]; simp
    rw [← hb2]
    clear hw20
    refine Nw.gen fun w21 hw21 => ?_
    obtain ⟨nb, hnb⟩ : ∃ nb, nb = w20.heap.size := ⟨_, rfl⟩
    have hN21 : Blk w21 nb 148 [.pointer (some (Gk.blk gb)), ms.val, .pointer none, .pointer none, .slice (some (Gk.blk b2)) nx.length nx.length] := by rw [hw21, hnb]; exact Blk.new w20 _ #[_, _, _, _, _]
    have b21 : Below w20.heap.size w20 w21 := by rw [hw21]; exact (Below.refl _ _).alloc (Nat.le_refl _) _
    have z21 : w21.heap.size = w20.heap.size + 1 := by rw [hw21]; simp
    rw [← hnb]
    clear hw21
    have hS21 := (hS18.grow (b20.mono hS18.size)).grow (b21.mono (by have := hS18.size; omega))
    have hII : IsII w21 ⟨some (Gk.blk bh), nx.length, nx.length⟩ (hS21.rows.choose) (wideI nx ml) := by
      obtain ⟨h1, h2, h3⟩ := hS21.rows.choose_spec
      refine ⟨Blk.isS (f := Sl.val) h2 rfl h1.symm (Nat.le_refl _) (by show nx.length ≤ _; omega), by rw [h1]; simp [wideI, wideL], fun i hi hi' => ?_⟩
      have := IsS.toI (Own.isS (h3 i hi (by omega)).1)
      have e : (wideI nx ml)[i] = (wrow nx ml i).map fun (x : Nat) => (x : Int) := by simp [wideI, wideL]
      rw [e]
      exact this
    have hlw : (wideI nx ml).length = nx.length := by simp [wideI, wideL]
    have hpos := hx.pos
    refine graph_Of_spec (s := ⟨some (Gk.blk bh), nx.length, nx.length⟩) hII (fun h0 => absurd (hlw ▸ h0) (by omega)) (fun h0 => absurd (hlw ▸ h0) (by omega)) (fun _ _ hn => absurd (wideI_good hx hf) hn) fun _ _ hgd w22 wb b22 gB22 g22 => ⟨_, _, rfl, ?_⟩
    have hxw : NxOk (edges (wideI nx ml)) := edges_ok (by omega) (by omega) hgd
    have hN22 := hN21.below b22
    have z22 := b22.size
    refine ⟨hN22.wr (n := 2) (by simp), Nw.gen fun w23 hw23 => ?_⟩
    have hN23 : Blk w23 nb 148 [.pointer (some (Gk.blk gb)), ms.val, .pointer (some (Gk.blk wb)), .pointer none, .slice (some (Gk.blk b2)) nx.length nx.length] := by rw [hw23]; exact hN22.set 2 _
    have ne23 : ∀ k, k ≠ nb → w23.heap[k]? = w22.heap[k]? := fun k hk => by rw [hw23]; exact heap_set_other hk _ _
    have z23 : w23.heap.size = w22.heap.size := by rw [hw23]; simp [World.setCell]
    have f23 : Fr w21.heap.size (· = nb) w22 w23 := by rw [hw23]; exact (Fr.refl _ _ _).set (.inr (by rw [add_block])) _
    clear hw23
    have gB23 : IsGB w23 w21.heap.size wb (edges (wideI nx ml)) := gB22.keep fun k h1 h2 => ne23 k (by omega)
    refine ⟨_, hN23.cell (n := 2) rfl, New_specG hxw gB23.isG fun w24 tb ov dp b24 hT hSt hDp => ⟨_, _, rfl, ?_⟩⟩
    obtain ⟨ob, db, rb, hT⟩ := hT
    have hN24 := hN23.below b24
    have z24 := b24.size
    refine ⟨hN24.wr (n := 3) (by simp), Nw.gen fun w25 hw25 => ?_⟩
    have hN25 : Blk w25 nb 148 [.pointer (some (Gk.blk gb)), ms.val, .pointer (some (Gk.blk wb)), .pointer (some (Gk.blk tb)), .slice (some (Gk.blk b2)) nx.length nx.length] := by rw [hw25]; exact hN24.set 3 _
    have ne25 : ∀ k, k ≠ nb → w25.heap[k]? = w24.heap[k]? := fun k hk => by rw [hw25]; exact heap_set_other hk _ _
    have z25 : w25.heap.size = w24.heap.size := by rw [hw25]; simp [World.setCell]
    have f25 : Fr w21.heap.size (· = nb) w24 w25 := by rw [hw25]; exact (Fr.refl _ _ _).set (.inr (by rw [add_block])) _
    clear hw25
    have hH24 : Blk w24 b2 32 ((List.replicate nx.length (⟨none, 0, 0⟩ : Sl)).map Sl.val) := (((hH20.below b21).below b22).of_block (ne23 _ (by omega))).below b24
    have hH25 := hH24.of_block (ne25 b2 (by omega))
    refine ⟨⟨some (Gk.blk b2), nx.length, nx.length⟩, hN25.cell (n := 4) rfl, ?_⟩
    -- from before the nested was laid
    have f20 : Fr w20.heap.size (fun _ => False) w20 w25 :=
      (((Fr.of_below (X := fun _ => False) b21).trans (Fr.of_below (b22.mono (by omega)))).trans (f23.mono (by omega) fun k h1 h2 => by omega)).trans ((Fr.of_below (b24.mono (by omega))).trans (f25.mono (by omega) fun k h1 h2 => by omega))
    have hS18z := hS18.size
    have hbT18 := hS18.bT
    obtain ⟨g, hg⟩ : ∃ g : Nst, g = ⟨nx, ml, edges (wideI nx ml), ov, dp⟩ := ⟨_, rfl⟩
    have gnx : g.nx = nx := by rw [hg]
    have gml : g.ml = ml := by rw [hg]
    have gwx : g.wx = edges (wideI nx ml) := by rw [hg]
    have gov : g.ov = ov := by rw [hg]
    have gdp : g.dp = dp := by rw [hg]
    have keep : ∀ w', Fr w25.heap.size (· = b2) w25 w' → Ne0 w' nb gb ⟨some (Gk.blk b2), nx.length, nx.length⟩ g wb tb ms := fun w' hfr => by
      have b18' : Below w18.heap.size w18 w' := (b20.trans (f20.mono (B' := w18.heap.size) (by omega) (X' := fun _ => False) fun k _ h => h).below).trans (hfr.mono (B' := w18.heap.size) (X' := fun _ => False) (by omega) fun k h1 h2 => by omega).below
      have b24' : ∀ k, k < w24.heap.size → k ≠ nb → k ≠ b2 → w'.heap[k]? = w24.heap[k]? := fun k h1 h2 h3 => (hfr.block k (by omega) h3).trans (ne25 k h2)
      have gB' : IsGB w' w21.heap.size wb (edges (wideI nx ml)) := gB23.keep fun k h1 h2 => (b24' k (by omega) (by omega) (by omega)).trans (b24.block k h2)
      have blk' : ∀ {b : Nat} {T : TypeId} {cs : List Value}, Blk w24 b T cs → T ≠ 148 → T ≠ 32 → Blk w' b T cs := fun {b T cs} hB h1 h2 => hB.of_block (b24' b hB.lt (hB.apart hN24 h1) (hB.apart hH24 h2))
      refine ⟨gnx ▸ hx, by rw [gnx, gml]; exact hf, by rw [gwx, gnx, edges_length, hlw], hN25.of_block (hfr.block nb (by omega) (by omega)), gnx ▸ (hG.below hS18.b).below b18', gml ▸ IsC.mbelow m18 b18', gwx ▸ gB'.isG, ?_⟩
      rw [gwx, gov, gdp]
      exact ⟨hxw, ⟨wb, ob, db, rb, ⟨blk' hT.t (by decide) (by decide), blk' hT.o (by decide) (by decide), blk' hT.d (by decide) (by decide), blk' hT.r (by decide) (by decide), hT.ne⟩, gB'.isG⟩, hSt, hDp⟩
    have end' : ∀ w', Fr w25.heap.size (· = b2) w25 w' → (∃ hh : List Sl, hh.length = nx.length ∧ Blk w' b2 32 (hh.map Sl.val) ∧ ∀ (i : Nat) (h : i < hh.length), i < nx.length → Own w' 3 1 hh[i] ((g.hd i).map iN)) → R (.tuple #[.pointer (some (Gk.blk nb)), .int .i64 0]) w' := fun w' hfr ⟨hh, k1, k2, k3⟩ => by
      refine hok w' nb g ?_ ⟨⟨_, hh, wb, tb, ms, keep w' hfr, ⟨Blk.isS (f := Sl.val) k2 rfl k1.symm (Nat.le_refl _) (by show nx.length ≤ _; omega), by rw [k1]; simp [gnx], fun i hi hi' => ?_⟩⟩⟩ gnx gml (by rw [gwx, edges_wide])
      · exact (hS18.b.trans ((b20.mono (by omega)).trans (f20.mono (B' := w.heap.size) (by omega) (X' := fun _ => False) fun k _ h => h).below)).trans (hfr.mono (B' := w.heap.size) (X' := fun _ => False) (by omega) fun k h1 h2 => by omega).below
      · have := k3 i hi (by omega)
        simp only [List.getElem_map, List.getElem_range]
        exact this.isS
    refine LoopW.count nx.length (by omega) (fun k w' => Fr w25.heap.size (· = b2) w25 w' ∧ ∃ hh : List Sl, hh.length = nx.length ∧ Blk w' b2 32 (hh.map Sl.val) ∧ ∀ (i : Nat) (h : i < hh.length), i < k → Own w' 3 1 hh[i] ((g.hd i).map iN)) ⟨Fr.refl _ _ _, _, by simp, hH25, fun i hi hk => by omega⟩ ?_
    rintro k w26 hk ⟨hfr, hh, k1, k2, k3⟩ next hnext
    refine ifB_dec (fun hlt => ?_) (fun hge => end' w26 hfr ⟨hh, k1, k2, fun i hi hin => k3 i hi (by dsimp only at hge; omega)⟩)
    have hlt : k < nx.length := by dsimp only at hlt; omega
    have e26 := (keep w26 hfr).below (Below.refl _ _).drew
    refine ⟨_, e26.b.cell (n := 4) rfl, around_spec e26 fun r w27 b27 o27 f27 => ⟨r, rfl, ?_⟩⟩
    have e27 := e26.below b27
    have b27' : Below w26.heap.size w26 w27 := (Below.refl _ _).drew.trans b27
    have k2' := k2.below b27'
    refine ⟨e27.b.cell (n := 4) rfl, ⟨by omega, by show (k : Int) < (nx.length : Int); omega⟩, derefP_some rfl ⟨k2'.wr (n := k) (by rw [List.length_map]; omega), Nw.gen fun w28 hw28 => hnext w28 hlt ⟨?_, hh.set k r, by rw [List.length_set]; exact k1, ?_, fun i hi hik => ?_⟩⟩⟩
    · rw [hw28]
      exact (hfr.trans (Fr.of_below (b27'.mono hfr.size))).set (.inr (by rw [add_block])) _
    · rw [hw28, List.map_set]
      exact k2'.set k _
    · have keepO : ∀ {r' : Sl} {xs : List Value}, Own w27 3 1 r' xs → Own w28 3 1 r' xs := fun {r' xs} ho' => ho'.of_block fun a ha => by rw [hw28]; exact heap_set_other (own_ne ho' k2' (by decide) ha) _ _
      by_cases e : i = k
      · subst e
        simp only [List.getElem_set_self]
        exact keepO o27
      · simp only [List.getElem_set_ne (show k ≠ i by omega)]
        exact keepO ((k3 i (by simpa using hi) (by omega)).below b27')

end Go.Proofs
