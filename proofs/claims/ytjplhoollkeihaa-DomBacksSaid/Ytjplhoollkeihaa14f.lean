/-
  Rows that grow beside each other; contract of graph.Of.
-/
import Derived.Test.Ytjplhoollkeihaa14e
namespace Go.Proofs
open Go.Gk Go.RowKit Go.Gr

/-- Block bh holds the headers hs of rows that the code itself grows; ow tells which block is whose. -/
structure Fam (B : Nat) (w : World) (bh : Nat) (hs : List Sl) (ll : List (List Nat)) (ow : Nat → Nat) (off : Nat) : Prop where
  head : Blk w bh 32 (hs.map Sl.val)
  len : hs.length = ll.length
  row : ∀ (i : Nat) (h : i < hs.length), Own w 3 1 hs[i] ((ll.getD i []).map iN)
  own : ∀ (i : Nat) (h : i < hs.length) a, hs[i].a = some a → ow a.block = off + i ∧ B ≤ a.block

def upd (ow : Nat → Nat) (b v : Nat) : Nat → Nat := fun k => if k = b then v else ow k

theorem Fam.ne {B : Nat} {w : World} {bh : Nat} {hs : List Sl} {ll : List (List Nat)} {ow : Nat → Nat} {off : Nat} (h : Fam B w bh hs ll ow off) {i : Nat} (hi : i < hs.length) {a : Addr} (ha : hs[i].a = some a) : a.block ≠ bh :=
  own_ne (h.row i hi) h.head (by decide) ha
/-- The other family, while a block that is none of its own is written or made. -/
theorem Fam.other {B : Nat} {w w' : World} {bh : Nat} {hs : List Sl} {ll : List (List Nat)} {ow : Nat → Nat} {off b v : Nat} (h : Fam B w bh hs ll ow off) (hg : w.grownBy w' (some b)) (hb : b ≠ bh)
    (hn : (∃ v', ow b = v' ∧ ∀ i, i < hs.length → v' ≠ off + i) ∨ b = w.heap.size) : Fam B w' bh hs ll (upd ow b v) off := by
  have hrow : ∀ (i : Nat) (hi : i < hs.length) a, hs[i].a = some a → a.block ≠ b := fun i hi a ha e => by
    rcases hn with ⟨v', h1, h2⟩ | h1
    · exact h2 i hi (by rw [← h1, ← e]; exact (h.own i hi a ha).1)
    · have := ((h.row i hi).lt ha).2; omega
  refine ⟨h.head.of_block (hg.block bh h.head.lt (fun e => hb (Option.some.inj e).symm)), h.len, fun i hi => (h.row i hi).of_block fun a ha => hg.block _ ((h.row i hi).lt ha).2 (fun e => hrow i hi a ha (Option.some.inj e)), fun i hi a ha => ?_⟩
  refine ⟨?_, (h.own i hi a ha).2⟩
  unfold upd
  rw [if_neg (hrow i hi a ha)]
  exact (h.own i hi a ha).1
/-- A store elsewhere. -/
theorem Fam.set_other {B : Nat} {w : World} {bh : Nat} {hs : List Sl} {ll : List (List Nat)} {ow : Nat → Nat} {off : Nat} (h : Fam B w bh hs ll ow off) {b : Nat} {T : TypeId} {cs : List Value} (hB : Blk w b T cs) (hb : b ≠ bh) (hT : T ≠ 3) (n : Nat) (v : Value) :
    Fam B (w.setCell ((blk b).add n) v) bh hs ll ow off := by
  refine ⟨h.head.other (by rw [add_block]; exact Ne.symm hb) v, h.len, fun i hi => (h.row i hi).of_block fun a ha => Below.heap_setCell _ _ _ _ (by rw [add_block]; exact own_ne (h.row i hi) hB hT ha), h.own⟩
theorem Fam.grown {B : Nat} {w w' : World} {bh : Nat} {hs : List Sl} {ll : List (List Nat)} {ow : Nat → Nat} {off : Nat} (h : Fam B w bh hs ll ow off) (hb : Below w.heap.size w w') : Fam B w' bh hs ll ow off :=
  ⟨h.head.below hb, h.len, fun i hi => (h.row i hi).below hb, h.own⟩
/-- The row i has grown by x, and its header is stored. -/
theorem Fam.push {B : Nat} {w w' : World} {bh : Nat} {hs : List Sl} {ll : List (List Nat)} {ow : Nat → Nat} {off : Nat} (h : Fam B w bh hs ll ow off) {i : Nat} (hi : i < hs.length) {r : Sl} {x b : Nat}
    (hr : Own w' 3 1 r ((ll.getD i []).map iN ++ [iN x])) (hrb : r.a = some (blk b)) (hbo : hs[i].a = some (blk b) ∨ b = w.heap.size) (hB : B ≤ b) (hg : w.grownBy w' (some b)) :
    Blk w' bh 32 (hs.map Sl.val) ∧ Fam B (w'.setCell ((blk bh).add i) r.val) bh (hs.set i r) (ll.set i (ll.getD i [] ++ [x])) (upd ow b (off + i)) off := by
  have hbne : b ≠ bh := by
    rcases hbo with hb | hb
    · exact h.ne hi hb
    · have := h.head.lt; omega
  have hH : Blk w' bh 32 (hs.map Sl.val) := h.head.of_block (hg.block bh h.head.lt (fun e => hbne (Option.some.inj e).symm))
  have hrow : ∀ (j : Nat) (hj : j < hs.length) a, j ≠ i → hs[j].a = some a → a.block ≠ b := fun j hj a hne ha e => by
    rcases hbo with hb | hb
    · have h1 := (h.own j hj a ha).1
      have h2 := (h.own i hi _ hb).1
      rw [e] at h1
      simp only at h2
      omega
    · have := ((h.row j hj).lt ha).2; omega
  have stay : ∀ {s : Sl} {xs : List Value}, Own w' 3 1 s xs → Own (w'.setCell ((blk bh).add i) r.val) 3 1 s xs := fun ho => ho.of_block fun a ha => Below.heap_setCell _ _ _ _ (by rw [add_block]; exact own_ne ho hH (by decide) ha)
  refine ⟨hH, ?_, by simp [h.len], fun j hj => ?_, fun j hj a ha => ?_⟩
  · have := hH.set i r.val
    rwa [← List.map_set] at this
  · have hj' : j < hs.length := by simpa using hj
    by_cases e : j = i
    · subst e
      have : (ll.set j (ll.getD j [] ++ [x])).getD j [] = ll.getD j [] ++ [x] := by simp [List.getD, show j < ll.length by have := h.len; omega]
      rw [List.getElem_set_self, this, List.map_append]
      exact stay hr
    · have : (ll.set i (ll.getD i [] ++ [x])).getD j [] = ll.getD j [] := by simp only [List.getD]; rw [List.getElem?_set_ne (by omega)]
      rw [List.getElem_set_ne (by omega), this]
      exact stay ((h.row j hj').of_block fun a ha => hg.block _ ((h.row j hj').lt ha).2 (fun e' => hrow j hj' a e ha (Option.some.inj e')))
  · have hj' : j < hs.length := by simpa using hj
    by_cases e : j = i
    · subst e
      rw [List.getElem_set_self, hrb] at ha
      cases ha
      exact ⟨by simp [upd], hB⟩
    · rw [List.getElem_set_ne (by omega)] at ha
      refine ⟨?_, (h.own j hj' a ha).2⟩
      unfold upd
      rw [if_neg (hrow j hj' a e ha)]
      exact (h.own j hj' a ha).1
theorem Fam.isSS {B : Nat} {w : World} {bh n : Nat} {hs : List Sl} {ll : List (List Nat)} {ow : Nat → Nat} {off : Nat} (h : Fam B w bh hs ll ow off) (hn : hs.length = n) (hm : n ≤ 9223372036854775807) : IsNN w ⟨some (blk bh), n, n⟩ hs ll :=
  ⟨h.head.isS rfl hn.symm (Nat.le_refl _) hm, h.len, fun i hi hi' => by
    have := (h.row i hi).isS
    simpa [List.getD, hi'] using this⟩
theorem Fam.avoids {B : Nat} {w : World} {bh n : Nat} {hs : List Sl} {ll : List (List Nat)} {ow : Nat → Nat} {off : Nat} (h : Fam B w bh hs ll ow off) {b : Nat} {T : TypeId} {cs : List Value} (hB : Blk w b T cs) (hT : T ≠ 3) (hT' : T ≠ 32) : Avoids b ⟨some (blk bh), n, n⟩ hs :=
  ⟨fun a ha e => by
    cases ha
    have e : bh = b := e
    subst e
    exact hT' (hB.type h.head), fun i hi a ha => own_ne (h.row i hi) hB hT ha⟩
theorem Fam.new (B : Nat) (w : World) (n : Nat) (ow : Nat → Nat) (off bh : Nat) (hB : Blk w bh 32 (List.replicate n (.slice none 0 0))) : Fam B w bh (List.replicate n ⟨none, 0, 0⟩) (List.replicate n []) ow off := by
  refine ⟨?_, by simp, fun i hi => ?_, fun i hi a ha => ?_⟩
  · rw [List.map_replicate]; exact hB
  · have hi' : i < n := by simpa using hi
    simp only [List.getElem_replicate, List.getD, List.getElem?_replicate, if_pos hi', Option.getD_some, List.map_nil]
    exact Own.nil _ _ _
  · simp at ha

/-- A graph that the program has made. -/
def IsG (w : World) (gb : Nat) (nx : List (List Nat)) : Prop :=
  ∃ sn sa wk od bs hn ha, Blk w gb 118 (gCells sn sa wk od bs) ∧ IsNN w sn hn nx ∧ IsNN w sa ha (aheadOf nx) ∧ IsN w wk (walkOf nx) ∧ IsN w od (orderOf nx) ∧ BitsL bs fun i => (walkOf nx).contains i
theorem IsG.below {w w' : World} {gb : Nat} {nx : List (List Nat)} (h : IsG w gb nx) (hb : Below w.heap.size w w') : IsG w' gb nx :=
  let ⟨sn, sa, wk, od, bs, hn, ha, h1, h2, h3, h4, h5, h6⟩ := h
  ⟨sn, sa, wk, od, bs, hn, ha, h1.below hb, h2.below hb, h3.below hb, h4.below hb, h5.below hb, h6⟩
theorem IsG.lt {w : World} {gb : Nat} {nx : List (List Nat)} (h : IsG w gb nx) : gb < w.heap.size := let ⟨_, _, _, _, _, _, _, h1, _⟩ := h; h1.lt

/-- .. of which nothing lies below block B. -/
def IsGB (w : World) (B gb : Nat) (nx : List (List Nat)) : Prop :=
  B ≤ gb ∧ ∃ sn sa wk od bs hn ha, Blk w gb 118 (gCells sn sa wk od bs) ∧ IsNN w sn hn nx ∧ IsNN w sa ha (aheadOf nx) ∧ IsN w wk (walkOf nx) ∧ IsN w od (orderOf nx) ∧ BitsL bs (fun i => (walkOf nx).contains i) ∧
    Fresh B sn ∧ Fresh B sa ∧ Fresh B wk ∧ Fresh B od ∧ (∀ (i : Nat) (h : i < hn.length), Fresh B hn[i]) ∧ ∀ (i : Nat) (h : i < ha.length), Fresh B ha[i]
theorem IsGB.isG {w : World} {B gb : Nat} {nx : List (List Nat)} (h : IsGB w B gb nx) : IsG w gb nx :=
  let ⟨_, sn, sa, wk, od, bs, hn, ha, h1, h2, h3, h4, h5, h6, _⟩ := h
  ⟨sn, sa, wk, od, bs, hn, ha, h1, h2, h3, h4, h5, h6⟩
theorem IsGB.keep {w w' : World} {B gb : Nat} {nx : List (List Nat)} (h : IsGB w B gb nx) (hk : ∀ k, B ≤ k → k < w.heap.size → w'.heap[k]? = w.heap[k]?) : IsGB w' B gb nx := by
  obtain ⟨hg, sn, sa, wk, od, bs, hn, ha, h1, h2, h3, h4, h5, h6, f1, f2, f3, f4, f5, f6⟩ := h
  have st : ∀ {α : Type} {f : α → Value} {s : Sl} {l : List α}, IsS f w s l → Fresh B s → IsS f w' s l := fun hs hf => hs.of_block fun a ha hlt => hk _ (hf a ha) hlt
  exact ⟨hg, sn, sa, wk, od, bs, hn, ha, h1.of_block (hk gb hg h1.lt), ⟨st h2.top f1, h2.len, fun i g1 g2 => st (h2.row i g1 g2) (f5 i g1)⟩, ⟨st h3.top f2, h3.len, fun i g1 g2 => st (h3.row i g1 g2) (f6 i g1)⟩, st h4 f3, st h5 f4, h6, f1, f2, f3, f4, f5, f6⟩
theorem IsGB.below {w w' : World} {B gb : Nat} {nx : List (List Nat)} (h : IsGB w B gb nx) (hb : Below w.heap.size w w') : IsGB w' B gb nx := h.keep fun k _ hk => hb.block k hk

/-- graph.Of under way. -/
structure OS (w0 : World) (gb bn ba n : Nat) (w : World) (NX : List (List Nat)) : Prop where
  below : Below w0.heap.size w0 w
  len : NX.length = n
  g : Blk w gb 118 (gCells ⟨some (blk bn), n, n⟩ ⟨some (blk ba), n, n⟩ ⟨none, 0, 0⟩ ⟨none, 0, 0⟩ (List.replicate 64 (.int .u64 (0 : Int))))
  gB : w0.heap.size ≤ gb
  bnB : w0.heap.size ≤ bn
  baB : w0.heap.size ≤ ba
  ne : bn ≠ ba
  fam : ∃ hn ha ow, Fam w0.heap.size w bn hn NX ow 0 ∧ Fam w0.heap.size w ba ha (aheadOf NX) ow n
theorem OS.grown {w0 w w' : World} {gb bn ba n : Nat} {NX : List (List Nat)} (h : OS w0 gb bn ba n w NX) (hb : Below w.heap.size w w') : OS w0 gb bn ba n w' NX :=
  let ⟨hn, ha, ow, f1, f2⟩ := h.fam
  ⟨h.below.trans (hb.mono h.below.size), h.len, h.g.below hb, h.gB, h.bnB, h.baB, h.ne, hn, ha, ow, f1.grown hb, f2.grown hb⟩

set_option maxHeartbeats 1000000 in
/-- One edge more: both appends. -/
theorem push_step {w0 : World} {gb bn ba n : Nat} {w : World} {NX : List (List Nat)} (h : OS w0 gb bn ba n w NX) {i x : Nat} (hi : i < n) (hx : x < n) (hn : n ≤ 4096) (hlen : (NX.getD i []).length ≤ 4096) (hlenA : ((aheadOf NX).getD x []).length ≤ 4096)
    (hni : (NX.getD i []).contains x = false) (hgt : ∀ j, i < j → NX.getD j [] = []) {sb : Nat} {T : TypeId} {cs : List Value} (hT : T ≠ 3) (hT' : T ≠ 32) (hsb : Blk w sb T cs) {K : World → Prop}
    (hK : ∀ w', OS w0 gb bn ba n w' (NX.set i (NX.getD i [] ++ [x])) → Blk w' sb T cs → K w') :
    derefP (some (blk gb)) fun a18 =>
      ldS w.drew a18 fun x19 =>
      derefP (some (blk gb)) fun a20 =>
      ldS w.drew a20 fun x21 =>
      (0 ≤ (i : Int) ∧ (i : Int) < (x21.l : Int)) ∧
      derefP x21.a fun a22 =>
      ldS w.drew (a22.add (Int.toNat (i : Int))) fun x23 =>
      Nw (w.drew.alloc (.cells #[(.int .i64 (x : Int))] 3)) fun w14 =>
      w14.cell? (a22.add (Int.toNat (i : Int))) = some (.slice x23.a x23.l x23.c) ∧
      w14.cell? a20 = some (.slice x21.a x21.l x21.c) ∧
      w14.cell? a18 = some (.slice x19.a x19.l x19.c) ∧
      appendS Try.prog 32 (.slice x23.a x23.l x23.c) (.slice (some (blk w.drew.heap.size)) 1 1) w14 fun r24 w15 =>
      w15.cell? a18 = some (.slice x19.a x19.l x19.c) ∧
      (0 ≤ (i : Int) ∧ (i : Int) < (x19.l : Int)) ∧
      derefP x19.a fun a25 =>
      Wr w15 (a25.add (Int.toNat (i : Int))) ∧
      Nw (w15.setCell (a25.add (Int.toNat (i : Int))) (.slice r24.a r24.l r24.c)) fun w16 =>
      derefP (some (blk gb)) fun a26 =>
      ldS w16.drew (a26.add 1) fun x27 =>
      derefP (some (blk gb)) fun a28 =>
      ldS w16.drew (a28.add 1) fun x29 =>
      (0 ≤ (x : Int) ∧ (x : Int) < (x29.l : Int)) ∧
      derefP x29.a fun a30 =>
      ldS w16.drew (a30.add (Int.toNat (x : Int))) fun x31 =>
      Nw (w16.drew.alloc (.cells #[(.int .i64 (i : Int))] 3)) fun w17 =>
      w17.cell? (a30.add (Int.toNat (x : Int))) = some (.slice x31.a x31.l x31.c) ∧
      w17.cell? (a28.add 1) = some (.slice x29.a x29.l x29.c) ∧
      w17.cell? (a26.add 1) = some (.slice x27.a x27.l x27.c) ∧
      appendS Try.prog 32 (.slice x31.a x31.l x31.c) (.slice (some (blk w16.drew.heap.size)) 1 1) w17 fun r32 w18 =>
      w18.cell? (a26.add 1) = some (.slice x27.a x27.l x27.c) ∧
      (0 ≤ (x : Int) ∧ (x : Int) < (x27.l : Int)) ∧
      derefP x27.a fun a33 =>
      Wr w18 (a33.add (Int.toNat (x : Int))) ∧
      Nw (w18.setCell (a33.add (Int.toNat (x : Int))) (.slice r32.a r32.l r32.c)) fun w19 => K w19 := by
  obtain ⟨hbel, hNX, hG, hgB, hbnB, hbaB, hne, hn', ha', ow, f1, f2⟩ := h
  have hnl : hn'.length = n := by rw [f1.len, hNX]
  have hal : ha'.length = n := by rw [f2.len, ahead_length, hNX]
  have hBsz : w0.heap.size ≤ w.heap.size := hbel.size
  have hmax : n ≤ 9223372036854775807 := by omega
  refine ⟨⟨some (blk bn), n, n⟩, hG.drew.cell0 rfl, ⟨some (blk bn), n, n⟩, hG.drew.cell0 rfl, ?_⟩
  refine elemS (s := ⟨some (blk bn), n, n⟩) (f1.isSS hnl hmax).top.drew (k := i) (by omega) ?_
  refine Nw.gen fun w14 hw14 => ?_
  have hb14 : Below w.heap.size w w14 := by rw [hw14]; exact (Below.refl _ _).drew.alloc (by simp) _
  have ht14 : Blk w14 w.drew.heap.size 3 [iN x] := by rw [hw14]; exact Blk.new w.drew 3 #[iN x]
  have f1' := f1.grown hb14
  have f2' := f2.grown hb14
  have hG' := hG.below hb14
  have hsb' := hsb.below hb14
  have hz14 : w.heap.size ≤ w14.heap.size := hb14.size
  refine ⟨?_, hG'.cell0 rfl, hG'.cell0 rfl, ?_⟩
  · exact (f1'.isSS hnl hmax).top.cell _ rfl i (by omega)
  have hrow := f1'.row i (by omega)
  have hrl := own_len hrow
  refine append_one eInt hrow rfl ht14 (by omega) (by omega) fun r w15 hr _ ⟨b, hrb, hbo, hg⟩ => ?_
  have hbB : w0.heap.size ≤ b := by
    rcases hbo with hb | rfl
    · exact (f1'.own i (by omega) _ hb).2
    · omega
  obtain ⟨hH, f1p⟩ := f1'.push (by omega) hr hrb hbo hbB hg
  have hbT : ∃ cs, Blk w15 b 3 cs := by obtain ⟨cs, hc⟩ := hr.type hrb; exact ⟨cs, hc⟩
  have hnot : ∀ {b' : Nat} {T : TypeId} {cs : List Value}, Blk w14 b' T cs → T ≠ 3 → b' ≠ b ∧ Blk w15 b' T cs := fun hB hT => by
    have hb' : _ ≠ b := fun e => by
      rcases hbo with hb | hb
      · exact own_ne hrow hB hT hb e.symm
      · have := hB.lt; omega
    exact ⟨hb', hB.of_block (hg.block _ hB.lt (fun e => hb' (Option.some.inj e)))⟩
  have hG15 := (hnot hG' (by decide)).2
  have hgb := (hnot hG' (by decide)).1
  have hbba := (hnot f2'.head (by decide)).1
  have f2o := f2'.other (v := 0 + i) hg (Ne.symm hbba) (by
    rcases hbo with hb | hb
    · exact .inl ⟨_, (f1'.own i (by omega) _ hb).1, fun j hj => by omega⟩
    · exact .inr hb)
  refine ⟨hG15.cell0 rfl, ⟨by omega, by show (i : Int) < ((n : Nat) : Int); omega⟩, hH.wr (by simp; omega), Nw.gen fun w16 hw16 => ?_⟩
  have f1q := f1p
  have f2q := f2o.set_other hH hne (by decide) i r.val
  have hG16 : Blk w16 gb 118 (gCells ⟨some (blk bn), n, n⟩ ⟨some (blk ba), n, n⟩ ⟨none, 0, 0⟩ ⟨none, 0, 0⟩ (List.replicate 64 (.int .u64 (0 : Int)))) := by
    rw [hw16]; exact hG15.other (by rw [add_block]; exact hG15.apart hH (by decide)) _
  have hsb15 := (hnot hsb' hT).2
  have hsb16 : Blk w16 sb T cs := by
    rw [hw16]; exact hsb15.other (by rw [add_block]; exact hsb15.apart hH hT') _
  rw [show w15.setCell ((blk bn).add i) r.val = w16 from hw16.symm] at f1q f2q
  have hb16 : Below w0.heap.size w0 w16 := by
    rw [hw16]
    exact ((hbel.trans (hb14.mono hBsz)).trans (below_grown hg hbB (by omega))).setCell (by rw [add_block]; exact hbnB) _
  have hl1 : (hn'.set i r).length = n := by simp [hnl]
  have hBsz16 := hb16.size
  clear hw16 f1p f2o hH hG15 hnot hbT hr hg hrow f1' f2' hG' ht14 hw14 hb14 f1 f2 hG hsb hsb' hsb15
  -- the edge from behind
  refine ⟨⟨some (blk ba), n, n⟩, hG16.drew.cell rfl, ⟨some (blk ba), n, n⟩, hG16.drew.cell rfl, ?_⟩
  refine elemS (s := ⟨some (blk ba), n, n⟩) (f2q.isSS hal hmax).top.drew (k := x) (by omega) ?_
  refine Nw.gen fun w17 hw17 => ?_
  have hb17 : Below w16.heap.size w16 w17 := by rw [hw17]; exact (Below.refl _ _).drew.alloc (by simp) _
  have ht17 : Blk w17 w16.drew.heap.size 3 [iN i] := by rw [hw17]; exact Blk.new w16.drew 3 #[iN i]
  have f1' := f1q.grown hb17
  have f2' := f2q.grown hb17
  have hG' := hG16.below hb17
  have hsb' := hsb16.below hb17
  have hz17 : w16.heap.size ≤ w17.heap.size := hb17.size
  refine ⟨?_, hG'.cell rfl, hG'.cell rfl, ?_⟩
  · exact (f2'.isSS hal hmax).top.cell _ rfl x (by omega)
  have hrow := f2'.row x (by omega)
  have hrl := own_len hrow
  refine append_one eInt hrow rfl ht17 (by omega) (by omega) fun r2 w18 hr _ ⟨b2, hrb2, hbo2, hg2⟩ => ?_
  have hbB2 : w0.heap.size ≤ b2 := by
    rcases hbo2 with hb | rfl
    · exact (f2'.own x (by omega) _ hb).2
    · omega
  obtain ⟨hH, f2p⟩ := f2'.push (by omega) hr hrb2 hbo2 hbB2 hg2
  have hnot : ∀ {b' : Nat} {T : TypeId} {cs : List Value}, Blk w17 b' T cs → T ≠ 3 → b' ≠ b2 ∧ Blk w18 b' T cs := fun hB hT => by
    have hb' : _ ≠ b2 := fun e => by
      rcases hbo2 with hb | hb
      · exact own_ne hrow hB hT hb e.symm
      · have := hB.lt; omega
    exact ⟨hb', hB.of_block (hg2.block _ hB.lt (fun e => hb' (Option.some.inj e)))⟩
  have hG18 := (hnot hG' (by decide)).2
  have hbbn := (hnot f1'.head (by decide)).1
  have f1o := f1'.other (v := n + x) hg2 (Ne.symm hbbn) (by
    rcases hbo2 with hb | hb
    · exact .inl ⟨_, (f2'.own x (by omega) _ hb).1, fun j hj => by omega⟩
    · exact .inr hb)
  refine ⟨hG18.cell rfl, ⟨by omega, by show (x : Int) < ((n : Nat) : Int); omega⟩, hH.wr (by simp; omega), Nw.gen fun w19 hw19 => ?_⟩
  have f2z := f2p
  have f1z := f1o.set_other hH (Ne.symm hne) (by decide) x r2.val
  rw [show w18.setCell ((blk ba).add x) r2.val = w19 from hw19.symm] at f1z f2z
  have hsb18 := (hnot hsb' hT).2
  rw [← ahead_push (by omega) (by omega) hni hgt] at f2z
  refine hK w19 ⟨?_, by simp [hNX], ?_, hgB, hbnB, hbaB, hne, hn'.set i r, ha'.set x r2, _, f1z, f2z⟩ ?_
  · rw [hw19]
    exact ((hb16.trans (hb17.mono hBsz16)).trans (below_grown hg2 hbB2 (by omega))).setCell (by rw [add_block]; exact hbaB) _
  · rw [hw19]; exact hG18.other (by rw [add_block]; exact hG18.apart hH (by decide)) _
  · rw [hw19]; exact hsb18.other (by rw [add_block]; exact hsb18.apart hH hT') _

end Go.Proofs
