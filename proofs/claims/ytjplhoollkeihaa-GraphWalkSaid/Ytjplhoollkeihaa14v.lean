/-
  The statement GraphOf.
-/
import Derived.Test.Ytjplhoollkeihaa14u
namespace Go.Proofs
open Go.Gk Go.RowKit Go.Gr

theorem own_apart {w w' : World} {x y : Sl} {B : Nat} {xs ys : List Value} (_hx : Own w 3 1 x xs) (hlt : ∀ a, x.a = some a → a.block < B) (hy : Own w 3 1 y ys) (hf : Fresh B y) (ho : Only x w w') : Own w' 3 1 y ys :=
  hy.of_block fun a ha => ho.block _ fun b hb e => by have := hlt b hb; have := hf a ha; omega

set_option maxHeartbeats 1000000 in
theorem told_spec {p q : Option Addr} {nx : List (List Nat)} {w : World} {R : Value → World → Prop} (hg : GP w p nx) (hr : RP w q nx) (hR : ∀ w', Below w.heap.size w w' → R (.bool true) w') :
    callR Try.prog 31 #[.pointer p, .pointer q] w R := by
  refine callR.of (intagliolaw14_told_calls p q R w ?_) fun _ _ h => h
  have hmax : nx.length ≤ 4096 := by
    rcases hg with ⟨_, rfl⟩ | ⟨_, _, hx, _⟩
    · simp
    · exact hx.max
  refine JoinW.cut (fun _ w' => w' = w) (ifB_false (by rw [hg.isNone hr]; simp) (hg.len ⟨_, rfl, hr.len ⟨_, rfl, ifB_false (by simp) rfl⟩⟩)) ?_
  rintro _ wx ewx
  subst wx
  have tr : ∀ {a b c : World}, Below w.heap.size w b → Below b.heap.size b c → Below w.heap.size w c := fun h1 h2 => h1.trans (h2.mono h1.size)
  refine LoopW.countM nx.length (by omega) (fun w' => Below w.heap.size w w') (Below.refl _ _) ?_
  rintro k w4 hk b4 next hnext
  refine (hr.below b4).len ⟨_, rfl, ifB_dec (fun hle => ?_) (fun hgt => ?_)⟩
  · have hltk : k < nx.length + 2 := by dsimp only at hle; omega
    refine JoinW.cut (fun _ w' => Below w.heap.size w w') ?_ fun _ w' hh => hnext w' hltk hh
    refine (hg.below b4).next fun x w6 ox fx b6 => ⟨x, rfl, ?_⟩
    have c6 := tr (a := w) b4 b6
    refine (hg.below c6).ahead fun y w7 oy fy b7 => ⟨y, rfl, ?_⟩
    have c7 := tr (a := w) c6 b7
    have hxlt : ∀ a, x.a = some a → a.block < w6.heap.size := fun a ha => (ox.lt ha).2
    refine JoinW.cut (fun _ w' => Below w7.heap.size w7 w') ?_ ?_
    · refine (hr.below c7).next fun r8 w8 o8 b8 => ⟨r8, rfl, ?_⟩
      refine same_spec ((ox.below b7).below b8).isS o8.isS fun w9 b9 => ⟨_, rfl, ifB_not (ifB_true rfl ?_)⟩
      have d9 : Below w7.heap.size w7 w9 := b8.trans (b9.mono b8.size)
      refine (hr.below (tr (a := w) c7 d9)).ahead fun r10 w10 o10 b10 => ⟨r10, rfl, ?_⟩
      have d10 : Below w7.heap.size w7 w10 := d9.trans (b10.mono d9.size)
      refine same_spec (oy.below d10).isS o10.isS fun w11 b11 => ⟨_, rfl, ifB_not (ifB_true rfl ?_)⟩
      have d11 : Below w7.heap.size w7 w11 := d10.trans (b11.mono d10.size)
      refine (hg.below (tr (a := w) c7 d11)).reached ⟨_, rfl, (hr.below (tr (a := w) c7 d11)).reached fun w13 b13 => ⟨_, rfl, ifB_not (ifB_true (by simp) (d11.trans (b13.mono d11.size)))⟩⟩
    · rintro _ w14 d14
      have ox14 := (ox.below b7).below d14
      have oy14 := oy.below d14
      refine Spoil_spec ox14 fun w15 h15 => ⟨rfl, ?_⟩
      have oy15 := own_apart ox14 hxlt oy14 fy h15
      refine Spoil_spec oy15 fun w16 h16 => ⟨rfl, ?_⟩
      have c14 := tr (a := w) c7 d14
      have s4 := b4.size
      have s6 := c6.size
      have c16 : Below w.heap.size w w16 := (c14.trans (h15.below (B := w.heap.size) (fun a ha => by have := fx a ha; omega))).trans (h16.below fun a ha => by have := fy a ha; omega)
      refine (hg.below c16).next fun r17 w17 o17 _ b17 => ⟨r17, rfl, ?_⟩
      have c17 := tr (a := w) c16 b17
      refine (hr.below c17).next fun r18 w18 o18 b18 => ⟨r18, rfl, ?_⟩
      have c18 := tr (a := w) c17 b18
      refine same_spec (o17.below b18).isS o18.isS fun w19 b19 => ⟨_, rfl, ifB_not (ifB_true rfl ?_)⟩
      have c19 := tr (a := w) c18 b19
      refine (hg.below c19).ahead fun r20 w20 o20 _ b20 => ⟨r20, rfl, ?_⟩
      have c20 := tr (a := w) c19 b20
      refine (hr.below c20).ahead fun r21 w21 o21 b21 => ⟨r21, rfl, ?_⟩
      exact same_spec (o20.below b21).isS o21.isS fun w22 b22 => ⟨_, rfl, ifB_not (ifB_true rfl (tr (a := w) (tr (a := w) c20 b21) b22))⟩
  · refine (hg.below b4).order fun x w5 ox fx b5 => ⟨x, rfl, ?_⟩
    have c5 := tr (a := w) b4 b5
    refine (hr.below c5).order fun y w6 oy b6 => ⟨y, rfl, ?_⟩
    have c6 := tr (a := w) c5 b6
    refine same_spec (ox.below b6).isS oy.isS fun w7 b7 => ⟨_, rfl, ifB_not (ifB_true rfl ?_)⟩
    have c7 := tr (a := w) c6 b7
    have s4 := b4.size
    refine Spoil_spec ((ox.below b6).below b7) fun w8 h8 => ⟨rfl, ?_⟩
    have c8 : Below w.heap.size w w8 := c7.trans (h8.below fun a ha => by have := fx a ha; omega)
    refine (hg.below c8).order fun x9 w9 o9 _ b9 => ⟨x9, rfl, ?_⟩
    have c9 := tr (a := w) c8 b9
    refine (hr.below c9).order fun y10 w10 o10 b10 => ⟨y10, rfl, ?_⟩
    exact same_spec (o9.below b10).isS o10.isS fun w11 b11 => ⟨_, rfl, hR w11 (tr (a := w) (tr (a := w) c9 b10) b11)⟩

/-- What graph.Of gives at rows that read ll. -/
def GS (ll : List (List Int)) (e : Int) (nx : List (List Nat)) : Prop :=
  ∀ {w2 : World} {c : Sl} {hs : List Sl}, IsII w2 c hs ll → ∀ {R : Value → World → Prop}, (∀ w3 p, Below w2.heap.size w2 w3 → GPB w3 w2.heap.size p nx → R (.tuple #[.pointer p, .int .i64 e]) w3) → callR Try.prog 28 #[.slice c.a c.l c.c] w2 R

/-- What holds while the copy's rows are spoilt one by one. -/
structure SpS (w1 w3 : World) (B2 n i : Nat) (row : Nat → List Int) (w : World) : Prop where
  below : Below w1.heap.size w1 w
  keep : ∀ k, B2 ≤ k → k < w3.heap.size → w.heap[k]? = w3.heap[k]?
  head : Blk w w1.heap.size 32 ((List.range n).map fun i => .slice (some (blk (w1.heap.size + 1 + i))) (row i).length (row i).length)
  rows : ∀ j, i ≤ j → j < n → Blk w (w1.heap.size + 1 + j) 3 ((row j).map (Value.int .i64))
  lt : w1.heap.size + 1 + n ≤ B2

set_option maxHeartbeats 1000000 in
theorem GraphOf_spec {s : Sl} {hs : List Sl} {ll : List (List Int)} {w : World} {R : Value → World → Prop} (h : IsII w s hs ll) (h24 : 24 * ll.length ≤ 281474976710656) (h8 : ∀ l ∈ ll, 8 * l.length ≤ 281474976710656)
    (hR : ∀ w', Below w.heap.size w w' → R (.bool true) w') :
    callR Try.prog 3 #[.slice s.a s.l s.c] w R := by
  refine callR.of (intagliolaw14_GraphOf_calls s R w ?_) fun _ _ h => h
  have hsl : s.l = hs.length := h.top.len
  have hhl : hs.length = ll.length := h.len
  have hn : s.l = ll.length := by omega
  unfold L_intagliolaw14_GraphOf
  refine callR.mono (S := fun v1 w1 => ∃ e q nx, v1 = .tuple #[.pointer q, .int .i64 e] ∧ Below w.heap.size w w1 ∧ RP w1 q nx ∧ GS ll e nx) ?_ ?_
  · refine refOf_spec h h8 (fun h0 => ⟨2, none, [], rfl, Below.refl _ _, .inl ⟨rfl, rfl⟩, fun hi R' hR' => ?_⟩) (fun h0 => ⟨4, none, [], rfl, Below.refl _ _, .inl ⟨rfl, rfl⟩, fun hi R' hR' => ?_⟩)
      (fun h0 h1 hG w' hb => ⟨141, none, [], rfl, hb, .inl ⟨rfl, rfl⟩, fun hi R' hR' => ?_⟩) (fun h0 h1 hG w' rb hb hr => ⟨0, some (blk rb), edges ll, rfl, hb, .inr ⟨rb, rfl, edges_ok h0 h1 hG, hr⟩, fun hi R' hR' => ?_⟩)
    · exact graph_Of_spec hi (fun _ => hR' _ none (Below.refl _ _) (.inl ⟨rfl, rfl⟩)) (fun h' => by omega) (fun h' => by omega) (fun h' => by omega)
    · exact graph_Of_spec hi (fun h' => by omega) (fun _ => hR' _ none (Below.refl _ _) (.inl ⟨rfl, rfl⟩)) (fun _ h' => by omega) (fun _ h' => by omega)
    · exact graph_Of_spec hi (fun h' => by omega) (fun h' => by omega) (fun _ _ _ w3 hb => hR' w3 none hb (.inl ⟨rfl, rfl⟩)) (fun _ _ hG' => absurd hG' hG)
    · exact graph_Of_spec hi (fun h' => by omega) (fun h' => by omega) (fun _ _ hG' => absurd hG hG') (fun h0 h1 hG w3 gb hb hgb _ => hR' w3 _ hb (.inr ⟨gb, rfl, edges_ok h0 h1 hG, hgb⟩))
  rintro _ w1 ⟨e, q, nx, rfl, hb1, hrp, hgs⟩
  refine ⟨q, e, rfl, ?_⟩
  refine copied_spec (h.below hb1) h24 h8 fun w2 b2 c2 => ⟨⟨_, ll.length, ll.length⟩, rfl, ?_⟩
  have i2 := c2.isII (by omega) (fun i hi => by have := h8 (ll.getD i []) (by simp [List.getD, hi]); omega)
  rw [copL_all] at i2
  refine hgs (c := ⟨some (blk w1.heap.size), ll.length, ll.length⟩) i2 fun w3 p b3 hgp => ⟨p, e, rfl, ?_⟩
  refine JoinW.cut (fun _ w' => w' = w3) (ifB_false (by simp) (ifB_false (by rw [hn]; simp) rfl)) ?_
  rintro _ wx ewx
  subst wx
  have hb12 : Below w1.heap.size w1 w3 := b2.trans (b3.mono b2.size)
  have c3 := c2.below b3
  have hlt2 : w1.heap.size + 1 + ll.length ≤ w2.heap.size := by
    by_cases h0 : ll.length = 0
    · have := c2.head.lt; omega
    · have := (c2.rows (ll.length - 1) (by omega)).lt; omega
  have st0 : SpS w1 w3 w2.heap.size ll.length 0 (fun i => ll.getD i []) w3 := by
    refine ⟨hb12, fun _ _ _ => rfl, ?_, fun j _ hj => c3.rows j hj, hlt2⟩
    have e : ((List.range ll.length).map fun i => if i < ll.length then Value.slice (some (blk (w1.heap.size + 1 + i))) (ll.getD i []).length (ll.getD i []).length else .slice none 0 0) = (List.range ll.length).map fun i => .slice (some (blk (w1.heap.size + 1 + i))) (ll.getD i []).length (ll.getD i []).length :=
      List.map_congr_left fun i hi => if_pos (List.mem_range.1 hi)
    rw [← e]; exact c3.head
  refine LoopW.count ll.length (by omega) (fun i w' => SpS w1 w3 w2.heap.size ll.length i (fun i => ll.getD i []) w') st0 ?_
  rintro i w5 hi st next hnext
  have hb5 : Below w.heap.size w w5 := hb1.trans (st.below.mono hb1.size)
  rw [hn]
  refine ifB_dec (fun hlt => ?_) (fun hge => ?_)
  · have hlt : i < ll.length := by dsimp only at hlt; omega
    have hgd : ll.getD i [] = ll[i] := by simp [List.getD, hlt]
    have hrow : ∀ {w' : World}, Below w.heap.size w w' → IsI w' (hs[i]'(by omega)) ll[i] := fun hb => (h.below hb).row i (by omega) hlt
    have hcell : ((List.range ll.length).map fun i => Value.slice (some (blk (w1.heap.size + 1 + i))) (ll.getD i []).length (ll.getD i []).length)[i]? = some (.slice (some (blk (w1.heap.size + 1 + i))) (ll.getD i []).length (ll.getD i []).length) := by
      rw [List.getElem?_map, List.getElem?_range hlt]; rfl
    have hr5 := st.rows i (Nat.le_refl _) hlt
    have h8i := h8 _ (List.getElem_mem hlt)
    refine ⟨⟨by first | omega | (dsimp only; omega), by first | omega | (dsimp only; omega)⟩, ⟨⟨_, _, _⟩, st.head.drew.cell (n := i) hcell, ?_⟩⟩
    refine elemS_n (h.below hb5.drew).top hn (k := i) (by omega) ?_
    have hown : ∀ {w' : World}, Blk w' (w1.heap.size + 1 + i) 3 ((ll.getD i []).map (Value.int .i64)) → Own w' 3 1 ⟨some (blk (w1.heap.size + 1 + i)), (ll.getD i []).length, (ll.getD i []).length⟩ ((ll.getD i []).map (Value.int .i64)) := fun hB =>
      ⟨by simp, .inr ⟨_, _, rfl, hB, Nat.le_refl _, by rw [hgd]; show ll[i].length ≤ _; omega, by simp, List.take_of_length_le (by simp)⟩⟩
    refine Ints_spec (l := ll.getD i []) (m := ll[i]) (hown hr5.drew).isS (hrow hb5.drew) fun w6 hh6 hb6 => ⟨_, rfl, ifB_not (ifB_true (by rw [hgd]; exact decide_eq_true rfl) ?_)⟩
    have hh6 : w6.heap = w5.heap := hh6
    have hB6 : ∀ {b : Nat} {T : TypeId} {cs : List Value}, Blk w5 b T cs → Blk w6 b T cs := fun hB => hB.of_block (by rw [hh6])
    refine ⟨⟨by first | omega | (dsimp only; omega), by first | omega | (dsimp only; omega)⟩, ⟨⟨_, _, _⟩, (hB6 st.head).cell (n := i) hcell, ?_⟩⟩
    refine Spoil_spec (hown (hB6 hr5)) fun w7 ho7 => ⟨rfl, hnext w7 hlt ?_⟩
    have ne : ∀ {k : Nat}, k ≠ w1.heap.size + 1 + i → w7.heap[k]? = w5.heap[k]? := fun hk => by
      rw [ho7.block _ (fun a ha => by cases ha; exact Ne.symm hk), hh6]
    have hlt2' := st.lt
    refine ⟨?_, fun k hk hk' => ?_, ?_, fun j hj hj' => ?_, st.lt⟩
    · refine (st.below.trans (c := w6) ?_).trans (ho7.below fun a ha => by cases ha; show w1.heap.size ≤ w1.heap.size + 1 + i; omega)
      exact (Below.refl _ _).drew.trans (hb6.mono st.below.size)
    · rw [ne (by omega)]; exact st.keep k hk hk'
    · exact st.head.of_block (ne (by omega))
    · exact (st.rows j (by omega) hj').of_block (ne (by omega))
  · refine told_spec (hgp.keep (w' := w5) st.keep).gp (hrp.below st.below) fun w8 b8 => ⟨_, rfl, ifB_true rfl ?_⟩
    exact awake_spec fun w9 b9 => ⟨_, rfl, hR w9 ((hb5.trans (b8.mono hb5.size)).trans (b9.mono (by have := hb5.size; have := b8.size; omega)))⟩

end Go.Proofs
