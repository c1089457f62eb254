/-
  The statement DomUps. Part 3: the document's Frontier; the statement.
-/
import Derived.Test.Ytjplhoollkeihaa15o
namespace Go.Proofs
open Go.Gk Go.RowKit Go.Gr Go.Dm

theorem domP_nat {od : List Nat} {ov : Nat → Option Nat} {x p : Nat} : DomP od ov (x : Int) (p : Int) ↔ p ∈ od ∧ Anc ov x p := by
  constructor
  · rintro ⟨a, b, e1, e2, h1, h2⟩
    have e1 : x = a := by omega
    have e2 : p = b := by omega
    subst e1 e2
    exact ⟨h1, h2⟩
  · rintro ⟨h1, h2⟩; exact ⟨x, p, rfl, rfl, h1, h2⟩

set_option maxHeartbeats 4000000 in
theorem rFrontier_spec {s : Sl} {hs : List Sl} {ll : List (List Int)} (hmax : ll.length ≤ 4096) (hG : Good ll) (h8 : ∀ l ∈ ll, 8 * l.length ≤ 281474976710656) {w0 w : World} {tb : Nat} {ov : Nat → Option Nat} {dp : Nat → Int} {t : Sl} {i : Int} {R : Value → World → Prop} (hII : IsII w s hs ll)
    (hd : Dt w0 tb (edges ll) ov dp) (h : TabD w t (edges ll) ov) {fr : Nat → Bool} (hfr : ∀ k, fr k = true ↔ FrP (edges ll) ov i k)
    (hR : ∀ r w', Below w.heap.size w w' → Own w' 3 1 r ((if inOd (orderOf (edges ll)) i then frL (edges ll) fr else []).map iN) → R (.slice r.a r.l r.c) w') :
    callR Try.prog 58 #[.slice s.a s.l s.c, .slice t.a t.l t.c, .int .i64 i] w R := by
  refine callR.of (intaglioref15_Frontier_calls s t i R w ?_) fun _ _ h => h
  obtain ⟨nx, hnx⟩ : ∃ nx, nx = edges ll := ⟨_, rfl⟩
  have hnl : nx.length = ll.length := by rw [hnx, edges_length]
  have hem : ∀ i (hi : i < ll.length) (x : Nat), x ∈ nx.getD i [] ↔ (x : Int) ∈ ll[i] := fun i hi x => by rw [hnx]; exact edge_mem hG hi x
  have hsl : s.l = ll.length := by have := hII.top.len; have := hII.len; omega
  rw [← hnx] at hd h hfr hR
  have htl := h.len
  refine rDepth_spec hd h ⟨_, rfl, ?_⟩
  by_cases hin : inOd (orderOf nx) i = true
  · rw [if_pos hin] at hR
    obtain ⟨x, rfl, hx⟩ := inOd_iff.1 hin
    have hxn := hd.lt hx
    have hdx : depthOf (orderOf nx) dp (x : Int) = dp x := by unfold depthOf; rw [if_pos hin]; rfl
    have hm := (hd.dpo.mem x hx).1
    rw [hdx]
    have hpl : ∀ k, ((List.range k).filter fr).length ≤ k := fun k => by have := List.length_filter_le fr (List.range k); simpa using this
    refine ifB_dec (fun hlt => absurd hlt (by omega)) fun _ => ?_
    refine LoopW.ghost (fun j s w' => ∃ k : Nat, ∃ l : Sl, k ≤ nx.length ∧ j = nx.length - k ∧ s = (l, (k : Int), ()) ∧ Below w.heap.size w w' ∧ w.heap.size ≤ w'.heap.size ∧ Own w' 3 1 l (((List.range k).filter fr).map iN) ∧ Fresh w.heap.size l) nx.length
      ⟨0, ⟨none, 0, 0⟩, by omega, rfl, rfl, Below.refl _ _, Nat.le_refl _, Own.nil _ _ _, fun a ha => by cases ha⟩ ?_
    rintro _ _ w2 ⟨b, l, hb', rfl, rfl, hb, hz, ho, hf⟩ next hnext
    have hT := h.below hb
    have hI2 := hII.below hb
    refine ifB_dec (fun hlt => ?_) (fun hge => ?_)
    · have hltb : b < nx.length := by dsimp only at hlt; omega
      refine JoinW.cut (fun s w' => ∃ l : Sl, s = (l, ()) ∧ Below w.heap.size w w' ∧ w.heap.size ≤ w'.heap.size ∧ Own w' 3 1 l (((List.range (b + 1)).filter fr).map iN) ∧ Fresh w.heap.size l) ?_ ?_
      · -- is it led to?
        refine LoopW.ghost (fun j st w' => ∃ p : Nat, ∃ v : Bool, p ≤ nx.length ∧ j = nx.length - p ∧ st = (v, (p : Int), ()) ∧ w' = w2 ∧ (v = true ↔ ∃ p', p' < p ∧ Ed nx p' b ∧ p' ∈ orderOf nx ∧ Anc ov x p')) nx.length
          ⟨0, false, by omega, rfl, rfl, rfl, ⟨fun e => (by cases e), fun ⟨p', hp', _⟩ => (by omega)⟩⟩ ?_
        rintro _ _ w3 ⟨p, v, hp, rfl, rfl, ew, hv⟩ nxp hnxp
        subst w3
        refine ifB_dec (fun hltp => ?_) (fun hgep => ?_)
        · have hltp : p < nx.length := by dsimp only at hltp; omega
          have hpl' : p < ll.length := by omega
          have hil : p < hs.length := by have := hII.len; omega
          have hrow := hI2.row p hil hpl'
          have hrn : hs[p].l = ll[p].length := hrow.len
          have h8p := h8 _ (List.getElem_mem hpl')
          have rd : ∀ {φ : Sl → Prop}, φ hs[p] → (0 ≤ (p : Int) ∧ (p : Int) < (s.l : Int)) ∧ derefP s.a fun a => ldS w2 (a.add (Int.toNat (p : Int))) φ := fun hφ => elemS hI2.top hil hφ
          refine LoopW.ghost (fun j st w' => ∃ k : Nat, ∃ u : Bool, k ≤ ll[p].length ∧ j = ll[p].length - k ∧ st = (u, (k : Int), ()) ∧ w' = w2 ∧ (u = true ↔ v = true ∨ ((p ∈ orderOf nx ∧ Anc ov x p) ∧ ∃ k', ∃ hk' : k' < ll[p].length, k' < k ∧ ll[p][k'] = (b : Int)))) ll[p].length
            ⟨0, v, by omega, rfl, rfl, rfl, ⟨fun e => .inl e, fun e => e.resolve_right fun ⟨_, k', _, hk', _⟩ => by omega⟩⟩ ?_
          rintro _ _ w4 ⟨k, u, hk, rfl, rfl, ew, hu⟩ nxk hnxk
          subst w4
          refine rd (ifB_dec (fun hltk => ?_) (fun hgek => ?_))
          · have hltk : k < ll[p].length := by dsimp only at hltk; omega
            refine JoinW.cut (fun st w' => ∃ u' : Bool, st = (u', ()) ∧ w' = w2 ∧ (u' = true ↔ v = true ∨ ((p ∈ orderOf nx ∧ Anc ov x p) ∧ ∃ k', ∃ hk' : k' < ll[p].length, k' < k + 1 ∧ ll[p][k'] = (b : Int)))) ?_ ?_
            · refine rd (elemI hrow hltk ?_)
              refine ifB_beq (fun he => ?_) (fun hne => ⟨u, rfl, rfl, ?_⟩)
              · refine hT.get (a := x) (b := p) hxn hltp fun c hc => ifB_bool (fun e => ⟨true, rfl, rfl, fun _ => .inr ⟨hc.1 e, k, hltk, by omega, he⟩, fun _ => rfl⟩) (fun e => ⟨u, rfl, rfl, ?_⟩)
                rw [hu]
                constructor
                · rintro (h1 | ⟨h1, _⟩)
                  · exact .inl h1
                  · rw [hc.2 h1] at e; cases e
                · rintro (h1 | ⟨h1, _⟩)
                  · exact .inl h1
                  · rw [hc.2 h1] at e; cases e
              · rw [hu]
                constructor
                · rintro (h1 | ⟨h1, k', h2, h3, h4⟩)
                  · exact .inl h1
                  · exact .inr ⟨h1, k', h2, by omega, h4⟩
                · rintro (h1 | ⟨h1, k', h2, h3, h4⟩)
                  · exact .inl h1
                  · refine .inr ⟨h1, k', h2, ?_, h4⟩
                    by_cases e : k' = k
                    · subst e; exact absurd h4 hne
                    · omega
            · rintro _ w5 ⟨u', rfl, e5, hu'⟩
              subst w5
              dsimp only
              rw [wrap64_succ (by omega)]
              exact hnxk (ll[p].length - (k + 1)) _ _ (by omega) ⟨k + 1, u', by omega, rfl, rfl, rfl, hu'⟩
          · have hkk : k = ll[p].length := by dsimp only at hgek; omega
            subst hkk
            dsimp only
            rw [wrap64_succ (by omega)]
            refine hnxp (nx.length - (p + 1)) _ _ (by omega) ⟨p + 1, u, by omega, rfl, rfl, rfl, ?_⟩
            rw [hu, hv]
            constructor
            · rintro (⟨p', h1, h2⟩ | ⟨h1, k', h2, _, h4⟩)
              · exact ⟨p', by omega, h2⟩
              · exact ⟨p, by omega, (hem p hpl' b).2 (by rw [← h4]; exact List.getElem_mem h2), h1⟩
            · rintro ⟨p', h1, h2, h3⟩
              by_cases e : p' = p
              · subst e
                obtain ⟨k', hk', e'⟩ := List.mem_iff_getElem.1 ((hem p' hpl' b).1 h2)
                exact .inr ⟨h3, k', hk', hk', e'⟩
              · exact .inl ⟨p', by omega, h2, h3⟩
        · have : p = nx.length := by dsimp only at hgep; omega
          subst this
          have hled : v = true ↔ ∃ p', Ed nx p' b ∧ DomP (orderOf nx) ov (x : Int) (p' : Int) := by
            rw [hv]
            constructor
            · rintro ⟨p', _, h2, h3⟩; exact ⟨p', h2, domP_nat.2 h3⟩
            · rintro ⟨p', h2, h3⟩; exact ⟨p', hd.lt (domP_nat.1 h3).1, h2, domP_nat.1 h3⟩
          have push : fr b = true → Nw (w2.alloc (.cells #[(.int .i64 (b : Int))] 3)) fun w8 =>
              appendS Try.prog 32 (.slice l.a l.l l.c) (.slice (some (Gk.blk w2.heap.size)) 1 1) w8 fun r23 w9 =>
              ∃ l' : Sl, (r23, ()) = (l', ()) ∧ Below w.heap.size w w9 ∧ w.heap.size ≤ w9.heap.size ∧ Own w9 3 1 l' (((List.range (b + 1)).filter fr).map iN) ∧ Fresh w.heap.size l' := fun hp => by
            have := hpl b
            refine push_own (y := b) rfl hb hz ho hf (by omega) fun r' w9 q1 q2 q3 q4 => ⟨r', rfl, q1, q2, ?_, q4⟩
            rw [filter_succ, hp]
            exact q3
          have skip : fr b = false → ∃ l' : Sl, (l, ()) = (l', ()) ∧ Below w.heap.size w w2 ∧ w.heap.size ≤ w2.heap.size ∧ Own w2 3 1 l' (((List.range (b + 1)).filter fr).map iN) ∧ Fresh w.heap.size l' := fun hp =>
            ⟨l, rfl, hb, hz, by rw [filter_succ, hp]; simpa using ho, hf⟩
          refine ifB_bool (fun e => ?_) (fun e => skip ?_)
          · have hl := hled.1 e
            refine ifB_beq (fun he => push ((hfr b).2 ⟨hl, .inl he⟩)) (fun hne => ?_)
            refine hT.get (a := x) (b := b) hxn hltb fun c hc => ifB_not (ifB_bool (fun ec => skip ?_) (fun ec => push ((hfr b).2 ⟨hl, .inr fun hD => ?_⟩)))
            · rw [← Bool.not_eq_true, hfr b]
              rintro ⟨_, h5⟩
              rcases h5 with h5 | h5
              · exact hne h5
              · exact h5 (domP_nat.2 (hc.1 ec))
            · rw [hc.2 (domP_nat.1 hD)] at ec; cases ec
          · rw [← Bool.not_eq_true, hfr b]
            rintro ⟨h5, _⟩
            have e : v = false := e
            rw [hled.2 h5] at e; cases e
      · rintro _ w15 ⟨l', rfl, q1, q2, q3, q4⟩
        dsimp only
        rw [wrap64_succ (by omega)]
        exact hnext (nx.length - (b + 1)) _ _ (by omega) ⟨b + 1, l', by omega, rfl, rfl, q1, q2, q3, q4⟩
    · have : b = nx.length := by dsimp only at hge; omega
      subst this
      exact hR l w2 hb ho
  · rw [if_neg hin] at hR
    have hd1 : depthOf (orderOf nx) dp i = -1 := by unfold depthOf; rw [if_neg hin]
    rw [hd1]
    exact ifB_true (by decide) (hR ⟨none, 0, 0⟩ w (Below.refl _ _) (Own.nil _ _ _))

/-- DomUps under way: k nodes have been gone up. -/
structure US (w5 : World) (x : Sl) (tb : Nat) (o : Obj) (k : Nat) (w' : World) : Prop where
  b : Below w5.heap.size w5 w'
  size : w5.heap.size + 6 < w'.heap.size
  lst : Blk w' w5.heap.size 32 [x.val]
  n : Blk w' (w5.heap.size + 1) 3 [.int .i64 (k : Int)]
  f : Blk w' (w5.heap.size + 2) 4 [.bool true]
  pp : Blk w' (w5.heap.size + 3) 47 [.pointer (some (Gk.blk tb))]
  rcd : w'.heap[w5.heap.size + 6]? = some o
  mark : w'.heap[w5.heap.size + 5]? = some (.deferred (some []))
section
variable {w5 w' w'' : World} {x : Sl} {tb k : Nat} {o : Obj}
theorem US.grow (h : US w5 x tb o k w') (hb : Below w'.heap.size w' w'') : US w5 x tb o k w'' := by
  have hs := h.size
  exact ⟨h.b.trans (hb.mono h.b.size), by have := hb.size; omega, h.lst.below hb, h.n.below hb, h.f.below hb, h.pp.below hb, (hb.block _ (by omega)).trans h.rcd, (hb.block _ (by omega)).trans h.mark⟩
theorem US.put (h : US w5 x tb o k w') (o' : Obj) : US w5 x tb o' k (w'.putObj (w5.heap.size + 6) o') :=
  ⟨h.b.putObj (by omega) _, by simpa using h.size, h.lst.put (by omega) _, h.n.put (by omega) _, h.f.put (by omega) _, h.pp.put (by omega) _, World.putObj_heap_same h.size, (World.putObj_heap_other (by omega)).trans h.mark⟩
theorem US.setN (h : US w5 x tb o k w') (k' : Nat) : US w5 x tb o k' (w'.setCell (Gk.blk (w5.heap.size + 1)) (.int .i64 (k' : Int))) :=
  ⟨h.b.setCell (by show w5.heap.size ≤ w5.heap.size + 1; omega) _, by simpa [World.setCell] using h.size, h.lst.other (by show w5.heap.size ≠ w5.heap.size + 1; omega) _, h.n.set0 _, h.f.other (by show w5.heap.size + 2 ≠ w5.heap.size + 1; omega) _, h.pp.other (by show w5.heap.size + 3 ≠ w5.heap.size + 1; omega) _,
    (heap_set_other (n := 0) (by omega) _).trans h.rcd, (heap_set_other (n := 0) (by omega) _).trans h.mark⟩
end

set_option maxHeartbeats 8000000 in
theorem DomUps_spec {s : Sl} {hs : List Sl} {ll : List (List Int)} {i stop : Int} {w : World} {R : Value → World → Prop} (h : IsII w s hs ll) (_h24 : 24 * ll.length ≤ 281474976710656) (h8 : ∀ l ∈ ll, 8 * l.length ≤ 281474976710656)
    (hR : ∀ w', Below w.heap.size w w' → R (.bool true) w') : callR Try.prog 12 #[.slice s.a s.l s.c, .int .i64 i, .int .i64 stop] w R := by
  refine callR.of (intagliolaw15_DomUps_calls s i stop R w ?_) fun _ _ h => h
  unfold L_intagliolaw15_DomUps
  refine Nw.gen fun w1 hw1 => ?_
  have hS1 : Blk w1 w.heap.size 3 [.int .i64 stop] := by rw [hw1]; exact Blk.new w _ #[_]
  have b1 : Below w.heap.size w w1 := by rw [hw1]; exact (Below.refl _ _).alloc (Nat.le_refl _) _
  have z1 : w1.heap.size = w.heap.size + 1 := by rw [hw1]; simp
  clear hw1
  refine sound_spec h8 (h.below b1) ⟨_, rfl, ifB_true rfl (hR w1 b1)⟩ fun h0 h1 hG => ⟨_, rfl, ifB_false rfl ?_⟩
  refine tree_spec (h.below b1) (fun hn => absurd ⟨h0, by omega, hG⟩ hn) fun _ _ _ w3 tb ov dp b3 hd => ⟨_, _, rfl, ?_⟩
  have z3 := b3.size
  have b03 : Below w.heap.size w w3 := b1.trans (b3.mono (by omega))
  refine Table_spec h0 (by omega) hG h8 (h.below b03) fun w4 t b4 hT => ⟨t, rfl, ?_⟩
  have z4 := b4.size
  have b04 : Below w.heap.size w w4 := b03.trans (b4.mono (by omega))
  have hd4 := hd.below b4
  have hT4 : TabD w4 t (edges ll) ov := by
    have : Tab w4 t (edges ll).length (DomR (edges ll)) := by rw [edges_length]; exact hT
    exact this.congr fun a b _ => hd.domR a b
  refine rUp_spec hd4 hT4 fun x w5 b5 o5 => ⟨x, rfl, ?_⟩
  have z5 := b5.size
  have b05 : Below w.heap.size w w5 := b04.trans (b5.mono (by omega))
  have hd5 := hd4.below b5
  have hT5 := hT4.below b5
  have hII5 := h.below b05
  have hS5 : Blk w5 w.heap.size 3 [.int .i64 stop] := hS1.below (b3.trans ((b4.mono z3).trans (b5.mono (by omega))))
  clear hT hT4 hd4 hd b5 b4 b3 hS1 b04 b03
  obtain ⟨U, hU⟩ : ∃ U, U = upOf (edges ll) ov dp i := ⟨_, rfl⟩
  rw [← hU] at o5
  have hxl := own_len o5
  have hUl : U.length ≤ 4097 := by
    rw [hU]
    by_cases hin : inOd (orderOf (edges ll)) i = true
    · obtain ⟨y, rfl, hy⟩ := inOd_iff.1 hin
      have hm := hd5.dpo.mem y hy
      have hrl := List.idxOf_lt_length_of_mem hy
      have hol := order_len (edges ll)
      have hwl := hd5.ok.walk_le
      have hmx := hd5.ok.max
      have hrk : rkOf (orderOf (edges ll)) y < 4096 := by unfold rkOf; omega
      rw [upOf_in hy, (hd5.upL_spec _ y hy (by omega)).1]
      omega
    · unfold upOf; rw [if_neg hin]; simp
  refine Nw.gen fun w6 hw6 => ?_
  have hL6 : Blk w6 w5.heap.size 32 [(⟨none, 0, 0⟩ : Sl).val] := by rw [hw6]; exact Blk.new w5 _ #[_]
  have b6 : Below w5.heap.size w5 w6 := by rw [hw6]; exact (Below.refl _ _).alloc (Nat.le_refl _) _
  have z6 : w6.heap.size = w5.heap.size + 1 := by rw [hw6]; simp
  clear hw6
  refine ⟨hL6.wr0 (by simp), Nw.gen fun w7 hw7 => ?_⟩
  have hL7 : Blk w7 w5.heap.size 32 [x.val] := by rw [hw7]; exact hL6.set0 _
  have b7 : Below w5.heap.size w5 w7 := by rw [hw7]; exact b6.setCell (Nat.le_refl _) _
  have z7 : w7.heap.size = w5.heap.size + 1 := by rw [hw7]; simpa [World.setCell] using z6
  clear hw7 hL6
  refine Nw.gen fun w8 hw8 => ?_
  have hN8 : Blk w8 w7.heap.size 3 [.int .i64 0] := by rw [hw8]; exact Blk.new w7 _ #[_]
  have b8 : Below w7.heap.size w7 w8 := by rw [hw8]; exact (Below.refl _ _).alloc (Nat.le_refl _) _
  have z8 : w8.heap.size = w7.heap.size + 1 := by rw [hw8]; simp
  clear hw8
  refine ⟨hN8.wr0 (by simp), Nw.gen fun w9 hw9 => ?_⟩
  have hN9 : Blk w9 w7.heap.size 3 [.int .i64 ((0 : Nat) : Int)] := by rw [hw9]; exact hN8.set0 _
  have b9 : Below w7.heap.size w7 w9 := by rw [hw9]; exact b8.setCell (Nat.le_refl _) _
  have z9 : w9.heap.size = w7.heap.size + 1 := by rw [hw9]; simpa [World.setCell] using z8
  clear hw9 hN8
  refine Nw.gen fun w10 hw10 => ?_
  have hF10 : Blk w10 w9.heap.size 4 [.bool false] := by rw [hw10]; exact Blk.new w9 _ #[_]
  have b10 : Below w9.heap.size w9 w10 := by rw [hw10]; exact (Below.refl _ _).alloc (Nat.le_refl _) _
  have z10 : w10.heap.size = w9.heap.size + 1 := by rw [hw10]; simp
  clear hw10
  refine ⟨hF10.wr0 (by simp), Nw.gen fun w11 hw11 => ?_⟩
  have hF11 : Blk w11 w9.heap.size 4 [.bool true] := by rw [hw11]; exact hF10.set0 _
  have b11 : Below w9.heap.size w9 w11 := by rw [hw11]; exact b10.setCell (Nat.le_refl _) _
  have z11 : w11.heap.size = w9.heap.size + 1 := by rw [hw11]; simpa [World.setCell] using z10
  clear hw11 hF10
  refine Up_spec fun w12 hP12 hI12 b12 z12 => ⟨_, rfl, funcNil_func (ifB_false rfl ?_)⟩
  have ez7 : w7.heap.size = w5.heap.size + 1 := z7
  have ez9 : w9.heap.size = w5.heap.size + 2 := by omega
  have ez11 : w11.heap.size = w5.heap.size + 3 := by omega
  have ez12 : w12.heap.size = w5.heap.size + 5 := by omega
  have bb12 : Below w5.heap.size w5 w12 := b7.trans ((b9.mono (by omega)).trans ((b11.mono (by omega)).trans (b12.mono (by omega))))
  have hL12 := ((hL7.below b9).below b11).below b12
  have hN12 := (hN9.below b11).below b12
  have hF12 := hF11.below b12
  rw [ez7] at hN12 ⊢
  rw [ez9] at hF12 ⊢
  rw [ez11] at hP12 hI12 ⊢
  have start : ∀ o : Obj, US w5 x tb o 0 ((w12.alloc (.deferred (some []))).alloc o) := fun o => by
    have bl := laid_below w12 (.deferred (some [])) o
    have h1 := laid_l w12 (.deferred (some [])) o
    have h2 := laid_d w12 (.deferred (some [])) o
    rw [ez12] at h1 h2
    exact ⟨bb12.trans (bl.mono (by omega)), by rw [laid_size]; omega, hL12.below bl, hN12.below bl, hF12.below bl, hP12.below bl, h1, h2⟩
  refine JoinW.cut (fun st w' => st = ((), [w5.heap.size + 5]) ∧ ∃ o k, US w5 x tb o k w' ∧ ((k = U.length ∧ ∀ j : Nat, 1 ≤ j → j ≤ k → (j : Int) ≠ stop) ∨ ((k : Int) = stop ∧ 1 ≤ k ∧ k ≤ U.length))) ?_ ?_
  · refine up_range (hd5.below bb12) hP12 hI12 fun mk => ?_
    rw [ez12]
    have hl6 : w5.heap.size + 5 + 1 = w5.heap.size + 6 := rfl
    refine ⟨fun o w' => ∃ k, US w5 x tb (mk .ready none) k w' ∧ o = U[k]? ∧ k ≤ U.length ∧ ∀ j : Nat, 1 ≤ j → j ≤ k → (j : Int) ≠ stop, fun hin => ⟨0, start _, ?_, Nat.zero_le _, fun j h1 h2 => by omega⟩, fun hin => .inl ⟨(start _).rcd, rfl, _, 0, (start _).put _, .inl ⟨?_, fun j h1 h2 => by omega⟩⟩, fun o w' ⟨k, g, _⟩ => ⟨hd5.below g.b, g.pp⟩, fun y w' hy hI => ?_, fun w' ⟨k, g, e, hk, hst⟩ => .inl ⟨g.rcd, rfl, _, k, g.put _, .inl ⟨?_, hst⟩⟩⟩
    · obtain ⟨y, rfl, hy⟩ := inOd_iff.1 hin
      have hm := hd5.dpo.mem y hy
      rw [hU, upOf_in hy, (hd5.upL_spec _ y hy (by omega)).2.2.2]
      rfl
    · rw [hU]; unfold upOf; rw [if_neg (by rw [hin]; simp)]; rfl
    · obtain ⟨k, g, e, hk, hst⟩ := hI
      refine ⟨g.rcd, g.rcd, Nw.mk ?_⟩
      have hkl : k < U.length := by
        rcases Nat.lt_or_ge k U.length with h | h
        · exact h
        · rw [List.getElem?_eq_none h] at e; cases e
      have hyk : U[k] = y := by rw [List.getElem?_eq_getElem hkl] at e; exact (Option.some.inj e).symm
      have g := g.put (mk .busy none)
      have o5' := o5.below g.b
      refine JoinW.cut (fun _ w'' => w'' = w'.putObj (w5.heap.size + 6) (mk .busy none)) ⟨_, g.n.cell0 rfl, x, g.lst.cell0 rfl, ifB_dec (fun hge => absurd hge (by omega)) fun _ => ⟨x, g.lst.cell0 rfl, _, g.n.cell0 rfl, ?_⟩⟩ ?_
      · refine elemI o5'.isS.toI (k := k) (by simpa using hkl) ?_
        rw [List.getElem_map, hyk]
        exact ifB_bne (fun hne => absurd rfl hne) fun _ => rfl
      · rintro _ wq ewq
        subst wq
        refine ⟨_, g.n.cell0 rfl, g.n.wr0 (by simp), ?_⟩
        rw [wrap64_succ (by omega)]
        refine Nw.mk ?_
        have g := g.setN (k + 1)
        refine ⟨_, g.n.cell0 rfl, _, (hS5.below g.b).cell0 rfl, ifB_beq (fun he => ⟨g.rcd, .inr ⟨rfl, .inr ?_⟩⟩) fun hne => ⟨g.rcd, .inl ⟨rfl, k + 1, g.put _, ?_, hkl, fun j h1 h2 => ?_⟩⟩⟩
        · have g := g.put (mk .done (some (.exit 0)))
          exact ⟨g.rcd, rfl, _, k + 1, g.put _, .inr ⟨he, by omega, hkl⟩⟩
        · -- the next one up
          have hin : inOd (orderOf (edges ll)) i = true := by
            rw [← Bool.not_eq_false]
            intro hin
            rw [hU] at hkl
            unfold upOf at hkl
            rw [if_neg (by rw [hin]; simp)] at hkl
            simp at hkl
          obtain ⟨z, rfl, hz⟩ := inOd_iff.1 hin
          have hm := hd5.dpo.mem z hz
          have := (hd5.upL_spec _ z hz (show dp z + 1 = (((dp z).toNat + 1 : Nat) : Int) by omega)).2.2.1 k
          rw [← upOf_in hz, ← hU] at this
          rw [this, ← e]
          rfl
        · by_cases e' : j = k + 1
          · subst e'; exact hne
          · exact hst j h1 (by omega)
    · rcases Nat.lt_or_ge k U.length with h | h
      · rw [List.getElem?_eq_getElem h] at e; cases e
      · omega
  rintro _ w22 ⟨rfl, o, k, g, hk⟩
  refine ⟨x, g.lst.cell0 rfl, ?_⟩
  refine JoinW.cut (fun st w' => st = ((k : Int), ()) ∧ w' = w22) ?_ ?_
  · have hs' := (hS5.below g.b).cell0 (v := .int .i64 stop) rfl
    refine ⟨stop, hs', ifB_dec (fun hpos => ⟨stop, hs', ifB_dec (fun hlt => ⟨stop, hs', ?_, rfl⟩) fun hge => ⟨?_, rfl⟩⟩) fun hneg => ⟨?_, rfl⟩⟩
    · rcases hk with ⟨h1, h2⟩ | ⟨h1, _⟩
      · exact absurd (show ((stop.toNat : Nat) : Int) = stop by omega) (h2 stop.toNat (by omega) (by omega))
      · rw [h1]
    · rcases hk with ⟨h1, h2⟩ | ⟨h1, h2, h3⟩
      · rw [h1, hxl]
      · rw [show (x.l : Int) = (k : Int) by omega]
    · rcases hk with ⟨h1, h2⟩ | ⟨h1, h2, h3⟩
      · rw [h1, hxl]
      · omega
  rintro _ w23 ⟨rfl, e23⟩
  subst w23
  obtain ⟨fr, hfr⟩ : ∃ fr : Nat → Bool, ∀ k, fr k = true ↔ FrP (edges ll) ov i k := ⟨fun k => @decide (FrP (edges ll) ov i k) (Classical.propDecidable _), fun k => by simp⟩
  have hmax : ll.length ≤ 4096 := by omega
  refine Frontier_spec (hd5.below g.b) hfr fun r w24 b24 o24 f24 => ⟨r, rfl, ?_⟩
  have zg := g.b.size
  have z24 := b24.size
  have g24 := g.grow b24
  refine JoinW.cut (fun _ w' => Below w24.heap.size w24 w') ⟨true, g24.f.cell0 rfl, ifB_false rfl ⟨_, g24.n.cell0 rfl, ifB_bne (fun hne => absurd rfl hne) fun _ => ?_⟩⟩ ?_
  · refine rFrontier_spec hmax hG h8 (hII5.below g24.b) hd5 (hT5.below g24.b) hfr fun r2 w27 b27 o27 => ⟨r2, rfl, ?_⟩
    exact same_spec (o24.below b27).isS o27.isS fun w28 b28 => ⟨true, rfl, ifB_false rfl (b27.trans (b28.mono b27.size))⟩
  intro _ w30 b30
  have z30 := b30.size
  refine Spoil_spec (o24.below b30) fun w31 hon => ⟨rfl, ?_⟩
  have b31 : Below w22.heap.size w22 w31 := (b24.trans (b30.mono (by omega))).trans (hon.below fun a ha => f24 a ha)
  have z31 := b31.size
  have g31 := g.grow b31
  refine Frontier_spec (hd5.below g31.b) hfr fun r3 w32 b32 o32 _ => ⟨r3, rfl, ?_⟩
  have g32 := g31.grow b32
  refine rFrontier_spec hmax hG h8 (hII5.below g32.b) hd5 (hT5.below g32.b) hfr fun r4 w33 b33 o33 => ⟨r4, rfl, ?_⟩
  have g33 := g32.grow b33
  refine same_spec (o32.below b33).isS o33.isS fun w34 b34 => ⟨true, rfl, ?_⟩
  have g34 := g33.grow b34
  refine closeM_one g34.mark (hR _ ?_)
  exact (b05.trans (g34.b.mono (by have := b05.size; omega))).putObj (by have := b05.size; omega) _

end Go.Proofs
