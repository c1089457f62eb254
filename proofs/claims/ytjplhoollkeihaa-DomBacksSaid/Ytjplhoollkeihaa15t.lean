/-
  The statement DomBacks: every edge back.
-/
import Derived.Test.Ytjplhoollkeihaa15r
import Derived.Test.Ytjplhoollkeihaa15p
import Derived.Test.YtjplhoollkeihaaL15e
namespace Go.Proofs
open Go.Gk Go.RowKit Go.Gr Go.Dm

set_option maxHeartbeats 4000000 in
theorem rBacks_spec {s : Sl} {hs : List Sl} {ll : List (List Int)} (hmax : ll.length ≤ 4096) (hG : Good ll) (h8 : ∀ l ∈ ll, 8 * l.length ≤ 281474976710656) {w0 w : World} {tb : Nat} {ov : Nat → Option Nat} {dp : Nat → Int} {t : Sl} {R : Value → World → Prop} (hII : IsII w s hs ll)
    (hd : Dt w0 tb (edges ll) ov dp) (h : TabD w t (edges ll) ov) {bk : Nat → Nat → Bool} (hbk : ∀ i k, bk i k = true ↔ BkP (edges ll) ov i k)
    (hR : ∀ r w', Below w.heap.size w w' → Own w' 105 2 r (cellsP (bkL (edges ll).length bk (edges ll).length)) → R (.slice r.a r.l r.c) w') :
    callR Try.prog 85 #[.slice s.a s.l s.c, .slice t.a t.l t.c] w R := by
  refine callR.of (intaglioref15_Backs_calls s t R w ?_) fun _ _ h => h
  obtain ⟨nx, hnx⟩ : ∃ nx, nx = edges ll := ⟨_, rfl⟩
  have hnl : nx.length = ll.length := by rw [hnx, edges_length]
  have hem : ∀ i (hi : i < ll.length) (x : Nat), x ∈ nx.getD i [] ↔ (x : Int) ∈ ll[i] := fun i hi x => by rw [hnx]; exact edge_mem hG hi x
  have hsl : s.l = ll.length := by have := hII.top.len; have := hII.len; omega
  rw [← hnx] at hd h hbk hR
  have htl := h.len
  have hnn : ∀ m, m ≤ nx.length → m * nx.length ≤ 4096 * 4096 := fun m hm => Nat.mul_le_mul (by omega) (by omega)
  refine LoopW.ghost (fun j s w' => ∃ m : Nat, ∃ l : Sl, m ≤ nx.length ∧ j = nx.length - m ∧ s = (l, (m : Int), ()) ∧ Below w.heap.size w w' ∧ w.heap.size ≤ w'.heap.size ∧ Own w' 105 2 l (cellsP (bkL nx.length bk m)) ∧ Fresh w.heap.size l) nx.length
    ⟨0, ⟨none, 0, 0⟩, by omega, rfl, rfl, Below.refl _ _, Nat.le_refl _, Own.nil _ _ _, fun a ha => by cases ha⟩ ?_
  rintro _ _ w1 ⟨m, l, hm, rfl, rfl, hb, hz, ho, hf⟩ next hnext
  refine ifB_dec (fun hlt => ?_) (fun hge => ?_)
  · have hlt : m < nx.length := by dsimp only at hlt; omega
    have hml := hnn m hm
    have hbl := bkL_len nx.length bk m
    have hfl : ∀ q, q ≤ nx.length → ((List.range q).filter (bk m)).length ≤ nx.length := fun q hq => by
      have h1 := List.length_filter_le (bk m) (List.range q)
      rw [List.length_range] at h1
      omega
    refine LoopW.ghost (fun j s w' => ∃ q : Nat, ∃ l : Sl, q ≤ nx.length ∧ j = nx.length - q ∧ s = (l, (q : Int), ()) ∧ Below w.heap.size w w' ∧ w.heap.size ≤ w'.heap.size ∧ Own w' 105 2 l (cellsP (bkL nx.length bk m ++ ((List.range q).filter (bk m)).map fun k => (m, k))) ∧ Fresh w.heap.size l) nx.length
      ⟨0, l, by omega, rfl, rfl, hb, hz, by simpa using ho, hf⟩ ?_
    rintro _ _ w2 ⟨q, l, hq, rfl, rfl, hb, hz, ho, hf⟩ nxq hnxq
    refine ifB_dec (fun hltq => ?_) (fun hgeq => ?_)
    · have hltq : q < nx.length := by dsimp only at hltq; omega
      have hT := h.below hb
      have hI2 := hII.below hb
      have hml' : m < ll.length := by omega
      have hil : m < hs.length := by have := hII.len; omega
      have hrow := hI2.row m hil hml'
      have hrn : hs[m].l = ll[m].length := hrow.len
      have h8p := h8 _ (List.getElem_mem hml')
      have rd : ∀ {φ : Sl → Prop}, φ hs[m] → (0 ≤ (m : Int) ∧ (m : Int) < (s.l : Int)) ∧ derefP s.a fun a => ldS w2 (a.add (Int.toNat (m : Int))) φ := fun hφ => elemS hI2.top hil hφ
      refine JoinW.cut (fun s w' => ∃ l : Sl, s = (l, ()) ∧ Below w.heap.size w w' ∧ w.heap.size ≤ w'.heap.size ∧ Own w' 105 2 l (cellsP (bkL nx.length bk m ++ ((List.range (q + 1)).filter (bk m)).map fun k => (m, k))) ∧ Fresh w.heap.size l) ?_ ?_
      · have skip : bk m q = false → ∃ l' : Sl, (l, ()) = (l', ()) ∧ Below w.heap.size w w2 ∧ w.heap.size ≤ w2.heap.size ∧ Own w2 105 2 l' (cellsP (bkL nx.length bk m ++ ((List.range (q + 1)).filter (bk m)).map fun k => (m, k))) ∧ Fresh w.heap.size l' := fun hp =>
          ⟨l, rfl, hb, hz, by rw [filter_succ, hp]; simpa using ho, hf⟩
        refine LoopW.ghost (fun j st w' => ∃ k : Nat, ∃ u : Bool, k ≤ ll[m].length ∧ j = ll[m].length - k ∧ st = (u, (k : Int), ()) ∧ w' = w2 ∧ (u = true ↔ ∃ k', ∃ hk' : k' < ll[m].length, k' < k ∧ ll[m][k'] = (q : Int))) ll[m].length
          ⟨0, false, by omega, rfl, rfl, rfl, ⟨fun e => (by cases e), fun ⟨k', _, hk', _⟩ => (by omega)⟩⟩ ?_
        rintro _ _ w4 ⟨k, u, hk, rfl, rfl, ew, hu⟩ nxk hnxk
        subst w4
        refine rd (ifB_dec (fun hltk => ?_) (fun hgek => ?_))
        · have hltk : k < ll[m].length := by dsimp only at hltk; omega
          refine JoinW.cut (fun st w' => ∃ u' : Bool, st = (u', ()) ∧ w' = w2 ∧ (u' = true ↔ ∃ k', ∃ hk' : k' < ll[m].length, k' < k + 1 ∧ ll[m][k'] = (q : Int))) ?_ ?_
          · refine rd (elemI hrow hltk ?_)
            refine ifB_beq (fun he => ⟨true, rfl, rfl, fun _ => ⟨k, hltk, by omega, he⟩, fun _ => rfl⟩) (fun hne => ⟨u, rfl, rfl, ?_⟩)
            rw [hu]
            constructor
            · rintro ⟨k', h2, h3, h4⟩; exact ⟨k', h2, by omega, h4⟩
            · rintro ⟨k', h2, h3, h4⟩
              refine ⟨k', h2, ?_, h4⟩
              by_cases e : k' = k
              · subst e; exact absurd h4 hne
              · omega
          · rintro _ w5 ⟨u', rfl, e5, hu'⟩
            subst w5
            dsimp only
            rw [wrap64_succ (by omega)]
            exact hnxk (ll[m].length - (k + 1)) _ _ (by omega) ⟨k + 1, u', by omega, rfl, rfl, rfl, hu'⟩
        · have hkk : k = ll[m].length := by dsimp only at hgek; omega
          subst hkk
          have hue : u = true ↔ Ed nx m q := by
            rw [hu]
            constructor
            · rintro ⟨k', h2, _, h4⟩; exact (hem m hml' q).2 (by rw [← h4]; exact List.getElem_mem h2)
            · intro h2
              obtain ⟨k', hk', e'⟩ := List.mem_iff_getElem.1 ((hem m hml' q).1 h2)
              exact ⟨k', hk', hk', e'⟩
          refine ifB_bool (fun e => ?_) (fun e => skip ?_)
          · refine hT.get (a := q) (b := m) hltq hlt fun c hc => ifB_bool (fun ec => ?_) (fun ec => skip ?_)
            · have hp : bk m q = true := (hbk m q).2 ⟨hue.1 e, domP_nat.2 (hc.1 ec)⟩
              have := hfl q hq
              refine push_pair (P := bkL nx.length bk m ++ ((List.range q).filter (bk m)).map fun k => (m, k)) (a := m) (b := q) hb hz ho hf (by rw [List.length_append, List.length_map]; omega) fun r' w9 g1 g2 g3 g4 _ => ⟨r', rfl, g1, g2, ?_, g4⟩
              rw [filter_succ, hp, if_pos rfl, List.map_append, ← List.append_assoc]
              exact g3
            · rw [← Bool.not_eq_true, hbk m q]
              rintro ⟨_, h5⟩
              rw [hc.2 (domP_nat.1 h5)] at ec; cases ec
          · have e : u = false := e
            rw [← Bool.not_eq_true, hbk m q]
            rintro ⟨h5, _⟩
            rw [hue.2 h5] at e; cases e
      · rintro _ w15 ⟨l', rfl, g1, g2, g3, g4⟩
        dsimp only
        rw [wrap64_succ (by omega)]
        exact hnxq (nx.length - (q + 1)) _ _ (by omega) ⟨q + 1, l', by omega, rfl, rfl, g1, g2, g3, g4⟩
    · have : q = nx.length := by dsimp only at hgeq; omega
      subst this
      dsimp only
      rw [wrap64_succ (by omega)]
      exact hnext (nx.length - (m + 1)) _ _ (by omega) ⟨m + 1, l, hlt, rfl, rfl, hb, hz, by rw [bkL_succ]; exact ho, hf⟩
  · have : m = nx.length := by dsimp only at hge; omega
    subst this
    exact hR l w1 hb ho

theorem cellsP_get : ∀ (P : List (Nat × Nat)) (i : Nat) (h : i < P.length), (cellsP P)[i * 2]? = some (iN P[i].1) ∧ (cellsP P)[i * 2 + 1]? = some (iN P[i].2)
  | p :: r, 0, _ => by simp [cellsP]
  | p :: r, i + 1, h => by
    have := cellsP_get r i (by simpa using h)
    have e : cellsP (p :: r) = iN p.1 :: iN p.2 :: cellsP r := by simp [cellsP]
    rw [e, show (i + 1) * 2 = i * 2 + 2 by omega, show i * 2 + 2 + 1 = i * 2 + 1 + 2 by omega]
    simpa using this
theorem own_pair {w : World} {r : Sl} {P : List (Nat × Nat)} (h : Own w 105 2 r (cellsP P)) {i : Nat} (hi : i < P.length) {φ : Int → Int → Prop} (hφ : φ (P[i].1 : Int) (P[i].2 : Int)) :
    (0 ≤ (i : Int) ∧ (i : Int) < (r.l : Int)) ∧ derefP r.a fun a => ldI w ((a.add ((Int.toNat (i : Int)) * 2)).add 0) .i64 fun x => ldI w ((a.add ((Int.toNat (i : Int)) * 2)).add 1) .i64 fun y => φ x y := by
  have hl : r.l = P.length := by have := h.1; rw [cellsP_len] at this; omega
  rcases h.2 with rfl | ⟨b, cs, ha, hB, _, _, _, htk⟩
  · simp at hl; omega
  · have hc : ∀ j u, j < r.l * 2 → (cellsP P)[j]? = some u → cs[j]? = some u := fun j u hj hu => by rw [← htk, List.getElem?_take_of_lt hj] at hu; exact hu
    obtain ⟨g1, g2⟩ := cellsP_get P i hi
    have tn : Int.toNat (i : Int) = i := rfl
    refine ⟨⟨by omega, by omega⟩, derefP_some ha ⟨_, ?_, _, ?_, hφ⟩⟩
    · rw [tn, add_add _ _ _ rfl]; exact hB.cell (hc _ _ (by omega) g1)
    · rw [tn, add_add _ _ _ rfl]; exact hB.cell (hc _ _ (by omega) g2)

theorem DomBacks_spec {s : Sl} {hs : List Sl} {ll : List (List Int)} {w : World} {R : Value → World → Prop} (h : IsII w s hs ll) (_h24 : 24 * ll.length ≤ 281474976710656) (h8 : ∀ l ∈ ll, 8 * l.length ≤ 281474976710656)
    (hR : ∀ w', Below w.heap.size w w' → R (.bool true) w') : callR Try.prog 21 #[.slice s.a s.l s.c] w R := by
  refine callR.of (intagliolaw15_DomBacks_calls s R w ?_) fun _ _ h => h
  refine sound_spec h8 h ⟨_, rfl, ifB_true rfl (hR w (Below.refl _ _))⟩ fun h0 h1 hG => ⟨_, rfl, ifB_false rfl ?_⟩
  refine tree_spec h (fun hn => absurd ⟨h0, by omega, hG⟩ hn) fun _ _ _ w2 tb ov dp b2 hd => ⟨_, _, rfl, ?_⟩
  refine Table_spec h0 (by omega) hG h8 (h.below b2) fun w3 t b3 hT => ⟨t, rfl, ?_⟩
  have z2 := b2.size
  have z3 := b3.size
  have b03 : Below w.heap.size w w3 := b2.trans (b3.mono z2)
  have hd3 := hd.below b3
  have hT3 : TabD w3 t (edges ll) ov := by
    have : Tab w3 t (edges ll).length (DomR (edges ll)) := by rw [edges_length]; exact hT
    exact this.congr fun a b _ => hd.domR a b
  obtain ⟨bk, hbk⟩ : ∃ bk : Nat → Nat → Bool, ∀ i k, bk i k = true ↔ BkP (edges ll) ov i k := ⟨fun i k => @decide (BkP (edges ll) ov i k) (Classical.propDecidable _), fun i k => by simp⟩
  refine rBacks_spec (by omega) hG h8 (h.below b03) hd3 hT3 hbk fun r w4 b4 o4 => ⟨r, rfl, ?_⟩
  have z4 := b4.size
  refine Backs_spec (hd3.below b4) hbk fun r5 w5 b5 o5 => ⟨r5, rfl, ?_⟩
  have z5 := b5.size
  have b05 : Below w.heap.size w w5 := (b03.trans (b4.mono (by omega))).trans (b5.mono (by omega))
  have o4' := o4.below b5
  obtain ⟨P, hP⟩ : ∃ P, P = bkL (edges ll).length bk (edges ll).length := ⟨_, rfl⟩
  have hPl : P.length ≤ 1048576 := by
    have := bkL_len (edges ll).length bk (edges ll).length
    have e := edges_length ll
    have : (edges ll).length * (edges ll).length ≤ 1024 * 1024 := Nat.mul_le_mul (by omega) (by omega)
    rw [hP]; omega
  rw [← hP] at o4' o5
  have hl4 : r.l = P.length := by have := o4'.1; rw [cellsP_len] at this; omega
  have hl5 : r5.l = P.length := by have := o5.1; rw [cellsP_len] at this; omega
  refine JoinW.cut (fun _ w' => w' = w5) (ifB_false rfl (ifB_bne (fun hne => absurd (by rw [hl4, hl5]) hne) fun _ => rfl)) ?_
  rintro _ wq ewq
  subst wq
  refine LoopW.count P.length (by omega) (fun k w' => Below w5.heap.size w5 w') (Below.refl _ _) ?_
  rintro k w7 hk b7 next hnext
  refine ifB_dec (fun hlt => ?_) (fun hge => hR w7 (b05.trans (b7.mono (by omega))))
  have hlt : k < P.length := by dsimp only at hlt; omega
  refine own_pair (o5.below b7.drew) hlt (own_pair (o4'.below b7.drew) hlt ?_)
  exact ifB_false (by simp) (hnext _ hlt b7.drew)

end Go.Proofs
