/-
  ids: a module in new memory; who uses an id, what it is called.
-/
import Derived.Test.YtocnlbhoibplbaaL09
import Derived.Test.Ytocnlbhoibplbaa04r
namespace Go.Proofs
open Go.Gk Go.RowKit Go.Gm

/-! ### A module in new memory -/
/-- What CopyModule lays: the instructions at block b, each one's arguments in a block of its own behind. -/
def Cpy (w : World) (b : Nat) (pl : List PI) : Prop :=
  ∃ hs : List Ins, hs.length = pl.length ∧ Blk w b 26 (flat inV hs) ∧ ∀ (j : Nat) (h : j < hs.length) (h' : j < pl.length), ∃ c, b < c ∧ hs[j] = mkIn pl[j] ⟨some (blk c), pl[j].2.2.2.length, pl[j].2.2.2.length⟩ ∧ Blk w c 57 (flat agV pl[j].2.2.2)
theorem Cpy.below {w w' : World} {b : Nat} {pl : List PI} (h : Cpy w b pl) (hb : Below w.heap.size w w') : Cpy w' b pl := by
  obtain ⟨hs, h1, h2, h3⟩ := h
  refine ⟨hs, h1, h2.below hb, fun j hj hj' => ?_⟩
  obtain ⟨c, h4, h5, h6⟩ := h3 j hj hj'
  exact ⟨c, h4, h5, h6.below hb⟩
theorem Cpy.isPl {w : World} {b : Nat} {pl : List PI} (h : Cpy w b pl) (hm : pl.length ≤ 9223372036854775807) (hm' : ∀ p ∈ pl, p.2.2.2.length ≤ 9223372036854775807) : IsPl w ⟨some (blk b), pl.length, pl.length⟩ pl := by
  obtain ⟨hs, h1, h2, h3⟩ := h
  refine ⟨rfl, Nat.le_refl _, hm, (fun h => by cases h), fun a ha k hk => ?_⟩
  cases ha
  obtain ⟨c, h4, h5, h6⟩ := h3 k (by omega) hk
  refine ⟨⟨some (blk c), pl[k].2.2.2.length, pl[k].2.2.2.length⟩, fun j hj => ?_, Blk.isC agV_len (by omega) h6 (hm' _ (List.getElem_mem hk))⟩
  rw [← h5]
  have hg := flat_get inV_len hs k (by omega) j hj
  have hlt : j < (inV (hs[k]'(by omega))).length := hj
  rw [List.getElem?_eq_getElem hlt] at hg ⊢
  exact h2.cell hg
theorem CopyModule_spec {x : Mo} {pl : List PI} {w : World} {R : Value → World → Prop} (hN : IsPl w x.2.2.1 pl) (hp : PlOk pl)
    (hR : ∀ b w', w.heap.size ≤ b → Cpy w' b pl → IsPl w' ⟨some (blk b), pl.length, pl.length⟩ pl → Below w.heap.size w w' → R (moA (x.1, x.2.1, ⟨some (blk b), pl.length, pl.length⟩, ())) w') :
    callR Try.prog 17 #[moA x] w R := by
  refine callR.of (intagliokit_CopyModule_calls x R w ?_) fun _ _ h => h
  refine lay_of fun w1 hB1 b1 z1 => ?_
  have hB1 : Blk w1 w.heap.size 37 (moV x) := hB1
  refine lay_of fun w2 hC2 b2 z2 => ?_
  have hC2 : Blk w2 w1.heap.size 37 [.int .u32 0, .int .u32 0, .slice none 0 0] := hC2
  have hB2 := hB1.below b2
  have hl := hN.len
  have h40 := hp.len
  refine hB2.rS (n := 2) rfl ⟨⟨by omega, by omega, by omega, by omega⟩, ?_⟩
  refine lay_of fun w3 hD3 b3 z3 => ?_
  have hb3 := (b1.on b2).on b3
  have hB3 := hB2.below b3
  have hC3 := hC2.below b3
  have hargs : ∀ p ∈ pl, p.2.2.2.length ≤ 9223372036854775807 := fun p h => by have := hp.args p h; omega
  refine LoopW.count pl.length hN.bound (fun k w' => Below w.heap.size w w' ∧ w3.heap.size ≤ w'.heap.size ∧ Blk w' w.heap.size 37 (moV x) ∧ Blk w' w1.heap.size 37 [.int .u32 0, .int .u32 0, .slice none 0 0] ∧
      ∃ (hs : List Ins) (r : List Value), hs.length = k ∧ Blk w' w2.heap.size 26 (flat inV hs ++ r) ∧ r.length = (pl.length - k) * 4 ∧
        ∀ (j : Nat) (h : j < hs.length) (h' : j < pl.length), ∃ c, w2.heap.size < c ∧ hs[j] = mkIn pl[j] ⟨some (blk c), pl[j].2.2.2.length, pl[j].2.2.2.length⟩ ∧ Blk w' c 57 (flat agV pl[j].2.2.2))
    ⟨hb3, Nat.le_refl _, hB3, hC3, [], _, rfl, by simpa [flat] using hD3, by rw [Array.length_toList, size_madeCells, hl]; simp, fun j h _ => by cases h⟩ ?_
  rintro k w4 hk ⟨hb, hz, hB, hC, hs, r, hhl, hD, hr, hrow⟩ next hnext
  refine hB.rS (n := 2) rfl (ifB_dec (fun hlt => ?_) (fun hge => ?_))
  · have hlt : k < pl.length := by dsimp only at hlt; omega
    refine hB.rS (n := 2) rfl (elemPI (hN.below hb) hlt fun t ht => ?_)
    refine CopyInst_spec (x := mkIn pl[k] t) ht (hp.args _ (List.getElem_mem hlt)) fun c w5 hc hA5 hI5 b5 => ⟨mkIn pl[k] ⟨some (blk c), pl[k].2.2.2.length, pl[k].2.2.2.length⟩, rfl, ?_⟩
    have hb5 := hb.on b5
    have hD5 := hD.below b5
    have hB5 := hB.below b5
    have hC5 := hC.below b5
    have s5 := b5.size
    refine ⟨⟨by omega, by dsimp only; omega⟩, ?_⟩
    have hfl : (flat inV hs).length = k * 4 := by rw [flat_length inV_len, hhl]
    obtain ⟨r', hr', e⟩ := set4 (flat inV hs) (cs := r) (m := pl.length - (k + 1)) (by rw [hr]; congr 1; omega) (.int .u16 pl[k].1) (.int .u32 pl[k].2.1) (.int .u32 pl[k].2.2.1) (.slice (some (blk c)) pl[k].2.2.2.length pl[k].2.2.2.length)
    rw [hfl] at e
    have hcl : (flat inV hs ++ r).length = pl.length * 4 := by rw [List.length_append, hfl, hr, ← Nat.add_mul]; congr 1; omega
    dsimp only
    rw [show Int.toNat (k : Int) = k from rfl]
    simp only [add_add']
    have hD1 := hD5.set (k * 4) (.int .u16 pl[k].1)
    have hD2 := hD1.set (k * 4 + 1) (.int .u32 pl[k].2.1)
    have hD3 := hD2.set (k * 4 + 2) (.int .u32 pl[k].2.2.1)
    have hD4 := hD3.set (k * 4 + 3) (.slice (some (blk c)) pl[k].2.2.2.length pl[k].2.2.2.length)
    have c1 := (((Chg.set w2.heap.size (k * 4) w5 (.int .u16 pl[k].1)).trans (Chg.set w2.heap.size (k * 4 + 1) _ (.int .u32 pl[k].2.1))).trans (Chg.set w2.heap.size (k * 4 + 2) _ (.int .u32 pl[k].2.2.1))).trans
      (Chg.set w2.heap.size (k * 4 + 3) _ (.slice (some (blk c)) pl[k].2.2.2.length pl[k].2.2.2.length))
    refine ⟨hD5.wr (by omega), hD1.wr (by rw [List.length_set]; omega), hD2.wr (by rw [List.length_set, List.length_set]; omega), hD3.wr (by rw [List.length_set, List.length_set, List.length_set]; omega), ?_⟩
    refine hnext _ hlt ⟨c1.below hb5 (by omega), by rw [c1.size]; omega, c1.blk hB5 (by omega), c1.blk hC5 (by omega), hs ++ [mkIn pl[k] ⟨some (blk c), pl[k].2.2.2.length, pl[k].2.2.2.length⟩], r', by simp [hhl], ?_, hr', ?_⟩
    · rw [e] at hD4
      have e2 : flat inV (hs ++ [mkIn pl[k] ⟨some (blk c), pl[k].2.2.2.length, pl[k].2.2.2.length⟩]) = flat inV hs ++ inV (mkIn pl[k] ⟨some (blk c), pl[k].2.2.2.length, pl[k].2.2.2.length⟩) := by
        simp [flat]
      rw [e2]
      exact hD4
    · intro j h h'
      by_cases hj : j < hs.length
      · obtain ⟨c', g1, g2, g3⟩ := hrow j hj h'
        refine ⟨c', g1, ?_, c1.blk (g3.below b5) (by omega)⟩
        rw [List.getElem_append_left hj]
        exact g2
      · have hj' : j = k := by simp at h; omega
        subst hj'
        refine ⟨c, by omega, ?_, c1.blk hA5 (by omega)⟩
        rw [List.getElem_append_right (by omega)]
        simp [hhl]
  · have hk' : k = pl.length := by dsimp only at hge; omega
    subst hk'
    simp only [Nat.sub_self, Nat.zero_mul] at hr
    have : r = [] := List.eq_nil_of_length_eq_zero hr
    subst this
    rw [List.append_nil] at hD
    refine ⟨hB.wr (n := 2) (by simp), ?_⟩
    rw [hl]
    have c1 := Chg.set w.heap.size 2 w4 (.slice (some (blk w2.heap.size)) pl.length pl.length)
    have hB5 : Blk _ w.heap.size 37 (moV (x.1, x.2.1, ⟨some (blk w2.heap.size), pl.length, pl.length⟩, ())) := hB.set 2 (.slice (some (blk w2.heap.size)) pl.length pl.length)
    have hb5 := c1.below hb (Nat.le_refl _)
    have hC5 := c1.blk hC (by omega)
    have hD5 := c1.blk hD (by omega)
    refine Nw.mk (Mo.load hB5 ?_)
    refine st3 hC5 rfl fun w6 hC6 c6 => ?_
    have hC6 : Blk w6 w1.heap.size 37 (moV (x.1, x.2.1, ⟨some (blk w2.heap.size), pl.length, pl.length⟩, ())) := hC6
    have hcp : Cpy w6 w2.heap.size pl := ⟨hs, hhl, c6.blk hD5 (by omega), fun j h h' => by
      obtain ⟨c', g1, g2, g3⟩ := hrow j h h'
      exact ⟨c', g1, g2, c6.blk (c1.blk g3 (by omega)) (by omega)⟩⟩
    refine Mo.load hC6 ?_
    exact hR w2.heap.size w6 (by omega) hcp (hcp.isPl hN.bound hargs) (c6.below hb5 (by omega))

/-! ### Who uses an id -/
theorem shape_zero {bound : Int} {pl : List PI} (h : (shapeP bound pl).1 = 0) : shapeP bound pl = (0, 0) := by
  unfold shapeP at h ⊢
  split at h
  · cases h
  · rename_i hb
    rw [if_neg hb]
    split at h
    · dsimp only at h
      split at h
      · rename_i hf; exact absurd h hf
      · cases h
    · rfl
def names (id : Int) (p : PI) : Bool := (idsP p.2.1 p.2.2.2).contains id
def usesN (id : Int) (pl : List PI) (k : Nat) : List Int := ((List.range k).filter fun j => names id (pl.getD j pi0)).map (fun (j : Nat) => (j : Int))
theorem usesN_succ (id : Int) {pl : List PI} {k : Nat} (hk : k < pl.length) : usesN id pl (k + 1) = usesN id pl k ++ (if names id pl[k] = true then [(k : Int)] else []) := by
  unfold usesN
  rw [List.range_succ, List.filter_append, List.map_append]
  congr 1
  rw [List.filter_cons, getD_lt hk]
  cases names id pl[k] <;> simp
theorem usesN_len (id : Int) (pl : List PI) (k : Nat) : (usesN id pl k).length ≤ k := by
  unfold usesN
  rw [List.length_map]
  exact Nat.le_trans (List.length_filter_le _ _) (by simp)
def usesP (bound : Int) (pl : List PI) (id : Int) : List Int := if (shapeP bound pl).1 = 0 then usesN id pl pl.length else []
theorem Contains_spec {s : Sl} {l : List Int} {v : Int} {w : World} {R : Value → World → Prop} (hs : IsS (Value.int .u32) w s l) (hR : R (.bool (l.contains v)) w) : callR Try.prog 46 #[.slice s.a s.l s.c, .int .u32 v] w R := by
  refine callR.of (slices_Contains_suint32_uint32_calls s v R w ?_) fun _ _ h => h
  refine callR.of (slices_Index_suint32_uint32_calls s v _ w ?_) fun _ _ h => h
  have hlen := hs.len
  refine LoopW.count l.length hs.bound (fun k w' => w' = w ∧ ∀ j (hj : j < l.length), j < k → l[j] ≠ v) ⟨rfl, fun j hj h => by omega⟩ ?_
  rintro k w1 hk ⟨hw, hj⟩ next hnext
  subst hw
  refine ifB_dec (fun h => ?_) (fun h => ?_)
  · have hlt : k < l.length := by dsimp only at h; omega
    refine hs.addr hlt fun a _ hc => ⟨_, hc, ifB_beq (fun e => ⟨_, rfl, ?_⟩) (fun e => hnext _ hlt ⟨rfl, fun j hj' hjk => ?_⟩)⟩
    · rw [List.contains_iff_mem.2 (by rw [e]; exact List.getElem_mem hlt)] at hR
      rwa [decide_eq_true (by omega)]
    · by_cases e' : j = k
      · subst e'; exact fun h => e h.symm
      · exact hj j hj' (by omega)
  · have hk' : k = l.length := by dsimp only at h; omega
    have hf : l.contains v = false := by
      rw [← Bool.not_eq_true, List.contains_iff_mem]
      intro hm
      obtain ⟨i, hi, e⟩ := List.mem_iff_getElem.1 hm
      exact hj i hi (by omega) e
    rw [hf] at hR
    exact ⟨-1, rfl, by rwa [decide_eq_false (by decide)]⟩
theorem rNames_spec {x : Ins} {al : List Ag} {id : Int} {w : World} {R : Value → World → Prop} (hI : IsAg w x.2.2.2.1 al) (h24 : 24 * al.length ≤ 140737488351232)
    (hR : ∀ w', Below w.heap.size w w' → R (.bool ((idsP x.2.1 al).contains id)) w') : callR Try.prog 45 #[inA x, .int .u32 id] w R := by
  refine callR.of (intaglioref09_Names_calls x id R w ?_) fun _ _ h => h
  refine lay_of fun w1 hB b1 z1 => ?_
  have hB : Blk w1 w.heap.size 26 (inV x) := hB
  refine Ins.load hB ?_
  refine rIds_spec (x := x) (hI.below b1) h24 fun r w2 hO _ b2 => ⟨r, rfl, ?_⟩
  have hs := hO.isS
  have hlen := hs.len
  have hb2 := b1.on b2
  generalize idsP x.2.1 al = l at hs hlen hR
  refine LoopW.count l.length hs.bound (fun k w' => w' = w2 ∧ ∀ j (hj : j < l.length), j < k → l[j] ≠ id) ⟨rfl, fun j hj h => by omega⟩ ?_
  rintro k w3 hk ⟨hw, hj⟩ next hnext
  subst hw
  have hR' := hR _ hb2
  refine ifB_dec (fun h => ?_) (fun h => ?_)
  · have hlt : k < l.length := by dsimp only at h; omega
    refine hs.addr hlt fun a _ hc => ⟨_, hc, ifB_beq (fun e => ?_) (fun e => hnext _ hlt ⟨rfl, fun j hj' hjk => ?_⟩)⟩
    · rwa [List.contains_iff_mem.2 (by rw [← e]; exact List.getElem_mem hlt)] at hR'
    · by_cases e' : j = k
      · subst e'; exact e
      · exact hj j hj' (by omega)
  · have hk' : k = l.length := by dsimp only at h; omega
    have hf : l.contains id = false := by
      rw [← Bool.not_eq_true, List.contains_iff_mem]
      intro hm
      obtain ⟨i, hi, e⟩ := List.mem_iff_getElem.1 hm
      exact hj i hi (by omega) e
    rwa [hf] at hR'
section
variable {x : Mo} {pl : List PI} {id : Int} {w : World} {R : Value → World → Prop}
theorem Uses_spec (hN : IsPl w x.2.2.1 pl) (hp : PlOk pl)
    (hR : ∀ r w', Own w' 3 1 r ((usesP x.2.1 pl id).map (Value.int .i64)) → Below w.heap.size w w' → R (.tuple #[.slice r.a r.l r.c, .agg #[.int .i64 (shapeP x.2.1 pl).1, .int .i64 ((shapeP x.2.1 pl).2 : Int)]]) w') :
    callR Try.prog 20 #[moA x, .int .u32 id] w R := by
  refine callR.of (ids_Uses_calls x id R w ?_) fun _ _ h => h
  refine lay_of fun w1 hB1 b1 z1 => ?_
  have hB1 : Blk w1 w.heap.size 37 (moV x) := hB1
  refine lay_of fun w2 hC2 b2 z2 => ?_
  have hC2 : Blk w2 w1.heap.size 43 [.int .i64 0, .int .i64 0] := hC2
  have hb2 := b1.on b2
  have s1 := b1.size
  have hlen := hN.len
  have h40 := hp.len
  refine Mo.load (hB1.below b2) ?_
  refine Shape_spec (x := x) (hN.below hb2) hp fun w3 b3 => ⟨((shapeP x.2.1 pl).1, ((shapeP x.2.1 pl).2 : Int), ()), rfl, ?_⟩
  refine box2 rfl fun w4 h4 b4 z4 => ?_
  have b24 := b3.on b4
  have hb4 := hb2.on b24
  have hB4 := (hB1.below b2).below b24
  have hC4 := hC2.below b24
  refine h4.rI0 rfl (ifB_bne (fun e => ?_) (fun e => ?_))
  · refine Sp.load h4.drew ?_
    refine st2 hC4.drew rfl fun w5 h5 c5 => Sp.load h5 ?_
    have e' : (shapeP x.2.1 pl).1 ≠ 0 := e
    refine hR ⟨none, 0, 0⟩ w5 ?_ (c5.below hb4.drew (by omega))
    unfold usesP
    rw [if_neg e']
    exact Own.nil _ _ _
  · have e' : (shapeP x.2.1 pl).1 = 0 := e
    refine hB4.rS (n := 2) rfl ?_
    refine LoopW.countSl pl.length hN.bound (fun k r w' => Own w' 3 1 r ((usesN id pl k).map (Value.int .i64)) ∧ Fresh w2.heap.size r ∧ Below w2.heap.size w2 w') ⟨Own.nil _ _ _, fun a ha => by (cases ha), b24⟩ ?_
    rintro k r w5 hk ⟨hO, hF, hb⟩ next hnext
    have hbw := hb2.on hb
    refine ifB_dec (fun h => ?_) (fun h => ?_)
    · have hlt : k < pl.length := by dsimp only at h; omega
      have hmem := List.getElem_mem hlt
      refine JoinW.cut (fun st w' => Own w' 3 1 st.1 ((usesN id pl (k + 1)).map (Value.int .i64)) ∧ Fresh w2.heap.size st.1 ∧ Below w2.heap.size w2 w') ?_ ?_
      · refine elemPI (hN.below hbw) hlt fun t ht => ?_
        refine box4 rfl fun w6 h6 b6 z6 => ?_
        have h6 : Blk w6 w5.heap.size 26 (inV (mkIn pl[k] t)) := h6
        refine Ins.load h6 ?_
        refine Ids_spec (x := mkIn pl[k] t) (ht.below b6) (hp.args _ hmem) fun q w7 hq _ b7 => ⟨q, rfl, ?_⟩
        refine Contains_spec hq.isS ⟨_, rfl, ?_⟩
        have hb7 := (hb.on b6).on b7
        have hO7 := (hO.below b6).below b7
        have hrl : r.l ≤ k := by have := hO.1; have h2 := usesN_len id pl k; rw [List.length_map] at this; omega
        have hn : (idsP (mkIn pl[k] t).2.1 pl[k].2.2.2).contains id = names id pl[k] := rfl
        rw [hn]
        refine ifB_bool (fun ht => ?_) (fun hf => ?_)
        · refine lay_of fun w8 h8 b8 z8 => ?_
          refine push_fresh eInt (hO7.below b8) (hb7.on b8) hF (v := .int .i64 (k : Int)) rfl h8 (by omega) (by omega) fun r' w9 h9 b9 F9 => ⟨?_, F9, b9⟩
          rw [usesN_succ id hlt, if_pos ht, List.map_append]
          exact h9
        · refine ⟨?_, hF, hb7⟩
          rw [usesN_succ id hlt, if_neg (by rw [hf]; simp), List.append_nil]
          exact hO7
      · rintro ⟨r', _⟩ w' ⟨h1, h2, h3⟩
        exact hnext r' w' hlt ⟨h1, h2, h3⟩
    · have hk' : k = pl.length := by dsimp only at h; omega
      subst hk'
      refine st2 (hC2.below hb) rfl fun w6 h6 c6 => Sp.load h6 ?_
      have := hR r w6 (by
        unfold usesP
        rw [if_pos e']
        refine hO.of_block fun a ha => c6.block _ ?_
        have := hF a ha
        omega) (c6.below hbw (by omega))
      rwa [shape_zero e'] at this
theorem rUses_spec (hN : IsPl w x.2.2.1 pl) (hp : PlOk pl)
    (hR : ∀ r w', Own w' 3 1 r ((usesP x.2.1 pl id).map (Value.int .i64)) → Below w.heap.size w w' → R (.tuple #[.slice r.a r.l r.c, .agg #[.int .i64 (shapeP x.2.1 pl).1, .int .i64 ((shapeP x.2.1 pl).2 : Int)]]) w') :
    callR Try.prog 19 #[moA x, .int .u32 id] w R := by
  refine callR.of (intaglioref09_Uses_calls x id R w ?_) fun _ _ h => h
  refine lay_of fun w1 hB1 b1 z1 => ?_
  have hB1 : Blk w1 w.heap.size 37 (moV x) := hB1
  refine lay_of fun w2 hC2 b2 z2 => ?_
  have hC2 : Blk w2 w1.heap.size 43 [.int .i64 0, .int .i64 0] := hC2
  have hb2 := b1.on b2
  have s1 := b1.size
  have hlen := hN.len
  have h40 := hp.len
  refine Mo.load (hB1.below b2) ?_
  refine rShape_spec (x := x) (hN.below hb2) hp fun w3 b3 => ⟨((shapeP x.2.1 pl).1, ((shapeP x.2.1 pl).2 : Int), ()), rfl, ?_⟩
  refine box2 rfl fun w4 h4 b4 z4 => ?_
  have b24 := b3.on b4
  have hb4 := hb2.on b24
  have hB4 := (hB1.below b2).below b24
  have hC4 := hC2.below b24
  refine h4.rI0 rfl (ifB_bne (fun e => ?_) (fun e => ?_))
  · refine Sp.load h4.drew ?_
    refine st2 hC4.drew rfl fun w5 h5 c5 => Sp.load h5 ?_
    have e' : (shapeP x.2.1 pl).1 ≠ 0 := e
    refine hR ⟨none, 0, 0⟩ w5 ?_ (c5.below hb4.drew (by omega))
    unfold usesP
    rw [if_neg e']
    exact Own.nil _ _ _
  · have e' : (shapeP x.2.1 pl).1 = 0 := e
    refine LoopW.countSl pl.length hN.bound (fun k r w' => Own w' 3 1 r ((usesN id pl k).map (Value.int .i64)) ∧ Fresh w4.heap.size r ∧ Below w4.heap.size w4 w') ⟨Own.nil _ _ _, fun a ha => by (cases ha), Below.refl _ _⟩ ?_
    rintro k r w5 hk ⟨hO, hF, hb⟩ next hnext
    have hbw := hb4.on hb
    have hB5 := hB4.below hb
    refine hB5.rS (n := 2) rfl (ifB_dec (fun h => ?_) (fun h => ?_))
    · have hlt : k < pl.length := by dsimp only at h; omega
      have hmem := List.getElem_mem hlt
      refine JoinW.cut (fun st w' => Own w' 3 1 st.1 ((usesN id pl (k + 1)).map (Value.int .i64)) ∧ Fresh w4.heap.size st.1 ∧ Below w4.heap.size w4 w') ?_ ?_
      · refine hB5.rS (n := 2) rfl (elemPI (hN.below hbw) hlt fun t ht => ?_)
        refine rNames_spec (x := mkIn pl[k] t) ht (hp.args _ hmem) fun w7 b7 => ⟨_, rfl, ?_⟩
        have hb7 := hb.on b7
        have hO7 := hO.below b7
        have hrl : r.l ≤ k := by have := hO.1; have h2 := usesN_len id pl k; rw [List.length_map] at this; omega
        have hn : (idsP (mkIn pl[k] t).2.1 pl[k].2.2.2).contains id = names id pl[k] := rfl
        rw [hn]
        refine ifB_bool (fun ht => ?_) (fun hf => ?_)
        · refine lay_of fun w8 h8 b8 z8 => ?_
          refine push_fresh eInt (hO7.below b8) (hb7.on b8) hF (v := .int .i64 (k : Int)) rfl h8 (by omega) (by omega) fun r' w9 h9 b9 F9 => ⟨?_, F9, b9⟩
          rw [usesN_succ id hlt, if_pos ht, List.map_append]
          exact h9
        · refine ⟨?_, hF, hb7⟩
          rw [usesN_succ id hlt, if_neg (by rw [hf]; simp), List.append_nil]
          exact hO7
      · rintro ⟨r', _⟩ w' ⟨h1, h2, h3⟩
        exact hnext r' w' hlt ⟨h1, h2, h3⟩
    · have hk' : k = pl.length := by dsimp only at h; omega
      subst hk'
      refine Sp.load (h4.below hb).drew ?_
      have s4 := b24.size
      refine st2 (hC4.below hb).drew rfl fun w6 h6 c6 => Sp.load h6 ?_
      refine hR r w6 ?_ (c6.below hbw.drew (by omega))
      unfold usesP
      rw [if_pos e']
      refine hO.drew.of_block fun a ha => c6.block _ ?_
      have := hF a ha
      omega

/-! ### What an id is called -/
def isName (id : Int) (p : PI) : Bool := p.1 == 5 && (p.2.2.2.getD 0 ag0).2.1 == id
def nameO (pl : List PI) (id : Int) : Option Nat := (List.range pl.length).find? fun k => isName id (pl.getD k pi0)
def nameP (bound : Int) (pl : List PI) (id : Int) : ByteArray × Bool := if (shapeP bound pl).1 = 0 then (match nameO pl id with
    | some k => (((pl.getD k pi0).2.2.2.getD 1 ag0).2.2, true)
    | none => (bs [], false)) else (bs [], false)
theorem name_args {ty re : Int} {al : List Ag} {bd : Int} (h : faultP 5 ty re al bd = 0) : 2 ≤ al.length := by
  have hfr : frm 5 = some ([79, 112, 78, 97, 109, 101], false, false, [105, 115], [], 0, 5) := by kernel_rfl
  rw [faultP_some hfr] at h
  unfold faultF at h
  split at h
  · rename_i h1; exact absurd h h1
  · split at h
    · cases h
    · rename_i h2
      unfold wholeP at h2
      refine Classical.byContradiction fun hlt => h2 ?_
      exact if_pos (by show al.length < 2; omega)
theorem Name_spec (hN : IsPl w x.2.2.1 pl) (hp : PlOk pl) (hR : ∀ w', Below w.heap.size w w' → R (.tuple #[.string (nameP x.2.1 pl id).1, .bool (nameP x.2.1 pl id).2]) w') :
    callR Try.prog 22 #[moA x, .int .u32 id] w R := by
  refine callR.of (ids_Name_calls x id R w ?_) fun _ _ h => h
  refine lay_of fun w1 hB1 b1 z1 => ?_
  have hB1 : Blk w1 w.heap.size 37 (moV x) := hB1
  have hlen := hN.len
  refine Mo.load hB1 ?_
  refine Shape_spec (x := x) (hN.below b1) hp fun w2 b2 => ⟨((shapeP x.2.1 pl).1, ((shapeP x.2.1 pl).2 : Int), ()), rfl, ?_⟩
  have hb2 := b1.on b2
  unfold nameP at hR
  refine ifB_bne (fun e => ?_) (fun e => ?_)
  · have e' : ¬ (shapeP x.2.1 pl).1 = 0 := e
    rw [if_neg e'] at hR
    exact hR w2 hb2
  · have e' : (shapeP x.2.1 pl).1 = 0 := e
    rw [if_pos e'] at hR
    obtain ⟨_, hok⟩ := shape_ok e'
    refine (hB1.below b2).rS (n := 2) rfl ?_
    refine LoopW.count pl.length hN.bound (fun k w' => Below w.heap.size w w' ∧ ∀ j, j < k → isName id (pl.getD j pi0) = false) ⟨hb2, fun j hj => by omega⟩ ?_
    rintro k w3 hk ⟨hb, hj⟩ next hnext
    refine ifB_dec (fun h => ?_) (fun h => ?_)
    · have hlt : k < pl.length := by dsimp only at h; omega
      have hf := hok k hlt
      refine JoinW.cut (fun _ w' => Below w3.heap.size w3 w' ∧ isName id pl[k] = false) ?_ ?_
      · refine elemPI (hN.below hb) hlt fun t ht => ?_
        refine box4 rfl fun w4 h4 b4 z4 => ?_
        have h4 : Blk w4 w3.heap.size 26 (inV (mkIn pl[k] t)) := h4
        refine h4.rI0 rfl (ifB_beq (fun e1 => ?_) (fun e1 => ⟨b4, ?_⟩))
        · have e5 : pl[k].1 = 5 := e1
          have h2 : 2 ≤ pl[k].2.2.2.length := by unfold faultI at hf; rw [e5] at hf; exact name_args hf
          have ht4 := ht.below b4
          have hn0 : isName id pl[k] = (pl[k].2.2.2[0].2.1 == id) := by
            unfold isName
            rw [e5, getD_lt (show 0 < pl[k].2.2.2.length by omega)]
            rfl
          refine h4.rS (n := 3) (x := t) rfl (elemAn ht4 (k := 0) (by omega) (ifB_beq (fun e2 => ?_) (fun e2 => ⟨b4, ?_⟩)))
          · refine h4.rS (n := 3) (x := t) rfl (elemAs ht4 (k := 1) (by omega) ?_)
            have := hR w4 (hb.on b4)
            have hfind : nameO pl id = some k := find_first hlt (by rw [getD_lt hlt, hn0, e2]; simp) hj
            rw [hfind] at this
            dsimp only at this
            rwa [getD_lt hlt, getD_lt (show 1 < pl[k].2.2.2.length by omega)] at this
          · rw [hn0]; exact beq_eq_false_iff_ne.2 e2
        · unfold isName
          rw [beq_eq_false_iff_ne.2 (show pl[k].1 ≠ 5 from e1), Bool.false_and]
      · rintro _ w' ⟨hb', hno⟩
        refine hnext w' hlt ⟨hb.on hb', fun j hj' => ?_⟩
        by_cases e1 : j = k
        · subst e1; rw [getD_lt hlt]; exact hno
        · exact hj j (by omega)
    · have hk' : k = pl.length := by dsimp only at h; omega
      subst hk'
      have : nameO pl id = none := by
        unfold nameO
        rw [List.find?_eq_none]
        intro j hj'
        rw [hj j (List.mem_range.1 hj')]
        simp
      have hR' := hR w3 hb
      rwa [this] at hR'
theorem rName_spec (hN : IsPl w x.2.2.1 pl) (hp : PlOk pl) (hR : ∀ w', Below w.heap.size w w' → R (.tuple #[.string (nameP x.2.1 pl id).1, .bool (nameP x.2.1 pl id).2]) w') :
    callR Try.prog 21 #[moA x, .int .u32 id] w R := by
  refine callR.of (intaglioref09_Name_calls x id R w ?_) fun _ _ h => h
  refine lay_of fun w1 hB1 b1 z1 => ?_
  have hB1 : Blk w1 w.heap.size 37 (moV x) := hB1
  have hlen := hN.len
  refine Mo.load hB1 ?_
  refine rShape_spec (x := x) (hN.below b1) hp fun w2 b2 => ⟨((shapeP x.2.1 pl).1, ((shapeP x.2.1 pl).2 : Int), ()), rfl, ?_⟩
  refine box2 rfl fun w3 h3 b3 z3 => ?_
  have hb3 := (b1.on b2).on b3
  have hB3 := (hB1.below b2).below b3
  unfold nameP at hR
  refine LoopW.count pl.length hN.bound (fun k w' => w' = w3 ∧ (0 < k → (shapeP x.2.1 pl).1 = 0) ∧ ∀ j, j < k → isName id (pl.getD j pi0) = false) ⟨rfl, fun h => by omega, fun j hj => by omega⟩ ?_
  rintro k w4 hk ⟨hw, h0, hj⟩ next hnext
  subst hw
  have hR' := hR _ hb3
  refine JoinW.cut (fun _ w' => w' = w4 ∧ k < pl.length ∧ (shapeP x.2.1 pl).1 = 0) ?_ ?_
  · refine hB3.rS (n := 2) rfl (ifB_dec (fun h => ?_) (fun h => ?_))
    · have hlt : k < pl.length := by dsimp only at h; omega
      refine h3.rI0 rfl (ifB_beq (fun e => ⟨rfl, hlt, e⟩) (fun e => ?_))
      have e' : ¬ (shapeP x.2.1 pl).1 = 0 := e
      rwa [if_neg e'] at hR'
    · have hk' : k = pl.length := by dsimp only at h; omega
      by_cases e' : (shapeP x.2.1 pl).1 = 0
      · rw [if_pos e'] at hR'
        have : nameO pl id = none := by
          unfold nameO
          rw [List.find?_eq_none]
          intro j hj'
          rw [hj j (by rw [hk']; exact List.mem_range.1 hj')]
          simp
        rwa [this] at hR'
      · rwa [if_neg e'] at hR'
  · rintro _ w5 ⟨hw, hlt, e'⟩
    subst hw
    rw [if_pos e'] at hR'
    obtain ⟨_, hok⟩ := shape_ok e'
    have hf := hok k hlt
    have hN5 := hN.below hb3
    refine JoinW.cut (fun _ w' => w' = w5 ∧ isName id pl[k] = false) ?_ ?_
    · refine hB3.rS (n := 2) rfl (elemPo hN5 hlt (ifB_beq (fun e1 => ?_) (fun e1 => ⟨rfl, ?_⟩)))
      · have e5 : pl[k].1 = 5 := e1
        have h2 : 2 ≤ pl[k].2.2.2.length := by unfold faultI at hf; rw [e5] at hf; exact name_args hf
        have hn0 : isName id pl[k] = (pl[k].2.2.2[0].2.1 == id) := by
          unfold isName
          rw [e5, getD_lt (show 0 < pl[k].2.2.2.length by omega)]
          rfl
        refine hB3.rS (n := 2) rfl (elemPs hN5 hlt fun t ht => elemAn ht (k := 0) (by omega) (ifB_beq (fun e2 => ?_) (fun e2 => ⟨rfl, ?_⟩)))
        · refine hB3.rS (n := 2) rfl (elemPs hN5 hlt fun t' ht' => elemAs ht' (k := 1) (by omega) ?_)
          have hfind : nameO pl id = some k := find_first hlt (by rw [getD_lt hlt, hn0, e2]; simp) hj
          rw [hfind] at hR'
          dsimp only at hR'
          rwa [getD_lt hlt, getD_lt (show 1 < pl[k].2.2.2.length by omega)] at hR'
        · rw [hn0]; exact beq_eq_false_iff_ne.2 e2
      · unfold isName
        rw [beq_eq_false_iff_ne.2 (show pl[k].1 ≠ 5 from e1), Bool.false_and]
    · rintro _ w6 ⟨hw, hno⟩
      refine hnext w6 hlt ⟨hw, fun _ => e', fun j hj' => ?_⟩
      by_cases e1 : j = k
      · subst e1; rw [getD_lt hlt]; exact hno
      · exact hj j (by omega)

/-! ### The law -/
theorem IdsUses_spec (hN : IsPl w x.2.2.1 pl) (hp : PlOk pl) (_hbd : 0 ≤ x.2.1 ∧ x.2.1 ≤ 4294967295) (hR : ∀ w', Below w.heap.size w w' → R (.bool true) w') :
    callR Try.prog 5 #[moA x, .int .u32 id] w R := by
  refine callR.of (intagliolaw09_IdsUses_calls x id R w ?_) fun _ _ h => h
  refine lay_of fun w1 hB1 b1 z1 => ?_
  have hB1 : Blk w1 w.heap.size 37 (moV x) := hB1
  refine Mo.load hB1 ?_
  refine rUses_spec (x := x) (hN.below b1) hp fun r w2 hO2 b2 => ⟨r, ((shapeP x.2.1 pl).1, ((shapeP x.2.1 pl).2 : Int), ()), rfl, ?_⟩
  refine box2 rfl fun w3 h3 b3 z3 => ?_
  have hb3 := (b1.on b2).on b3
  have hB3 := (hB1.below b2).below b3
  refine Mo.load hB3 ?_
  refine CopyModule_spec (x := x) (hN.below hb3) hp fun c w4 _ _ hN4 b4 => ⟨(x.1, x.2.1, ⟨some (blk c), pl.length, pl.length⟩, ()), rfl, ?_⟩
  refine Uses_spec (x := (x.1, x.2.1, ⟨some (blk c), pl.length, pl.length⟩, ())) hN4 hp fun r' w5 hO5 b5 => ⟨r', ((shapeP x.2.1 pl).1, ((shapeP x.2.1 pl).2 : Int), ()), rfl, ?_⟩
  refine box2 rfl fun w6 h6 b6 z6 => ?_
  have b36 := (b4.on b5).on b6
  have hb6 := hb3.on b36
  refine Mo.load (hB3.below b36) ?_
  refine rName_spec (x := x) (hN.below hb6) hp fun w7 b7 => ⟨_, _, rfl, ?_⟩
  have b37 := b36.on b7
  have hb7 := hb3.on b37
  refine Mo.load (hB3.below b37) ?_
  refine CopyModule_spec (x := x) (hN.below hb7) hp fun c' w8 _ _ hN8 b8 => ⟨(x.1, x.2.1, ⟨some (blk c'), pl.length, pl.length⟩, ()), rfl, ?_⟩
  refine Name_spec (x := (x.1, x.2.1, ⟨some (blk c'), pl.length, pl.length⟩, ())) hN8 hp fun w9 b9 => ⟨_, _, rfl, ?_⟩
  have b79 := b8.on b9
  have b69 := b7.on b79
  refine Sp.load (h6.below b69) (Sp.load (h3.below (b36.on b69)) ?_)
  refine ifB_true (by simp) ?_
  refine Ints_spec (hO5.below (b6.on b69)).isS (hO2.below (b3.on (b36.on b69))).isS fun w10 _ b10 => ⟨_, rfl, ?_⟩
  rw [decide_eq_true rfl]
  refine ifB_true rfl (ifB_true (by simp) ?_)
  rw [beq_self_eq_true]
  exact hR w10 ((hb7.on b79).on b10)
end

end Go.Proofs
