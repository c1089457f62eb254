/-
  The statement NestWithin.
-/
import Derived.Test.Ytjplhoollkeihaa16k
import Derived.Test.Ytjplhoollkeihaa16l
namespace Go.Proofs
open Go.Gk Go.RowKit Go.Gr Go.Dm

theorem nin_spec {s : Sl} {l : List Int} {n : Int} {w : World} {R : Value → World → Prop} (h : IsI w s l) (hR : ∀ b : Bool, (b = true ↔ n ∈ l) → R (.bool b) w) : callR Try.prog 74 #[.slice s.a s.l s.c, .int .i64 n] w R := by
  refine callR.of (intagliolaw16_in_calls s n R w ?_) fun _ _ h => h
  have hl := h.len
  refine LoopW.count l.length h.bound (fun k w' => w' = w ∧ n ∉ l.take k) ⟨rfl, by simp⟩ ?_
  rintro k w' hk ⟨hw, hn⟩ next hnext
  subst hw
  refine ifB_dec (fun hlt => ?_) (fun hge => ?_)
  · have hlt : k < l.length := by dsimp only at hlt; omega
    refine elemI h hlt (ifB_beq (fun e => hR true (⟨fun _ => (by rw [← e]; exact List.getElem_mem _), fun _ => rfl⟩)) (fun e => hnext _ hlt ⟨rfl, ?_⟩))
    rw [List.take_succ_eq_append_getElem hlt, List.mem_append]
    simp only [List.mem_singleton]
    exact fun h => h.elim hn fun h => e h.symm
  · have : k = l.length := by dsimp only at hge; omega
    subst this
    rw [List.take_length] at hn
    exact hR false ⟨(fun h => by cases h), fun h => absurd h hn⟩

theorem common_spec {a b : Sl} {A B : List Nat} {w : World} {R : Value → World → Prop} (ha : IsI w a (A.map fun (x : Nat) => (x : Int))) (hb : IsI w b (B.map fun (x : Nat) => (x : Int))) (hR : R (.int .i64 (A.countP B.contains : Nat)) w) :
    callR Try.prog 75 #[.slice a.a a.l a.c, .slice b.a b.l b.c] w R := by
  refine callR.of (intagliolaw16_common_calls a b R w ?_) fun _ _ h => h
  have hl := ha.len
  have hbd := ha.bound
  rw [List.length_map] at hl hbd
  refine LoopW.countS A.length hbd (fun k (c : Int) w' => w' = w ∧ c = ((A.take k).countP B.contains : Nat)) ⟨rfl, by simp⟩ ?_
  rintro k c w' hk ⟨hw, rfl⟩ next hnext
  subst hw
  refine ifB_dec (fun hlt => ?_) (fun hge => ?_)
  · have hlt : k < A.length := by dsimp only at hlt; omega
    have hle := List.countP_le_length (p := B.contains) (l := A.take k)
    rw [List.length_take, Nat.min_eq_left (by omega)] at hle
    have e : (A.take (k + 1)).countP B.contains = (A.take k).countP B.contains + if B.contains A[k] then 1 else 0 := by
      rw [List.take_succ_eq_append_getElem hlt, List.countP_append, List.countP_singleton]
    refine JoinW.cut (fun (st : Int × Unit) w2 => w2 = w' ∧ st.1 = ((A.take (k + 1)).countP B.contains : Nat)) ?_ fun st w2 ⟨e1, e2⟩ => by
      subst e1
      exact hnext _ _ hlt ⟨rfl, e2⟩
    refine elemI ha (k := k) (by rw [List.length_map]; exact hlt) ?_
    rw [List.getElem_map]
    refine nin_spec hb fun v hv => ⟨v, rfl, ifB_bool (fun e1 => ⟨rfl, ?_⟩) (fun e1 => ⟨rfl, ?_⟩)⟩
    · have : B.contains A[k] = true := by rw [List.contains_iff_mem]; exact mem_cast.1 (hv.1 e1)
      rw [e, if_pos this]
      dsimp only
      rw [wrap64_in (by omega) (by omega)]
      rfl
    · have : ¬ B.contains A[k] = true := by
        rw [List.contains_iff_mem]
        exact fun h => by rw [hv.2 (mem_cast.2 h)] at e1; cases e1
      rw [e, if_neg this]
      rfl
  · have : k = A.length := by dsimp only at hge; omega
    subst this
    rw [List.take_length]
    exact hR

theorem WS.ld {w w' : World} {bh n : Nat} {row : Nat → List Nat} {T k : Nat} (h : WS w bh n row T k w') {j : Nat} (hj : j < k) (hk : k ≤ n) {φ : Sl → Prop} (hφ : ∀ x : Sl, IsI w' x ((row j).map fun (x : Nat) => (x : Int)) → x.l = (row j).length → φ x) : ldS w' ((Gk.blk bh).add j) φ := by
  obtain ⟨hs, h1, h2, h3⟩ := h.rows
  have ho := (h3 j (by omega) hj).1
  exact ⟨hs[j]'(by omega), h2.cell (n := j) (by rw [List.getElem?_map, List.getElem?_eq_getElem (by omega)]; rfl), hφ _ (IsS.toI (Own.isS ho)) (own_len ho)⟩

section
variable {gb : Nat} {nx : List (List Nat)} {ml : List Mg} {s : Sl}
/-- The law's call of Construct, with merges copied. -/
theorem cons_call {w1 : World} (hP : PG w1 (some (Gk.blk gb)) gb nx) (hM : IsM w1 s ml) (hf : Fit nx.length ml) (h24 : 24 * ml.length ≤ 281474976710656) {x : Nat} (hx : x < nx.length) {K : Sl → Int → World → Prop}
    (hK : ∀ r f w', Below w1.heap.size w1 w' → Own w' 3 1 r ((consM nx ml x).map iN) → (f = 0 ∧ (ml.getD x (0, 0, 0)).1 ≠ 0 ∧ x ∈ orderOf (wideX nx ml) ∨ f = 5 ∧ r.l = 0 ∧ ¬ ((ml.getD x (0, 0, 0)).1 ≠ 0 ∧ x ∈ orderOf (wideX nx ml))) → K r f w') :
    callR Try.prog 66 #[.slice s.a s.l s.c] w1 fun v19 w10 =>
      ∃ x20 : Sl, v19 = (.slice x20.a x20.l x20.c) ∧
      callR Try.prog 73 #[(.pointer (some (Gk.blk gb))), (.slice x20.a x20.l x20.c), (.int .i64 (x : Int))] w10 fun v21 w11 =>
      ∃ x22 : Sl, ∃ x23 : Int, v21 = (.tuple #[(.slice x22.a x22.l x22.c), (.int .i64 x23)]) ∧ K x22 x23 w11 := by
  refine copiedM_spec hM h24 fun w2 s2 b2 _ _ m2 _ => ⟨s2, rfl, ?_⟩
  have z2 := b2.size
  refine Construct_spec (hP.below b2) m2 (fun e => by cases e) (fun _ h => absurd hf h) (fun _ _ h => absurd ⟨by omega, by omega⟩ h) (fun _ _ x' hx' hxn w3 nb g b3 hn hno => ⟨⟨none, 0, 0⟩, 5, rfl, ?_⟩) fun _ _ x' hx' hxn w3 nb g r b3 hn hk ho o3 _ => ⟨r, 0, rfl, ?_⟩
  · have : x = x' := by omega
    subst this
    unfold Nst.kd at hno
    rw [hn.mle, hn.wxe] at hno
    refine hK _ 5 w3 (b2.trans (b3.mono z2)) ?_ (.inr ⟨rfl, rfl, hno⟩)
    rw [consM_none hn.dok hno]
    exact Own.nil _ _ _
  · have : x = x' := by omega
    subst this
    unfold Nst.kd at hk
    rw [hn.mle] at hk
    rw [hn.wxe] at ho
    rw [hn.consE] at o3
    exact hK r 0 w3 (b2.trans (b3.mono z2)) o3 (.inl ⟨rfl, hk, ho⟩)
theorem inner_call {w1 : World} (hP : PG w1 (some (Gk.blk gb)) gb nx) (hM : IsM w1 s ml) (hf : Fit nx.length ml) (hk : ∀ x ∈ ml, 0 ≤ x.1) (h24 : 24 * ml.length ≤ 281474976710656) {x : Nat} (hx : x < nx.length) {K : Int → Int → World → Prop}
    (hK : ∀ v w', Below w1.heap.size w1 w' → InnP nx ml x v → K v 0 w') :
    callR Try.prog 66 #[.slice s.a s.l s.c] w1 fun v47 w21 =>
      ∃ x48 : Sl, v47 = (.slice x48.a x48.l x48.c) ∧
      callR Try.prog 84 #[(.pointer (some (Gk.blk gb))), (.slice x48.a x48.l x48.c), (.int .i64 (x : Int))] w21 fun v49 w22 =>
      ∃ x50 : Int, ∃ x51 : Int, v49 = (.tuple #[(.int .i64 x50), (.int .i64 x51)]) ∧ K x50 x51 w22 := by
  refine copiedM_spec hM h24 fun w2 s2 b2 _ _ m2 _ => ⟨s2, rfl, ?_⟩
  have z2 := b2.size
  refine Inner_spec (hP.below b2) m2 (fun e => by cases e) (fun _ h => absurd hf h) (fun _ _ h => absurd ⟨by omega, by omega⟩ h) fun _ _ x' hx' hxn w3 nb g b3 hn => ⟨_, 0, rfl, ?_⟩
  have : x = x' := by omega
  subst this
  exact hK _ w3 (b2.trans (b3.mono z2)) (hn.inner hk x)

def LeastP (nx : List (List Nat)) (ml : List Mg) (n k : Nat) (v : Int) : Prop := (v = -1 ∧ ∀ x, x < k → ¬ InM nx ml x n) ∨ ∃ z : Nat, z < k ∧ v = (z : Int) ∧ InM nx ml z n ∧ ∀ x, x < k → InM nx ml x n → (consM nx ml z).length ≤ (consM nx ml x).length
theorem LeastP.keep {n k : Nat} {v : Int} (h : LeastP nx ml n k v) (hn : ¬ InM nx ml k n) : LeastP nx ml n (k + 1) v := by
  have key : ∀ x, x < k + 1 → InM nx ml x n → x < k := fun x hx hi => by
    by_cases e : x = k
    · exact absurd (e ▸ hi) hn
    · omega
  rcases h with ⟨h1, h2⟩ | ⟨z, h1, h2, h3, h4⟩
  · exact .inl ⟨h1, fun x hx hi => h2 x (key x hx hi) hi⟩
  · exact .inr ⟨z, by omega, h2, h3, fun x hx hi => h4 x (key x hx hi) hi⟩

set_option maxRecDepth 20000 in
set_option maxHeartbeats 4000000 in
theorem NestWithin_spec {t : Sl} {hs : List Sl} {ll : List (List Int)} {w : World} {R : Value → World → Prop} (hI : IsII w t hs ll) (_h24 : 24 * ll.length ≤ 281474976710656) (_h8 : ∀ l ∈ ll, 8 * l.length ≤ 281474976710656)
    (hM : IsM w s ml) (h24 : 24 * ml.length ≤ 281474976710656) (hk : ∀ x ∈ ml, 0 ≤ x.1) (hR : ∀ w', Below w.heap.size w w' → R (.bool true) w') :
    callR Try.prog 20 #[.slice t.a t.l t.c, .slice s.a s.l s.c] w R := by
  refine callR.of (intagliolaw16_NestWithin_calls t s R w ?_) fun _ _ h => h
  have aw : ∀ w2, Below w.heap.size w w2 → callR Try.prog 72 #[] w2 fun v w3 => ∃ x : Bool, v = .bool x ∧ R (.bool x) w3 := fun w2 b2 => nawake_spec fun w3 b3 => ⟨true, rfl, hR w3 (b2.trans (b3.mono b2.size))⟩
  have htl : t.l = ll.length := by have := hI.top.len; have := hI.len; omega
  have hml := hM.len
  refine graph_Of_spec hI (fun h0 => ⟨none, 2, rfl, ?_⟩) (fun h0 => ⟨none, 4, rfl, ?_⟩) (fun _ _ hG w1 b1 => ⟨none, 141, rfl, ?_⟩) fun h0 h1 hG w1 gb b1 _ hg => ⟨some (Gk.blk gb), 0, rfl, ?_⟩
  · exact JoinW.cut (fun _ _ => False) (ifB_true (by decide) (aw w (Below.refl _ _))) fun _ _ h => h.elim
  · exact JoinW.cut (fun _ _ => False) (ifB_true (by decide) (aw w (Below.refl _ _))) fun _ _ h => h.elim
  · exact JoinW.cut (fun _ _ => False) (ifB_true (by decide) (aw w1 b1)) fun _ _ h => h.elim
  have hx : NxOk (edges ll) := edges_ok h0 h1 hG
  have hnl : (edges ll).length = ll.length := edges_length ll
  generalize edges ll = nx at *
  refine JoinW.cut (fun _ w' => w' = w1 ∧ ll.length ≤ 64) (ifB_false (by decide) (ifB_dec (fun h => aw w1 b1) fun h => ⟨rfl, by omega⟩)) ?_
  rintro _ w4 ⟨e4, h64⟩
  subst e4
  have hP4 : PG w4 (some (Gk.blk gb)) gb nx := PG.some hx hg
  have z4 := b1.size
  have hM4 := IsC.mbelow hM b1
  refine copiedM_spec hM4 h24 fun w5 s5 b5 _ _ m5 _ => ⟨s5, rfl, ?_⟩
  have b45 := b1.trans (b5.mono z4)
  have z5 := b5.size
  refine Flaws_spec (hP4.below b5) m5 (fun e => by cases e) (fun _ _ w6 b6 => ⟨⟨none, 0, 0⟩, 2, rfl, ifB_true (by decide) (aw w6 (b45.trans (b6.mono b45.size)))⟩) fun _ hf w6 nb g r b6 hn _ => ⟨r, 0, rfl, ifB_false (by decide) ?_⟩
  have hd := hn.dok
  have b16 := b45.trans (b6.mono b45.size)
  have z6 := b6.size
  have hP6 := (hP4.below b5).below b6
  have hM6 := IsC.mbelow (IsC.mbelow hM4 b5) b6
  have hmn : ml.length = nx.length := hf.1
  have hsn : s.l = nx.length := by omega
  refine ⟨⟨by omega, by omega, by omega, by omega⟩, Nw.gen fun w8 hw8 => ?_⟩
  obtain ⟨bh, hbh⟩ : ∃ bh, bh = w6.heap.size := ⟨_, rfl⟩
  have hS8 : WS w6 bh nx.length (consM nx ml) w8.heap.size 0 w8 := by
    have hB : Blk w8 bh 32 (List.replicate nx.length (.slice none 0 0)) := by rw [hw8, hbh, hsn]; exact Blk.made w6 _ _ nx.length
    have hz : w8.heap.size = w6.heap.size + 1 := by rw [hw8]; simp
    refine ⟨by rw [hw8]; exact (Below.refl _ _).alloc (Nat.le_refl _) _, by omega, by omega, Nat.le_refl _, List.replicate nx.length ⟨none, 0, 0⟩, by simp, by simpa [Sl.val] using hB, fun i hi hk => by omega⟩
  rw [← hbh]
  clear hw8
  have bnd : ∀ {k : Nat}, k < nx.length → (0 ≤ (k : Int) ∧ (k : Int) < (s.l : Int)) := fun {k} hk => ⟨by omega, by omega⟩
  refine LoopW.count nx.length (by omega) (fun k w' => WS w6 bh nx.length (consM nx ml) w'.heap.size k w') hS8 ?_
  rintro h w9 hhn hS9 next hnext
  refine ifB_dec (fun hlt => ?_) (fun hge => ?_)
  · have hlt : h < nx.length := by dsimp only at hlt; omega
    refine cons_call (hP6.below hS9.b) (IsC.mbelow hM6 hS9.b) hf h24 hlt fun r11 f w11 b11 o11 hcase => ?_
    have hS11 := hS9.grow b11
    refine JoinW.cut (fun _ w' => w' = w11) (ifB_bne (fun hne => ?_) (fun _ => rfl)) ?_
    · rcases hcase with hc | hc
      · exact absurd hc.1 hne
      · exact ifB_bne (fun h' => absurd (by rw [hc.2.1]; rfl) h') fun _ => rfl
    rintro _ _ rfl
    rename_i w11
    refine ⟨bnd hlt, ?_⟩
    rw [show Int.toNat (h : Int) = h from rfl]
    have z9 := hS9.b.size
    have z11 := b11.size
    refine ⟨hS11.wr hlt, Nw.gen fun w13 hw13 => ?_⟩
    obtain ⟨_, _, o13, hS13⟩ := hS11.put (by omega) hw13 hlt o11
    have hS13 := hS13 rfl
    have hrl := own_len o13
    refine LoopW.count h (by omega) (fun _ w' => w' = w13) rfl ?_
    rintro o w14 ho rfl next2 hnext2
    refine ifB_dec (fun hlt2 => ?_) (fun _ => hnext _ hlt hS13)
    have hlt2 : o < h := by dsimp only at hlt2; omega
    refine JoinW.cut (fun _ w' => w' = w14) ?_ fun _ w' e => by rw [e]; exact hnext2 _ hlt2 rfl
    refine ⟨bnd (by omega), ?_⟩
    refine hS13.ld (j := o) (by omega) (by omega) fun x30 i30 _ => ?_
    refine common_spec (IsS.toI (Own.isS o13)) i30 ⟨_, rfl, ifB_bne (fun n1 => ifB_bne (fun n2 => ⟨bnd (by omega), ?_⟩) fun _ => rfl) fun _ => rfl⟩
    refine hS13.ld (j := o) (by omega) (by omega) fun x33 _ l33 => ifB_bne (fun n3 => ?_) fun _ => rfl
    rw [hrl] at n2
    rw [l33] at n3
    rcases hd.common h o with c | c | c
    · exact absurd (by rw [c]; rfl) n1
    · exact absurd (by rw [c]) n2
    · exact absurd (by rw [c]) n3
  · have : h = nx.length := by dsimp only at hge; omega
    subst this
    refine LoopW.count nx.length (by omega) (fun _ w' => WS w6 bh nx.length (consM nx ml) w'.heap.size nx.length w') hS9 ?_
    clear hS9 hnext next w9
    rintro n w17 hnn hS17 next hnext
    refine ifB_dec (fun hlt => ?_) (fun _ => aw w17 (b16.trans (hS17.b.mono b16.size)))
    have hlt : n < nx.length := by dsimp only at hlt; omega
    refine JoinW.cut (fun _ w' => WS w6 bh nx.length (consM nx ml) w'.heap.size nx.length w') ?_ fun _ w' h => hnext _ hlt h
    refine LoopW.countS nx.length (by omega) (fun k (v : Int) w' => WS w6 bh nx.length (consM nx ml) w'.heap.size nx.length w' ∧ LeastP nx ml n k v) ⟨hS17, .inl ⟨rfl, fun x hx => by omega⟩⟩ ?_
    clear hS17 hnext next w17
    rintro k v w18 hkn ⟨hS18, hL⟩ next hnext
    refine ifB_dec (fun hlt2 => ?_) (fun hge2 => ?_)
    · have hkk : k < nx.length := by dsimp only at hlt2; omega
      clear hlt2
      have hS18d : WS w6 bh nx.length (consM nx ml) w18.drew.heap.size nx.length w18.drew := hS18.grow (Below.refl _ _).drew
      refine JoinW.cut (fun (st : Int × Unit) w' => w' = w18.drew ∧ LeastP nx ml n (k + 1) st.1) ?_ fun st w' ⟨e1, e2⟩ => by
        subst e1
        exact hnext _ _ hkk ⟨hS18d, e2⟩
      refine ⟨bnd hkk, ?_⟩
      refine hS18d.ld (j := k) hkk (Nat.le_refl _) fun x42 i42 _ => nin_spec i42 fun b hb => ⟨b, rfl, ifB_bool (fun eb => ?_) (fun eb => ⟨rfl, hL.keep fun hi => ?_⟩)⟩
      · have hi : InM nx ml k n := (mem_consM.1 (mem_cast.1 (hb.1 eb))).2
        have new : (∀ x, x < k → InM nx ml x n → (consM nx ml k).length ≤ (consM nx ml x).length) → LeastP nx ml n (k + 1) (k : Int) := fun hh => .inr ⟨k, by omega, rfl, hi, fun x hx hix => by
          by_cases e : x = k
          · rw [e]; exact Nat.le_refl _
          · exact hh x (by omega) hix⟩
        rcases hL with ⟨h1, h2⟩ | ⟨z, h1, h2, h3, h4⟩
        · subst h1
          exact ifB_true (by simp) ⟨rfl, new fun x hx hix => absurd hix (h2 x hx)⟩
        · subst h2
          refine ifB_dec (fun h => absurd h (by simp only; omega)) fun _ => ⟨bnd hkk, ?_⟩
          refine hS18d.ld (j := k) hkk (Nat.le_refl _) fun x45 _ l45 => ⟨bnd (by omega), ?_⟩
          refine hS18d.ld (j := z) (by omega) (Nat.le_refl _) fun x46 _ l46 => ifB_dec (fun hll => ⟨rfl, new fun x hx hix => ?_⟩) fun hll => ⟨rfl, ?_⟩
          · have := h4 x hx hix
            omega
          · refine .inr ⟨z, by omega, rfl, h3, fun x hx hix => ?_⟩
            by_cases e : x = k
            · rw [e]; omega
            · exact h4 x (by omega) hix
      · have := hb.2 (mem_cast.2 (mem_consM.2 ⟨hlt, hi⟩))
        rw [this] at eb
        cases eb
    · have : k = nx.length := by dsimp only at hge2; omega
      subst this
      refine inner_call (hP6.below hS18.b) (IsC.mbelow hM6 hS18.b) hf hk h24 hlt fun v2 w22 b22 hv => ifB_false (by decide) ?_
      have hS22 : WS w6 bh nx.length (consM nx ml) w22.drew.heap.size nx.length w22.drew := (hS18.grow (b22.drew)).up
      rcases hv with ⟨e, hno⟩ | ⟨z, e, hz, hmin⟩
      · subst e
        rcases hL with ⟨e, _⟩ | ⟨z, _, _, h3, _⟩
        · subst e
          exact ifB_false (by simp) (ifB_false (by decide) hS22)
        · exact absurd h3 (hno z)
      · subst e
        have hzl := (hz.lt hd).1
        rcases hL with ⟨_, h2⟩ | ⟨y, h1, e, h3, h4⟩
        · exact absurd hz (h2 z hzl)
        · subst e
          refine ifB_not (ifB_true (by simp only [decide_eq_false (show ¬ ((z : Int) < 0) by omega), decide_eq_false (show ¬ ((y : Int) < 0) by omega)]; rfl) (ifB_true (by simp) ⟨bnd hzl, ?_⟩))
          refine hS22.ld (j := z) hzl (Nat.le_refl _) fun x52 _ l52 => ⟨bnd h1, ?_⟩
          refine hS22.ld (j := y) h1 (Nat.le_refl _) fun x53 _ l53 => ifB_bne (fun hne => ?_) fun _ => ⟨bnd hzl, ?_⟩
          · have q1 := h4 z hzl hz
            have q2 := consM_le hd h3 hz (hmin y h3)
            omega
          · refine hS22.ld (j := z) hzl (Nat.le_refl _) fun x54 i54 _ => nin_spec i54 fun b hb => ⟨b, rfl, ifB_not (ifB_bool (fun _ => hS22) fun eb => ?_)⟩
            have := hb.2 (mem_cast.2 (mem_consM.2 ⟨hlt, hz⟩))
            rw [this] at eb
            cases eb
end

end Go.Proofs
