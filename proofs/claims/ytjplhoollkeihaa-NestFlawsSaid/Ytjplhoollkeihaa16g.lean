/-
  nested.back, may, exit.
-/
import Derived.Test.Ytjplhoollkeihaa16f
namespace Go.Proofs
open Go.Gk Go.RowKit Go.Gr Go.Dm

def BackE (g : Nst) (i v : Nat) : Prop := (g.D (v : Int) (i : Int) ∧ (g.kd v ≠ 2 ∨ ¬ g.D (g.co v) (i : Int))) ∨ (¬ g.D (v : Int) (i : Int) ∧ Way (FE g) v i)
open Classical in
noncomputable def backB (g : Nst) (i u : Nat) : Bool := decide (g.D (i : Int) (u : Int))
theorem backB_iff {g : Nst} {i u : Nat} : backB g i u = true ↔ g.D (i : Int) (u : Int) := by simp [backB]
def BackP (g : Nst) (i : Nat) : Prop := (∃ v ∈ g.nx.getD i [], BackE g i v) ∨ 2 ≤ ((aheadOf g.nx).getD i []).countP (backB g i)

section
variable {w w' : World} {nb gb : Nat} {hsl : Sl} {g : Nst} {wb tb : Nat} {ms : Sl} {R : Value → World → Prop}
set_option maxHeartbeats 2000000 in
theorem back_spec (h : Ne w nb gb g) {i : Nat} (hi : i < g.nx.length) (hR : ∀ (b : Bool) w', Below w.heap.size w w' → (b = true ↔ BackP g i) → R (.bool b) w') :
    callR Try.prog 165 #[.pointer (some (Gk.blk nb)), .int .i64 (i : Int)] w R := by
  refine callR.of (nest_nested_back_calls _ (i : Int) R w ?_) fun _ _ h => h
  obtain ⟨hsl, hh, wb, tb, ms, h0, hn⟩ := h.ex
  clear h hn hh
  have hml := h0.fit.1
  have hmx := h0.ok.max
  refine derefP_some rfl ⟨_, h0.b.cell0 rfl, Next_spec h0.ok h0.gr fun r w1 o1 _ b1 => ⟨r, rfl, ?_⟩⟩
  rw [rowAt_nat] at o1
  have hrow := h0.ok.rows i
  have hrl := h0.ok.row_le i
  obtain ⟨row, hrw⟩ : ∃ row, row = g.nx.getD i [] := ⟨_, rfl⟩
  have hin : ∀ {v}, v ∈ row → v ∈ g.nx.getD i [] := fun h => hrw ▸ h
  rw [← hrw] at o1 hrow hrl
  have hl1 := own_len o1
  have z1 := b1.size
  have h1 := h0.below b1
  refine LoopW.count row.length (by omega) (fun k w' => Below w1.heap.size w1 w' ∧ ∀ j (hj : j < row.length), j < k → ¬ BackE g i row[j]) ⟨Below.refl _ _, fun j hj hk => by omega⟩ ?_
  rintro k w2 hk ⟨b2, hno⟩ next hnext
  have z2 := b2.size
  have h2 := h1.below b2
  refine ifB_dec (fun hlt => ?_) (fun hge => ?_)
  · have hlt : k < row.length := by dsimp only at hlt; omega
    have hvn := hrow _ (List.getElem_mem hlt)
    have yes : ∀ w', Below w2.heap.size w2 w' → BackE g i row[k] → R (.bool true) w' := fun w' hb he => hR true w' (b1.trans ((b2.trans (hb.mono z2)).mono z1)) ⟨fun _ => .inl ⟨row[k], hin (List.getElem_mem hlt), he⟩, fun _ => rfl⟩
    refine JoinW.cut (fun _ w' => Below w2.heap.size w2 w' ∧ ¬ BackE g i row[k]) ?_ ?_
    · refine elemI (IsS.toI (o1.below b2).isS) (k := k) (by simpa using hlt) ?_
      rw [List.getElem_map]
      refine derefP_some rfl ⟨ms, h2.b.cell (n := 1) rfl, elemM h2.m (k := row[k]) (by omega) (mcopy fun w6 hB6 b6 z6 => ?_)⟩
      rw [Nst.kd_get (by omega), Nst.to_get (by omega), Nst.co_get (by omega)] at hB6
      have h6 := h2.below b6
      refine dominates_spec h6 fun v w7 b7 hv => ⟨v, rfl, ifB_bool (fun e => ?_) (fun e => ?_)⟩
      · have hB7 := hB6.below b7
        have b27 : Below w2.heap.size w2 w7 := b6.trans (b7.mono (by omega))
        refine ⟨_, hB7.cell0 rfl, ifB_bne (fun hne => yes w7 b27 (.inl ⟨hv.1 e, .inl hne⟩)) (fun hk2 => ⟨_, hB7.cell (n := 2) rfl, ?_⟩)⟩
        refine dominates_spec (h6.below b7) fun v2 w8 b8 hv2 => ⟨v2, rfl, ifB_not (ifB_bool (fun e2 => ⟨b27.trans (b8.mono b27.size), fun he => ?_⟩) (fun e2 => yes w8 (b27.trans (b8.mono b27.size)) (.inl ⟨hv.1 e, .inr fun hD => by rw [hv2.2 hD] at e2; cases e2⟩)))⟩
        rcases he with ⟨_, h | h⟩ | ⟨h, _⟩
        · exact h hk2
        · exact h (hv2.1 e2)
        · exact h (hv.1 e)
      · have b27 : Below w2.heap.size w2 w7 := b6.trans (b7.mono (by omega))
        have hnD : ¬ g.D (row[k] : Int) (i : Int) := fun hD => by rw [hv.2 hD] at e; cases e
        refine comes_spec (h6.below b7) hvn fun v2 w9 b9 hv2 => ⟨v2, rfl, ifB_bool (fun e2 => yes w9 (b27.trans (b9.mono b27.size)) (.inr ⟨hnD, hv2.1 e2⟩)) (fun e2 => ⟨b27.trans (b9.mono b27.size), fun he => ?_⟩)⟩
        rcases he with ⟨h, _⟩ | ⟨_, h⟩
        · exact hnD h
        · rw [hv2.2 h] at e2; cases e2
    · rintro _ w10 ⟨b10, hn⟩
      refine hnext w10 hlt ⟨b2.trans (b10.mono z2), fun j hj hjk => ?_⟩
      by_cases e : j = k
      · subst e; exact hn
      · exact hno j hj (by omega)
  · have hk' : k = row.length := by dsimp only at hge; omega
    subst hk'
    have none : ¬ ∃ v ∈ g.nx.getD i [], BackE g i v := fun ⟨v, hv, he⟩ => by
      rw [← hrw] at hv
      obtain ⟨j, hj, rfl⟩ := List.mem_iff_getElem.1 hv
      exact hno j hj hj he
    refine derefP_some rfl ⟨_, h2.b.cell0 rfl, Ahead_spec h2.ok h2.gr fun r2 w11 o11 _ b11 => ⟨r2, rfl, ?_⟩⟩
    rw [rowAt_nat] at o11
    have hal := ahead_le g.nx i
    obtain ⟨ah, hah⟩ : ∃ ah, ah = (aheadOf g.nx).getD i [] := ⟨_, rfl⟩
    rw [← hah] at o11 hal
    have hl2 := own_len o11
    have z11 := b11.size
    have h11 := h2.below b11
    refine LoopW.countS ah.length (by omega) (fun k (c : Int) w' => Below w11.heap.size w11 w' ∧ c = ((ah.take k).countP (backB g i) : Int)) ⟨Below.refl _ _, by simp⟩ ?_
    rintro k c w12 hk ⟨b12, rfl⟩ next hnext
    have z12 := b12.size
    have h12 := h11.below b12
    refine ifB_dec (fun hlt => ?_) (fun hge => ?_)
    · have hlt : k < ah.length := by dsimp only at hlt; omega
      have hcl : (ah.take k).countP (backB g i) ≤ k := Nat.le_trans List.countP_le_length (by rw [List.length_take]; omega)
      have hst : (ah.take (k + 1)).countP (backB g i) = (ah.take k).countP (backB g i) + if backB g i ah[k] then 1 else 0 := by
        rw [List.take_succ_eq_append_getElem hlt, List.countP_append, List.countP_singleton]
      refine JoinW.cut (fun s w' => Below w12.heap.size w12 w' ∧ s.1 = ((ah.take (k + 1)).countP (backB g i) : Int)) ?_ ?_
      · refine elemI (IsS.toI (o11.below b12).isS) (k := k) (by simpa using hlt) ?_
        rw [List.getElem_map]
        refine dominates_spec h12 fun v w13 b13 hv => ⟨v, rfl, ifB_bool (fun e => ⟨b13, ?_⟩) (fun e => ⟨b13, ?_⟩)⟩
        · rw [hst, if_pos (backB_iff.2 (hv.1 e))]
          dsimp only
          rw [wrap64_succ (by omega)]
        · rw [hst, if_neg]
          · rfl
          · rw [backB_iff]; exact fun hD => by rw [hv.2 hD] at e; cases e
      · rintro ⟨c', _⟩ w14 ⟨b14, hc'⟩
        have hc' : c' = _ := hc'
        exact hnext c' w14 hlt ⟨b12.trans (b14.mono z12), hc'⟩
    · have hk' : k = ah.length := by dsimp only at hge; omega
      subst hk'
      rw [List.take_length]
      have e : decide ((((ah.countP (backB g i) : Nat) : Int)) ≥ 2) = decide (2 ≤ ah.countP (backB g i)) := by rw [decide_eq_decide]; omega
      rw [e]
      refine hR _ w12 (b1.trans ((b2.trans ((b11.trans (b12.mono z11)).mono z2)).mono z1)) ?_
      rw [decide_eq_true_eq, hah]
      exact ⟨fun h => .inr h, fun h => h.resolve_left none⟩

open Classical in
noncomputable def leftB (g : Nst) (t h : Nat) : Bool := decide (¬ g.In h t)
theorem leftB_iff {g : Nst} {t h : Nat} : leftB g t h = true ↔ ¬ g.In h t := by simp [leftB]
/-- The constructs that an edge leaves, the outermost first. -/
noncomputable def leftL (g : Nst) (i t : Nat) : List Nat := (g.hd i).filter (leftB g t)
/-- The innermost head of some kinds. -/
noncomputable def lastK (g : Nst) (i : Nat) (kl : List Int) : Int := lastI ((g.hd i).filter fun x => kl.contains (g.kd x))
theorem lastI_cases (l : List Nat) : (lastI l = -1 ∧ l = []) ∨ ∃ x ∈ l, lastI l = (x : Int) := by
  unfold lastI
  cases e : l.getLast? with
  | none => exact .inl ⟨rfl, List.getLast?_eq_none_iff.1 e⟩
  | some x => exact .inr ⟨x, List.mem_of_getLast? e, rfl⟩
def MayP (g : Nst) (i t : Nat) : Prop :=
  (∀ h ∈ g.hd t, h ≠ t → g.In h i) ∧ (leftL g i t = [] ∨ ∃ h, (leftL g i t).head? = some h ∧
    (((t : Int) = g.to h ∧ ((leftL g i t).length = 1 ∨ (h : Int) = lastK g i [2, 3])) ∨ ∃ o : Nat, lastK g i [2] = (o : Int) ∧ (t : Int) = g.co o ∧ g.In o t))

set_option maxHeartbeats 4000000 in
theorem may_spec (h : Ne w nb gb g) {i t : Nat} (hi : i < g.nx.length) (ht : t < g.nx.length) (hR : ∀ (b : Bool) w', Below w.heap.size w w' → (b = true ↔ MayP g i t) → R (.bool b) w') :
    callR Try.prog 189 #[.pointer (some (Gk.blk nb)), .int .i64 (i : Int), .int .i64 (t : Int)] w R := by
  refine callR.of (nest_nested_may_calls _ (i : Int) (t : Int) R w ?_) fun _ _ h => h
  obtain ⟨hsl, hh, wb, tb, ms, h0, hn⟩ := h.ex
  have hml := h0.fit.1
  have hmx := h0.ok.max
  refine derefP_some rfl ⟨hsl, h0.b.cell (n := 4) rfl, elemHd hn ht fun s hs => ?_⟩
  have hsl1 := hs.len
  have hdl := h0.hd_len t
  refine LoopW.count (g.hd t).length (by omega) (fun k w' => w' = w ∧ ∀ j (hj : j < (g.hd t).length), j < k → (g.hd t)[j] ≠ t → g.In (g.hd t)[j] i) ⟨rfl, fun j hj hk => by omega⟩ ?_
  rintro k wk hk ⟨ewk, hall⟩ next hnext
  subst wk
  refine ifB_dec (fun hlt => ?_) (fun hge => ?_)
  · have hlt : k < (g.hd t).length := by dsimp only at hlt; omega
    refine JoinW.cut (fun _ w' => w' = w ∧ ((g.hd t)[k] ≠ t → g.In (g.hd t)[k] i)) ?_ ?_
    · refine elemI (IsS.toI hs) (k := k) (by simpa using hlt) ?_
      rw [List.getElem_map]
      refine ifB_bne (fun hne => ?_) (fun e => ⟨rfl, fun hne => absurd (by omega) hne⟩)
      have hne : (g.hd t)[k] ≠ t := fun e => hne (by rw [e])
      refine nhas_spec h hi fun b hb => ⟨b, rfl, ifB_not (ifB_bool (fun e => ⟨rfl, fun _ => hb.1 e⟩) (fun e => hR false w (Below.refl _ _) ⟨(fun h => by cases h), fun hm => ?_⟩))⟩
      rw [hb.2 (hm.1 _ (List.getElem_mem hlt) hne)] at e
      cases e
    · rintro _ wk ⟨ewk, hk1⟩
      subst wk
      refine hnext w hlt ⟨rfl, fun j hj hjk => ?_⟩
      by_cases e : j = k
      · subst e; exact hk1
      · exact hall j hj (by omega)
  · have hall : ∀ h ∈ g.hd t, h ≠ t → g.In h i := fun x hx => by
      obtain ⟨j, hj, rfl⟩ := List.mem_iff_getElem.1 hx
      exact hall j hj (by dsimp only at hge; omega)
    refine derefP_some rfl ⟨hsl, h0.b.cell (n := 4) rfl, elemHd hn hi fun s2 hs2 => ?_⟩
    have hsl2 := hs2.len
    have hdl2 := h0.hd_len i
    have hfl : ∀ k, (((g.hd i).take k).filter (leftB g t)).length ≤ 4097 := fun k => by
      have := List.length_filter_le (leftB g t) ((g.hd i).take k)
      rw [List.length_take] at this
      omega
    refine LoopW.countS (g.hd i).length (by omega) (fun k (l : Sl) w' => Below w.heap.size w w' ∧ w.heap.size ≤ w'.heap.size ∧ Own w' 3 1 l ((((g.hd i).take k).filter (leftB g t)).map iN) ∧ Fresh w.heap.size l) ⟨Below.refl _ _, Nat.le_refl _, Own.nil _ _ _, fun a ha => by cases ha⟩ ?_
    rintro k l w4 hk ⟨hb, hz, ho, hf⟩ next hnext
    refine ifB_dec (fun hlt => ?_) (fun hge => ?_)
    · have hlt : k < (g.hd i).length := by dsimp only at hlt; omega
      have hst : ((g.hd i).take (k + 1)).filter (leftB g t) = ((g.hd i).take k).filter (leftB g t) ++ if leftB g t (g.hd i)[k] then [(g.hd i)[k]] else [] := by
        rw [List.take_succ_eq_append_getElem hlt, List.filter_append]
        by_cases hp : leftB g t (g.hd i)[k] = true
        · simp [hp]
        · simp [hp]
      refine JoinW.cut (fun s w' => Below w.heap.size w w' ∧ w.heap.size ≤ w'.heap.size ∧ Own w' 3 1 s.1 ((((g.hd i).take (k + 1)).filter (leftB g t)).map iN) ∧ Fresh w.heap.size s.1) ?_ ?_
      · refine elemI (IsS.toI (hs2.below hb)) (k := k) (by simpa using hlt) ?_
        rw [List.getElem_map]
        refine nhas_spec (h.below hb) ht fun b hbv => ⟨b, rfl, ifB_not (ifB_bool (fun e => ⟨hb, hz, ?_, hf⟩) (fun e => ?_))⟩
        · rw [hst, if_neg, List.append_nil]
          · exact ho
          · rw [leftB_iff]; exact fun hn => hn (hbv.1 e)
        · have hfk := hfl k
          refine push_own (y := (g.hd i)[k]) rfl hb hz ho hf (by omega) fun r w7 q1 q2 q3 q4 => ⟨q1, q2, ?_, q4⟩
          rw [hst, if_pos]
          · exact q3
          · rw [leftB_iff]; exact fun hn => by rw [hbv.2 hn] at e; cases e
      · rintro ⟨l', _⟩ w8 ⟨q1, q2, q3, q4⟩
        exact hnext l' w8 hlt ⟨q1, q2, q3, q4⟩
    · have hk' : k = (g.hd i).length := by dsimp only at hge; omega
      subst hk'
      rw [List.take_length] at ho
      obtain ⟨L, hL⟩ : ∃ L, L = leftL g i t := ⟨_, rfl⟩
      have ho : Own w4 3 1 l (L.map iN) := by rw [hL]; exact ho
      have hll := own_len ho
      have hm : MayP g i t ↔ (L = [] ∨ ∃ h, L.head? = some h ∧ (((t : Int) = g.to h ∧ (L.length = 1 ∨ (h : Int) = lastK g i [2, 3])) ∨ ∃ o : Nat, lastK g i [2] = (o : Int) ∧ (t : Int) = g.co o ∧ g.In o t)) := by
        rw [hL]; exact ⟨fun h => h.2, fun h => ⟨hall, h⟩⟩
      dsimp only
      refine ifB_beq (fun e => hR true w4 hb ⟨fun _ => hm.2 (.inl (List.eq_nil_of_length_eq_zero (by omega))), fun _ => rfl⟩) (fun hne => ?_)
      cases hLc : L with
      | nil => rw [hLc] at hll; simp at hll; omega
      | cons x L' =>
      have hxm : x ∈ g.hd i := by
        have : x ∈ leftL g i t := by rw [← hL, hLc]; exact List.mem_cons_self
        exact (List.mem_filter.1 this).1
      have hxn := h0.in_lt (h0.hd_mem.1 hxm)
      have hln : ∀ kl, lastK g i kl = -1 ∨ ∃ o : Nat, lastK g i kl = (o : Int) ∧ o < g.nx.length := fun kl => by
        rcases lastI_cases ((g.hd i).filter fun x => kl.contains (g.kd x)) with h | ⟨o, h1, h2⟩
        · exact .inl h.1
        · exact .inr ⟨o, h2, h0.in_lt (h0.hd_mem.1 (List.mem_filter.1 h1).1)⟩
      rw [hLc] at hm hll
      have hoS := ho.isS
      obtain ⟨a, ha⟩ := hoS.base (i := 0) (by rw [hLc]; simp)
      have hc0 := hoS.cell a ha 0 (by rw [hLc]; simp)
      have hx0 : L[0]'(by rw [hLc]; simp) = x := by simp [hLc]
      rw [hx0] at hc0
      have h4 := h0.below hb
      refine ⟨⟨by omega, by simp at hll; omega⟩, derefP_some ha ⟨(x : Int), hc0, ?_⟩⟩
      refine JoinW.cut (fun _ w' => Below w.heap.size w w' ∧ ¬ ((t : Int) = g.to x ∧ ((x :: L').length = 1 ∨ (x : Int) = lastK g i [2, 3]))) ?_ ?_
      · refine derefP_some rfl ⟨ms, h4.b.cell (n := 1) rfl, elemMt h4.m (k := x) (by omega) ?_⟩
        rw [Nst.to_get (by omega)]
        refine ifB_beq (fun e => ?_) (fun e => ⟨hb, fun h => e h.1⟩)
        have yes : ∀ w', Below w.heap.size w w' → ((x :: L').length = 1 ∨ (x : Int) = lastK g i [2, 3]) → R (.bool true) w' := fun w' hb' hor => hR true w' hb' ⟨fun _ => hm.2 (.inr ⟨x, rfl, .inl ⟨e, hor⟩⟩), fun _ => rfl⟩
        refine ifB_beq (fun e1 => yes w4 hb (.inl (by omega))) (fun e1 => ?_)
        refine Nw.gen fun w9 hw9 => ?_
        have hK : Blk w9 w4.heap.size 5 ([2, 3].map (Value.int .u8)) := by rw [hw9]; exact Blk.new w4 _ #[_, _]
        have b9 : Below w4.heap.size w4 w9 := by rw [hw9]; exact (Below.refl _ _).alloc (Nat.le_refl _) _
        clear hw9
        refine last_spec ((h.below hb).below b9) hi (ks := ⟨some (Gk.blk w4.heap.size), 2, 2⟩) (kl := [2, 3]) (Blk.isS (f := Value.int .u8) (l := [2, 3]) hK rfl rfl (Nat.le_refl _) (show 2 ≤ 9223372036854775807 by decide)) fun w10 b10 => ⟨_, rfl, ?_⟩
        have b10' : Below w.heap.size w w10 := hb.trans ((b9.trans (b10.mono b9.size)).mono hz)
        exact ifB_beq (fun e2 => yes w10 b10' (.inr e2)) (fun e2 => ⟨b10', fun h => h.2.elim (fun h => e1 (by omega)) e2⟩)
      · rintro _ w11 ⟨b11, hno⟩
        have hm2 : MayP g i t ↔ ∃ o : Nat, lastK g i [2] = (o : Int) ∧ (t : Int) = g.co o ∧ g.In o t := hm.trans ⟨fun h => by
          rcases h with h | ⟨y, hy, h⟩
          · cases h
          · cases hy
            exact h.resolve_left hno, fun h => .inr ⟨x, rfl, .inr h⟩⟩
        have z11 := b11.size
        refine Nw.gen fun w12 hw12 => ?_
        have hK : Blk w12 w11.heap.size 5 ([2].map (Value.int .u8)) := by rw [hw12]; exact Blk.new w11 _ #[_]
        have b12 : Below w11.heap.size w11 w12 := by rw [hw12]; exact (Below.refl _ _).alloc (Nat.le_refl _) _
        clear hw12
        refine last_spec ((h.below b11).below b12) hi (ks := ⟨some (Gk.blk w11.heap.size), 1, 1⟩) (kl := [2]) (Blk.isS (f := Value.int .u8) (l := [2]) hK rfl rfl (Nat.le_refl _) (show 1 ≤ 9223372036854775807 by decide)) fun w13 b13 => ⟨lastK g i [2], rfl, ?_⟩
        have b13' : Below w.heap.size w w13 := b11.trans ((b12.trans (b13.mono b12.size)).mono z11)
        have no : ∀ w', Below w.heap.size w w' → (∀ o : Nat, lastK g i [2] = (o : Int) → (t : Int) = g.co o → ¬ g.In o t) → R (.bool false) w' := fun w' hb' hq => hR false w' hb' ⟨(fun h => by cases h), fun h => by
          obtain ⟨o, q1, q2, q3⟩ := hm2.1 h
          exact absurd q3 (hq o q1 q2)⟩
        rcases hln [2] with hm1 | ⟨o, ho2, hon⟩
        · rw [hm1]
          exact ifB_dec (fun h => absurd h (by decide)) fun _ => no w13 b13' fun o h => by omega
        · rw [ho2]
          have h13 := h0.below b13'
          refine ifB_dec (fun _ => derefP_some rfl ⟨ms, h13.b.cell (n := 1) rfl, elemMc h13.m (k := o) (by omega) ?_⟩) (fun h => absurd h (by omega))
          rw [Nst.co_get (by omega)]
          refine ifB_beq (fun e => nhas_spec (h.below b13') ht fun b hbv => ⟨b, rfl, hR b w13 b13' (hbv.trans ⟨fun h => hm2.2 ⟨o, ho2, e, h⟩, fun h => ?_⟩)⟩) (fun e => no w13 b13' fun o' q1 q2 => ?_)
          · obtain ⟨o', q1, q2, q3⟩ := hm2.1 h
            have : o' = o := by omega
            subst this
            exact q3
          · have : o' = o := by omega
            subst this
            exact absurd q2 e

def ExitP (g : Nst) (i : Nat) : Prop := ∃ t ∈ g.nx.getD i [], ¬ MayP g i t
theorem exit_spec (h : Ne w nb gb g) {i : Nat} (hi : i < g.nx.length) (hR : ∀ (b : Bool) w', Below w.heap.size w w' → (b = true ↔ ExitP g i) → R (.bool b) w') :
    callR Try.prog 166 #[.pointer (some (Gk.blk nb)), .int .i64 (i : Int)] w R := by
  refine callR.of (nest_nested_exit_calls _ (i : Int) R w ?_) fun _ _ h => h
  obtain ⟨hsl, hh, wb, tb, ms, h0, hn⟩ := h.ex
  have hmx := h0.ok.max
  refine derefP_some rfl ⟨_, h0.b.cell0 rfl, Next_spec h0.ok h0.gr fun r w1 o1 _ b1 => ⟨r, rfl, ?_⟩⟩
  rw [rowAt_nat] at o1
  have hrow := h0.ok.rows i
  have hrl := h0.ok.row_le i
  obtain ⟨row, hrw⟩ : ∃ row, row = g.nx.getD i [] := ⟨_, rfl⟩
  have hin : ∀ {v}, v ∈ row → v ∈ g.nx.getD i [] := fun h => hrw ▸ h
  rw [← hrw] at o1 hrow hrl
  have hl1 := own_len o1
  have z1 := b1.size
  refine LoopW.count row.length (by omega) (fun k w' => Below w1.heap.size w1 w' ∧ ∀ j (hj : j < row.length), j < k → MayP g i row[j]) ⟨Below.refl _ _, fun j hj hk => by omega⟩ ?_
  rintro k w2 hk ⟨b2, hall⟩ next hnext
  have z2 := b2.size
  refine ifB_dec (fun hlt => ?_) (fun hge => ?_)
  · have hlt : k < row.length := by dsimp only at hlt; omega
    refine elemI (IsS.toI (o1.below b2).isS) (k := k) (by simpa using hlt) ?_
    rw [List.getElem_map]
    refine may_spec ((h.below b1).below b2) hi (hrow _ (List.getElem_mem hlt)) fun b w3 b3 hb => ⟨b, rfl, ifB_bool (fun e => hnext w3 hlt ⟨b2.trans (b3.mono z2), fun j hj hjk => ?_⟩) (fun e => hR true w3 (b1.trans ((b2.trans (b3.mono z2)).mono z1)) ⟨fun _ => ⟨row[k], hin (List.getElem_mem hlt), fun hm => ?_⟩, fun _ => rfl⟩)⟩
    · by_cases e' : j = k
      · subst e'; exact hb.1 e
      · exact hall j hj (by omega)
    · rw [hb.2 hm] at e; cases e
  · refine hR false w2 (b1.trans (b2.mono z1)) ⟨(fun h => by cases h), fun ⟨t, hm, hn⟩ => ?_⟩
    rw [← hrw] at hm
    obtain ⟨j, hj, rfl⟩ := List.mem_iff_getElem.1 hm
    exact absurd (hall j hj (by dsimp only at hge; omega)) hn
end

end Go.Proofs
