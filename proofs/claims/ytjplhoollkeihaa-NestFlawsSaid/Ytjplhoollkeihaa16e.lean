/-
  nested.has, last, bare, merge.
-/
import Derived.Test.Ytjplhoollkeihaa16d
import Derived.Test.YtjplhoollkeihaaL16b
namespace Go.Proofs
open Go.Gk Go.RowKit Go.Gr Go.Dm

theorem Contains_spec {s : Sl} {l : List Int} {n : Int} {w : World} {R : Value → World → Prop} (h : IsI w s l) (hR : ∀ b : Bool, (b = true ↔ n ∈ l) → R (.bool b) w) :
    callR Try.prog 113 #[.slice s.a s.l s.c, .int .i64 n] w R := by
  refine callR.of (slices_Contains_sint_int_calls s n R w ?_) fun _ _ h => h
  refine callR.of (slices_Index_sint_int_calls s n _ w ?_) fun _ _ h => h
  have hl := h.len
  refine LoopW.count l.length h.bound (fun k w' => w' = w ∧ ∀ j (hj : j < l.length), j < k → l[j] ≠ n) ⟨rfl, fun j hj hk => absurd hk (by omega)⟩ ?_
  rintro k _ hk ⟨rfl, hn⟩ next hnext
  refine ifB_dec (fun hlt => ?_) (fun hge => ⟨_, rfl, ?_⟩)
  · have hlt : k < l.length := by dsimp only at hlt; omega
    refine elemI h hlt (ifB_beq (fun e => ⟨_, rfl, ?_⟩) (fun e => hnext _ hlt ⟨rfl, fun j hj hjk => ?_⟩))
    · have e0 : decide ((k : Int) ≥ 0) = true := by simp
      have := hR true ⟨fun _ => e ▸ List.getElem_mem hlt, fun _ => rfl⟩
      rw [← e0] at this
      exact this
    · by_cases e' : j = k
      · subst e'; exact fun h => e h.symm
      · exact hn j hj (by omega)
  · refine hR false ⟨(fun e => by cases e), fun hm => ?_⟩
    obtain ⟨j, hj, e⟩ := List.mem_iff_getElem.1 hm
    exact absurd e (hn j hj (by dsimp only at hge; omega))
theorem ContainsU_spec {s : Sl} {l : List Int} {n : Int} {w : World} {R : Value → World → Prop} (h : IsS (Value.int .u8) w s l) (hR : ∀ b : Bool, (b = true ↔ n ∈ l) → R (.bool b) w) :
    callR Try.prog 174 #[.slice s.a s.l s.c, .int .u8 n] w R := by
  refine callR.of (slices_Contains_suint8_uint8_calls s n R w ?_) fun _ _ h => h
  refine callR.of (slices_Index_suint8_uint8_calls s n _ w ?_) fun _ _ h => h
  have hl := h.len
  refine LoopW.count l.length h.bound (fun k w' => w' = w ∧ ∀ j (hj : j < l.length), j < k → l[j] ≠ n) ⟨rfl, fun j hj hk => absurd hk (by omega)⟩ ?_
  rintro k _ hk ⟨rfl, hn⟩ next hnext
  refine ifB_dec (fun hlt => ?_) (fun hge => ⟨_, rfl, ?_⟩)
  · have hlt : k < l.length := by dsimp only at hlt; omega
    refine h.addr hlt fun a _ hc => ⟨l[k], by simpa using hc, ifB_beq (fun e => ⟨_, rfl, ?_⟩) (fun e => hnext _ hlt ⟨rfl, fun j hj hjk => ?_⟩)⟩
    · have e0 : decide ((k : Int) ≥ 0) = true := by simp
      have := hR true ⟨fun _ => e ▸ List.getElem_mem hlt, fun _ => rfl⟩
      rw [← e0] at this
      exact this
    · by_cases e' : j = k
      · subst e'; exact fun h => e h.symm
      · exact hn j hj (by omega)
  · refine hR false ⟨(fun e => by cases e), fun hm => ?_⟩
    obtain ⟨j, hj, e⟩ := List.mem_iff_getElem.1 hm
    exact absurd e (hn j hj (by dsimp only at hge; omega))

theorem mem_cast {l : List Nat} {x : Nat} : (x : Int) ∈ l.map (fun (y : Nat) => (y : Int)) ↔ x ∈ l := by
  rw [List.mem_map]
  exact ⟨fun ⟨a, h, e⟩ => by rw [← show a = x by omega]; exact h, fun h => ⟨x, h, rfl⟩⟩
section
variable {w w' : World} {nb gb : Nat} {hsl : Sl} {g : Nst} {wb tb : Nat} {ms : Sl} {R : Value → World → Prop}
theorem Dt.up_mem {nx : List (List Nat)} {ov : Nat → Option Nat} {dp : Nat → Int} (h : Dt w tb nx ov dp) {x : Nat} {i : Int} : x ∈ upOf nx ov dp i ↔ DomP (orderOf nx) ov (x : Int) i := by
  constructor
  · intro hx
    by_cases hin : inOd (orderOf nx) i = true
    · obtain ⟨y, rfl, hy⟩ := inOd_iff.1 hin
      have hm := h.dpo.mem y hy
      rw [upOf_in hy] at hx
      obtain ⟨k, hk, rfl⟩ := List.mem_iff_getElem.1 hx
      exact ⟨_, y, rfl, rfl, hy, ((h.upL_spec _ y hy (by omega)).2.1 k hk).1⟩
    · unfold upOf at hx; rw [if_neg hin] at hx; cases hx
  · rintro ⟨a', b', e, rfl, h1, h2⟩
    have e : x = a' := by omega
    subst e
    have hm := h.dpo.mem b' h1
    rw [upOf_in h1]
    obtain ⟨g1, g2, _, _⟩ := h.upL_spec ((dp b').toNat + 1) b' h1 (by omega)
    have ha := h.ancOd h1 h2
    have hma := h.dpo.mem x ha
    have hle : dp x ≤ dp b' := by
      rcases h.mono h1 h2 with rfl | h3
      · exact Int.le_refl _
      · omega
    have hk : (dp b' - dp x).toNat < (upL ov ((dp b').toNat + 1) b').length := by omega
    obtain ⟨g5, g6⟩ := g2 _ hk
    have : (upL ov ((dp b').toNat + 1) b')[(dp b' - dp x).toNat] = x := h.same h1 g5 h2 (by omega)
    rw [← this]
    exact List.getElem_mem hk
theorem Ne0.hd_mem (h : Ne0 w nb gb hsl g wb tb ms) {x i : Nat} : x ∈ g.hd i ↔ g.In x i := by
  unfold Nst.hd Nst.In
  rw [List.mem_reverse, List.mem_filter, Nst.hdP_iff, h.dt.up_mem]
  exact ⟨fun ⟨a, b, c⟩ => ⟨b, a, c⟩, fun ⟨a, b, c⟩ => ⟨b, a, c⟩⟩
theorem Ne0.hd_len (h : Ne0 w nb gb hsl g wb tb ms) (i : Nat) : (g.hd i).length ≤ 4097 := by
  unfold Nst.hd
  rw [List.length_reverse]
  have := List.length_filter_le (g.hdP i) (upOf g.wx g.ov g.dp (i : Int))
  have := h.dt.upLen (i : Int)
  omega
theorem Ne0.in_lt (h : Ne0 w nb gb hsl g wb tb ms) {x i : Nat} (hi : g.In x i) : x < g.nx.length := by
  obtain ⟨_, ⟨a', b', e, _, h1, h2⟩, _⟩ := hi
  have e : x = a' := by omega
  subst e
  rw [← h.wlen]
  exact h.dt.lt (h.dt.ancOd h1 h2)
theorem elemHd {hh : List Sl} (h : IsNN w hsl hh ((List.range g.nx.length).map g.hd)) {i : Nat} (hi : i < g.nx.length) {φ : Sl → Prop} (hφ : ∀ x, IsN w x (g.hd i) → φ x) :
    (0 ≤ (i : Int) ∧ (i : Int) < (hsl.l : Int)) ∧ derefP hsl.a fun a => ldS w (a.add (Int.toNat (i : Int))) φ := by
  have hl := h.len
  have hih : i < hh.length := by rw [hl]; simpa using hi
  refine elemS h.top hih (hφ _ ?_)
  have := h.row i hih (by simpa using hi)
  simpa using this

theorem nhas_spec (h : Ne w nb gb g) {x i : Nat} (hi : i < g.nx.length) (hR : ∀ b : Bool, (b = true ↔ g.In x i) → R (.bool b) w) :
    callR Try.prog 125 #[.pointer (some (Gk.blk nb)), .int .i64 (x : Int), .int .i64 (i : Int)] w R := by
  refine callR.of (nest_nested_has_calls _ (x : Int) (i : Int) R w ?_) fun _ _ h => h
  obtain ⟨hsl, hh, wb, tb, ms, h0, hn⟩ := h.ex
  refine derefP_some rfl ⟨hsl, h0.b.cell (n := 4) rfl, elemHd hn hi fun s hs => ?_⟩
  refine Contains_spec (IsS.toI hs) fun b hb => ⟨b, rfl, hR b (hb.trans ?_)⟩
  rw [← h0.hd_mem]
  exact mem_cast

def lastI (l : List Nat) : Int := match l.getLast? with | some x => (x : Int) | none => -1

set_option maxHeartbeats 1000000 in
theorem last_spec (h : Ne w nb gb g) {i : Nat} (hi : i < g.nx.length) {ks : Sl} {kl : List Int} (hk : IsS (Value.int .u8) w ks kl) (hR : ∀ w', Below w.heap.size w w' → R (.int .i64 (lastI ((g.hd i).filter fun x => kl.contains (g.kd x)))) w') :
    callR Try.prog 131 #[.pointer (some (Gk.blk nb)), .int .i64 (i : Int), .slice ks.a ks.l ks.c] w R := by
  refine callR.of (nest_nested_last_calls _ (i : Int) ks R w ?_) fun _ _ h => h
  obtain ⟨hsl, hh, wb, tb, ms, h0, hn⟩ := h.ex
  have hml := h0.fit.1
  refine derefP_some rfl ⟨hsl, h0.b.cell (n := 4) rfl, elemHd hn hi fun s hs => ?_⟩
  have hLl := h0.hd_len i
  have hlt' : ∀ x ∈ g.hd i, x < g.nx.length := fun x hx => h0.in_lt (h0.hd_mem.1 hx)
  obtain ⟨L, hL⟩ : ∃ L, L = g.hd i := ⟨_, rfl⟩
  rw [← hL] at hs hLl hR hlt'
  have hsl' := hs.len
  rw [wrap64_in (by omega) (by omega)]
  refine LoopW.ghost (fun k st w' => k ≤ L.length ∧ st = ((k : Int) - 1, ()) ∧ Below w.heap.size w w' ∧ (L.drop k).filter (fun x => kl.contains (g.kd x)) = []) L.length ⟨Nat.le_refl _, by rw [hsl'], Below.refl _ _, by simp⟩ ?_
  rintro k _ w1 ⟨hkl, rfl, hb, hd⟩ next hnext
  refine ifB_dec (fun hge => ?_) (fun hlt => ?_)
  · obtain ⟨m, rfl⟩ : ∃ m, k = m + 1 := ⟨k - 1, by dsimp only at hge; omega⟩
    have hmL : m < L.length := by omega
    have e1 := h0.below hb.drew
    have hs1 := hs.below hb.drew
    have hxn := hlt' _ (List.getElem_mem hmL)
    have em : (((m + 1 : Nat) : Int) - 1) = (m : Int) := by omega
    dsimp only
    rw [em]
    refine derefP_some rfl ⟨ms, e1.b.cell (n := 1) rfl, ?_⟩
    refine elemI (IsS.toI hs1) (k := m) (by simpa using hmL) ?_
    rw [List.getElem_map]
    refine elemMk e1.m (k := L[m]) (by omega) ?_
    rw [Nst.kd_get (by omega)]
    refine ContainsU_spec (hk.below hb.drew) fun b hbv => ⟨b, rfl, ifB_bool (fun e => ?_) (fun e => ?_)⟩
    · refine elemI (IsS.toI hs1) (k := m) (by simpa using hmL) ?_
      rw [List.getElem_map]
      have e2 : L.filter (fun x => kl.contains (g.kd x)) = (L.take m).filter (fun x => kl.contains (g.kd x)) ++ [L[m]] := by
        have : L = L.take m ++ ([L[m]] ++ L.drop (m + 1)) := by simp
        conv => lhs; rw [this]
        rw [List.filter_append, List.filter_append, hd]
        have hc : kl.contains (g.kd L[m]) = true := by simpa using hbv.1 e
        have h1 : [L[m]].filter (fun x => kl.contains (g.kd x)) = [L[m]] := by simp only [List.filter_cons, hc, if_true, List.filter_nil]
        rw [h1, List.append_nil]
      have := hR w1.drew hb.drew
      rw [e2] at this
      simpa [lastI] using this
    · rw [wrap64_in (by omega) (by omega)]
      refine hnext m _ _ (by omega) ⟨by omega, rfl, hb.drew, ?_⟩
      rw [List.drop_eq_getElem_cons hmL, List.filter_cons_of_neg, hd]
      intro hc
      rw [hbv.2 (by simpa using hc)] at e
      cases e
  · have : k = 0 := by dsimp only at hlt; omega
    subst this
    rw [List.drop_zero] at hd
    have := hR w1 hb
    rw [hd] at this
    exact this

def BareP (g : Nst) (i : Nat) : Prop := g.kd i = 0 ∧ 2 ≤ (g.nx.getD i []).length
theorem bare_spec (h : Ne w nb gb g) {i : Nat} (hi : i < g.nx.length) (hR : ∀ (b : Bool) w', Below w.heap.size w w' → (b = true ↔ BareP g i) → R (.bool b) w') :
    callR Try.prog 163 #[.pointer (some (Gk.blk nb)), .int .i64 (i : Int)] w R := by
  refine callR.of (nest_nested_bare_calls _ (i : Int) R w ?_) fun _ _ h => h
  obtain ⟨hsl, hh, wb, tb, ms, h0, hn⟩ := h.ex
  have hml := h0.fit.1
  refine derefP_some rfl ⟨ms, h0.b.cell (n := 1) rfl, elemMk h0.m (k := i) (by omega) ?_⟩
  rw [Nst.kd_get (by omega)]
  refine ifB_beq (fun e => derefP_some rfl ⟨_, h0.b.cell0 rfl, Next_spec h0.ok h0.gr fun r w' o f b => ⟨r, rfl, ?_⟩⟩) (fun e => hR false w (Below.refl _ _) ⟨(fun h => by cases h), fun h => absurd h.1 e⟩)
  rw [rowAt_nat] at o
  have := own_len o
  refine hR _ w' b ?_
  unfold BareP
  rw [decide_eq_true_eq]
  exact ⟨fun h => ⟨e, by omega⟩, fun h => by omega⟩

def MergeO (g : Nst) (i o : Nat) : Prop := o ≠ i ∧ g.kd o ≠ 0 ∧ o ∈ orderOf g.wx ∧ (g.to o = g.to i ∨ (g.kd i = 2 ∧ g.kd o = 2 ∧ g.co o = g.co i))
def MergeP (g : Nst) (i : Nat) : Prop :=
  g.kd i ≠ 0 ∧ (g.to i = (i : Int) ∨ ¬ g.D (i : Int) (g.to i) ∨ (g.kd i = 2 ∧ (g.co i = g.to i ∨ ¬ g.D (i : Int) (g.co i))) ∨ ∃ o, o < g.nx.length ∧ MergeO g i o)
set_option maxHeartbeats 2000000 in
theorem merge_spec (h : Ne w nb gb g) {i : Nat} (hi : i < g.nx.length) (hR : ∀ (b : Bool) w', Below w.heap.size w w' → (b = true ↔ MergeP g i) → R (.bool b) w') :
    callR Try.prog 164 #[.pointer (some (Gk.blk nb)), .int .i64 (i : Int)] w R := by
  refine callR.of (nest_nested_merge_calls _ (i : Int) R w ?_) fun _ _ h => h
  obtain ⟨hsl, hh, wb, tb, ms, h0, hn⟩ := h.ex
  clear h hn hh
  have hml := h0.fit.1
  have hmx := h0.ok.max
  refine derefP_some rfl ⟨ms, h0.b.cell (n := 1) rfl, elemM h0.m (k := i) (by omega) (mcopy fun w4 hB4 b4 z4 => ?_)⟩
  rw [Nst.kd_get (by omega), Nst.to_get (by omega), Nst.co_get (by omega)] at hB4
  refine ⟨_, hB4.cell0 rfl, ifB_beq (fun e => hR false w4 b4 ⟨(fun h => by cases h), fun h => absurd e h.1⟩) (fun hk0 => ⟨_, hB4.cell0 rfl, ?_⟩)⟩
  have yes : ∀ w', Below w.heap.size w w' → (g.to i = (i : Int) ∨ ¬ g.D (i : Int) (g.to i) ∨ (g.kd i = 2 ∧ (g.co i = g.to i ∨ ¬ g.D (i : Int) (g.co i))) ∨ ∃ o, o < g.nx.length ∧ MergeO g i o) → R (.bool true) w' := fun w' hb hh => hR true w' hb ⟨fun _ => ⟨hk0, hh⟩, fun _ => rfl⟩
  have z04 := b4.size
  refine JoinW.cut (fun _ w' => Below w4.heap.size w4 w' ∧ g.to i ≠ (i : Int) ∧ g.D (i : Int) (g.to i) ∧ (g.kd i = 2 → g.co i ≠ g.to i ∧ g.D (i : Int) (g.co i))) ?_ ?_
  · refine ⟨_, hB4.cell (n := 1) rfl, ifB_beq (fun e => yes w4 b4 (.inl e)) (fun hne => ⟨_, hB4.cell (n := 1) rfl, ?_⟩)⟩
    refine dominates_spec (h0.below b4) fun v w5 b5 hv => ⟨v, rfl, ifB_not (ifB_bool (fun e => ?_) (fun e => yes w5 (b4.trans (b5.mono z04)) (.inr (.inl fun hD => by rw [hv.2 hD] at e; cases e))))⟩
    have hD1 := hv.1 e
    have hB5 := hB4.below b5
    have z5 := b5.size
    refine ifB_beq (fun h2 => ?_) (fun h2 => ⟨b5, hne, hD1, fun h => absurd h h2⟩)
    refine ⟨_, hB5.cell (n := 2) rfl, _, hB5.cell (n := 1) rfl, ifB_beq (fun e => yes w5 (b4.trans (b5.mono z04)) (.inr (.inr (.inl ⟨h2, .inl e⟩)))) (fun hne2 => ⟨_, hB5.cell (n := 2) rfl, ?_⟩)⟩
    refine dominates_spec (h0.below (b4.trans (b5.mono z04))) fun v2 w6 b6 hv2 => ⟨v2, rfl, ifB_not (ifB_bool (fun e2 => ⟨b5.trans (b6.mono z5), hne, hD1, fun _ => ⟨hne2, hv2.1 e2⟩⟩) (fun e2 => yes w6 (b4.trans ((b5.trans (b6.mono z5)).mono z04)) (.inr (.inr (.inl ⟨h2, .inr fun hD => by rw [hv2.2 hD] at e2; cases e2⟩)))))⟩
  rintro _ w7 ⟨b7, hne, hD1, hD2⟩
  have z7 := b7.size
  have h7 := h0.below (b4.trans (b7.mono z04))
  refine derefP_some rfl ⟨ms, h7.b.cell (n := 1) rfl, ?_⟩
  have hmsl := h7.m.len
  refine LoopW.count g.ml.length (by omega) (fun k w' => Below w7.heap.size w7 w' ∧ ∀ o, o < k → ¬ MergeO g i o) ⟨Below.refl _ _, fun o ho => by omega⟩ ?_
  rintro k w8 hk ⟨b8, hno⟩ next hnext
  have z8 := b8.size
  have b48 : Below w4.heap.size w4 w8 := b7.trans (b8.mono z7)
  have b08 : Below w.heap.size w w8 := b4.trans (b48.mono z04)
  refine ifB_dec (fun hlt => ?_) (fun hge => hR false w8 b08 ⟨(fun h => by cases h), fun hh => ?_⟩)
  · have hlt : k < g.ml.length := by dsimp only at hlt; omega
    refine JoinW.cut (fun _ w' => Below w8.heap.size w8 w' ∧ ¬ MergeO g i k) ?_ ?_
    · refine elemM (h0.below b08).m (k := k) hlt (mcopy fun w12 hB12 b12 z12 => ?_)
      rw [Nst.kd_get hlt, Nst.to_get hlt, Nst.co_get hlt] at hB12
      refine JoinW.cut (fun _ w' => Below w12.heap.size w12 w' ∧ k ≠ i ∧ g.kd k ≠ 0 ∧ k ∈ orderOf g.wx) ?_ ?_
      · refine ifB_beq (fun e => ⟨b12, fun hm => hm.1 (by dsimp only at e; omega)⟩) (fun hki => ⟨_, hB12.cell0 rfl, ifB_beq (fun e => ⟨b12, fun hm => hm.2.1 e⟩) (fun hkk => ?_)⟩)
        have h12 := h0.below (b08.trans (b12.mono b08.size))
        refine derefP_some rfl ⟨_, h12.b.cell (n := 2) rfl, Reached_spec h12.dt.ok h12.wide ⟨_, rfl, ifB_not (ifB_bool (fun e => ⟨Below.refl _ _, fun e' => hki (by rw [e']), hkk, ?_⟩) (fun e => ⟨b12, fun hm => ?_⟩))⟩⟩
        · rw [reached_inOd h12.dt.ok, inOd_nat] at e
          simpa using e
        · rw [reached_inOd h12.dt.ok, inOd_nat] at e
          have := hm.2.2.1
          rw [← Bool.not_eq_true] at e
          exact e (by simpa using this)
      · rintro _ w14 ⟨b14, hki, hkk, hko⟩
        have hB14 := hB12.below b14
        have z12' := b12.size
        have b814 : Below w8.heap.size w8 w14 := b12.trans (b14.mono z12')
        have hI14 := hB4.below (b48.trans (b814.mono b48.size))
        have b014 : Below w.heap.size w w14 := b08.trans (b814.mono b08.size)
        refine ⟨_, hB14.cell (n := 1) rfl, _, hI14.cell (n := 1) rfl, ifB_beq (fun e => yes w14 b014 (.inr (.inr (.inr ⟨k, by omega, hki, hkk, hko, .inl e⟩)))) (fun hnt => ?_)⟩
        refine ifB_beq (fun h2 => ⟨_, hB14.cell0 rfl, ifB_beq (fun h2' => ⟨_, hB14.cell (n := 2) rfl, _, hI14.cell (n := 2) rfl, ifB_beq (fun e => yes w14 b014 (.inr (.inr (.inr ⟨k, by omega, hki, hkk, hko, .inr ⟨h2, h2', e⟩⟩)))) (fun e => ⟨b814, fun hm => ?_⟩)⟩) (fun h2' => ⟨b814, fun hm => ?_⟩)⟩) (fun h2 => ⟨b814, fun hm => ?_⟩)
        · rcases hm.2.2.2 with h | h
          · exact hnt h
          · exact e h.2.2
        · rcases hm.2.2.2 with h | h
          · exact hnt h
          · exact h2' h.2.1
        · rcases hm.2.2.2 with h | h
          · exact hnt h
          · exact h2 h.1
    · rintro _ w15 ⟨b15, hm⟩
      refine hnext w15 hlt ⟨b8.trans (b15.mono z8), fun o ho => ?_⟩
      by_cases e : o = k
      · subst e; exact hm
      · exact hno o (by omega)
  · rcases hh.2 with h | h | h | ⟨o, ho, hm⟩
    · exact absurd h hne
    · exact absurd hD1 h
    · rcases h.2 with h' | h'
      · exact absurd h' (hD2 h.1).1
      · exact absurd (hD2 h.1).2 h'
    · exact absurd hm (hno o (by dsimp only at hge; omega))
end

end Go.Proofs
