/-
  The statement DomDominates: every Dominates, every Near.
-/
import Derived.Test.Ytjplhoollkeihaa15k
namespace Go.Proofs
open Go.Gk Go.RowKit Go.Gr Go.Dm

section
variable {w0 w : World} {tb : Nat} {nx : List (List Nat)} {ov : Nat → Option Nat} {dp : Nat → Int} {t : Sl} {a b : Int} {R : Value → World → Prop}
/-- What Near tells. -/
def NearP (nx : List (List Nat)) (ov : Nat → Option Nat) (a b : Int) (c : Int) (is : Bool) : Prop :=
  (is = false ∧ c = 0 ∧ ¬ (inOd (orderOf nx) a = true ∧ inOd (orderOf nx) b = true)) ∨ (is = true ∧ ∃ x y z : Nat, a = (x : Int) ∧ b = (y : Int) ∧ c = (z : Int) ∧ x ∈ orderOf nx ∧ y ∈ orderOf nx ∧ ∀ e, Anc ov e z ↔ Anc ov e x ∧ Anc ov e y)
theorem NearP.uniq (t : Tr (rkOf (orderOf nx)) ov) {c c' : Int} {i i' : Bool} (h : NearP nx ov a b c i) (h' : NearP nx ov a b c' i') : c = c' ∧ i = i' := by
  rcases h with ⟨rfl, rfl, hn⟩ | ⟨rfl, x, y, z, rfl, rfl, rfl, h1, h2, h3⟩ <;> rcases h' with ⟨rfl, rfl, hn'⟩ | ⟨rfl, x', y', z', e1, e2, rfl, h1', h2', h3'⟩
  · exact ⟨rfl, rfl⟩
  · exact absurd ⟨inOd_iff.2 ⟨x', e1, h1'⟩, inOd_iff.2 ⟨y', e2, h2'⟩⟩ hn
  · exact absurd ⟨inOd_iff.2 ⟨x, rfl, h1⟩, inOd_iff.2 ⟨y, rfl, h2⟩⟩ hn'
  · have e1 : x = x' := by omega
    have e2 : y = y' := by omega
    subst e1 e2
    have : z = z' := Anc.anti t ((h3' z).2 ((h3 z).1 .refl)) ((h3 z').2 ((h3' z').1 .refl))
    subst this
    exact ⟨rfl, rfl⟩
theorem Near_spec (hd : Dt w tb nx ov dp) (hR : ∀ w' c i, Below w.heap.size w w' → NearP nx ov a b c i → R (.tuple #[.int .i64 c, .bool i]) w') : callR Try.prog 54 #[.pointer (some (Gk.blk tb)), .int .i64 a, .int .i64 b] w R := by
  refine callR.of (dom_Tree_Near_calls _ a b R w ?_) fun _ _ h => h
  refine JoinW.cut (fun _ w' => w' = w ∧ inOd (orderOf nx) a = true ∧ inOd (orderOf nx) b = true) (reached_spec hd ⟨_, rfl, ifB_not (ifB_bool (fun ha => reached_spec hd ⟨_, rfl, ifB_not (ifB_bool (fun hb => ⟨rfl, ha, hb⟩) fun hb => ?_)⟩) fun ha => ?_)⟩) ?_
  · exact hR w 0 false (Below.refl _ _) (.inl ⟨rfl, rfl, fun h => by rw [hb] at h; cases h.2⟩)
  · exact hR w 0 false (Below.refl _ _) (.inl ⟨rfl, rfl, fun h => by rw [ha] at h; cases h.1⟩)
  rintro _ wx ⟨ewx, ha, hb⟩
  subst wx
  obtain ⟨x, rfl, hx⟩ := inOd_iff.1 ha
  obtain ⟨y, rfl, hy⟩ := inOd_iff.1 hb
  obtain ⟨gb, ob, db, rb, hT, hG⟩ := hd.d
  refine meet_spec hd.s.tr (fun x => (hd.s.pr x).1) (fun x hx => hd.lt hx) hT ((hd.s.pr x).2 hx) ((hd.s.pr y).2 hy) fun c w' hb' _ hc => ⟨_, rfl, hR w' _ _ hb' (.inr ⟨rfl, x, y, c, rfl, rfl, rfl, hx, hy, hc⟩)⟩
theorem rNear_spec (hd : Dt w0 tb nx ov dp) (h : TabD w t nx ov) (hR : ∀ c i, NearP nx ov a b c i → R (.tuple #[.int .i64 c, .bool i]) w) : callR Try.prog 53 #[.slice t.a t.l t.c, .int .i64 a, .int .i64 b] w R := by
  refine callR.of (intaglioref15_Near_calls t a b R w ?_) fun _ _ h => h
  have htl := h.len
  have hmx := hd.ok.max
  have dneg : ∀ i : Int, depthOf (orderOf nx) dp i < 0 ↔ inOd (orderOf nx) i = false := fun i => by
    unfold depthOf
    by_cases hi : inOd (orderOf nx) i = true
    · rw [if_pos hi, hi]
      obtain ⟨x, rfl, hx⟩ := inOd_iff.1 hi
      have := (hd.dpo.mem x hx).1
      rw [show Int.toNat (x : Int) = x from rfl]
      constructor
      · intro h; omega
      · intro h; cases h
    · have hi' : inOd (orderOf nx) i = false := by rw [← Bool.not_eq_true]; exact hi
      rw [if_neg hi, hi']
      exact ⟨fun _ => rfl, fun _ => by decide⟩
  refine JoinW.cut (fun _ w' => w' = w ∧ inOd (orderOf nx) a = true ∧ inOd (orderOf nx) b = true) (rDepth_spec hd h ⟨_, rfl, ifB_dec (fun ha => ?_) fun ha => rDepth_spec hd h ⟨_, rfl, ifB_dec (fun hb => ?_) fun hb => ⟨rfl, ?_, ?_⟩⟩⟩) ?_
  · exact hR 0 false (.inl ⟨rfl, rfl, fun h => by rw [(dneg a).1 ha] at h; cases h.1⟩)
  · exact hR 0 false (.inl ⟨rfl, rfl, fun h => by rw [(dneg b).1 hb] at h; cases h.2⟩)
  · rw [← Bool.not_eq_false]; exact fun e => ha ((dneg a).2 e)
  · rw [← Bool.not_eq_false]; exact fun e => hb ((dneg b).2 e)
  rintro _ wx ⟨ewx, ha, hb⟩
  subst wx
  obtain ⟨x, rfl, hx⟩ := inOd_iff.1 ha
  obtain ⟨y, rfl, hy⟩ := inOd_iff.1 hb
  have hxn := hd.lt hx
  have hyn := hd.lt hy
  have hdOf : ∀ k : Nat, k ∈ orderOf nx → depthOf (orderOf nx) dp (k : Int) = dp k := fun k hk => by unfold depthOf; rw [if_pos (inOd_iff.2 ⟨k, rfl, hk⟩)]; rfl
  have h0x : ∀ x, x ∈ orderOf nx → Anc ov 0 x := fun x hx => hd.s.tr.zero _ x (Nat.le_refl _) ((hd.s.pr x).2 hx)
  refine LoopW.ghost (fun j s w' => ∃ k z : Nat, k ≤ nx.length ∧ j = nx.length - k ∧ s = ((z : Int), (k : Int), ()) ∧ w' = w ∧ Anc ov z x ∧ Anc ov z y ∧ ∀ e, e < k → Anc ov e x → Anc ov e y → dp e ≤ dp z) nx.length
    ⟨0, 0, by omega, rfl, rfl, rfl, h0x x hx, h0x y hy, fun e he => by omega⟩ ?_
  rintro _ _ w2 ⟨k, z, hk, rfl, rfl, ew, hzx, hzy, hmax⟩ next hnext
  subst w2
  refine ifB_dec (fun hlt => ?_) (fun hge => ?_)
  · have hlt : k < nx.length := by dsimp only at hlt; omega
    refine JoinW.cut (fun s w' => w' = w ∧ ∃ z : Nat, s = ((z : Int), ()) ∧ Anc ov z x ∧ Anc ov z y ∧ ∀ e, e < k + 1 → Anc ov e x → Anc ov e y → dp e ≤ dp z) ?_ ?_
    · have skip : ¬ (Anc ov k x ∧ Anc ov k y) → w = w ∧ ∃ z' : Nat, ((z : Int), ()) = ((z' : Int), ()) ∧ Anc ov z' x ∧ Anc ov z' y ∧ ∀ e, e < k + 1 → Anc ov e x → Anc ov e y → dp e ≤ dp z' := fun hn =>
        ⟨rfl, z, rfl, hzx, hzy, fun e he h1 h2 => by
          by_cases e' : e = k
          · subst e'; exact absurd ⟨h1, h2⟩ hn
          · exact hmax e (by omega) h1 h2⟩
      refine h.get (a := k) (b := x) hlt hxn fun v hv => ifB_bool (fun hbv => ?_) (fun hbv => skip fun hh => ?_)
      · refine h.get (a := k) (b := y) hlt hyn fun u hu => ifB_bool (fun hbu => ?_) (fun hbu => skip fun hh => ?_)
        · have hkx := (hv.1 hbv).2
          have hky := (hu.1 hbu).2
          have hko := hd.ancOd hx hkx
          have hzo := hd.ancOd hx hzx
          refine rDepth_spec hd h ⟨_, rfl, rDepth_spec hd h ⟨_, rfl, ?_⟩⟩
          dsimp only
          rw [hdOf k hko, hdOf z hzo]
          refine ifB_dec (fun hgt => ⟨rfl, k, rfl, hkx, hky, fun e he h1 h2 => ?_⟩) (fun hle => ⟨rfl, z, rfl, hzx, hzy, fun e he h1 h2 => ?_⟩)
          · by_cases e' : e = k
            · subst e'; exact Int.le_refl _
            · have := hmax e (by omega) h1 h2; omega
          · by_cases e' : e = k
            · subst e'; omega
            · exact hmax e (by omega) h1 h2
        · rw [hu.2 ⟨hy, hh.2⟩] at hbu; cases hbu
      · rw [hv.2 ⟨hx, hh.1⟩] at hbv; cases hbv
    · rintro _ wx ⟨ewx, z', rfl, g1, g2, g3⟩
      subst wx
      dsimp only
      rw [wrap64_succ (by omega)]
      exact hnext (nx.length - (k + 1)) _ _ (by omega) ⟨k + 1, z', by omega, rfl, rfl, rfl, g1, g2, g3⟩
  · have : k = nx.length := by dsimp only at hge; omega
    subst this
    refine hR _ _ (.inr ⟨rfl, x, y, z, rfl, rfl, rfl, hx, hy, fun e => ⟨fun he => ⟨he.trans hzx, he.trans hzy⟩, fun ⟨h1, h2⟩ => ?_⟩⟩)
    rcases h1.lin hzx with h3 | h3
    · exact h3
    · have heo := hd.ancOd hx h1
      have hle := hmax e (hd.lt heo) h1 h2
      rcases hd.mono heo h3 with e' | e'
      · subst e'; exact .refl
      · omega
end
theorem rDominates_spec {s : Sl} {hs : List Sl} {ll : List (List Int)} (h0 : 0 < ll.length) (hmax : ll.length ≤ 4096) (hG : Good ll) (h8 : ∀ l ∈ ll, 8 * l.length ≤ 281474976710656) {w w0 : World} {tb : Nat} {ov : Nat → Option Nat} {dp : Nat → Int} {a b : Int} {R : Value → World → Prop} (h : IsII w s hs ll)
    (hd : Dt w0 tb (edges ll) ov dp) (hR : ∀ v w', Below w.heap.size w w' → (v = true ↔ DomP (orderOf (edges ll)) ov a b) → R (.bool v) w') : callR Try.prog 52 #[.slice s.a s.l s.c, .int .i64 a, .int .i64 b] w R := by
  refine callR.of (intaglioref15_Dominates_calls s a b R w ?_) fun _ _ h => h
  have hsl : s.l = ll.length := by have := h.top.len; have := h.len; omega
  have hlt : ∀ x, x ∈ orderOf (edges ll) → x < ll.length := fun x hx => by have := hd.lt hx; rwa [edges_length] at this
  have hno : (a < 0 ∨ b < 0 ∨ (ll.length : Int) ≤ a ∨ (ll.length : Int) ≤ b) → ¬ DomP (orderOf (edges ll)) ov a b := by
    rintro hor ⟨a', b', rfl, rfl, h1, h2⟩
    have := hlt b' h1
    have := hlt a' (hd.ancOd h1 h2)
    omega
  have hF : (a < 0 ∨ b < 0 ∨ (ll.length : Int) ≤ a ∨ (ll.length : Int) ≤ b) → R (.bool false) w := fun hor => hR false w (Below.refl _ _) ⟨fun e => (by cases e), fun e => absurd e (hno hor)⟩
  refine JoinW.cut (fun _ w' => w' = w ∧ ∃ x y : Nat, a = (x : Int) ∧ b = (y : Int) ∧ x < ll.length ∧ y < ll.length) (ifB_dec (fun h => hF (by omega)) fun h1 => ifB_dec (fun h => hF (by omega)) fun h2 => ifB_dec (fun h => hF (by omega)) fun h3 => ifB_dec (fun h => hF (by omega)) fun h4 => ⟨rfl, a.toNat, b.toNat, by omega, by omega, by omega, by omega⟩) ?_
  rintro _ wx ⟨ewx, x, y, rfl, rfl, hx, hy⟩
  subst wx
  have hD : DomP (orderOf (edges ll)) ov (x : Int) (y : Int) ↔ DomR (edges ll) x y := by
    rw [hd.domR x y]
    constructor
    · rintro ⟨a', b', e1, e2, h1, h2⟩
      have e1 : x = a' := by omega
      have e2 : y = b' := by omega
      subst e1 e2
      exact ⟨h1, h2⟩
    · rintro ⟨h1, h2⟩; exact ⟨x, y, rfl, rfl, h1, h2⟩
  simp only [hD] at hR
  refine Without_spec h0 hmax hG h8 h fun w1 bl b1 hB hl hi => ⟨⟨some (Gk.blk w.heap.size), ll.length, ll.length⟩, rfl, ⟨by omega, by first | omega | (dsimp only; omega)⟩, derefP_some rfl ⟨_, hB.cell (getD_map_bool (by omega)), ?_⟩⟩
  refine ifB_bool (fun hb => ?_) (fun hb => ?_)
  · have hb : bl.getD y false = true := hb
    refine ifB_beq (fun he => hR true w1 b1 ⟨fun _ => ⟨(hi y).1 hb, .inl (by exact Int.ofNat.inj he)⟩, fun _ => rfl⟩) (fun hne => ?_)
    refine Without_spec h0 hmax hG h8 (h.below b1) fun w2 bl2 b2 hB2 hl2 hi2 => ⟨⟨some (Gk.blk w1.heap.size), ll.length, ll.length⟩, rfl, ⟨by omega, by first | omega | (dsimp only; omega)⟩, derefP_some rfl ⟨_, hB2.cell (getD_map_bool (by omega)), ?_⟩⟩
    refine hR _ w2 (b1.trans (b2.mono b1.size)) ?_
    show (!bl2.getD y false) = true ↔ _
    have := hi2 y
    constructor
    · intro hv
      refine ⟨(hi y).1 hb, .inr fun hw => ?_⟩
      rw [this.2 hw] at hv; cases hv
    · rintro ⟨_, hw⟩
      rcases hw with hw | hw
      · exact absurd (by rw [hw]) hne
      · cases hbb : bl2.getD y false with
        | true => exact absurd (this.1 hbb) hw
        | false => rfl
  · have hb : bl.getD y false = false := hb
    refine hR false w1 b1 ⟨fun e => (by cases e), fun hd' => ?_⟩
    rw [(hi y).2 hd'.1] at hb; cases hb

theorem DomDominates_spec {s : Sl} {hs : List Sl} {ll : List (List Int)} {a b : Int} {w : World} {R : Value → World → Prop} (h : IsII w s hs ll) (_h24 : 24 * ll.length ≤ 281474976710656) (h8 : ∀ l ∈ ll, 8 * l.length ≤ 281474976710656)
    (hR : ∀ w', Below w.heap.size w w' → R (.bool true) w') : callR Try.prog 10 #[.slice s.a s.l s.c, .int .i64 a, .int .i64 b] w R := by
  refine callR.of (intagliolaw15_DomDominates_calls s a b R w ?_) fun _ _ h => h
  refine sound_spec h8 h ⟨_, rfl, ifB_true rfl (hR w (Below.refl _ _))⟩ fun h0 h1 hG => ⟨_, rfl, ifB_false rfl ?_⟩
  refine tree_spec h (fun hn => absurd ⟨h0, by omega, hG⟩ hn) fun _ _ _ w2 tb ov dp b2 hd => ⟨_, _, rfl, ?_⟩
  refine JoinW.cut (fun _ w' => Below w2.heap.size w2 w') (ifB_false rfl (Dominates_spec hd fun v w3 b3 hv => ⟨v, rfl, rDominates_spec h0 (by omega) hG h8 (h.below (b2.trans (b3.mono b2.size))) hd fun u w4 b4 hu => ⟨u, rfl, ifB_false ?_ (b3.trans (b4.mono b3.size))⟩⟩)) ?_
  · have : v = u := by rw [Bool.eq_iff_iff, hv, hu]
    rw [this]; simp
  intro _ w5 b5
  have hd5 := hd.below b5
  refine Table_spec h0 (by omega) hG h8 (h.below (b2.trans (b5.mono b2.size))) fun w6 t b6 hT => ⟨t, rfl, ?_⟩
  have hT6 : TabD w6 t (edges ll) ov := by
    have : Tab w6 t (edges ll).length (DomR (edges ll)) := by rw [edges_length]; exact hT
    exact this.congr fun a b _ => hd.domR a b
  refine rNear_spec (hd5.below b6) hT6 fun c i hN => ⟨c, i, rfl, ?_⟩
  refine Near_spec (hd5.below b6) fun w8 c' i' b8 hN' => ⟨c', i', rfl, ?_⟩
  obtain ⟨rfl, rfl⟩ := NearP.uniq hd.s.tr hN hN'
  refine ifB_true (by simp) ?_
  rw [beq_self_eq_true]
  have z2 := b2.size
  have z5 := b5.size
  have z6 := b6.size
  exact hR w8 (((b2.trans (b5.mono z2)).trans (b6.mono (by omega))).trans (b8.mono (by omega)))

end Go.Proofs
