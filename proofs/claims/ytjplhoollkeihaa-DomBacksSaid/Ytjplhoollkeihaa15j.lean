/-
  The document's dominators: Table.
-/
import Derived.Test.Ytjplhoollkeihaa15i
namespace Go.Proofs
open Go.Gk Go.RowKit Go.Gr Go.Dm

theorem eBB : ElemT Try.prog 50 126 1 24 := ⟨by kernel_rfl, Try.t126, .slice none 0 0, by kernel_rfl, rfl, rfl, rfl, rfl⟩
/-- A table of who dominates whom. -/
structure Tab (w : World) (t : Sl) (n : Nat) (D : Nat → Nat → Prop) : Prop where
  ex : ∃ hs : List Sl, IsS Sl.val w t hs ∧ hs.length = n ∧ ∀ a (ha : a < hs.length), ∃ bl : List Bool, IsS Value.bool w hs[a] bl ∧ bl.length = n ∧ ∀ b, bl.getD b false = true ↔ D a b
theorem Tab.below {w w' : World} {t : Sl} {n : Nat} {D : Nat → Nat → Prop} (h : Tab w t n D) (hb : Below w.heap.size w w') : Tab w' t n D := by
  obtain ⟨hs, h1, h2, h3⟩ := h.ex
  exact ⟨hs, h1.below hb, h2, fun a ha => let ⟨bl, g1, g2, g3⟩ := h3 a ha; ⟨bl, g1.below hb, g2, g3⟩⟩
theorem Tab.congr {w : World} {t : Sl} {n : Nat} {D D' : Nat → Nat → Prop} (h : Tab w t n D) (hD : ∀ a b, a < n → (D a b ↔ D' a b)) : Tab w t n D' := by
  obtain ⟨hs, h1, h2, h3⟩ := h.ex
  exact ⟨hs, h1, h2, fun a ha => let ⟨bl, g1, g2, g3⟩ := h3 a ha; ⟨bl, g1, g2, fun b => (g3 b).trans (hD a b (by omega))⟩⟩
theorem Tab.len {w : World} {t : Sl} {n : Nat} {D : Nat → Nat → Prop} (h : Tab w t n D) : t.l = n := by
  obtain ⟨hs, h1, h2, h3⟩ := h.ex
  have := h1.len; omega
/-- An entry is read. -/
theorem Tab.get {w : World} {t : Sl} {n : Nat} {D : Nat → Nat → Prop} (h : Tab w t n D) {a b : Nat} (ha : a < n) (hb : b < n) {φ : Bool → Prop} (hφ : ∀ v, (v = true ↔ D a b) → φ v) :
    (0 ≤ (a : Int) ∧ (a : Int) < (t.l : Int)) ∧ derefP t.a fun a3 => ldS w (a3.add (Int.toNat (a : Int))) fun x => (0 ≤ (b : Int) ∧ (b : Int) < (x.l : Int)) ∧ derefP x.a fun a5 => ldB w (a5.add (Int.toNat (b : Int))) φ := by
  obtain ⟨hs, h1, h2, h3⟩ := h.ex
  obtain ⟨bl, g1, g2, g3⟩ := h3 a (by omega)
  refine elemS h1 (k := a) (by omega) (elemB g1 (k := b) (by omega) (hφ _ ?_))
  rw [← g3 b]
  simp [List.getD, show b < bl.length by omega]

/-- The document's answer, by definition: every way to b leads over a. -/
def DomR (nx : List (List Nat)) (a b : Nat) : Prop := ReachN nx (-1) b ∧ (a = b ∨ ¬ ReachN nx (a : Int) b)

theorem getD_map_bool {bl : List Bool} {b : Nat} (hb : b < bl.length) : (bl.map Value.bool)[b]? = some (.bool (bl.getD b false)) := by simp [List.getD, hb]
theorem getD_setB {bl : List Bool} {t j : Nat} {v : Bool} (ht : t < bl.length) : (bl.set t v).getD j false = if j = t then v else bl.getD j false := by
  simp only [List.getD, List.getElem?_set]
  by_cases e : t = j
  · subst e; simp [ht]
  · simp [e, Ne.symm e]

set_option maxHeartbeats 4000000 in
theorem Table_spec {s : Sl} {hs : List Sl} {ll : List (List Int)} (h0 : 0 < ll.length) (hmax : ll.length ≤ 4096) (hG : Good ll) (h8 : ∀ l ∈ ll, 8 * l.length ≤ 281474976710656) {w : World} {R : Value → World → Prop} (h : IsII w s hs ll)
    (hR : ∀ w' r, Below w.heap.size w w' → Tab w' r ll.length (DomR (edges ll)) → R (.slice r.a r.l r.c) w') :
    callR Try.prog 44 #[.slice s.a s.l s.c] w R := by
  refine callR.of (intaglioref15_Table_calls s R w ?_) fun _ _ h => h
  have hsl : s.l = ll.length := by have := h.top.len; have := h.len; omega
  unfold L_intaglioref15_Table
  refine Without_spec h0 hmax hG h8 h fun w1 all b1 hAll hlA hiA => ⟨⟨some (Gk.blk w.heap.size), ll.length, ll.length⟩, rfl, ?_⟩
  obtain ⟨n, hn⟩ : ∃ n, n = ll.length := ⟨_, rfl⟩
  rw [← hn] at h0 hmax hR hlA ⊢
  have hz1 := hAll.lt
  refine LoopW.ghost (fun j st w' => ∃ a : Nat, ∃ l : Sl, ∃ rs : List (Nat × List Bool), a ≤ n ∧ j = n - a ∧ st = (l, (a : Int), ()) ∧ Below w.heap.size w w' ∧ Blk w' w.heap.size 4 (all.map Value.bool) ∧ rs.length = a ∧ Own w' 126 1 l (rs.map fun p => Value.slice (some (Gk.blk p.1)) n n) ∧ Fresh w.heap.size l ∧
      ∀ j (hj : j < rs.length), Blk w' rs[j].1 4 (rs[j].2.map Value.bool) ∧ rs[j].2.length = n ∧ ∀ b, rs[j].2.getD b false = true ↔ DomR (edges ll) j b) n
    ⟨0, ⟨none, 0, 0⟩, [], by omega, rfl, rfl, b1, hAll, rfl, Own.nil _ _ _, fun a ha => (by cases ha), fun j hj => absurd hj (Nat.not_lt_zero j)⟩ ?_
  rintro _ _ w2 ⟨a, l, rs, ha, rfl, rfl, b2, hA2, hrs, ho, hfl, hrows⟩ next hnext
  refine ifB_dec (fun hlt => ?_) (fun hge => ?_)
  · have hlt : a < n := by dsimp only at hlt; omega
    refine Without_spec (by omega) (by omega) hG h8 (h.below b2) fun w3 bl b3 hB3 hl3 hi3 => ⟨⟨some (Gk.blk w2.heap.size), n, n⟩, by rw [← hn], ?_⟩
    rw [← hn] at hl3
    have hz2 := hA2.lt
    -- the row is turned
    refine LoopW.count n (by omega) (fun k w' => Only ⟨some (Gk.blk w2.heap.size), n, n⟩ w3 w' ∧ ∃ bk : List Bool, Blk w' w2.heap.size 4 (bk.map Value.bool) ∧ bk.length = n ∧ (∀ b, b < k → (bk.getD b false = true ↔ DomR (edges ll) a b)) ∧ ∀ b, k ≤ b → bk.getD b false = bl.getD b false)
      ⟨Only.refl _ _, bl, hB3, hl3, fun b hb => absurd hb (by omega), fun _ _ => rfl⟩ ?_
    rintro k w4 hk ⟨on, bk, hBk, hlk, hk1, hk2⟩ nxt hnxt
    have hA4 : Blk w4 w.heap.size 4 (all.map Value.bool) := (hA2.below b3).of_block (on.block _ fun a ha e => by cases ha; have e : w2.heap.size = w.heap.size := e; omega)
    refine ifB_dec (fun hltk => ?_) (fun hgek => ?_)
    · have hltk : k < n := by dsimp only at hltk; omega
      have step : ∀ v : Bool, (v = true ↔ DomR (edges ll) a k) → Only ⟨some (Gk.blk w2.heap.size), n, n⟩ w3 (w4.setCell ((Gk.blk w2.heap.size).add k) (.bool v)) ∧ ∃ bk : List Bool, Blk (w4.setCell ((Gk.blk w2.heap.size).add k) (.bool v)) w2.heap.size 4 (bk.map Value.bool) ∧ bk.length = n ∧ (∀ b, b < k + 1 → (bk.getD b false = true ↔ DomR (edges ll) a b)) ∧ ∀ b, k + 1 ≤ b → bk.getD b false = bl.getD b false := fun v hv => by
        refine ⟨on.set rfl k _, bk.set k v, ?_, by simpa using hlk, fun b hb => ?_, fun b hb => ?_⟩
        · rw [List.map_set]; exact hBk.set k _
        · rw [getD_setB (by omega)]
          by_cases e : b = k
          · subst e; simp [hv]
          · rw [if_neg e]; exact hk1 b (by omega)
        · rw [getD_setB (by omega), if_neg (by omega)]
          exact hk2 b (by omega)
      refine JoinW.cut (fun _ w' => Only ⟨some (Gk.blk w2.heap.size), n, n⟩ w3 w' ∧ ∃ bk : List Bool, Blk w' w2.heap.size 4 (bk.map Value.bool) ∧ bk.length = n ∧ (∀ b, b < k + 1 → (bk.getD b false = true ↔ DomR (edges ll) a b)) ∧ ∀ b, k + 1 ≤ b → bk.getD b false = bl.getD b false) ?_ fun _ w' hh => hnxt w' hltk hh
      have hwr : Wr w4 ((Gk.blk w2.heap.size).add k) := hBk.wr (by simp; omega)
      refine ⟨⟨by omega, by first | omega | (dsimp only; omega)⟩, derefP_some rfl ⟨_, hA4.cell (getD_map_bool (by omega)), ifB_bool (fun hb => ?_) (fun hb => ?_)⟩⟩
      · have hr := (hiA k).1 hb
        refine ifB_beq (fun he => ⟨⟨by omega, by first | omega | (dsimp only; omega)⟩, derefP_some rfl ⟨hwr, Nw.mk (step true ⟨fun _ => ⟨hr, .inl (by exact Int.ofNat.inj he)⟩, fun _ => rfl⟩)⟩⟩) (fun hne => ⟨⟨by omega, by first | omega | (dsimp only; omega)⟩, derefP_some rfl ⟨_, hBk.cell (getD_map_bool (by omega)), ⟨⟨by omega, by first | omega | (dsimp only; omega)⟩, derefP_some rfl ⟨hwr, Nw.mk (step _ ?_)⟩⟩⟩⟩)
        show (!bk.getD k false) = true ↔ _
        rw [hk2 k (Nat.le_refl _)]
        have hne' : a ≠ k := fun e => hne (by rw [e])
        have := hi3 k
        constructor
        · intro hv
          refine ⟨hr, .inr fun hw => ?_⟩
          rw [this.2 hw] at hv; cases hv
        · rintro ⟨_, hw⟩
          rcases hw with hw | hw
          · exact absurd hw hne'
          · cases hbb : bl.getD k false with
            | true => exact absurd (this.1 hbb) hw
            | false => rfl
      · refine ⟨⟨by omega, by first | omega | (dsimp only; omega)⟩, derefP_some rfl ⟨hwr, Nw.mk (step false ⟨fun e => (by cases e), fun hd => ?_⟩)⟩⟩
        have hb : all.getD k false = false := hb
        rw [(hiA k).2 hd.1] at hb; cases hb
    · have hkk : k = n := by dsimp only at hgek; omega
      subst hkk
      have hz3 := b3.size
      have hz4 := on.size
      refine Nw.gen fun w9 hw9 => ?_
      have b34 : Below w2.heap.size w3 w4 := on.below fun a ha => by cases ha; exact Nat.le_refl _
      have b24 : Below w2.heap.size w2 w4 := b3.trans b34
      have b49 : Below w4.heap.size w4 w9 := by rw [hw9]; exact (Below.refl _ _).alloc (Nat.le_refl _) _
      have b29 : Below w2.heap.size w2 w9 := b24.trans (b49.mono (by omega))
      have hT9 : Blk w9 w4.heap.size 126 [.slice (some (Gk.blk w2.heap.size)) k k] := by rw [hw9]; exact Blk.new w4 126 #[_]
      have hBk9 := hBk.below b49
      have ho9 := ho.below b29
      have hll : l.l = a := by have := ho.1; simp at this; omega
      refine append_one eBB ho9 rfl hT9 (by omega) (by omega) fun r w10 hr hrl ⟨b, hrb, hbo, hg⟩ => ?_
      have hbT : ∃ cs, Blk w10 b 126 cs := by obtain ⟨cs, hc⟩ := hr.type hrb; exact ⟨cs, hc⟩
      have hz9 : w4.heap.size < w9.heap.size := hT9.lt
      have keep : ∀ {c : Nat} {cs : List Value}, Blk w9 c 4 cs → Blk w10 c 4 cs := fun {c cs} hc => by
        refine hc.of_block (hg.block _ hc.lt fun e => ?_)
        cases e
        rcases hbo with hb | hb
        · obtain ⟨cs', hc'⟩ := ho9.type hb
          exact absurd (hc'.type hc) (by decide)
        · have := hc.lt; omega
      have hfb : w.heap.size ≤ b := by
        rcases hbo with hb | hb
        · exact hfl _ hb
        · omega
      have hb10 : Below w.heap.size w w10 := (b2.trans (b29.mono b2.size)).trans (below_grown hg hfb (by omega))
      rw [wrap64_succ (by omega)]
      refine hnext (k - (a + 1)) _ _ (by omega) ⟨a + 1, r, rs ++ [(w2.heap.size, bk)], hlt, rfl, rfl, hb10, keep ((hA2.below b24).below b49), by simp [hrs], by rw [List.map_append]; exact hr, fun a ha => (by rw [hrb] at ha; cases ha; exact hfb), fun j hj => ?_⟩
      by_cases e : j < rs.length
      · rw [List.getElem_append_left e]
        obtain ⟨g1, g2, g3⟩ := hrows j e
        exact ⟨keep (g1.below b29), g2, g3⟩
      · have hj' : j = rs.length := by simp at hj; omega
        subst hj'
        rw [List.getElem_append_right (Nat.le_refl _)]
        simp only [Nat.sub_self, List.getElem_cons_zero]
        exact ⟨keep hBk9, hlk, fun b => by
          by_cases hb : b < k
          · rw [hk1 b hb, hrs]
          · rw [hk2 b (by omega), hrs]
            have e1 : bl.getD b false = false := by simp [List.getD, show ¬ b < bl.length by omega]
            rw [e1]
            constructor
            · intro e; cases e
            · rintro ⟨hr', _⟩
              have := (hiA b).2 hr'
              simp [List.getD, show ¬ b < all.length by omega] at this⟩
  · have : a = n := by dsimp only at hge; omega
    subst this
    refine hR w2 l b2 ⟨⟨rs.map fun p => ⟨some (Gk.blk p.1), a, a⟩, ?_, by simpa using hrs, fun j hj => ?_⟩⟩
    · refine Own.isS (T := 126) ?_
      rw [List.map_map]
      exact ho
    · have hj' : j < rs.length := by simpa using hj
      obtain ⟨g1, g2, g3⟩ := hrows j hj'
      refine ⟨rs[j].2, ?_, g2, g3⟩
      rw [List.getElem_map]
      exact g1.isS rfl g2.symm (Nat.le_refl _) (by show a ≤ _; omega)

end Go.Proofs
