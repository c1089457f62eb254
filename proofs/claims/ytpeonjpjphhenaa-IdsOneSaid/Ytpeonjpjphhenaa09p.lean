/-
  Modules that are alike, plain: pairs of ids that are consistent.
-/
import Derived.Test.Ytpeonjpjphhenaa09u
import Derived.Test.YtpeonjpjphhenaaGkP
namespace Go.Proofs
open Go.Gk Go.RowKit Go.Gm

abbrev Prs := List (Int × Int)
/-- Each one has one partner. -/
def Con (S : Prs) : Prop := ∀ x ∈ S, ∀ y ∈ S, x.1 = y.1 ↔ x.2 = y.2
theorem Con.left {S T : Prs} (h : Con (S ++ T)) : Con S := fun x hx y hy => h x (List.mem_append.2 (.inl hx)) y (List.mem_append.2 (.inl hy))
theorem Con.snoc {S : Prs} {a b : Int} (h : Con S) (hn : ∀ y ∈ S, a = y.1 ↔ b = y.2) : Con (S ++ [(a, b)]) := by
  intro x hx y hy
  rcases List.mem_append.1 hx with hx | hx <;> rcases List.mem_append.1 hy with hy | hy
  · exact h x hx y hy
  · rw [List.mem_singleton.1 hy]
    exact ⟨fun e => ((hn x hx).1 e.symm).symm, fun e => ((hn x hx).2 e.symm).symm⟩
  · rw [List.mem_singleton.1 hx]
    exact hn y hy
  · rw [List.mem_singleton.1 hx, List.mem_singleton.1 hy]
    exact ⟨fun _ => rfl, fun _ => rfl⟩
theorem Con.new {S : Prs} {a b : Int} (h : Con (S ++ [(a, b)])) : ∀ y ∈ S, a = y.1 ↔ b = y.2 :=
  fun y hy => h (a, b) (by simp) y (List.mem_append.2 (.inl hy))
/-- The map L says the pairs S. -/
def MOk (L : List (Int × Int)) (S : Prs) : Prop := ∀ k v, lookL L k = some v ↔ (k, v) ∈ S
def swp (S : Prs) : Prs := S.map fun x => (x.2, x.1)
theorem mem_swp {S : Prs} {k v : Int} : (v, k) ∈ swp S ↔ (k, v) ∈ S := by
  unfold swp
  rw [List.mem_map]
  constructor
  · rintro ⟨x, hx, e⟩
    simp only [Prod.mk.injEq] at e
    obtain ⟨rfl, rfl⟩ := e
    exact hx
  · intro h
    exact ⟨_, h, rfl⟩
theorem MOk.set {L : List (Int × Int)} {S : Prs} {a b : Int} (h : MOk L S) (hn : lookL L a = none) : MOk (setL L a b) (S ++ [(a, b)]) := by
  intro k v
  rw [lookL_set, List.mem_append, List.mem_singleton, Prod.mk.injEq]
  by_cases e : k = a
  · subst e
    rw [if_pos rfl]
    constructor
    · intro hv
      exact .inr ⟨rfl, (Option.some.inj hv).symm⟩
    · rintro (hv | ⟨_, rfl⟩)
      · rw [(h k v).2 hv] at hn
        cases hn
      · rfl
  · rw [if_neg e]
    constructor
    · intro hv
      exact .inl ((h k v).1 hv)
    · rintro (hv | ⟨h1, _⟩)
      · exact (h k v).2 hv
      · exact absurd h1 e
theorem MOk.again {L : List (Int × Int)} {S : Prs} {x : Int × Int} (h : MOk L S) (hx : x ∈ S) : MOk L (S ++ [x]) := by
  intro k v
  rw [h k v, List.mem_append, List.mem_singleton]
  constructor
  · exact .inl
  · rintro (h | rfl)
    · exact h
    · exact hx
theorem swp_append (S T : Prs) : swp (S ++ T) = swp S ++ swp T := by simp [swp]
/-- What 'pair' answers. -/
theorem pair_law {L1 L2 : List (Int × Int)} {S : Prs} {a b : Int} (h1 : MOk L1 S) (h2 : MOk L2 (swp S)) (hc : Con S) :
    (lookL L1 a = none → lookL L2 b = none → Con (S ++ [(a, b)])) ∧ ((lookL L1 a).isSome = true ∨ (lookL L2 b).isSome = true → (Con (S ++ [(a, b)]) ↔ lookL L1 a = some b ∧ lookL L2 b = some a)) := by
  constructor
  · intro e1 e2
    refine hc.snoc fun y hy => ?_
    constructor
    · intro e
      have := (h1 y.1 y.2).2 hy
      rw [← e, e1] at this
      cases this
    · intro e
      have := (h2 y.2 y.1).2 (mem_swp.2 hy)
      rw [← e, e2] at this
      cases this
  · intro hs
    constructor
    · intro hcon
      have hn := hcon.new
      have key : ∀ x, lookL L1 a = some x → x = b := fun x hx => ((hn _ ((h1 a x).1 hx)).1 rfl).symm
      have key2 : ∀ y, lookL L2 b = some y → y = a := fun y hy => ((hn _ (mem_swp.1 ((h2 b y).1 hy))).2 rfl).symm
      rcases hs with hs | hs
      · obtain ⟨x, hx⟩ := Option.isSome_iff_exists.1 hs
        have := key x hx
        subst this
        exact ⟨hx, (h2 x a).2 (mem_swp.2 ((h1 a x).1 hx))⟩
      · obtain ⟨y, hy⟩ := Option.isSome_iff_exists.1 hs
        have := key2 y hy
        subst this
        exact ⟨(h1 y b).2 (mem_swp.1 ((h2 b y).1 hy)), hy⟩
    · rintro ⟨e1, e2⟩
      have hm := (h1 a b).1 e1
      exact hc.snoc fun y hy => hc (a, b) hm y hy
/-- The array L says the pairs S whose first is not 0. -/
def TOk (L : List Int) (S : Prs) : Prop := L.length = 65536 ∧ ∀ n (h : n < L.length), (L[n] = 0 → ∀ y ∈ S, y.1 = (n : Int) → n = 0) ∧ (L[n] ≠ 0 → ((n : Int), L[n]) ∈ S)
theorem TOk.nil : TOk (List.replicate 65536 0) [] := by
  refine ⟨List.length_replicate, fun n h => ⟨fun _ y hy => (by cases hy), fun hne => ?_⟩⟩
  rw [List.getElem_replicate] at hne
  exact absurd rfl hne
theorem TOk.set {L : List Int} {S : Prs} (h : TOk L S) {a : Nat} {b : Int} (hb : b ≠ 0) (ha : a < L.length) : TOk (L.set a b) (S ++ [((a : Int), b)]) := by
  refine ⟨by rw [List.length_set]; exact h.1, fun n hn => ?_⟩
  have hn' : n < L.length := by simpa using hn
  obtain ⟨g1, g2⟩ := h.2 n hn'
  by_cases e : a = n
  · subst e
    rw [List.getElem_set_self]
    exact ⟨fun h => absurd h hb, fun _ => by simp⟩
  · rw [List.getElem_set_ne e]
    refine ⟨fun h0 y hy hyn => ?_, fun hne => List.mem_append.2 (.inl (g2 hne))⟩
    rcases List.mem_append.1 hy with hy | hy
    · exact g1 h0 y hy hyn
    · rw [List.mem_singleton.1 hy] at hyn
      exact absurd (Int.ofNat_inj.1 hyn) e
theorem TOk.zero {L : List Int} {S : Prs} (h : TOk L S) {b : Int} : TOk L (S ++ [(0, b)]) := by
  refine ⟨h.1, fun n hn => ?_⟩
  obtain ⟨g1, g2⟩ := h.2 n hn
  refine ⟨fun h0 y hy hyn => ?_, fun hne => List.mem_append.2 (.inl (g2 hne))⟩
  rcases List.mem_append.1 hy with hy | hy
  · exact g1 h0 y hy hyn
  · rw [List.mem_singleton.1 hy] at hyn
    exact (Int.ofNat_inj.1 (show ((0 : Nat) : Int) = (n : Int) from hyn)).symm

/-! ### Modules -/
def argOk (x y : Ag) : Prop := x.1 = y.1 ∧ x.2.2 = y.2.2 ∧ (x.1 ≠ 1 → x.2.1 = y.2.1)
def instOk (p q : PI) : Prop := p.1 = q.1 ∧ p.2.2.2.length = q.2.2.2.length ∧ ∀ j (h : j < p.2.2.2.length) (h' : j < q.2.2.2.length), argOk p.2.2.2[j] q.2.2.2[j]
def pz : List Ag → List Ag → Prs
  | x :: xs, y :: ys => (if x.1 = 1 ∧ y.1 = 1 then [(x.2.1, y.2.1)] else []) ++ pz xs ys
  | _, _ => []
theorem pz_snoc {x y : Ag} : ∀ {xs ys : List Ag}, xs.length = ys.length → pz (xs ++ [x]) (ys ++ [y]) = pz xs ys ++ (if x.1 = 1 ∧ y.1 = 1 then [(x.2.1, y.2.1)] else [])
  | [], [], _ => by simp [pz]
  | [], _ :: _, h => by simp at h
  | _ :: _, [], h => by simp at h
  | a :: xs, b :: ys, h => by
    simp only [List.cons_append, pz]
    rw [pz_snoc (by simpa using h), List.append_assoc]
abbrev idsA (l : List Ag) : List Int := (l.filter fun a => a.1 == 1).map (·.2.1)
theorem pz_zip : ∀ {xs ys : List Ag}, xs.length = ys.length → (∀ j (h : j < xs.length) (h' : j < ys.length), xs[j].1 = ys[j].1) → (idsA xs).zip (idsA ys) = pz xs ys ∧ (idsA xs).length = (idsA ys).length
  | [], [], _, _ => by simp [pz, idsA]
  | [], _ :: _, h, _ => by simp at h
  | _ :: _, [], h, _ => by simp at h
  | a :: xs, b :: ys, h, hk => by
    have h0 : a.1 = b.1 := hk 0 (by simp) (by simp)
    obtain ⟨ih, ih2⟩ := pz_zip (xs := xs) (ys := ys) (by simpa using h) fun j h1 h2 => hk (j + 1) (by simpa using h1) (by simpa using h2)
    simp only [idsA] at ih ih2 ⊢
    simp only [pz, List.filter_cons]
    by_cases e : a.1 = 1
    · have e' : b.1 = 1 := h0.symm.trans e
      have ea : (a.1 == 1) = true := beq_iff_eq.2 e
      have eb : (b.1 == 1) = true := beq_iff_eq.2 e'
      rw [ea, eb]
      simp only [if_true, List.map_cons, List.zip_cons_cons, List.length_cons, ih, ih2, e, e', and_self, List.cons_append, List.nil_append]
    · have e' : ¬ b.1 = 1 := fun h => e (h0.trans h)
      have ea : (a.1 == 1) = false := beq_eq_false_iff_ne.2 e
      have eb : (b.1 == 1) = false := beq_eq_false_iff_ne.2 e'
      rw [ea, eb]
      simp only [Bool.false_eq_true, if_false, ih, ih2, e, e', and_self, List.nil_append]
def allI (p : PI) : List Int := p.2.1 :: p.2.2.1 :: idsA p.2.2.2
def allP (pl : List PI) : List Int := pl.flatMap allI
def zI (p q : PI) : Prs := (p.2.1, q.2.1) :: (p.2.2.1, q.2.2.1) :: pz p.2.2.2 q.2.2.2
def zN (pl ql : List PI) (k : Nat) : Prs := ((pl.zip ql).take k).flatMap fun x => zI x.1 x.2
theorem zN_succ {pl ql : List PI} {k : Nat} (h : k < pl.length) (h' : k < ql.length) : zN pl ql (k + 1) = zN pl ql k ++ zI pl[k] ql[k] := by
  unfold zN
  have hk : k < (pl.zip ql).length := by simp; omega
  rw [List.take_succ_eq_append_getElem hk, List.flatMap_append]
  simp
theorem zN_all : ∀ {pl ql : List PI}, pl.length = ql.length → (∀ k (h : k < pl.length) (h' : k < ql.length), instOk pl[k] ql[k]) → (allP pl).zip (allP ql) = zN pl ql pl.length ∧ (allP pl).length = (allP ql).length
  | [], [], _, _ => by simp [allP, zN]
  | [], _ :: _, h, _ => by simp at h
  | _ :: _, [], h, _ => by simp at h
  | p :: pl, q :: ql, h, hk => by
    obtain ⟨i1, i2⟩ := zN_all (pl := pl) (ql := ql) (by simpa using h) fun j h1 h2 => hk (j + 1) (by simpa using h1) (by simpa using h2)
    have h0 : instOk p q := hk 0 (by simp) (by simp)
    obtain ⟨z1, z2⟩ := pz_zip h0.2.1 fun j h1 h2 => (h0.2.2 j h1 h2).1
    have e1 : (allI p).length = (allI q).length := by simp only [allI, List.length_cons, z2]
    have e2 : (allI p).zip (allI q) = zI p q := by simp only [allI, zI, List.zip_cons_cons, z1]
    simp only [allP, List.flatMap_cons] at i1 i2 ⊢
    constructor
    · rw [List.zip_append e1, e2, i1]
      unfold zN
      simp
    · rw [List.length_append, List.length_append, e1, i2]
/-- Are two modules the same but for their ids? -/
def AlikeP (x : Mo) (pl : List PI) (y : Mo) (ql : List PI) : Prop :=
  (shapeP x.2.1 pl).1 = 0 ∧ (shapeP y.2.1 ql).1 = 0 ∧ x.1 = y.1 ∧ pl.length = ql.length ∧ (∀ k (h : k < pl.length) (h' : k < ql.length), instOk pl[k] ql[k]) ∧ Con ((0, 0) :: zN pl ql pl.length)
open Classical in
noncomputable def alikeB (x : Mo) (pl : List PI) (y : Mo) (ql : List PI) : Bool := decide (AlikeP x pl y ql)
theorem alike_yes {x : Mo} {pl : List PI} {y : Mo} {ql : List PI} (h : AlikeP x pl y ql) : alikeB x pl y ql = true := by
  unfold alikeB
  exact @decide_eq_true _ (Classical.propDecidable _) h
theorem alike_no {x : Mo} {pl : List PI} {y : Mo} {ql : List PI} (h : ¬ AlikeP x pl y ql) : alikeB x pl y ql = false := by
  unfold alikeB
  exact @decide_eq_false _ (Classical.propDecidable _) h
/-- Of an instruction without fault: its ids lie below the bound, what is an id bears no text. -/
theorem fault_ids {p : PI} {bd : Int} (h : faultI p bd = 0) (hb : 0 < bd) (h0 : 0 ≤ p.2.1 ∧ 0 ≤ p.2.2.1 ∧ ∀ x ∈ p.2.2.2, 0 ≤ x.2.1) :
    (∀ n ∈ allI p, 0 ≤ n ∧ n < bd) ∧ ∀ x ∈ p.2.2.2, x.1 = 1 → x.2.2.size = 0 := by
  unfold faultI at h
  cases hfr : frm p.1 with
  | none => rw [faultP_none hfr] at h; cases h
  | some g =>
    rw [faultP_some hfr] at h
    have hek : errK g p.2.1 p.2.2.1 p.2.2.2 bd p.2.2.2.length = 0 := by
      refine Classical.byContradiction fun hne => ?_
      unfold faultF at h
      rw [if_pos hne] at h
      exact hne h
    obtain ⟨e1, e2, e3⟩ := errK_all hek
    have hw := argK_all e3
    have idlt : ∀ {must : Bool} {n e : Int}, idP must n bd e = 0 → e ≠ 0 → n < bd := by
      intro must n e hi he
      unfold idP at hi
      split at hi
      · rename_i hm
        split at hi
        · cases hi
        · rename_i hno
          cases must with
          | true => exact Int.not_le.1 fun hle => hno ⟨rfl, hle⟩
          | false =>
            have : n = 0 := by
              refine Classical.byContradiction fun hn => ?_
              rw [bne_iff_ne.2 hn] at hm
              cases hm
            omega
      · exact absurd hi he
    have hx : ∀ x ∈ p.2.2.2, x.1 = 1 → (x.2.1 < bd) ∧ x.2.2.size = 0 := by
      intro x hx h1
      obtain ⟨j, hj, rfl⟩ := List.mem_iff_getElem.1 hx
      have := hw j hj
      unfold werr at this
      rw [getD_lt hj] at this
      unfold wrongP at this
      split at this
      · cases this
      · split at this
        · cases this
        · rename_i n1
          split at this
          · cases this
          · rename_i n2
            refine ⟨Int.not_le.1 fun hle => n2 ⟨h1, .inr hle⟩, ?_⟩
            refine Classical.byContradiction fun hne => n1 (.inr ⟨by rw [h1]; decide, hne⟩)
    refine ⟨fun n hn => ?_, fun x hx' h1 => (hx x hx' h1).2⟩
    unfold allI at hn
    rcases List.mem_cons.1 hn with rfl | hn
    · exact ⟨h0.1, idlt e1 (by decide)⟩
    · rcases List.mem_cons.1 hn with rfl | hn
      · exact ⟨h0.2.1, idlt e2 (by decide)⟩
      · obtain ⟨x, hx', rfl⟩ := List.mem_map.1 hn
        obtain ⟨hx1, hx2⟩ := List.mem_filter.1 hx'
        exact ⟨h0.2.2 x hx1, (hx x hx1 (by simpa using hx2)).1⟩

end Go.Proofs
