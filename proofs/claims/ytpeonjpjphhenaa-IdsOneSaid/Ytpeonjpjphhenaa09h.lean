/-
  ids: other ids. Plain: what a module comes to under other ids; how Renumber counts; ids, plain: a module under other ids is as good as before; what is renumbered once more stays; ids, plain: which words may rename ids; renamed and renamed back.
-/
import Derived.Test.Ytpeonjpjphhenaa09d
/-!
  ids: other ids. Plain: what a module comes to under other ids; how Renumber counts.
-/
namespace Go.Proofs
open Go.Gk Go.RowKit Go.Gm

/-- Other ids. -/
def turnA (g : Int → Int) (a : Ag) : Ag := if a.1 = 1 then (a.1, g a.2.1, a.2.2) else a
def turnI (g : Int → Int) (p : PI) : PI := (p.1, g p.2.1, g p.2.2.1, p.2.2.2.map (turnA g))
def turnP (g : Int → Int) (pl : List PI) : List PI := pl.map (turnI g)
/-- How many results stand ahead of k. -/
def cntP (pl : List PI) : Nat → Nat
  | 0 => 0
  | k + 1 => cntP pl k + (if (ix pl k).2.2.1 ≠ 0 then 1 else 0)
/-- The numbers that Renumber has given ahead of k. -/
def rnP (pl : List PI) : Nat → Int → Int
  | 0, _ => 0
  | k + 1, id => if (ix pl k).2.2.1 ≠ 0 ∧ id = (ix pl k).2.2.1 then IntKind.u32.wrap ((cntP pl (k + 1) : Nat) : Int) else rnP pl k id
def newP (pl : List PI) : List PI := turnP (rnP pl pl.length) pl
def bndP (pl : List PI) : Int := IntKind.u32.wrap (((cntP pl pl.length : Nat) : Int) + 1)

theorem wrapU32_wrap (a b : Int) : IntKind.u32.wrap (IntKind.u32.wrap a + b) = IntKind.u32.wrap (a + b) := by
  simp only [IntKind.wrap]
  simp [IntKind.bits, IntKind.signed, Int.emod_add_emod]
theorem cntP_le (pl : List PI) : ∀ k, cntP pl k ≤ k
  | 0 => Nat.le_refl _
  | k + 1 => by
    have := cntP_le pl k
    simp only [cntP]
    split <;> omega

/-- What Check says, where it says nothing. -/
theorem chk9_ok {bd : Int} {pl : List PI} (h : (chk9P bd pl).1 = 0) : chk9P bd pl = (0, 0) ∧ (layP bd pl).1 = 0 ∧ ∀ k, k < pl.length → fltP pl k = 0 := by
  unfold chk9P at h ⊢
  by_cases h1 : (layP bd pl).1 ≠ 0
  · rw [if_pos h1] at h; exact absurd h h1
  · rw [if_neg h1] at h ⊢
    have h1 : (layP bd pl).1 = 0 := Classical.not_not.1 h1
    cases hf : (List.range pl.length).find? (fun k => fltP pl k != 0) with
    | none =>
      refine ⟨rfl, h1, fun k hk => ?_⟩
      have := List.find?_eq_none.1 hf k (List.mem_range.2 hk)
      simpa using this
    | some k =>
      rw [hf] at h
      have := List.find?_some hf
      dsimp only at h
      rw [h] at this
      simp at this
theorem lay_shape {bd : Int} {pl : List PI} (h : (layP bd pl).1 = 0) : (shapeP bd pl).1 = 0 := by
  unfold layP at h
  by_cases h1 : (shapeP bd pl).1 ≠ 0
  · rw [if_pos h1] at h; exact h
  · exact Classical.not_not.1 h1
/-- No result is made twice. -/
theorem flt_new {pl : List PI} {k : Nat} (h : fltP pl k = 0) (h0 : (ix pl k).2.2.1 ≠ 0) : ∀ j, j < k → j < pl.length → (ix pl j).2.2.1 ≠ (ix pl k).2.2.1 := by
  intro j hj hl e
  have n90 : ¬ 0 ≤ makerI pl (ix pl k).2.2.1 k := by
    intro g
    unfold fltP at h
    rw [if_pos g] at h
    cases h
  refine n90 (makerI_iff.2 ⟨j, hj, ?_⟩)
  unfold mk1
  rw [show pl.getD j pi0 = ix pl j from ?_, e, beq_self_eq_true, bne_iff_ne.2 h0]
  · rfl
  · rw [getD_lt hl, ix_lt hl]
/-- The ids of a whole module are below its bound. -/
theorem ids_range {bd : Int} {pl : List PI} (hp : PlOk pl) (h0 : 0 ≤ bd) (h : (shapeP bd pl).1 = 0) : ∀ n ∈ allP pl, 0 ≤ n ∧ n < bd := by
  obtain ⟨h1, h2⟩ := shape_ok h
  intro n hn
  obtain ⟨p, hp', hn⟩ := List.mem_flatMap.1 hn
  obtain ⟨k, hk, rfl⟩ := List.getElem_of_mem hp'
  have := hp.nums _ (List.getElem_mem hk)
  exact (fault_ids (h2 k hk) (by omega) ⟨this.1.1, this.2.1.1, fun x hx => (this.2.2 x hx).1⟩).1 n hn
theorem mem_all {pl : List PI} {k : Nat} (hk : k < pl.length) : pl[k].2.1 ∈ allP pl ∧ pl[k].2.2.1 ∈ allP pl ∧ ∀ a ∈ pl[k].2.2.2, a.1 = 1 → a.2.1 ∈ allP pl := by
  have hm : ∀ {n}, n ∈ allI pl[k] → n ∈ allP pl := fun h => List.mem_flatMap.2 ⟨_, List.getElem_mem hk, h⟩
  refine ⟨hm (by simp [allI]), hm (by simp [allI]), fun a ha h1 => hm ?_⟩
  simp only [allI, List.mem_cons]
  right; right
  exact List.mem_map.2 ⟨a, List.mem_filter.2 ⟨ha, by simp [h1]⟩, rfl⟩
theorem rnP_zero (pl : List PI) : ∀ k, rnP pl k 0 = 0
  | 0 => rfl
  | k + 1 => by
    simp only [rnP]
    rw [if_neg (fun g => g.1 g.2.symm)]
    exact rnP_zero pl k
/-- The map that Renumber makes. -/
structure RnOk (L : List (Int × Int)) (pl : List PI) (k : Nat) : Prop where
  len : L.length = cntP pl k + 1
  look : ∀ id, (lookL L id).getD 0 = rnP pl k id
  key : ∀ id, lookL L id ≠ none → id = 0 ∨ ∃ j, j < k ∧ (ix pl j).2.2.1 = id
theorem RnOk.start (pl : List PI) : RnOk (setL [] 0 0) pl 0 := by
  refine ⟨rfl, fun id => ?_, fun id h => ?_⟩
  · simp only [setL, lookL, rnP]; split <;> rfl
  · simp only [setL, lookL] at h
    split at h
    · left; assumption
    · cases h rfl
theorem setL_new {L : List (Int × Int)} {k v : Int} (h : lookL L k = none) : (setL L k v).length = L.length + 1 := by
  induction L with
  | nil => rfl
  | cons p r ih =>
    simp only [lookL] at h
    split at h
    · cases h
    · rename_i hne
      simp only [setL]
      rw [if_neg hne, List.length_cons, ih h, List.length_cons]
theorem RnOk.skip {L : List (Int × Int)} {pl : List PI} {k : Nat} (h : RnOk L pl k) (h0 : (ix pl k).2.2.1 = 0) : RnOk L pl (k + 1) := by
  refine ⟨by rw [h.len]; simp only [cntP]; rw [if_neg (fun g => g h0)], fun id => by rw [h.look]; simp only [rnP]; rw [if_neg (fun g => g.1 h0)], fun id hid => ?_⟩
  rcases h.key id hid with e | ⟨j, hj, e⟩
  · exact .inl e
  · exact .inr ⟨j, by omega, e⟩
theorem RnOk.step {L : List (Int × Int)} {pl : List PI} {k : Nat} (h : RnOk L pl k) (h0 : (ix pl k).2.2.1 ≠ 0) (hn : ∀ j, j < k → (ix pl j).2.2.1 ≠ (ix pl k).2.2.1) :
    RnOk (setL L (ix pl k).2.2.1 (IntKind.u32.wrap (L.length : Int))) pl (k + 1) := by
  have hl : lookL L (ix pl k).2.2.1 = none := by
    refine Classical.byContradiction fun g => ?_
    rcases h.key _ g with e | ⟨j, hj, e⟩
    · exact h0 e
    · exact hn j hj e
  have hc : cntP pl (k + 1) = cntP pl k + 1 := by simp only [cntP]; rw [if_pos h0]
  refine ⟨by rw [setL_new hl, h.len, hc], fun id => ?_, fun id hid => ?_⟩
  · rw [lookL_set]
    simp only [rnP]
    by_cases e : id = (ix pl k).2.2.1
    · rw [if_pos e, if_pos ⟨h0, e⟩, hc, h.len]; rfl
    · rw [if_neg e, if_neg (fun g => e g.2)]; exact h.look id
  · rw [lookL_set] at hid
    by_cases e : id = (ix pl k).2.2.1
    · exact .inr ⟨k, by omega, e.symm⟩
    · rw [if_neg e] at hid
      rcases h.key id hid with e | ⟨j, hj, e⟩
      · exact .inl e
      · exact .inr ⟨j, by omega, e⟩
/-- The words that the document's Renumber makes. -/
structure RtOk (T : List Int) (pl : List PI) (k : Nat) : Prop where
  look : ∀ (n : Nat) (h : n < T.length), T[n] = rnP pl k (n : Int)
theorem RtOk.start (pl : List PI) (n : Nat) : RtOk (List.replicate n 0) pl 0 := ⟨fun i h => by rw [List.getElem_replicate]; rfl⟩
theorem RtOk.skip {T : List Int} {pl : List PI} {k : Nat} (h : RtOk T pl k) (h0 : (ix pl k).2.2.1 = 0) : RtOk T pl (k + 1) :=
  ⟨fun n hn => by rw [h.look n hn]; simp only [rnP]; rw [if_neg (fun g => g.1 h0)]⟩
theorem RtOk.step {T : List Int} {pl : List PI} {k r : Nat} (h : RtOk T pl k) (hr : (ix pl k).2.2.1 = (r : Int)) (h0 : (ix pl k).2.2.1 ≠ 0) :
    RtOk (T.set r (IntKind.u32.wrap ((cntP pl (k + 1) : Nat) : Int))) pl (k + 1) := by
  refine ⟨fun n hn => ?_⟩
  rw [List.getElem_set]
  simp only [rnP]
  rw [List.length_set] at hn
  by_cases e : r = n
  · rw [if_pos e, if_pos ⟨h0, by rw [hr, e]⟩]
  · rw [if_neg e, if_neg (fun g => by have := g.2; rw [hr] at this; omega)]; exact h.look n hn

end Go.Proofs

/-!
  ids, plain: a module under other ids is as good as before; what is renumbered once more stays.
-/
namespace Go.Proofs
open Go.Gk Go.RowKit Go.Gm

theorem getD_ge {α : Type} {l : List α} {i : Nat} {d : α} (h : l.length ≤ i) : l.getD i d = d := by simp [List.getD, h]
/-! ### One instruction -/
theorem turnA_k (g : Int → Int) (a : Ag) : (turnA g a).1 = a.1 := by unfold turnA; split <;> rfl
theorem turnA_t (g : Int → Int) (a : Ag) : (turnA g a).2.2 = a.2.2 := by unfold turnA; split <;> rfl
theorem turnA_id (g : Int → Int) {a : Ag} (h : a.1 = 1) : (turnA g a).2.1 = g a.2.1 := by unfold turnA; rw [if_pos h]
theorem turnA_no (g : Int → Int) {a : Ag} (h : a.1 ≠ 1) : turnA g a = a := by unfold turnA; rw [if_neg h]
theorem idP_turn {g : Int → Int} {must : Bool} {n b b' e : Int} (he : e ≠ 0) (h : idP must n b e = 0) (hz : g 0 = 0) (hg : n ≠ 0 → 0 < g n ∧ g n < b') : idP must (g n) b' e = 0 := by
  unfold idP at h ⊢
  by_cases em : must = (n != 0)
  · have em' : must = (g n != 0) := by
      rw [em]
      by_cases h0 : n = 0
      · rw [h0, hz]
      · have := hg h0
        rw [bne_iff_ne.2 h0, bne_iff_ne.2 (show g n ≠ 0 by omega)]
    rw [if_pos em', if_neg]
    rintro ⟨m, hb⟩
    rw [m] at em
    have h0 : n ≠ 0 := bne_iff_ne.1 em.symm
    have := hg h0
    omega
  · rw [if_neg em] at h
    exact absurd h he
theorem wrong_turn {g : Int → Int} {c b b' : Int} {a : Ag} (h : wrongP c a b = 0) (hg : a.1 = 1 → a.2.1 ≠ 0 → 0 < g a.2.1 ∧ g a.2.1 < b') : wrongP c (turnA g a) b' = 0 := by
  unfold wrongP at h
  by_cases n1 : c = 0 ∨ a.1 ≠ kindP c
  · rw [if_pos n1] at h; exact absurd h (by decide)
  rw [if_neg n1] at h
  by_cases n2 : (a.1 = 3 ∧ a.2.1 ≠ 0) ∨ (a.1 ≠ 3 ∧ a.2.2.size ≠ 0)
  · rw [if_pos n2] at h; exact absurd h (by decide)
  rw [if_neg n2] at h
  by_cases n3 : a.1 = 1 ∧ (a.2.1 = 0 ∨ b ≤ a.2.1)
  · rw [if_pos n3] at h; exact absurd h (by decide)
  rw [if_neg n3] at h
  by_cases n4 : a.1 = 4 ∧ enumP c a.2.1 = false
  · rw [if_pos n4] at h; exact absurd h (by decide)
  rw [if_neg n4] at h
  by_cases n5 : nul a.2.2 = true
  · rw [if_pos n5] at h; exact absurd h (by decide)
  by_cases e : a.1 = 1
  · have h0 : a.2.1 ≠ 0 := fun g0 => n3 ⟨e, .inl g0⟩
    obtain ⟨g1, g2⟩ := hg e h0
    unfold turnA wrongP
    rw [if_pos e]
    dsimp only
    rw [if_neg n1, if_neg, if_neg, if_neg, if_neg n5]
    · rintro ⟨q, _⟩; omega
    · rintro ⟨_, q⟩; omega
    · rintro (⟨q, _⟩ | q)
      · omega
      · exact n2 (.inr q)
  · rw [turnA_no g e]
    unfold wrongP
    rw [if_neg n1, if_neg n2, if_neg (fun q => e q.1), if_neg n4, if_neg n5]
theorem wrong_id {c b : Int} {a : Ag} (h : wrongP c a b = 0) (e : a.1 = 1) : a.2.1 ≠ 0 := by
  intro h0
  unfold wrongP at h
  by_cases n1 : c = 0 ∨ a.1 ≠ kindP c
  · rw [if_pos n1] at h; exact absurd h (by decide)
  rw [if_neg n1] at h
  by_cases n2 : (a.1 = 3 ∧ a.2.1 ≠ 0) ∨ (a.1 ≠ 3 ∧ a.2.2.size ≠ 0)
  · rw [if_pos n2] at h; exact absurd h (by decide)
  rw [if_neg n2, if_pos ⟨e, .inl h0⟩] at h
  exact absurd h (by decide)
theorem cost_turn (g : Int → Int) (a : Ag) : cost (turnA g a) = cost a := by unfold cost; rw [turnA_k, turnA_t]
theorem costN_turn (g : Int → Int) (al : List Ag) (k : Nat) : costN (al.map (turnA g)) k = costN al k := by
  unfold costN
  rw [← List.map_take, List.map_map]
  congr 1
  exact List.map_congr_left fun a _ => cost_turn g a
theorem roomP_turn (g : Int → Int) (f : Fl) (al : List Ag) : roomP f (al.map (turnA g)) = roomP f al := by
  unfold roomP; rw [List.length_map, costN_turn]
theorem roomI_turn (g : Int → Int) (p : PI) : roomI (turnI g p) = roomI p := by
  unfold roomI turnI
  dsimp only
  cases frm p.1 with
  | none => rfl
  | some f => exact roomP_turn g f _
theorem argK_none {f : Fl} {al : List Ag} {b : Int} {k : Nat} (h : ∀ j, j < k → werr f al b j = 0) : argK f al b k = 0 := by
  unfold argK
  have : (List.range k).find? (fun j => werr f al b j != 0) = none := by
    rw [List.find?_eq_none]
    intro j hj
    rw [h j (List.mem_range.1 hj)]
    simp
  rw [this]
/-- What is known where an instruction has no fault. -/
theorem fault_all {p : PI} {b : Int} (h : faultI p b = 0) : ∃ f, frm p.1 = some f ∧ idP f.ty p.2.1 b 40 = 0 ∧ idP f.re p.2.2.1 b 41 = 0 ∧ (∀ j, j < p.2.2.2.length → werr f p.2.2.2 b j = 0) ∧
    wholeP f p.2.2.2.length = true ∧ roomP f p.2.2.2 ≤ 65535 := by
  unfold faultI at h
  cases hf : frm p.1 with
  | none => rw [faultP_none hf] at h; cases h
  | some f =>
    rw [faultP_some hf] at h
    unfold faultF at h
    by_cases e1 : errK f p.2.1 p.2.2.1 p.2.2.2 b p.2.2.2.length ≠ 0
    · rw [if_pos e1] at h; exact absurd h e1
    rw [if_neg e1] at h
    obtain ⟨q1, q2, q3⟩ := errK_all (Classical.not_not.1 e1)
    by_cases e2 : wholeP f p.2.2.2.length = false
    · rw [if_pos e2] at h; exact absurd h (by decide)
    rw [if_neg e2] at h
    by_cases e3 : 65535 < roomP f p.2.2.2
    · rw [if_pos e3] at h; exact absurd h (by decide)
    exact ⟨f, rfl, q1, q2, argK_all q3, by simpa using e2, by omega⟩
theorem fault_of {p : PI} {b : Int} {f : Fl} (hf : frm p.1 = some f) (h1 : idP f.ty p.2.1 b 40 = 0) (h2 : idP f.re p.2.2.1 b 41 = 0) (h3 : ∀ j, j < p.2.2.2.length → werr f p.2.2.2 b j = 0)
    (h4 : wholeP f p.2.2.2.length = true) (h5 : roomP f p.2.2.2 ≤ 65535) : faultI p b = 0 := by
  unfold faultI
  rw [faultP_some hf]
  unfold faultF errK
  rw [h1, h2, argK_none h3, h4]
  rw [if_neg (by simp), if_neg (by simp), if_neg (by omega)]
theorem fault_turn {g : Int → Int} {p : PI} {b b' : Int} (h : faultI p b = 0) (hz : g 0 = 0) (hg : ∀ n ∈ allI p, n ≠ 0 → 0 < g n ∧ g n < b') : faultI (turnI g p) b' = 0 := by
  obtain ⟨f, hf, h1, h2, h3, h4, h5⟩ := fault_all h
  refine fault_of (p := turnI g p) (f := f) hf (idP_turn (by decide) h1 hz (hg _ (by simp [allI]))) (idP_turn (by decide) h2 hz (hg _ (by simp [allI]))) (fun j hj => ?_) ?_ ?_
  · have hj : j < p.2.2.2.length := by simpa [turnI] using hj
    have hw := h3 j hj
    unfold werr at hw ⊢
    unfold turnI
    dsimp only
    rw [getD_lt (by rw [List.length_map]; exact hj), List.getElem_map]
    rw [getD_lt hj] at hw
    refine wrong_turn hw fun e => hg _ ?_
    simp only [allI, List.mem_cons]
    right; right
    exact List.mem_map.2 ⟨_, List.mem_filter.2 ⟨List.getElem_mem hj, by simp [e]⟩, rfl⟩
  · unfold turnI; dsimp only; rw [List.length_map]; exact h4
  · unfold turnI; dsimp only; rw [roomP_turn]; exact h5
theorem var_kind : (match frm 59 with | some f => kindP (letP f 0 : Int) | none => 0) = 4 := by decide +kernel
theorem part_turn {g : Int → Int} {p : PI} {b : Int} (h : faultI p b = 0) : partP (turnI g p) = partP p := by
  obtain ⟨f, hf, _, _, h3, _, _⟩ := fault_all h
  have : isVar (turnI g p) = isVar p := by
    unfold isVar turnI
    dsimp only
    by_cases e : p.1 = 59
    · cases hl : p.2.2.2 with
      | nil => rfl
      | cons a r =>
        have hw := h3 0 (by rw [hl]; simp)
        unfold werr at hw
        rw [hl] at hw
        have hk := (wrong_kind hw).2
        have hv := var_kind
        rw [e] at hf
        rw [hf] at hv
        have hv : kindP (letP f 0 : Int) = 4 := hv
        have hk : a.1 = kindP (letP f 0 : Int) := hk
        rw [List.map_cons]
        dsimp only
        rw [turnA_no g (show a.1 ≠ 1 by rw [hk, hv]; decide)]
    · rw [beq_eq_false_iff_ne.2 e]
      rfl
  unfold partP
  rw [this]
  rfl

/-! ### A module -/
structure TurnOk (g : Int → Int) (pl : List PI) (b' : Int) : Prop where
  zero : g 0 = 0
  rng : ∀ n ∈ allP pl, n ≠ 0 → 0 < g n ∧ g n < b'
  inj : ∀ m ∈ allP pl, ∀ n ∈ allP pl, g m = g n → m = n
  pos : 0 < b' ∧ b' ≤ 65536
theorem turnP_len (g : Int → Int) (pl : List PI) : (turnP g pl).length = pl.length := List.length_map _
theorem turnP_get (g : Int → Int) (pl : List PI) (k : Nat) (h : k < (turnP g pl).length) : (turnP g pl)[k] = turnI g (pl[k]'(by rwa [turnP_len] at h)) := List.getElem_map _
theorem mem_allI {p : PI} {pl : List PI} (hp : p ∈ pl) {n : Int} (h : n ∈ allI p) : n ∈ allP pl := List.mem_flatMap.2 ⟨p, hp, h⟩
theorem ix_turn {g : Int → Int} (hz : g 0 = 0) (pl : List PI) (k : Nat) : ix (turnP g pl) k = turnI g (ix pl k) := by
  by_cases hk : k < pl.length
  · rw [ix, getD_lt (by rw [turnP_len]; exact hk), ix_lt hk]
    unfold turnP
    rw [List.getElem_map]
  · unfold ix
    rw [getD_ge (by rw [turnP_len]; omega), getD_ge (by omega)]
    unfold turnI
    rw [hz]
    rfl
theorem chk_sim {pl ql : List PI} (hl : pl.length = ql.length) (h1 : ∀ k, (ix pl k).1 = (ix ql k).1) (h2 : ∀ k, partP (ix pl k) = partP (ix ql k)) : chkP pl = chkP ql := by
  have hm : ∀ n, mdlP pl n = mdlP ql n := fun n => by unfold mdlP; simp only [h2]
  have ho : ∀ n, overP pl n = overP ql n := fun n => by unfold overP; simp only [h2]
  have ha : ∀ n, aheadP pl n = aheadP ql n := fun n => by cases n with
    | zero => rfl
    | succ n => simp only [aheadP, h1, h2]
  have hf : ∀ n, firstP pl n = firstP ql n := fun n => by
    induction n with
    | zero => rfl
    | succ n ih => simp only [firstP, h1, ih]
  have hy : (fun k => !mayP pl k) = fun k => !mayP ql k := funext fun n => by unfold mayP; rw [ho, hm, h2, h1, ha, hf]
  have hop : openP pl = openP ql := by unfold openP; rw [hm, hl, h1, h2]
  unfold chkP
  rw [hy, hl, hop]
theorem tot_le {bound : Int} {pl : List PI} (h : (shapeP bound pl).1 = 0) : totP pl pl.length ≤ 1048576 := by
  cases hl : pl.length with
  | zero => simp [totP]
  | succ n =>
    unfold shapeP at h
    split at h
    · cases h
    · split at h
      · dsimp only at h
        split at h
        · rename_i hf; exact absurd h hf
        · cases h
      · rename_i hn
        have := List.find?_eq_none.1 hn n (List.mem_range.2 (by omega))
        unfold badI at this
        simp only [Bool.or_eq_true, not_or, decide_eq_true_eq] at this
        omega
theorem totP_mono (pl : List PI) {a b : Nat} (h : a ≤ b) (hb : b ≤ pl.length) : totP pl a ≤ totP pl b := by
  induction b with
  | zero => have : a = 0 := by omega
            subst this; exact Nat.le_refl _
  | succ b ih =>
    by_cases e : a = b + 1
    · subst e; exact Nat.le_refl _
    · have := ih (by omega) (by omega)
      rw [totP_succ (by omega)]
      omega
theorem totP_turn (g : Int → Int) (pl : List PI) (k : Nat) : totP (turnP g pl) k = totP pl k := by
  unfold totP turnP
  rw [← List.map_take, List.map_map]
  congr 2
  exact List.map_congr_left fun p _ => roomI_turn g p
section
variable {g : Int → Int} {pl : List PI} {b b' : Int}
theorem TurnOk.fault (h : TurnOk g pl b') (hs : (shapeP b pl).1 = 0) : ∀ k, k < pl.length → faultI (ix (turnP g pl) k) b' = 0 := by
  intro k hk
  rw [ix_turn h.zero]
  have hf := (shape_ok hs).2 k hk
  rw [ix_lt hk]
  exact fault_turn hf h.zero fun n hn => h.rng n (mem_allI (List.getElem_mem hk) hn)
theorem TurnOk.shape (h : TurnOk g pl b') (hs : (shapeP b pl).1 = 0) : shapeP b' (turnP g pl) = (0, 0) := by
  have hb := h.pos
  refine shape_good (by omega) fun j hj => ?_
  have hj' : j < pl.length := by rwa [turnP_len] at hj
  refine badI_false hj ?_ ?_
  · have := h.fault hs j hj'
    rwa [ix_lt hj] at this
  · rw [totP_turn]
    have := totP_mono pl (a := j + 1) (b := pl.length) (by omega) (Nat.le_refl _)
    have := tot_le hs
    omega
theorem TurnOk.part (h : TurnOk g pl b') (hs : (shapeP b pl).1 = 0) (k : Nat) : partP (ix (turnP g pl) k) = partP (ix pl k) := by
  rw [ix_turn h.zero]
  by_cases hk : k < pl.length
  · exact part_turn (b := b) (by rw [ix_lt hk]; exact (shape_ok hs).2 k hk)
  · have : ix pl k = pi0 := getD_ge (by omega)
    rw [this]
    unfold turnI
    rw [h.zero]
    rfl
theorem TurnOk.chk (h : TurnOk g pl b') (hs : (shapeP b pl).1 = 0) : chkP (turnP g pl) = chkP pl :=
  chk_sim (turnP_len g pl) (fun k => by rw [ix_turn h.zero]; rfl) (h.part hs)
theorem TurnOk.iff0 (h : TurnOk g pl b') {n : Int} (hn : n ∈ allP pl ∨ n = 0) : g n = 0 ↔ n = 0 := by
  constructor
  · intro e
    rcases hn with hn | hn
    · refine Classical.byContradiction fun h0 => ?_
      have := h.rng n hn h0
      omega
    · exact hn
  · intro e; rw [e, h.zero]
theorem TurnOk.eq (h : TurnOk g pl b') {m n : Int} (hm : m ∈ allP pl ∨ m = 0) (hn : n ∈ allP pl ∨ n = 0) : g m = g n ↔ m = n := by
  constructor
  · intro e
    rcases hm with hm | hm
    · rcases hn with hn | hn
      · exact h.inj m hm n hn e
      · subst hn; rw [h.zero] at e; exact (h.iff0 (.inl hm)).1 e
    · subst hm
      rw [h.zero] at e
      exact ((h.iff0 hn).1 e.symm).symm
  · intro e; rw [e]
theorem res_mem (pl : List PI) (k : Nat) : (ix pl k).2.2.1 ∈ allP pl ∨ (ix pl k).2.2.1 = 0 := by
  by_cases hk : k < pl.length
  · left; rw [ix_lt hk]; exact (mem_all hk).2.1
  · right
    have : ix pl k = pi0 := getD_ge (by omega)
    rw [this]
theorem TurnOk.mk1 (h : TurnOk g pl b') {id : Int} (hid : id ∈ allP pl ∨ id = 0) (k : Nat) : Go.Proofs.mk1 (turnP g pl) (g id) k = Go.Proofs.mk1 pl id k := by
  unfold Go.Proofs.mk1
  rw [show (turnP g pl).getD k pi0 = ix (turnP g pl) k from rfl, show pl.getD k pi0 = ix pl k from rfl, ix_turn h.zero]
  unfold turnI
  dsimp only
  rw [Bool.eq_iff_iff]
  simp only [Bool.and_eq_true, beq_iff_eq, bne_iff_ne, ne_eq]
  rw [h.eq (res_mem pl k) hid, h.iff0 hid]
theorem TurnOk.maker (h : TurnOk g pl b') {id : Int} (hid : id ∈ allP pl ∨ id = 0) (n : Nat) : makerI (turnP g pl) (g id) n = makerI pl id n := by
  unfold makerI
  rw [show Go.Proofs.mk1 (turnP g pl) (g id) = Go.Proofs.mk1 pl id from funext (h.mk1 hid)]
theorem ids_mem {p : PI} {n : Int} (h : n ∈ idsP p.2.1 p.2.2.2) : n ∈ allI p := by
  unfold idsP idsN at h
  rw [List.take_length] at h
  rcases List.mem_append.1 h with h | h
  · split at h
    · cases h
    · rw [List.mem_singleton.1 h]; simp [allI]
  · simp only [allI, List.mem_cons]
    exact .inr (.inr h)
theorem at_mem {k : Nat} {n : Int} (h : n ∈ idsAt pl k) : n ∈ allP pl ∨ n = 0 := by
  unfold idsAt at h
  by_cases hk : k < pl.length
  · rw [ix_lt hk] at h
    exact .inl (mem_allI (List.getElem_mem hk) (ids_mem h))
  · have : ix pl k = pi0 := getD_ge (by omega)
    rw [this] at h
    cases h
theorem args_turn (g : Int → Int) : ∀ al : List Ag, (((al.map (turnA g)).filter fun a => a.1 == 1).map (·.2.1)) = (((al.filter fun a => a.1 == 1).map (·.2.1)).map g)
  | [] => rfl
  | a :: al => by
    rw [List.map_cons, List.filter_cons, List.filter_cons, turnA_k]
    by_cases e : a.1 = 1
    · rw [if_pos (beq_iff_eq.2 e), if_pos (beq_iff_eq.2 e), List.map_cons, List.map_cons, List.map_cons, args_turn g al, turnA_id g e]
    · rw [if_neg (fun q => e (beq_iff_eq.1 q)), if_neg (fun q => e (beq_iff_eq.1 q)), args_turn g al]
theorem TurnOk.ids (h : TurnOk g pl b') (k : Nat) : idsAt (turnP g pl) k = (idsAt pl k).map g := by
  have hty : (ix pl k).2.1 ∈ allP pl ∨ (ix pl k).2.1 = 0 := by
    by_cases hk : k < pl.length
    · left; rw [ix_lt hk]; exact (mem_all hk).1
    · right
      have : ix pl k = pi0 := getD_ge (by omega)
      rw [this]
  unfold idsAt
  rw [ix_turn h.zero]
  unfold turnI idsP idsN
  dsimp only
  rw [List.take_length, List.take_length, List.map_append, args_turn]
  congr 1
  by_cases e : (ix pl k).2.1 = 0
  · rw [if_pos e, if_pos (by rw [e, h.zero])]; rfl
  · rw [if_neg e, if_neg (fun q => e ((h.iff0 hty).1 q))]; rfl
theorem any_map_congr {α β : Type} {l : List α} {f : α → β} {p : β → Bool} {q : α → Bool} (h : ∀ x ∈ l, p (f x) = q x) : (l.map f).any p = l.any q := by
  induction l with
  | nil => rfl
  | cons x l ih => rw [List.map_cons, List.any_cons, List.any_cons, h x List.mem_cons_self, ih fun y hy => h y (List.mem_cons_of_mem _ hy)]
theorem TurnOk.flt (h : TurnOk g pl b') (hs : (shapeP b pl).1 = 0) (k : Nat) : fltP (turnP g pl) k = fltP pl k := by
  unfold fltP
  rw [h.ids, h.part hs, turnP_len]
  rw [any_map_congr (q := fun id => decide (makerI pl id pl.length < 0)) fun n hn => by rw [h.maker (at_mem hn)]]
  rw [any_map_congr (q := fun id => decide (makerI pl id k < 0)) fun n hn => by rw [h.maker (at_mem hn)]]
  have : (ix (turnP g pl) k).2.2.1 = g (ix pl k).2.2.1 := by rw [ix_turn h.zero]; rfl
  rw [this, h.maker (res_mem pl k)]
theorem TurnOk.chk9 (h : TurnOk g pl b') (hs : (shapeP b pl).1 = 0) : chk9P b' (turnP g pl) = chk9P b pl := by
  have hl : layP b' (turnP g pl) = layP b pl := by
    unfold layP
    rw [h.shape hs, h.chk hs, if_neg (by simp), if_neg (by rw [hs]; simp)]
  unfold chk9P
  rw [hl, turnP_len]
  simp only [h.flt hs]
theorem TurnOk.cnt (h : TurnOk g pl b') : ∀ k, cntP (turnP g pl) k = cntP pl k
  | 0 => rfl
  | k + 1 => by
    have : (ix (turnP g pl) k).2.2.1 = g (ix pl k).2.2.1 := by rw [ix_turn h.zero]; rfl
    simp only [cntP, h.cnt k, this, ne_eq, h.iff0 (res_mem pl k)]
theorem TurnOk.rn (h : TurnOk g pl b') {id : Int} (hid : id ∈ allP pl ∨ id = 0) : ∀ k, rnP (turnP g pl) k (g id) = rnP pl k id
  | 0 => rfl
  | k + 1 => by
    have : (ix (turnP g pl) k).2.2.1 = g (ix pl k).2.2.1 := by rw [ix_turn h.zero]; rfl
    simp only [rnP, h.rn hid k, h.cnt (k + 1), this, ne_eq, h.iff0 (res_mem pl k), h.eq hid (res_mem pl k)]
end
theorem turnI_congr {f h : Int → Int} {p : PI} (hh : ∀ n ∈ allI p, h n = f n) : turnI h p = turnI f p := by
  unfold turnI
  rw [hh p.2.1 (by simp [allI]), hh p.2.2.1 (by simp [allI])]
  congr 3
  refine List.map_congr_left fun a ha => ?_
  unfold turnA
  by_cases e : a.1 = 1
  · rw [if_pos e, if_pos e, hh]
    simp only [allI, List.mem_cons]
    right; right
    exact List.mem_map.2 ⟨_, List.mem_filter.2 ⟨ha, by simp [e]⟩, rfl⟩
  · rw [if_neg e, if_neg e]
theorem turnP_congr {f h : Int → Int} {pl : List PI} (hh : ∀ n ∈ allP pl, h n = f n) : turnP h pl = turnP f pl :=
  List.map_congr_left fun _ hp => turnI_congr fun n hn => hh n (mem_allI hp hn)
theorem turnI_turn (h g : Int → Int) (p : PI) : turnI h (turnI g p) = turnI (fun n => h (g n)) p := by
  unfold turnI
  dsimp only
  rw [List.map_map]
  congr 3
  refine List.map_congr_left fun a _ => ?_
  simp only [Function.comp]
  by_cases e : a.1 = 1
  · unfold turnA
    rw [if_pos e, if_pos e, if_pos e]
  · rw [turnA_no g e, turnA_no h e, turnA_no _ e]
theorem turnP_turn (h g : Int → Int) (pl : List PI) : turnP h (turnP g pl) = turnP (fun n => h (g n)) pl := by
  unfold turnP
  rw [List.map_map]
  exact List.map_congr_left fun p _ => turnI_turn h g p
theorem turnP_id (pl : List PI) : turnP (fun n => n) pl = pl := by
  unfold turnP
  have : ∀ p : PI, turnI (fun n => n) p = p := fun p => by
    unfold turnI
    have : p.2.2.2.map (turnA fun n => n) = p.2.2.2 := by
      have : ∀ a : Ag, turnA (fun n => n) a = a := fun a => by unfold turnA; split <;> rfl
      rw [show (turnA fun n => n) = id from funext this, List.map_id]
    rw [this]
  rw [show turnI (fun n => n) = id from funext this, List.map_id]
theorem allP_turn (g : Int → Int) (pl : List PI) : allP (turnP g pl) = (allP pl).map g := by
  unfold allP turnP
  rw [List.flatMap_map, List.map_flatMap]
  refine congrArg (fun f => List.flatMap f pl) (funext fun p => ?_)
  unfold allI turnI
  dsimp only
  rw [List.map_cons, List.map_cons]
  congr 2
  exact args_turn g p.2.2.2
/-- Numbered once more: the same. -/
theorem TurnOk.new {g : Int → Int} {pl : List PI} {b' : Int} (h : TurnOk g pl b') : newP (turnP g pl) = newP pl ∧ bndP (turnP g pl) = bndP pl := by
  refine ⟨?_, by unfold bndP; rw [turnP_len, h.cnt]⟩
  unfold newP
  rw [turnP_turn, turnP_len]
  exact turnP_congr fun n hn => h.rn (.inl hn) _

/-! ### Alike -/
theorem TurnOk.alike {g : Int → Int} {x y : Mo} {pl : List PI} (h : TurnOk g pl y.2.1) (hs : (shapeP x.2.1 pl).1 = 0) (hg : x.1 = y.1) : AlikeP x pl y (turnP g pl) := by
  have hi : ∀ k (h1 : k < pl.length) (h2 : k < (turnP g pl).length), instOk pl[k] (turnP g pl)[k] := by
    intro k h1 h2
    rw [turnP_get]
    refine ⟨rfl, (List.length_map _).symm, fun j q1 q2 => ?_⟩
    have e2 : (turnI g pl[k]).2.2.2[j] = turnA g pl[k].2.2.2[j] := List.getElem_map _
    rw [e2]
    refine ⟨(turnA_k g _).symm, (by rw [turnA_t]), fun e => by rw [turnA_no g e]⟩
  have hl := (turnP_len g pl).symm
  refine ⟨hs, by rw [h.shape hs], hg, hl, hi, ?_⟩
  rw [← (zN_all hl hi).1, allP_turn]
  have hz : (allP pl).zip ((allP pl).map g) = (allP pl).map fun n => (n, g n) := by
    generalize allP pl = l
    induction l with
    | nil => rfl
    | cons a l ih => rw [List.map_cons, List.zip_cons_cons, List.map_cons, ih]
  rw [hz]
  intro u hu v hv
  have key : ∀ {u : Int × Int}, u ∈ (0, 0) :: (allP pl).map (fun n => (n, g n)) → (u.1 ∈ allP pl ∨ u.1 = 0) ∧ u.2 = g u.1 := by
    intro u hu
    rcases List.mem_cons.1 hu with e | hu
    · subst e; exact ⟨.inr rfl, h.zero.symm⟩
    · obtain ⟨n, hn, rfl⟩ := List.mem_map.1 hu
      exact ⟨.inl hn, rfl⟩
  obtain ⟨u1, u2⟩ := key hu
  obtain ⟨v1, v2⟩ := key hv
  rw [u2, v2, h.eq u1 v1]
theorem AlikeP.symm {x y : Mo} {pl ql : List PI} (h : AlikeP x pl y ql) : AlikeP y ql x pl := by
  obtain ⟨h1, h2, h3, h4, h5, h6⟩ := h
  have hi : ∀ k (q1 : k < ql.length) (q2 : k < pl.length), instOk ql[k] pl[k] := fun k q1 q2 => by
    obtain ⟨e1, e2, e3⟩ := h5 k q2 q1
    refine ⟨e1.symm, e2.symm, fun j r1 r2 => ?_⟩
    obtain ⟨f1, f2, f3⟩ := e3 j r2 r1
    exact ⟨f1.symm, f2.symm, fun e => (f3 (by rw [f1]; exact e)).symm⟩
  refine ⟨h2, h1, h3.symm, h4.symm, hi, ?_⟩
  rw [← (zN_all h4.symm hi).1]
  rw [← (zN_all h4 h5).1] at h6
  have key : ∀ {u : Int × Int}, u ∈ (0, 0) :: (allP ql).zip (allP pl) → (u.2, u.1) ∈ (0, 0) :: (allP pl).zip (allP ql) := by
    intro u hu
    rcases List.mem_cons.1 hu with e | hu
    · subst e; exact List.mem_cons_self
    · refine List.mem_cons_of_mem _ ?_
      obtain ⟨i, hi, rfl⟩ := List.mem_iff_getElem.1 hu
      rw [List.length_zip] at hi
      rw [List.getElem_zip]
      refine List.mem_iff_getElem.2 ⟨i, by rw [List.length_zip]; omega, ?_⟩
      rw [List.getElem_zip]
  intro u hu v hv
  exact (h6 _ (key hu) _ (key hv)).symm

/-! ### Numbered as they are made -/
theorem cntP_mono (pl : List PI) {a b : Nat} (h : a ≤ b) : cntP pl a ≤ cntP pl b := by
  induction b with
  | zero => have : a = 0 := by omega
            subst this; exact Nat.le_refl _
  | succ b ih =>
    by_cases e : a = b + 1
    · subst e; exact Nat.le_refl _
    · have := ih (by omega)
      simp only [cntP]
      omega
theorem nodup_le : ∀ (m : Nat) (l : List Int), l.Nodup → (∀ x ∈ l, 1 ≤ x ∧ x ≤ m) → l.length ≤ m
  | 0, l, _, h => by
    cases l with
    | nil => exact Nat.le_refl _
    | cons a r => have := h a List.mem_cons_self; omega
  | m + 1, l, hn, h => by
    have ih := nodup_le m (l.erase ((m + 1 : Nat) : Int)) (hn.erase _) fun x hx => by
      obtain ⟨h1, h2⟩ := (hn.mem_erase_iff).1 hx
      have := h x h2
      omega
    rw [List.length_erase] at ih
    split at ih <;> omega
/-- The results ahead of k. -/
def resP (pl : List PI) (k : Nat) : List Int := ((List.range k).filter fun j => (ix pl j).2.2.1 != 0).map fun j => (ix pl j).2.2.1
theorem resP_len (pl : List PI) : ∀ k, (resP pl k).length = cntP pl k
  | 0 => rfl
  | k + 1 => by
    have ih := resP_len pl k
    unfold resP at ih ⊢
    rw [List.length_map] at ih ⊢
    rw [List.range_succ, List.filter_append, List.length_append, ih]
    simp only [cntP]
    rw [List.filter_cons]
    by_cases e : (ix pl k).2.2.1 = 0
    · rw [if_neg (fun g => bne_iff_ne.1 g e), if_neg (fun g => g e)]; rfl
    · rw [if_pos (bne_iff_ne.2 e), if_pos e]; rfl
theorem resP_nodup {pl : List PI} (h : ∀ k, k < pl.length → (ix pl k).2.2.1 ≠ 0 → ∀ j, j < k → j < pl.length → (ix pl j).2.2.1 ≠ (ix pl k).2.2.1) : ∀ k, k ≤ pl.length → (resP pl k).Nodup
  | 0, _ => List.nodup_nil
  | k + 1, hk => by
    have ih := resP_nodup h k (by omega)
    unfold resP at ih ⊢
    rw [List.range_succ, List.filter_append, List.map_append]
    refine List.nodup_append.2 ⟨ih, ?_, ?_⟩
    · rw [List.filter_cons]
      split <;> simp
    · intro a ha c hc e
      obtain ⟨j, hj, rfl⟩ := List.mem_map.1 ha
      obtain ⟨i, hi, rfl⟩ := List.mem_map.1 hc
      obtain ⟨hi, h0⟩ := List.mem_filter.1 hi
      have := List.mem_singleton.1 hi
      subst this
      have hj := List.mem_range.1 (List.mem_filter.1 hj).1
      exact h i (by omega) (bne_iff_ne.1 h0) j hj (by omega) e
/-- What is known of a module that Check lets pass. -/
structure Whole9 (bd : Int) (pl : List PI) : Prop where
  shape : (shapeP bd pl).1 = 0
  lim : 0 < bd ∧ bd ≤ 65536
  rng : ∀ n ∈ allP pl, 0 ≤ n ∧ n < bd
  new : ∀ k, k < pl.length → (ix pl k).2.2.1 ≠ 0 → ∀ j, j < k → j < pl.length → (ix pl j).2.2.1 ≠ (ix pl k).2.2.1
  made : ∀ n ∈ allP pl, n ≠ 0 → ∃ k, k < pl.length ∧ (ix pl k).2.2.1 = n
  ok : chk9P bd pl = (0, 0)
theorem Whole9.of {bd : Int} {pl : List PI} (hp : PlOk pl) (h0 : 0 ≤ bd) (h : (chk9P bd pl).1 = 0) : Whole9 bd pl := by
  obtain ⟨c1, c2, c3⟩ := chk9_ok h
  have hs := lay_shape c2
  have hbd := (shape_ok hs).1
  refine ⟨hs, by omega, ids_range hp h0 hs, fun k hk h0 => flt_new (c3 k hk) h0, fun n hn h0 => ?_, c1⟩
  obtain ⟨p, hp', hn⟩ := List.mem_flatMap.1 hn
  obtain ⟨k, hk, rfl⟩ := List.getElem_of_mem hp'
  have hr : n = pl[k].2.2.1 ∨ n ∈ idsAt pl k := by
    unfold idsAt idsP idsN
    rw [ix_lt hk, List.take_length]
    simp only [allI, List.mem_cons] at hn
    rcases hn with e | e | e
    · right
      refine List.mem_append_left _ ?_
      rw [if_neg (by rw [← e]; exact h0), e]
      exact List.mem_singleton.2 rfl
    · exact .inl e
    · right
      exact List.mem_append_right _ e
  rcases hr with e | e
  · exact ⟨k, hk, by rw [ix_lt hk, e]⟩
  · have hf := c3 k hk
    unfold fltP at hf
    by_cases e1 : 0 ≤ makerI pl (ix pl k).2.2.1 k
    · rw [if_pos e1] at hf; exact absurd hf (by decide)
    rw [if_neg e1] at hf
    by_cases e2 : (idsAt pl k).any (fun id => decide (makerI pl id pl.length < 0)) = true
    · rw [if_pos e2] at hf; exact absurd hf (by decide)
    have : 0 ≤ makerI pl n pl.length := by
      rcases Int.lt_or_le (makerI pl n pl.length) 0 with q | q
      · exact absurd (List.any_eq_true.2 ⟨n, e, decide_eq_true q⟩) e2
      · exact q
    obtain ⟨j, hj, hm⟩ := makerI_iff.1 this
    unfold mk1 at hm
    rw [Bool.and_eq_true] at hm
    exact ⟨j, hj, beq_iff_eq.1 hm.1⟩
theorem Whole9.cnt {bd : Int} {pl : List PI} (h : Whole9 bd pl) : ((cntP pl pl.length : Nat) : Int) ≤ bd - 1 := by
  have hb := h.lim
  have := nodup_le (bd - 1).toNat (resP pl pl.length) (resP_nodup h.new _ (Nat.le_refl _)) fun x hx => by
    unfold resP at hx
    obtain ⟨j, hj, rfl⟩ := List.mem_map.1 hx
    obtain ⟨hj, h0⟩ := List.mem_filter.1 hj
    have hj := List.mem_range.1 hj
    have h0 : (ix pl j).2.2.1 ≠ 0 := bne_iff_ne.1 h0
    have := h.rng (ix pl j).2.2.1 (by rw [ix_lt hj]; exact (mem_all hj).2.1)
    omega
  rw [resP_len] at this
  omega
theorem Whole9.rn_at {bd : Int} {pl : List PI} (h : Whole9 bd pl) {k : Nat} (hk : k < pl.length) (h0 : (ix pl k).2.2.1 ≠ 0) : ∀ K, k < K → K ≤ pl.length → rnP pl K (ix pl k).2.2.1 = ((cntP pl (k + 1) : Nat) : Int)
  | 0, h1, _ => by omega
  | K + 1, h1, h2 => by
    simp only [rnP]
    have hc := h.cnt
    have hb := h.lim
    have hm := cntP_mono pl (show k + 1 ≤ pl.length from hk)
    by_cases e : K = k
    · subst e
      rw [if_pos ⟨h0, rfl⟩]
      exact wrapU32_in (by omega) (by omega)
    · rw [if_neg, h.rn_at hk h0 K (by omega) (by omega)]
      rintro ⟨q1, q2⟩
      exact h.new K (by omega) q1 k (by omega) hk q2
theorem cnt_one {pl : List PI} {k : Nat} (h0 : (ix pl k).2.2.1 ≠ 0) : cntP pl (k + 1) = cntP pl k + 1 := by
  simp only [cntP]; rw [if_pos h0]
theorem Whole9.bnd {bd : Int} {pl : List PI} (h : Whole9 bd pl) : bndP pl = ((cntP pl pl.length : Nat) : Int) + 1 := by
  have hc := h.cnt
  have hb := h.lim
  exact wrapU32_in (by omega) (by omega)
theorem Whole9.turn {bd : Int} {pl : List PI} (h : Whole9 bd pl) : TurnOk (rnP pl pl.length) pl (bndP pl) := by
  have hc := h.cnt
  have hb := h.lim
  have hbn := h.bnd
  have at_ : ∀ n ∈ allP pl, n ≠ 0 → ∃ k, k < pl.length ∧ (ix pl k).2.2.1 = n ∧ rnP pl pl.length n = ((cntP pl (k + 1) : Nat) : Int) := fun n hn h0 => by
    obtain ⟨k, hk, e⟩ := h.made n hn h0
    refine ⟨k, hk, e, ?_⟩
    rw [← e]
    exact h.rn_at hk (by rw [e]; exact h0) _ hk (Nat.le_refl _)
  refine ⟨rnP_zero pl _, fun n hn h0 => ?_, fun m hm n hn e => ?_, by omega⟩
  · obtain ⟨k, hk, e1, e2⟩ := at_ n hn h0
    have := cntP_mono pl (show k + 1 ≤ pl.length from hk)
    have := cnt_one (pl := pl) (k := k) (by rw [e1]; exact h0)
    omega
  · by_cases m0 : m = 0
    · subst m0
      by_cases n0 : n = 0
      · exact n0.symm
      · obtain ⟨k, hk, e1, e2⟩ := at_ n hn n0
        rw [rnP_zero] at e
        have := cnt_one (pl := pl) (k := k) (by rw [e1]; exact n0)
        omega
    · by_cases n0 : n = 0
      · subst n0
        obtain ⟨k, hk, e1, e2⟩ := at_ m hm m0
        rw [rnP_zero] at e
        have := cnt_one (pl := pl) (k := k) (by rw [e1]; exact m0)
        omega
      · obtain ⟨j, hj, e1, e2⟩ := at_ m hm m0
        obtain ⟨k, hk, f1, f2⟩ := at_ n hn n0
        have cj := cnt_one (pl := pl) (k := j) (by rw [e1]; exact m0)
        have ck := cnt_one (pl := pl) (k := k) (by rw [f1]; exact n0)
        rcases Nat.lt_trichotomy j k with q | q | q
        · have := cntP_mono pl (show j + 1 ≤ k from q)
          omega
        · subst q; rw [← e1, f1]
        · have := cntP_mono pl (show k + 1 ≤ j from q)
          omega

end Go.Proofs

/-!
  ids, plain: which words may rename ids; renamed and renamed back.
-/
namespace Go.Proofs
open Go.Gk Go.RowKit Go.Gm

theorem perm_of_subset {α : Type} [BEq α] [LawfulBEq α] : ∀ {S T : List α}, S.Nodup → (∀ x ∈ S, x ∈ T) → T.length ≤ S.length → T.Perm S
  | [], T, _, _, h => by
    cases T with
    | nil => exact List.Perm.refl _
    | cons a r => simp at h
  | x :: S, T, hn, hs, h => by
    have hx := hs x List.mem_cons_self
    obtain ⟨h1, h2⟩ := List.nodup_cons.1 hn
    refine (List.perm_cons_erase hx).trans (List.Perm.cons x (perm_of_subset h2 (fun y hy => ?_) ?_))
    · exact (List.mem_erase_of_ne (fun e => by subst e; exact h1 hy)).2 (hs y (List.mem_cons_of_mem _ hy))
    · rw [List.length_erase_of_mem hx]
      simp at h
      omega
abbrev rngI (n : Nat) : List Int := (List.range n).map fun (k : Nat) => (k : Int)
theorem rngI_nodup (n : Nat) : (rngI n).Nodup := by
  refine List.pairwise_map.2 (List.nodup_range.imp fun {a b} h => ?_)
  omega
theorem mem_rngI {n : Nat} {x : Int} : x ∈ rngI n ↔ 0 ≤ x ∧ x < n := by
  constructor
  · intro h
    obtain ⟨k, hk, rfl⟩ := List.mem_map.1 h
    have := List.mem_range.1 hk
    omega
  · rintro ⟨h1, h2⟩
    exact List.mem_map.2 ⟨x.toNat, List.mem_range.2 (by omega), by omega⟩
/-- May ids below a bound be renamed so? -/
structure WayP (bd : Int) (T : List Int) : Prop where
  len : (T.length : Int) = bd
  zero : T.getD 0 1 = 0
  perm : T.Perm (rngI T.length)
noncomputable instance wayD (bd : Int) (T : List Int) : Decidable (WayP bd T) := Classical.propDecidable _
noncomputable def wayB (bd : Int) (T : List Int) : Bool := decide (WayP bd T)
theorem wayB_true {bd : Int} {T : List Int} (h : WayP bd T) : wayB bd T = true := by unfold wayB; exact decide_eq_true h
theorem wayB_false {bd : Int} {T : List Int} (h : ¬ WayP bd T) : wayB bd T = false := by unfold wayB; exact decide_eq_false h
theorem wayB_iff {bd : Int} {T : List Int} : wayB bd T = true ↔ WayP bd T := by unfold wayB; exact decide_eq_true_iff
theorem WayP.nodup {bd : Int} {T : List Int} (h : WayP bd T) : T.Nodup := h.perm.nodup_iff.2 (rngI_nodup _)
/-- Each id but 0 stands once behind the first word. -/
theorem way_iff {bd : Int} {T : List Int} (hl : (T.length : Int) = bd) (h0 : T.getD 0 1 = 0) : WayP bd T ↔ ∀ id : Nat, 1 ≤ id → id < T.length → (T.drop 1).count (id : Int) = 1 := by
  cases T with
  | nil => cases h0
  | cons a r =>
    have ha : a = 0 := h0
    subst ha
    have hr : rngI (r.length + 1) = 0 :: (List.range r.length).map fun (k : Nat) => ((k + 1 : Nat) : Int) := by
      unfold rngI
      rw [List.range_succ_eq_map, List.map_cons, List.map_map]
      rfl
    have hnd := rngI_nodup (r.length + 1)
    rw [hr] at hnd
    constructor
    · intro h id h1 h2
      have hp := h.perm
      rw [List.length_cons, hr] at hp
      have hp := hp.cons_inv
      rw [List.drop_one, List.tail_cons, hp.count_eq]
      rw [(List.nodup_cons.1 hnd).2.count, if_pos]
      simp only [List.length_cons] at h2
      exact List.mem_map.2 ⟨id - 1, List.mem_range.2 (by omega), by rw [show id - 1 + 1 = id by omega]⟩
    · intro h
      refine ⟨hl, h0, ?_⟩
      rw [List.length_cons, hr]
      refine List.Perm.cons 0 (perm_of_subset (List.nodup_cons.1 hnd).2 (fun x hx => ?_) (by simp))
      obtain ⟨k, hk, rfl⟩ := List.mem_map.1 hx
      have hk := List.mem_range.1 hk
      have := h (k + 1) (by omega) (by rw [List.length_cons]; omega)
      rw [List.drop_one, List.tail_cons] at this
      exact List.count_pos_iff.1 (by omega)
/-- Sorted, such words are the numbers from 0 on. -/
theorem sorted_iff {T A : List Int} (hp : A.Perm T) (hs : A.Pairwise (· ≤ ·)) : T.Perm (rngI T.length) ↔ ∀ n (h : n < A.length), A[n] = (n : Int) := by
  constructor
  · intro h
    have e : A = rngI T.length := List.Perm.eq_of_pairwise (le := fun (x y : Int) => x ≤ y) (fun a b _ _ h1 h2 => Int.le_antisymm h1 h2) hs
      (List.pairwise_map.2 (List.pairwise_lt_range.imp fun {a b} h => by omega)) (hp.trans h)
    intro n hn
    subst e
    simp
  · intro h
    refine hp.symm.trans ?_
    have e : A = rngI A.length := List.ext_getElem (by simp) fun n h1 h2 => by rw [h n h1]; simp
    rw [← hp.length_eq]
    rw [e]
    simp
abbrev toG (T : List Int) (n : Int) : Int := T.getD n.toNat 0
theorem WayP.turn {bd : Int} {T : List Int} {pl : List PI} (h : WayP bd T) (hp : PlOk pl) (h0 : 0 ≤ bd) (hs : (shapeP bd pl).1 = 0) : TurnOk (toG T) pl bd := by
  have hb := (shape_ok hs).1
  have hl := h.len
  have hr := ids_range hp h0 hs
  have hz : toG T 0 = 0 := by
    have := h.zero
    unfold toG
    rw [getD_lt (show (0 : Int).toNat < T.length by simp; omega)]
    rw [getD_lt (by omega)] at this
    exact this
  have hin : ∀ m n : Int, 0 ≤ m → m < bd → 0 ≤ n → n < bd → toG T m = toG T n → m = n := by
    intro m n m1 m2 n1 n2 e
    unfold toG at e
    rw [getD_lt (by omega), getD_lt (by omega)] at e
    have := (List.getElem_inj (h₀ := by omega) (h₁ := by omega) h.nodup).1 e
    omega
  refine ⟨hz, fun n hn n0 => ?_, fun m hm n hn e => ?_, by omega⟩
  · obtain ⟨n1, n2⟩ := hr n hn
    have hm : toG T n ∈ T := by unfold toG; rw [getD_lt (by omega)]; exact List.getElem_mem _
    have := mem_rngI.1 (h.perm.mem_iff.1 hm)
    have : toG T n ≠ 0 := fun e => n0 (hin n 0 n1 n2 (by omega) (by omega) (by rw [e, hz]))
    omega
  · obtain ⟨n1, n2⟩ := hr n hn
    obtain ⟨m1, m2⟩ := hr m hm
    exact hin m n m1 m2 n1 n2 e
/-- The words that rename back. -/
theorem WayP.back {bd : Int} {T S : List Int} (h : WayP bd T) (hb : 0 < bd) (hl : S.length = T.length) (hS : ∀ i (hi : i < T.length), S.getD T[i].toNat 0 = (i : Int)) : WayP bd S ∧ ∀ n : Int, 0 ≤ n → n < bd → toG S (toG T n) = n := by
  have hlen := h.len
  have hT : ∀ i (hi : i < T.length), 0 ≤ T[i] ∧ T[i] < T.length := fun i hi => mem_rngI.1 (h.perm.mem_iff.1 (List.getElem_mem hi))
  refine ⟨⟨by rw [hl]; exact hlen, ?_, ?_⟩, fun n n1 n2 => ?_⟩
  · have h0 := h.zero
    rw [getD_lt (by omega)] at h0
    have := hS 0 (by omega)
    rw [h0] at this
    rw [getD_lt (by omega)]
    rwa [show (0 : Int).toNat = 0 from rfl, getD_lt (by omega)] at this
  · rw [hl]
    refine perm_of_subset (rngI_nodup _) (fun x hx => ?_) (by simp [hl])
    obtain ⟨x1, x2⟩ := mem_rngI.1 hx
    have := hS x.toNat (by omega)
    have hq := hT x.toNat (by omega)
    rw [getD_lt (by omega)] at this
    rw [show x = ((x.toNat : Nat) : Int) by omega, ← this]
    exact List.getElem_mem _
  · unfold toG
    rw [getD_lt (show n.toNat < T.length by omega), hS n.toNat (by omega)]
    omega
end Go.Proofs
