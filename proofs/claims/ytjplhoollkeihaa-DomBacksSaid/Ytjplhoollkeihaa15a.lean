/-
  Plain: trees by 'the node over each', and how the rounds of dom.settle change one.
-/
import Derived.Test.Ytjplhoollkeihaa14y
namespace Go.Dm

/-- a stands at x or over it. -/
inductive Anc (ov : Nat → Option Nat) (a : Nat) : Nat → Prop
  | refl : Anc ov a a
  | step {x y : Nat} : ov x = some y → Anc ov a y → Anc ov a x
def PR (ov : Nat → Option Nat) (x : Nat) : Prop := x = 0 ∨ ov x ≠ none
structure Tr (rk : Nat → Nat) (ov : Nat → Option Nat) : Prop where
  root : ov 0 = none
  up : ∀ x y, ov x = some y → rk y < rk x ∧ PR ov y

section
variable {rk : Nat → Nat} {ov : Nat → Option Nat} {a b x y : Nat}
theorem Anc.inv (h : Anc ov a x) : a = x ∨ ∃ y, ov x = some y ∧ Anc ov a y := by
  cases h with
  | refl => exact .inl rfl
  | step h1 h2 => exact .inr ⟨_, h1, h2⟩
theorem Anc.trans (h : Anc ov a b) (k : Anc ov b x) : Anc ov a x := by
  induction k with
  | refl => exact h
  | step h1 _ ih => exact .step h1 ih
theorem Anc.le (t : Tr rk ov) (h : Anc ov a x) : a = x ∨ rk a < rk x := by
  induction h with
  | refl => exact .inl rfl
  | step h1 _ ih =>
    have := (t.up _ _ h1).1
    rcases ih with rfl | ih
    · exact .inr this
    · exact .inr (by omega)
theorem Anc.anti (t : Tr rk ov) (h : Anc ov a x) (k : Anc ov x a) : a = x := by
  rcases h.le t with e | h
  · exact e
  · rcases k.le t with e | k
    · exact e.symm
    · omega
theorem Anc.lin (h : Anc ov a x) (k : Anc ov b x) : Anc ov a b ∨ Anc ov b a := by
  induction h with
  | refl => exact .inr k
  | step h1 h2 ih =>
    rcases k.inv with rfl | ⟨z, hz, k⟩
    · exact .inl (.step h1 h2)
    · rw [h1] at hz
      cases hz
      exact ih k
theorem Anc.pr (t : Tr rk ov) (h : Anc ov a x) (hx : PR ov x) : PR ov a := by
  induction h with
  | refl => exact hx
  | step h1 _ ih => exact ih (t.up _ _ h1).2
theorem Anc.none (hx : ov x = none) (h : Anc ov a x) : a = x := by
  rcases h.inv with e | ⟨y, hy, _⟩
  · exact e
  · rw [hx] at hy; cases hy
theorem Tr.zero (t : Tr rk ov) : ∀ (n x : Nat), rk x ≤ n → PR ov x → Anc ov 0 x := by
  intro n
  induction n with
  | zero =>
    intro x hn hx
    cases hx with
    | inl h => subst h; exact .refl
    | inr h =>
      cases e : ov x with
      | none => exact absurd e h
      | some y => have := (t.up x y e).1; omega
  | succ n ih =>
    intro x hn hx
    cases hx with
    | inl h => subst h; exact .refl
    | inr h =>
      cases e : ov x with
      | none => exact absurd e h
      | some y =>
        have := t.up x y e
        exact .step e (ih y (by omega) this.2)
end

/-- m is where the ways up from all of ps come together. -/
def IsMeet (ov : Nat → Option Nat) (ps : Nat → Prop) (m : Nat) : Prop := ∀ d, Anc ov d m ↔ ∀ p, ps p → Anc ov d p
theorem IsMeet.uniq {rk : Nat → Nat} {ov : Nat → Option Nat} {ps : Nat → Prop} {m m' : Nat} (t : Tr rk ov) (h : IsMeet ov ps m) (h' : IsMeet ov ps m') : m = m' :=
  Anc.anti t ((h' m).2 ((h m).1 .refl)) ((h m').2 ((h' m').1 .refl))

def pt (ov : Nat → Option Nat) (k m : Nat) : Nat → Option Nat := fun x => if x = k then some m else ov x
theorem pt_same (ov : Nat → Option Nat) (k m : Nat) : pt ov k m k = some m := by simp [pt]
theorem pt_ne {ov : Nat → Option Nat} {k m x : Nat} (h : x ≠ k) : pt ov k m x = ov x := by simp [pt, h]

/-- Is y the deepest node over x that stands over v, too? -/
structure IsA (ov0 : Nat → Option Nat) (v x y : Nat) : Prop where
  over : Anc ov0 y x
  c : Anc ov0 y v
  deep : ∀ d, Anc ov0 d x → Anc ov0 d v → Anc ov0 d y
/-- A phase: since v got its first value, each node is as it was, or has been moved once, to the deepest node over it and v. -/
structure Ph (rk : Nat → Nat) (E : Nat → Nat → Prop) (v : Nat) (ov0 ov : Nat → Option Nat) : Prop where
  tr0 : Tr rk ov0
  pv : PR ov0 v
  cons : ∀ k o, ov0 k = some o → IsMeet ov0 (fun p => E p k ∧ PR ov0 p ∧ p ≠ v) o
  st : ∀ x, ov x = ov0 x ∨ (¬ Anc ov0 x v ∧ ∃ y o, ov x = some y ∧ ov0 x = some o ∧ y ≠ o ∧ IsA ov0 v x y ∧ ∃ p, E p x ∧ PR ov0 p ∧ ¬ Anc ov o p)

section
variable {rk : Nat → Nat} {E : Nat → Nat → Prop} {v : Nat} {ov0 ov : Nat → Option Nat}
theorem Ph.none_iff (h : Ph rk E v ov0 ov) (x : Nat) : ov x = none ↔ ov0 x = none := by
  rcases h.st x with e | ⟨_, y, o, h1, h2, _⟩
  · rw [e]
  · simp [h1, h2]
theorem Ph.pr (h : Ph rk E v ov0 ov) (x : Nat) : PR ov x ↔ PR ov0 x := by unfold PR; rw [Ne, Ne, h.none_iff]
theorem Ph.tr (h : Ph rk E v ov0 ov) : Tr rk ov := by
  refine ⟨(h.none_iff 0).2 h.tr0.root, fun x y hy => ?_⟩
  rcases h.st x with e | ⟨hc, z, o, h1, h2, hne, ha, _⟩
  · rw [e] at hy
    have := h.tr0.up x y hy
    exact ⟨this.1, (h.pr y).2 this.2⟩
  · rw [h1] at hy
    cases hy
    refine ⟨?_, (h.pr y).2 (ha.over.pr h.tr0 (.inr (by rw [h2]; simp)))⟩
    rcases ha.over.le h.tr0 with e | h'
    · subst e; exact absurd ha.c hc
    · exact h'
theorem Ph.old (h : Ph rk E v ov0 ov) {d x : Nat} (ha : Anc ov d x) : Anc ov0 d x := by
  induction ha with
  | refl => exact .refl
  | step h1 _ ih =>
    rename_i x y _
    rcases h.st x with e | ⟨_, z, o, g1, _, _, ga, _⟩
    · exact .step (e ▸ h1) ih
    · rw [g1] at h1
      cases h1
      exact ih.trans ga.over
theorem Ph.new (h : Ph rk E v ov0 ov) : ∀ (n : Nat) {d x : Nat}, rk x ≤ n → Anc ov0 d x → Anc ov0 d v → Anc ov d x := by
  intro n
  induction n using Nat.strongRecOn with
  | _ n ih =>
    intro d x hn ha hc
    rcases ha.inv with rfl | ⟨y, hy, hay⟩
    · exact .refl
    · rcases h.st x with e | ⟨hcx, z, o, g1, g2, _, ga, _⟩
      · have := (h.tr0.up x y hy).1
        exact .step (e.trans hy) (ih (rk y) (by omega) (Nat.le_refl _) hay hc)
      · have hlt : rk z < rk x := by
          rcases ga.over.le h.tr0 with e | h'
          · subst e; exact absurd ga.c hcx
          · exact h'
        exact .step g1 (ih (rk z) (by omega) (Nat.le_refl _) (ga.deep d ha hc) hc)
theorem Ph.new' (h : Ph rk E v ov0 ov) {d x : Nat} (ha : Anc ov0 d x) (hc : Anc ov0 d v) : Anc ov d x := h.new (rk x) (Nat.le_refl _) ha hc
/-- What has left the way up from x has left it for one over v. -/
theorem Ph.left (h : Ph rk E v ov0 ov) : ∀ (n : Nat) {d x e : Nat}, rk x ≤ n → Anc ov0 d x → ¬ Anc ov d x → Anc ov e x → Anc ov0 e d → Anc ov0 e v := by
  intro n
  induction n using Nat.strongRecOn with
  | _ n ih =>
    intro d x e hn ha hna he hed
    have hex : e ≠ x := by
      rintro rfl
      exact hna (by rw [Anc.anti h.tr0 ha hed]; exact .refl)
    rcases ha.inv with rfl | ⟨y, hy, hay⟩
    · exact absurd .refl hna
    rcases he.inv with rfl | ⟨z, hz, hez⟩
    · exact absurd rfl hex
    rcases h.st x with e1 | ⟨hcx, z', o, g1, g2, _, ga, _⟩
    · rw [e1, hy] at hz
      cases hz
      have := (h.tr0.up x y hy).1
      exact ih (rk y) (by omega) (Nat.le_refl _) hay (fun hh => hna (.step (e1.trans hy) hh)) hez hed
    · rw [g1] at hz
      cases hz
      exact (h.old hez).trans ga.c

/-- One round's change: the node had not been moved; now it has. -/
theorem Ph.move (h : Ph rk E v ov0 ov) {k c m : Nat} (hk : ov k = some c) (hm : IsMeet ov (fun p => E p k ∧ PR ov p) m) (hne : m ≠ c) :
    ov k = ov0 k ∧ Ph rk E v ov0 (pt ov k m) ∧ (∀ d x, Anc ov0 d x → Anc ov0 d v → Anc ov d x) ∧ Anc ov m k := by
  obtain ⟨o, ho⟩ : ∃ o, ov0 k = some o := by
    cases e : ov0 k with
    | none => rw [(h.none_iff k).2 e] at hk; cases hk
    | some o => exact ⟨o, rfl⟩
  have hcons := h.cons k o ho
  have hmo : Anc ov0 m o := (hcons m).2 fun p hp => h.old ((hm m).1 .refl p ⟨hp.1, (h.pr p).2 hp.2.1⟩)
  -- some way up has left o
  have hleft : (∀ p, E p k → PR ov p → Anc ov o p) → m = o := fun hall => by
    have : Anc ov o m := (hm o).2 fun p hp => hall p hp.1 hp.2
    exact Anc.anti h.tr0 hmo (h.old this)
  have hex : ∃ p, E p k ∧ PR ov0 p ∧ ¬ Anc ov o p := by
    refine Classical.byContradiction fun hn => ?_
    have hall : ∀ p, E p k → PR ov p → Anc ov o p := fun p h1 h2 => Classical.byContradiction fun h3 => hn ⟨p, h1, (h.pr p).1 h2, h3⟩
    have e := hleft hall
    rcases h.st k with e1 | ⟨_, y, o', g1, g2, g3, g4, p, g5, g6, g7⟩
    · rw [hk, ho] at e1
      cases e1
      exact hne e
    · rw [ho] at g2
      cases g2
      exact g7 (hall p g5 ((h.pr p).2 g6))
  obtain ⟨p, hp1, hp2, hp3⟩ := hex
  have hcm : Anc ov0 m v := by
    have hmp := (hm m).1 .refl p ⟨hp1, (h.pr p).2 hp2⟩
    by_cases e : p = v
    · subst e; exact h.old hmp
    · exact h.left (rk p) (Nat.le_refl _) ((hcons o).1 .refl p ⟨hp1, hp2, e⟩) hp3 hmp hmo
  have hnc : ¬ Anc ov0 k v := fun hc => by
    have hco : Anc ov0 o v := (Anc.step ho .refl : Anc ov0 o k).trans hc
    refine hp3 ?_
    by_cases e : p = v
    · subst e; exact h.new' hco hco
    · exact h.new' ((hcons o).1 .refl p ⟨hp1, hp2, e⟩) hco
  have hisA : IsA ov0 v k m := by
    refine ⟨hmo.trans (.step ho .refl), hcm, fun d hd hdv => ?_⟩
    have hdo : Anc ov0 d o := by
      rcases hd.inv with rfl | ⟨y, hy, hd⟩
      · exact absurd hdv hnc
      · rw [ho] at hy; cases hy; exact hd
    refine h.old ((hm d).2 fun q hq => ?_)
    by_cases e : q = v
    · subst e; exact h.new' hdv hdv
    · exact h.new' ((hcons d).1 hdo q ⟨hq.1, (h.pr q).1 hq.2, e⟩) hdv
  have hmk : Anc ov m k := h.new' hisA.over hcm
  have hun : ov k = ov0 k := by
    rcases h.st k with e1 | ⟨_, y, o', g1, g2, g3, g4, _⟩
    · exact e1
    · exfalso
      rw [hk] at g1
      cases g1
      exact hne (Anc.anti h.tr0 (g4.deep m hisA.over hcm) (hisA.deep _ g4.over g4.c))
  have shr : ∀ {d x : Nat}, Anc (pt ov k m) d x → Anc ov d x := fun ha => by
    induction ha with
    | refl => exact .refl
    | step h1 _ ih =>
      rename_i x y _
      by_cases e : x = k
      · subst e
        rw [pt_same] at h1
        cases h1
        exact ih.trans hmk
      · rw [pt_ne e] at h1
        exact .step h1 ih
  refine ⟨hun, ⟨h.tr0, h.pv, h.cons, fun x => ?_⟩, fun d x h1 h2 => h.new' h1 h2, hmk⟩
  by_cases e : x = k
  · subst e
    refine .inr ⟨hnc, m, o, pt_same _ _ _, ho, ?_, hisA, p, hp1, hp2, fun ha => hp3 (shr ha)⟩
    rintro rfl
    rw [hun, ho] at hk
    cases hk
    exact hne rfl
  · rw [pt_ne e]
    rcases h.st x with e1 | ⟨g0, y, o', g1, g2, g3, g4, p', g5, g6, g7⟩
    · exact .inl e1
    · exact .inr ⟨g0, y, o', g1, g2, g3, g4, p', g5, g6, fun ha => g7 (shr ha)⟩

/-- A new node gets its first value: a phase begins. -/
theorem Ph.start {k m : Nat} (t : Tr rk ov) (hc : ∀ x c, ov x = some c → IsMeet ov (fun p => E p x ∧ PR ov p) c) (hk : ov k = none) (hk0 : k ≠ 0) (hm : IsMeet ov (fun p => E p k ∧ PR ov p) m) (hpm : PR ov m) (hlt : rk m < rk k) :
    Ph rk E k (pt ov k m) (pt ov k m) := by
  have hnk : ¬ PR ov k := fun h => h.elim hk0 (fun h => h hk)
  have hprI : ∀ {x}, PR ov x → PR (pt ov k m) x := fun {x} h => by
    by_cases e : x = k
    · subst e; exact .inr (by rw [pt_same]; simp)
    · exact h.imp id fun h => by rw [pt_ne e]; exact h
  have hprE : ∀ {x}, PR (pt ov k m) x → x ≠ k → PR ov x := fun h e => h.imp id fun h => by rw [pt_ne e] at h; exact h
  have hanc : ∀ {d x}, PR ov x → (Anc (pt ov k m) d x ↔ Anc ov d x) := fun {d x} hx => by
    constructor
    · intro h
      induction h with
      | refl => exact .refl
      | step h1 _ ih =>
        rename_i x y _
        have e : x ≠ k := fun e => hnk (e ▸ hx)
        rw [pt_ne e] at h1
        exact .step h1 (ih (t.up _ _ h1).2)
    · intro h
      induction h with
      | refl => exact .refl
      | step h1 _ ih =>
        rename_i x y _
        have e : x ≠ k := fun e => hnk (e ▸ hx)
        exact .step (by rw [pt_ne e]; exact h1) (ih (t.up _ _ h1).2)
  refine ⟨⟨by rw [pt_ne (Ne.symm hk0)]; exact t.root, fun x y hy => ?_⟩, .inr (by rw [pt_same]; simp), fun x o ho d => ?_, fun x => .inl rfl⟩
  · by_cases e : x = k
    · subst e; rw [pt_same] at hy; cases hy; exact ⟨hlt, hprI hpm⟩
    · rw [pt_ne e] at hy
      have := t.up x y hy
      exact ⟨this.1, hprI this.2⟩
  · have key : ∀ o, PR ov o → IsMeet ov (fun p => E p x ∧ PR ov p) o → (Anc (pt ov k m) d o ↔ ∀ p, (E p x ∧ PR (pt ov k m) p ∧ p ≠ k) → Anc (pt ov k m) d p) := fun o hpo hmo => by
      rw [hanc hpo, hmo d]
      constructor
      · intro hh p hp
        have := hprE hp.2.1 hp.2.2
        exact (hanc this).2 (hh p ⟨hp.1, this⟩)
      · intro hh p hp
        exact (hanc hp.2).1 (hh p ⟨hp.1, hprI hp.2, fun e => hnk (e ▸ hp.2)⟩)
    by_cases e : x = k
    · subst e
      rw [pt_same] at ho
      cases ho
      exact key m hpm hm
    · rw [pt_ne e] at ho
      exact key o (t.up _ _ ho).2 (hc x o ho)
theorem Ph.empty (h0 : ∀ x, ov x = none) : Ph rk E 0 ov ov :=
  ⟨⟨h0 0, fun x y h => (by rw [h0] at h; cases h)⟩, .inl rfl, fun k o h => (by rw [h0] at h; cases h), fun _ => .inl rfl⟩
end

end Go.Dm
