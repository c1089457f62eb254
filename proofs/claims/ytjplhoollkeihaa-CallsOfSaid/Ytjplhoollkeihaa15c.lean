/-
  Plain: trees by 'the node over each', and how the rounds of dom.settle change one; Plain: what dom.settle keeps up, and what it ends with; slices.Repeat of one number.
-/
import Derived.Test.Ytjplhoollkeihaa14y
import Derived.Test.YtjplhoollkeihaaL15
import Derived.Test.Ytjplhoollkeihaa14u
import Derived.Laws.CopyRow
/-!
  Plain: trees by 'the node over each', and how the rounds of dom.settle change one.
-/
namespace Go.Dm

/-- a stands at x or over it. -/
inductive Anc (ov : Nat → Option Nat) (a : Nat) : Nat → Prop
  | refl : Anc ov a a
  | step {x y : Nat} : ov x = some y → Anc ov a y → Anc ov a x
def PR (ov : Nat → Option Nat) (x : Nat) : Prop := x = 0 ∨ ov x ≠ none
structure Tr (rk : Nat → Nat) (ov : Nat → Option Nat) : Prop where
  root : ov 0 = none
  up : ∀ x y, ov x = some y → rk y < rk x ∧ PR ov y

section
variable {rk : Nat → Nat} {ov : Nat → Option Nat} {a b x y : Nat}
theorem Anc.inv (h : Anc ov a x) : a = x ∨ ∃ y, ov x = some y ∧ Anc ov a y := by
  cases h with
  | refl => exact .inl rfl
  | step h1 h2 => exact .inr ⟨_, h1, h2⟩
theorem Anc.trans (h : Anc ov a b) (k : Anc ov b x) : Anc ov a x := by
  induction k with
  | refl => exact h
  | step h1 _ ih => exact .step h1 ih
theorem Anc.le (t : Tr rk ov) (h : Anc ov a x) : a = x ∨ rk a < rk x := by
  induction h with
  | refl => exact .inl rfl
  | step h1 _ ih =>
    have := (t.up _ _ h1).1
    rcases ih with rfl | ih
    · exact .inr this
    · exact .inr (by omega)
theorem Anc.anti (t : Tr rk ov) (h : Anc ov a x) (k : Anc ov x a) : a = x := by
  rcases h.le t with e | h
  · exact e
  · rcases k.le t with e | k
    · exact e.symm
    · omega
theorem Anc.lin (h : Anc ov a x) (k : Anc ov b x) : Anc ov a b ∨ Anc ov b a := by
  induction h with
  | refl => exact .inr k
  | step h1 h2 ih =>
    rcases k.inv with rfl | ⟨z, hz, k⟩
    · exact .inl (.step h1 h2)
    · rw [h1] at hz
      cases hz
      exact ih k
theorem Anc.pr (t : Tr rk ov) (h : Anc ov a x) (hx : PR ov x) : PR ov a := by
  induction h with
  | refl => exact hx
  | step h1 _ ih => exact ih (t.up _ _ h1).2
theorem Anc.none (hx : ov x = none) (h : Anc ov a x) : a = x := by
  rcases h.inv with e | ⟨y, hy, _⟩
  · exact e
  · rw [hx] at hy; cases hy
theorem Tr.zero (t : Tr rk ov) : ∀ (n x : Nat), rk x ≤ n → PR ov x → Anc ov 0 x := by
  intro n
  induction n with
  | zero =>
    intro x hn hx
    cases hx with
    | inl h => subst h; exact .refl
    | inr h =>
      cases e : ov x with
      | none => exact absurd e h
      | some y => have := (t.up x y e).1; omega
  | succ n ih =>
    intro x hn hx
    cases hx with
    | inl h => subst h; exact .refl
    | inr h =>
      cases e : ov x with
      | none => exact absurd e h
      | some y =>
        have := t.up x y e
        exact .step e (ih y (by omega) this.2)
end

/-- m is where the ways up from all of ps come together. -/
def IsMeet (ov : Nat → Option Nat) (ps : Nat → Prop) (m : Nat) : Prop := ∀ d, Anc ov d m ↔ ∀ p, ps p → Anc ov d p
theorem IsMeet.uniq {rk : Nat → Nat} {ov : Nat → Option Nat} {ps : Nat → Prop} {m m' : Nat} (t : Tr rk ov) (h : IsMeet ov ps m) (h' : IsMeet ov ps m') : m = m' :=
  Anc.anti t ((h' m).2 ((h m).1 .refl)) ((h m').2 ((h' m').1 .refl))

def pt (ov : Nat → Option Nat) (k m : Nat) : Nat → Option Nat := fun x => if x = k then some m else ov x
theorem pt_same (ov : Nat → Option Nat) (k m : Nat) : pt ov k m k = some m := by simp [pt]
theorem pt_ne {ov : Nat → Option Nat} {k m x : Nat} (h : x ≠ k) : pt ov k m x = ov x := by simp [pt, h]

/-- Is y the deepest node over x that stands over v, too? -/
structure IsA (ov0 : Nat → Option Nat) (v x y : Nat) : Prop where
  over : Anc ov0 y x
  c : Anc ov0 y v
  deep : ∀ d, Anc ov0 d x → Anc ov0 d v → Anc ov0 d y
/-- A phase: since v got its first value, each node is as it was, or has been moved once, to the deepest node over it and v. -/
structure Ph (rk : Nat → Nat) (E : Nat → Nat → Prop) (v : Nat) (ov0 ov : Nat → Option Nat) : Prop where
  tr0 : Tr rk ov0
  pv : PR ov0 v
  cons : ∀ k o, ov0 k = some o → IsMeet ov0 (fun p => E p k ∧ PR ov0 p ∧ p ≠ v) o
  st : ∀ x, ov x = ov0 x ∨ (¬ Anc ov0 x v ∧ ∃ y o, ov x = some y ∧ ov0 x = some o ∧ y ≠ o ∧ IsA ov0 v x y ∧ ∃ p, E p x ∧ PR ov0 p ∧ ¬ Anc ov o p)

section
variable {rk : Nat → Nat} {E : Nat → Nat → Prop} {v : Nat} {ov0 ov : Nat → Option Nat}
theorem Ph.none_iff (h : Ph rk E v ov0 ov) (x : Nat) : ov x = none ↔ ov0 x = none := by
  rcases h.st x with e | ⟨_, y, o, h1, h2, _⟩
  · rw [e]
  · simp [h1, h2]
theorem Ph.pr (h : Ph rk E v ov0 ov) (x : Nat) : PR ov x ↔ PR ov0 x := by unfold PR; rw [Ne, Ne, h.none_iff]
theorem Ph.tr (h : Ph rk E v ov0 ov) : Tr rk ov := by
  refine ⟨(h.none_iff 0).2 h.tr0.root, fun x y hy => ?_⟩
  rcases h.st x with e | ⟨hc, z, o, h1, h2, hne, ha, _⟩
  · rw [e] at hy
    have := h.tr0.up x y hy
    exact ⟨this.1, (h.pr y).2 this.2⟩
  · rw [h1] at hy
    cases hy
    refine ⟨?_, (h.pr y).2 (ha.over.pr h.tr0 (.inr (by rw [h2]; simp)))⟩
    rcases ha.over.le h.tr0 with e | h'
    · subst e; exact absurd ha.c hc
    · exact h'
theorem Ph.old (h : Ph rk E v ov0 ov) {d x : Nat} (ha : Anc ov d x) : Anc ov0 d x := by
  induction ha with
  | refl => exact .refl
  | step h1 _ ih =>
    rename_i x y _
    rcases h.st x with e | ⟨_, z, o, g1, _, _, ga, _⟩
    · exact .step (e ▸ h1) ih
    · rw [g1] at h1
      cases h1
      exact ih.trans ga.over
theorem Ph.new (h : Ph rk E v ov0 ov) : ∀ (n : Nat) {d x : Nat}, rk x ≤ n → Anc ov0 d x → Anc ov0 d v → Anc ov d x := by
  intro n
  induction n using Nat.strongRecOn with
  | _ n ih =>
    intro d x hn ha hc
    rcases ha.inv with rfl | ⟨y, hy, hay⟩
    · exact .refl
    · rcases h.st x with e | ⟨hcx, z, o, g1, g2, _, ga, _⟩
      · have := (h.tr0.up x y hy).1
        exact .step (e.trans hy) (ih (rk y) (by omega) (Nat.le_refl _) hay hc)
      · have hlt : rk z < rk x := by
          rcases ga.over.le h.tr0 with e | h'
          · subst e; exact absurd ga.c hcx
          · exact h'
        exact .step g1 (ih (rk z) (by omega) (Nat.le_refl _) (ga.deep d ha hc) hc)
theorem Ph.new' (h : Ph rk E v ov0 ov) {d x : Nat} (ha : Anc ov0 d x) (hc : Anc ov0 d v) : Anc ov d x := h.new (rk x) (Nat.le_refl _) ha hc
/-- What has left the way up from x has left it for one over v. -/
theorem Ph.left (h : Ph rk E v ov0 ov) : ∀ (n : Nat) {d x e : Nat}, rk x ≤ n → Anc ov0 d x → ¬ Anc ov d x → Anc ov e x → Anc ov0 e d → Anc ov0 e v := by
  intro n
  induction n using Nat.strongRecOn with
  | _ n ih =>
    intro d x e hn ha hna he hed
    have hex : e ≠ x := by
      rintro rfl
      exact hna (by rw [Anc.anti h.tr0 ha hed]; exact .refl)
    rcases ha.inv with rfl | ⟨y, hy, hay⟩
    · exact absurd .refl hna
    rcases he.inv with rfl | ⟨z, hz, hez⟩
    · exact absurd rfl hex
    rcases h.st x with e1 | ⟨hcx, z', o, g1, g2, _, ga, _⟩
    · rw [e1, hy] at hz
      cases hz
      have := (h.tr0.up x y hy).1
      exact ih (rk y) (by omega) (Nat.le_refl _) hay (fun hh => hna (.step (e1.trans hy) hh)) hez hed
    · rw [g1] at hz
      cases hz
      exact (h.old hez).trans ga.c

/-- One round's change: the node had not been moved; now it has. -/
theorem Ph.move (h : Ph rk E v ov0 ov) {k c m : Nat} (hk : ov k = some c) (hm : IsMeet ov (fun p => E p k ∧ PR ov p) m) (hne : m ≠ c) :
    ov k = ov0 k ∧ Ph rk E v ov0 (pt ov k m) ∧ (∀ d x, Anc ov0 d x → Anc ov0 d v → Anc ov d x) ∧ Anc ov m k := by
  obtain ⟨o, ho⟩ : ∃ o, ov0 k = some o := by
    cases e : ov0 k with
    | none => rw [(h.none_iff k).2 e] at hk; cases hk
    | some o => exact ⟨o, rfl⟩
  have hcons := h.cons k o ho
  have hmo : Anc ov0 m o := (hcons m).2 fun p hp => h.old ((hm m).1 .refl p ⟨hp.1, (h.pr p).2 hp.2.1⟩)
  -- some way up has left o
  have hleft : (∀ p, E p k → PR ov p → Anc ov o p) → m = o := fun hall => by
    have : Anc ov o m := (hm o).2 fun p hp => hall p hp.1 hp.2
    exact Anc.anti h.tr0 hmo (h.old this)
  have hex : ∃ p, E p k ∧ PR ov0 p ∧ ¬ Anc ov o p := by
    refine Classical.byContradiction fun hn => ?_
    have hall : ∀ p, E p k → PR ov p → Anc ov o p := fun p h1 h2 => Classical.byContradiction fun h3 => hn ⟨p, h1, (h.pr p).1 h2, h3⟩
    have e := hleft hall
    rcases h.st k with e1 | ⟨_, y, o', g1, g2, g3, g4, p, g5, g6, g7⟩
    · rw [hk, ho] at e1
      cases e1
      exact hne e
    · rw [ho] at g2
      cases g2
      exact g7 (hall p g5 ((h.pr p).2 g6))
  obtain ⟨p, hp1, hp2, hp3⟩ := hex
  have hcm : Anc ov0 m v := by
    have hmp := (hm m).1 .refl p ⟨hp1, (h.pr p).2 hp2⟩
    by_cases e : p = v
    · subst e; exact h.old hmp
    · exact h.left (rk p) (Nat.le_refl _) ((hcons o).1 .refl p ⟨hp1, hp2, e⟩) hp3 hmp hmo
  have hnc : ¬ Anc ov0 k v := fun hc => by
    have hco : Anc ov0 o v := (Anc.step ho .refl : Anc ov0 o k).trans hc
    refine hp3 ?_
    by_cases e : p = v
    · subst e; exact h.new' hco hco
    · exact h.new' ((hcons o).1 .refl p ⟨hp1, hp2, e⟩) hco
  have hisA : IsA ov0 v k m := by
    refine ⟨hmo.trans (.step ho .refl), hcm, fun d hd hdv => ?_⟩
    have hdo : Anc ov0 d o := by
      rcases hd.inv with rfl | ⟨y, hy, hd⟩
      · exact absurd hdv hnc
      · rw [ho] at hy; cases hy; exact hd
    refine h.old ((hm d).2 fun q hq => ?_)
    by_cases e : q = v
    · subst e; exact h.new' hdv hdv
    · exact h.new' ((hcons d).1 hdo q ⟨hq.1, (h.pr q).1 hq.2, e⟩) hdv
  have hmk : Anc ov m k := h.new' hisA.over hcm
  have hun : ov k = ov0 k := by
    rcases h.st k with e1 | ⟨_, y, o', g1, g2, g3, g4, _⟩
    · exact e1
    · exfalso
      rw [hk] at g1
      cases g1
      exact hne (Anc.anti h.tr0 (g4.deep m hisA.over hcm) (hisA.deep _ g4.over g4.c))
  have shr : ∀ {d x : Nat}, Anc (pt ov k m) d x → Anc ov d x := fun ha => by
    induction ha with
    | refl => exact .refl
    | step h1 _ ih =>
      rename_i x y _
      by_cases e : x = k
      · subst e
        rw [pt_same] at h1
        cases h1
        exact ih.trans hmk
      · rw [pt_ne e] at h1
        exact .step h1 ih
  refine ⟨hun, ⟨h.tr0, h.pv, h.cons, fun x => ?_⟩, fun d x h1 h2 => h.new' h1 h2, hmk⟩
  by_cases e : x = k
  · subst e
    refine .inr ⟨hnc, m, o, pt_same _ _ _, ho, ?_, hisA, p, hp1, hp2, fun ha => hp3 (shr ha)⟩
    rintro rfl
    rw [hun, ho] at hk
    cases hk
    exact hne rfl
  · rw [pt_ne e]
    rcases h.st x with e1 | ⟨g0, y, o', g1, g2, g3, g4, p', g5, g6, g7⟩
    · exact .inl e1
    · exact .inr ⟨g0, y, o', g1, g2, g3, g4, p', g5, g6, fun ha => g7 (shr ha)⟩

/-- A new node gets its first value: a phase begins. -/
theorem Ph.start {k m : Nat} (t : Tr rk ov) (hc : ∀ x c, ov x = some c → IsMeet ov (fun p => E p x ∧ PR ov p) c) (hk : ov k = none) (hk0 : k ≠ 0) (hm : IsMeet ov (fun p => E p k ∧ PR ov p) m) (hpm : PR ov m) (hlt : rk m < rk k) :
    Ph rk E k (pt ov k m) (pt ov k m) := by
  have hnk : ¬ PR ov k := fun h => h.elim hk0 (fun h => h hk)
  have hprI : ∀ {x}, PR ov x → PR (pt ov k m) x := fun {x} h => by
    by_cases e : x = k
    · subst e; exact .inr (by rw [pt_same]; simp)
    · exact h.imp id fun h => by rw [pt_ne e]; exact h
  have hprE : ∀ {x}, PR (pt ov k m) x → x ≠ k → PR ov x := fun h e => h.imp id fun h => by rw [pt_ne e] at h; exact h
  have hanc : ∀ {d x}, PR ov x → (Anc (pt ov k m) d x ↔ Anc ov d x) := fun {d x} hx => by
    constructor
    · intro h
      induction h with
      | refl => exact .refl
      | step h1 _ ih =>
        rename_i x y _
        have e : x ≠ k := fun e => hnk (e ▸ hx)
        rw [pt_ne e] at h1
        exact .step h1 (ih (t.up _ _ h1).2)
    · intro h
      induction h with
      | refl => exact .refl
      | step h1 _ ih =>
        rename_i x y _
        have e : x ≠ k := fun e => hnk (e ▸ hx)
        exact .step (by rw [pt_ne e]; exact h1) (ih (t.up _ _ h1).2)
  refine ⟨⟨by rw [pt_ne (Ne.symm hk0)]; exact t.root, fun x y hy => ?_⟩, .inr (by rw [pt_same]; simp), fun x o ho d => ?_, fun x => .inl rfl⟩
  · by_cases e : x = k
    · subst e; rw [pt_same] at hy; cases hy; exact ⟨hlt, hprI hpm⟩
    · rw [pt_ne e] at hy
      have := t.up x y hy
      exact ⟨this.1, hprI this.2⟩
  · have key : ∀ o, PR ov o → IsMeet ov (fun p => E p x ∧ PR ov p) o → (Anc (pt ov k m) d o ↔ ∀ p, (E p x ∧ PR (pt ov k m) p ∧ p ≠ k) → Anc (pt ov k m) d p) := fun o hpo hmo => by
      rw [hanc hpo, hmo d]
      constructor
      · intro hh p hp
        have := hprE hp.2.1 hp.2.2
        exact (hanc this).2 (hh p ⟨hp.1, this⟩)
      · intro hh p hp
        exact (hanc hp.2).1 (hh p ⟨hp.1, hprI hp.2, fun e => hnk (e ▸ hp.2)⟩)
    by_cases e : x = k
    · subst e
      rw [pt_same] at ho
      cases ho
      exact key m hpm hm
    · rw [pt_ne e] at ho
      exact key o (t.up _ _ ho).2 (hc x o ho)
theorem Ph.empty (h0 : ∀ x, ov x = none) : Ph rk E 0 ov ov :=
  ⟨⟨h0 0, fun x y h => (by rw [h0] at h; cases h)⟩, .inl rfl, fun k o h => (by rw [h0] at h; cases h), fun _ => .inl rfl⟩
end

end Go.Dm

/-!
  Plain: what dom.settle keeps up, and what it ends with.
-/
namespace Go.Dm
open Go.Gr

abbrev Ed (nx : List (List Nat)) (p x : Nat) : Prop := x ∈ nx.getD p []
/-- What dominates a node stands over it. -/
structure DI (nx : List (List Nat)) (rk : Nat → Nat) (ov : Nat → Option Nat) : Prop where
  b : ∀ x y, ov x = some y → ∀ d : Nat, rk d < rk y → ReachN nx (d : Int) y → ReachN nx (d : Int) x
  dom : ∀ x, PR ov x → ∀ d : Nat, d ≠ x → ¬ ReachN nx (d : Int) x → Anc ov d x
section
variable {nx : List (List Nat)} {rk : Nat → Nat} {ov : Nat → Option Nat}
theorem DI.down (h : DI nx rk ov) (t : Tr rk ov) {y x d : Nat} (ha : Anc ov y x) (hd : rk d < rk y) (hr : ReachN nx (d : Int) y) : ReachN nx (d : Int) x := by
  induction ha with
  | refl => exact hr
  | step h1 h2 ih =>
    refine h.b _ _ h1 d ?_ ih
    rcases h2.le t with e | e
    · subst e; exact hd
    · omega
theorem DI.empty (h0 : ∀ x, ov x = none) (hn : 0 < nx.length) : DI nx rk ov := by
  refine ⟨fun x y h => (by rw [h0] at h; cases h), fun x hx d hd hr => ?_⟩
  rcases hx with rfl | hx
  · exact absurd (.zero (by omega) hn) hr
  · exact absurd (h0 x) hx
theorem DI.pt (h : DI nx rk ov) (t : Tr rk ov) {k m : Nat} (hm : IsMeet ov (fun p => Ed nx p k ∧ PR ov p) m) (hex : ∃ p, Ed nx p k ∧ PR ov p) (hlt : rk m < rk k) : DI nx rk (pt ov k m) := by
  -- above m nothing has turned
  have keepm : ∀ {d z}, rk z < rk k → Anc ov d z → Anc (Dm.pt ov k m) d z := fun hz ha => by
    induction ha with
    | refl => exact .refl
    | step h1 _ ih =>
      rename_i x y _
      have e : x ≠ k := by rintro rfl; omega
      have := (t.up x y h1).1
      exact .step (by rw [pt_ne e]; exact h1) (ih (by omega))
  have atk : ∀ d : Nat, d ≠ k → ¬ ReachN nx (d : Int) k → Anc (Dm.pt ov k m) d k := fun d hd hr => by
    refine .step (pt_same _ _ _) (keepm hlt ((hm d).2 fun p hp => ?_))
    by_cases e : d = p
    · subst e; exact .refl
    · exact h.dom p hp.2 d e fun hw => hr (.step hw hp.1 (by omega))
  have move : ∀ {d x}, Anc ov d x → ¬ ReachN nx (d : Int) x → Anc (Dm.pt ov k m) d x := fun ha => by
    induction ha with
    | refl => exact fun _ => .refl
    | step h1 h2 ih =>
      rename_i d _ x y
      intro hr
      by_cases e : x = k
      · subst e
        by_cases ed : d = x
        · subst ed; exact .refl
        · exact atk d ed hr
      · refine .step (by rw [pt_ne e]; exact h1) ?_
        rcases h2.le t with ed | ed
        · subst ed; exact .refl
        · exact ih fun hw => hr (h.b _ _ h1 d ed hw)
  refine ⟨fun x y hy d hd hr => ?_, fun x hx d hd hr => ?_⟩
  · by_cases e : x = k
    · subst e
      rw [pt_same] at hy
      cases hy
      obtain ⟨p, hp⟩ := hex
      exact .step (h.down t ((hm m).1 .refl p hp) hd hr) hp.1 (fun e => by
        have e : x = d := by omega
        subst e
        omega)
    · rw [pt_ne e] at hy
      exact h.b x y hy d hd hr
  · by_cases e : x = k
    · subst e; exact atk d hd hr
    · exact move (h.dom x (hx.imp id fun h => by rw [pt_ne e] at h; exact h) d hd hr) hr
/-- At the end: what stands over a node is what dominates it. -/
theorem DI.iff (h : DI nx rk ov) (t : Tr rk ov) (hpr : ∀ x, ReachN nx (-1) x → PR ov x) (hfix : ∀ x c, ov x = some c → IsMeet ov (fun p => Ed nx p x ∧ PR ov p) c) {d x : Nat} (hx : ReachN nx (-1) x) :
    Anc ov d x ↔ d = x ∨ ¬ ReachN nx (d : Int) x := by
  constructor
  · intro ha
    refine Classical.or_iff_not_imp_left.2 fun hne hw => ?_
    have all : ∀ {wo : Int} {z : Nat}, ReachN nx wo z → wo = (d : Int) → ReachN nx (-1) z := fun {wo z} hz => by
      induction hz with
      | zero _ h2 => exact fun _ => .zero (by decide) h2
      | step _ ht _ ih => exact fun e => .step (ih e) ht (by omega)
    have key : ∀ {wo : Int} {z : Nat}, ReachN nx wo z → wo = (d : Int) → d ≠ z → ¬ Anc ov d z := fun {wo z} hz => by
      induction hz with
      | zero h1 h2 => exact fun e hdz ha => hdz (ha.none t.root)
      | step hi ht hw ih =>
        rename_i i u
        intro e hdu ha
        rcases ha.inv with e' | ⟨c, hc, ha⟩
        · exact hdu e'
        · have hdi : d ≠ i := by
            rintro rfl
            cases hi with
            | zero h1 h2 => exact h1 (by omega)
            | step _ _ h3 => exact h3 (by omega)
          exact ih e hdi ((hfix u c hc d).1 ha i ⟨ht, hpr i (all hi e)⟩)
    exact key hw rfl hne ha
  · rintro (rfl | hw)
    · exact .refl
    · by_cases e : d = x
      · subst e; exact .refl
      · exact h.dom x (hpr x hx) d e hw
end

/-! ### The rounds -/
theorem countP_lt {p q : Nat → Bool} : ∀ {l : List Nat}, (∀ x, p x = true → q x = true) → (∃ x ∈ l, q x = true ∧ p x = false) → l.countP p < l.countP q
  | [], _, ⟨_, h, _⟩ => by cases h
  | y :: r, hpq, ⟨x, hx, h1, h2⟩ => by
    have hle : r.countP p ≤ r.countP q := List.countP_mono_left fun x _ h => hpq x h
    rcases List.mem_cons.1 hx with rfl | hx
    · rw [List.countP_cons_of_neg (by simp [h2]), List.countP_cons_of_pos h1]
      omega
    · have := countP_lt hpq ⟨x, hx, h1, h2⟩
      by_cases hp : p y = true
      · rw [List.countP_cons_of_pos hp, List.countP_cons_of_pos (hpq y hp)]
        omega
      · rw [List.countP_cons_of_neg hp]
        by_cases hq : q y = true
        · rw [List.countP_cons_of_pos hq]; omega
        · rw [List.countP_cons_of_neg hq]; exact this

def rkOf (od : List Nat) (x : Nat) : Nat := od.idxOf x
/-- The state of dom.settle, with a number that each change lowers. -/
structure SS (nx : List (List Nat)) (od : List Nat) (ov : Nat → Option Nat) (j : Nat) : Prop where
  di : DI nx (rkOf od) ov
  ph : ∃ v ov0 K, Ph (rkOf od) (Ed nx) v ov0 ov ∧ 1 ≤ K ∧ K ≤ od.length ∧ (∀ x, PR ov x ↔ x ∈ od.take K) ∧ j = (od.length - K) * (od.length + 1) + od.countP fun x => decide (ov x = ov0 x)
/-- What is asked of the order. -/
structure OdOk (nx : List (List Nat)) (od : List Nat) : Prop where
  head : ∃ l, od = 0 :: l
  nodup : od.Nodup
  par : ∀ k (hk : k < od.length), 0 < k → ∃ j, ∃ hj : j < k, od[k] ∈ nx.getD (od[j]'(by omega)) []
section
variable {nx : List (List Nat)} {od : List Nat} {ov : Nat → Option Nat} {j : Nat}
theorem rkOf_get (h : od.Nodup) {k : Nat} (hk : k < od.length) : rkOf od od[k] = k := List.Nodup.idxOf_getElem h k hk
theorem SS.tr (h : SS nx od ov j) : Tr (rkOf od) ov := let ⟨_, _, _, h1, _⟩ := h.ph; h1.tr
theorem SS.start (ok : OdOk nx od) (hn : 0 < nx.length) (h0 : ∀ x, ov x = none) : ∃ j, SS nx od ov j := by
  obtain ⟨l, hl⟩ := ok.head
  refine ⟨_, .empty h0 hn, 0, ov, 1, .empty h0, Nat.le_refl _, by rw [hl]; simp, fun x => ?_, rfl⟩
  rw [hl]
  simp [PR, h0]
/-- The next change: at node od[i], all ahead of it being settled. -/
theorem SS.next (ok : OdOk nx od) (h : SS nx od ov j) {i m : Nat} (hi : i < od.length) (h0 : od[i] ≠ 0)
    (hpre : ∀ k (hk : k < i), od[k] ≠ 0 → ∃ c, ov od[k] = some c ∧ IsMeet ov (fun p => Ed nx p od[k] ∧ PR ov p) c)
    (hm : IsMeet ov (fun p => Ed nx p od[i] ∧ PR ov p) m) (hpm : PR ov m) (hne : ov od[i] ≠ some m) : ∃ j', j' < j ∧ SS nx od (pt ov od[i] m) j' := by
  obtain ⟨hdi, v, ov0, K, hph, hK1, hK, hpr, rfl⟩ := h
  have t := hph.tr
  have hi0 : 0 < i := by
    obtain ⟨l, hl⟩ := ok.head
    rcases Nat.eq_zero_or_pos i with e | e
    · subst e; exact absurd (by simp [hl]) h0
    · exact e
  have hprei : ∀ k (hk : k < i), PR ov od[k] := fun k hk => by
    by_cases e : od[k] = 0
    · exact .inl e
    · obtain ⟨c, hc, _⟩ := hpre k hk e
      exact .inr (by rw [hc]; simp)
  obtain ⟨q, hq, hqe⟩ := ok.par i hi hi0
  have hex : ∃ p, Ed nx p od[i] ∧ PR ov p := ⟨_, hqe, hprei q hq⟩
  have hlt : rkOf od m < rkOf od od[i] := by
    rw [rkOf_get ok.nodup hi]
    have ha := (hm m).1 .refl _ ⟨hqe, hprei q hq⟩
    rcases ha.le t with e | e
    · rw [e, rkOf_get ok.nodup]; exact hq
    · rw [rkOf_get ok.nodup] at e; omega
  have hdi' := hdi.pt t hm hex hlt
  have memtake : ∀ k (hk : k < od.length), od[k] ∈ od.take K ↔ k < K := fun k hk => by
    constructor
    · intro hh
      obtain ⟨k', hk', e⟩ := List.mem_iff_getElem.1 hh
      rw [List.getElem_take] at e
      have h1 := rkOf_get ok.nodup hk
      have h2 := rkOf_get ok.nodup (k := k') (by rw [List.length_take] at hk'; omega)
      rw [e, h1] at h2
      rw [List.length_take] at hk'
      omega
    · intro hh
      exact List.mem_iff_getElem.2 ⟨k, by rw [List.length_take]; omega, by simp⟩
  have hmul : (od.length - K) * (od.length + 1) = (od.length - K) * od.length + (od.length - K) := Nat.mul_succ _ _
  by_cases hiK : i < K
  · -- a change of an old value
    have hpi : PR ov od[i] := (hpr _).2 ((memtake i hi).2 hiK)
    obtain ⟨c, hc⟩ : ∃ c, ov od[i] = some c := by
      rcases hpi with e | e
      · exact absurd e h0
      · cases e' : ov od[i] with
        | none => exact absurd e' e
        | some c => exact ⟨c, rfl⟩
    obtain ⟨g1, g2, _, _⟩ := hph.move hc hm (fun e => hne (by rw [hc, e]))
    refine ⟨_, ?_, hdi', v, ov0, K, g2, hK1, hK, fun x => ?_, rfl⟩
    · refine Nat.add_lt_add_left (countP_lt (fun x hx => ?_) ⟨od[i], List.getElem_mem hi, by simp [g1], ?_⟩) _
      · by_cases e : x = od[i]
        · subst e
          simp [g1]
        · simpa [pt_ne e] using hx
      · rw [pt_same, decide_eq_false_iff_not, ← g1]
        exact fun e => hne e.symm
    · rw [← hpr x]
      unfold PR
      by_cases e : x = od[i]
      · subst e; rw [pt_same, hc]; simp
      · rw [pt_ne e]
  · -- a new node
    have hiK' : i = K := by
      have : ¬ K < i := fun hKi => by
        have := (memtake K (by omega)).1 ((hpr _).1 (hprei K hKi))
        omega
      omega
    have hnone : ov od[i] = none := by
      have : ¬ PR ov od[i] := fun hh => hiK ((memtake i hi).1 ((hpr _).1 hh))
      cases e : ov od[i] with
      | none => rfl
      | some c => exact absurd (.inr (by rw [e]; simp)) this
    have hall : ∀ x c, ov x = some c → IsMeet ov (fun p => Ed nx p x ∧ PR ov p) c := fun x c hc => by
      obtain ⟨k, hk, e⟩ := List.mem_iff_getElem.1 ((hpr x).1 (.inr (by rw [hc]; simp)))
      rw [List.getElem_take] at e
      rw [List.length_take] at hk
      have hx0 : x ≠ 0 := by rintro rfl; rw [t.root] at hc; cases hc
      obtain ⟨c', hc', hm'⟩ := hpre k (by omega) (by rw [e]; exact hx0)
      simp only [e] at hc' hm'
      rw [hc] at hc'
      cases hc'
      exact hm'
    refine ⟨_, ?_, hdi', od[i], pt ov od[i] m, K + 1, Ph.start t hall hnone h0 hm hpm hlt, by omega, by omega, fun x => ?_, rfl⟩
    · have hcl : od.countP (fun x => decide (pt ov od[i] m x = pt ov od[i] m x)) ≤ od.length := List.countP_le_length
      have h2 : (od.length - K) * (od.length + 1) = (od.length - (K + 1)) * (od.length + 1) + (od.length + 1) := by
        rw [show od.length - K = od.length - (K + 1) + 1 by omega, Nat.succ_mul]
      omega
    · have e1 : od.take (K + 1) = od.take K ++ [od[i]] := by
        subst hiK'
        exact List.take_succ_eq_append_getElem hi
      rw [e1, List.mem_append, List.mem_singleton, ← hpr x]
      unfold PR
      by_cases e : x = od[i]
      · subst e; rw [pt_same]; simp
      · rw [pt_ne e]; simp [e]
end

end Go.Dm

/-!
  slices.Repeat of one number.
-/
namespace Go.Proofs
open Go.Gk Go.RowKit Go.Gr

theorem u64_small {n : Nat} (hn : n ≤ 4096) : IntKind.u64.wrap (n : Int) = n := by rw [IntKind.wrap_u64]; omega
theorem mask_small {n : Nat} (hn : n ≤ 4096) : ((BitVec.toNat (BitVec.ofInt (IntKind.bits .u64) (n : Int) &&& BitVec.ofInt (IntKind.bits .u64) (4294967295 : Int)) : Nat) : Int) = n := by
  have h : (BitVec.ofInt 64 (n : Int) &&& BitVec.ofInt 64 (4294967295 : Int)).toNat = n := by
    rw [BitVec.toNat_and, BitVec.toNat_ofInt, BitVec.toNat_ofInt]
    have e1 : ((n : Int) % ((2 ^ 64 : Nat) : Int)).toNat = n := by omega
    have e2 : ((4294967295 : Int) % ((2 ^ 64 : Nat) : Int)).toNat = 2 ^ 32 - 1 := by decide
    rw [e1, e2, Nat.and_two_pow_sub_one_eq_mod]
    omega
  exact congrArg Int.ofNat h
theorem Mul64_one {n : Nat} (hn : n ≤ 4096) {w : World} {R : Value → World → Prop} (hR : R (.tuple #[.int .u64 0, .int .u64 (n : Int)]) w) : callR Try.prog 210 #[.int .u64 1, .int .u64 (n : Int)] w R := by
  refine callR.of (math_bits_Mul64_calls 1 n R w ?_) fun _ _ h => h
  unfold L_math_bits_Mul64
  have e0 : ((2 : Int) ^ (min 32 (IntKind.bits .u64))) = 4294967296 := by decide
  have e1 : Int.fdiv 1 4294967296 = 0 := by decide
  have e2 : Int.fdiv (n : Int) 4294967296 = 0 := by rw [Int.fdiv_eq_ediv_of_nonneg _ (by decide)]; omega
  have m1 : ((BitVec.toNat (BitVec.ofInt (IntKind.bits .u64) (1 : Int) &&& BitVec.ofInt (IntKind.bits .u64) (4294967295 : Int)) : Nat) : Int) = 1 := mask_small (n := 1) (by decide)
  have m0 : ((BitVec.toNat (BitVec.ofInt (IntKind.bits .u64) (0 : Int) &&& BitVec.ofInt (IntKind.bits .u64) (4294967295 : Int)) : Nat) : Int) = 0 := mask_small (n := 0) (by decide)
  have u0 : IntKind.u64.wrap (0 : Int) = 0 := by decide
  have u1 : IntKind.u64.wrap (1 : Int) = 1 := by decide
  have f0 : Int.fdiv 0 4294967296 = 0 := by decide
  simp only [e0, e1, e2, mask_small hn, m1, u64_small hn, u0, u1, Int.zero_mul, Int.one_mul, Int.mul_zero, Int.add_zero, f0, m0]
  exact hR

theorem below_setRow {B : Nat} {w w' : World} (h : Below B w w') {g : Nat} (hg : B ≤ g) (cs : Array Value) : Below B w (w'.setRow g cs) :=
  ⟨h.os, h.tape, h.output, by simpa [World.setRow] using h.size, fun k hk => (setRow_other w' g k cs (by omega)).trans (h.block k hk)⟩
/-- copy into a row of the code's own. -/
theorem copyS_row {w : World} {b o : Nat} {cs : List Value} (hD : Blk w b 3 cs) {a : Addr} {dl dc sl sc : Nat} {news : List Value} (hn : news.length = Nat.min sl dl) (hsrc : ∀ j v, news[j]? = some v → w.cell? (a.add j) = some v)
    (hfit : o + news.length ≤ cs.length) (h1 : ∀ v ∈ news, v.oneCell' = true) {k : Int → World → Prop}
    (hk : ∀ w', Blk w' b 3 (cs.take o ++ news ++ cs.drop (o + news.length)) → (∀ B w0, Below B w0 w → B ≤ b → Below B w0 w') → k (news.length : Int) w') :
    copyS Try.prog #[32, 32] (.slice (some ⟨b, o, none⟩) dl dc) (.slice (some a) sl sc) w k := by
  have hun : (Try.prog).underlying 32 = some (.slice 3) := by kernel_rfl
  have hsz : ((Try.prog).info? 3).map (·.size) = some 1 := by kernel_rfl
  have hc := run_copy_row (P := Try.prog) w 32 32 0 3 b o dl dc a sl sc cs.toArray 3 news hun hsz hD hn hsrc (by simpa using hfit) h1
  refine ⟨_, _, hc, hk _ ?_ fun B w0 hb hB => below_setRow hb hB _⟩
  exact setRow_heap w b _ _ _ _ hD

set_option maxHeartbeats 1000000 in
theorem Repeat_spec {n : Nat} (hn : n ≤ 4096) (hn1 : 1 ≤ n) {v : Int} {xb : Nat} {w : World} {R : Value → World → Prop} (hx : Blk w xb 3 [.int .i64 v])
    (hR : ∀ b w', Blk w' b 3 (List.replicate n (.int .i64 v)) → w.heap.size ≤ b → Below w.heap.size w w' → R (.slice (some (blk b)) n n) w') :
    callR Try.prog 134 #[.slice (some (blk xb)) 1 1, .int .i64 (n : Int)] w R := by
  refine callR.of (slices_Repeat_sint_int_calls ⟨some (blk xb), 1, 1⟩ n R w ?_) fun _ _ h => h
  refine JoinW.cut (fun _ w' => w' = w) (ifB_dec (fun h => by omega) fun _ => rfl) ?_
  rintro _ _ rfl
  rename_i w
  have e1 : IntKind.u64.wrap (((1 : Nat) : Nat) : Int) = 1 := by decide
  dsimp only
  rw [e1, u64_small hn]
  refine callR.of (math_bits_Mul_calls 1 n _ w ?_) fun _ _ h => h
  refine Mul64_one hn ⟨0, n, rfl, 0, n, rfl, ?_⟩
  refine JoinW.cut (fun _ w' => w' = w) (ifB_dec (fun h => absurd h (by decide)) fun _ => ifB_dec (fun h => absurd h (by omega)) fun _ => rfl) ?_
  rintro _ _ rfl
  rename_i w
  have e2 : IntKind.i64.wrap (n : Int) = n := wrap64_in (by omega) (by omega)
  rw [e2]
  refine ⟨⟨by omega, by omega, by omega, by omega⟩, Nw.gen fun w4 hw4 => ?_⟩
  obtain ⟨z, hz⟩ : ∃ z, z = Value.int .i64 0 := ⟨_, rfl⟩
  obtain ⟨u, hu⟩ : ∃ u, u = Value.int .i64 v := ⟨_, rfl⟩
  have hu1 : u.oneCell' = true := by rw [hu]; rfl
  rw [← hz] at hw4
  rw [← hu] at hx hR
  have hD4 : Blk w4 w.heap.size 3 (List.replicate n z) := by rw [hw4]; exact Blk.made w 3 z n
  have b4 : Below w.heap.size w w4 := by rw [hw4]; exact (Below.refl _ _).alloc (Nat.le_refl _) _
  have hx4 := hx.below b4
  have tn : Int.toNat ((n : Nat) : Int) = n := rfl
  rw [tn]
  refine copyS_row hD4 (o := 0) (news := [u]) (by simp [Nat.min_def]; omega) (fun j x hj => by
      cases j with
      | zero => simp at hj; subst hj; exact hx4.cell rfl
      | succ j => simp at hj) (by simp; omega) (by simpa using hu1) fun w5 hD5 hb5 => ?_
  have hb5 := hb5 _ _ b4 (Nat.le_refl _)
  have hD5' : Blk w5 w.heap.size 3 (List.replicate 1 u ++ List.replicate (n - 1) z) := by
    simpa using hD5
  clear hD5 hD4 hx4 hw4
  refine LoopW.ghost (fun j st w' => ∃ m : Nat, 1 ≤ m ∧ m ≤ n ∧ j = n - m ∧ st = ((m : Int), ()) ∧ Below w.heap.size w w' ∧ Blk w' w.heap.size 3 (List.replicate m u ++ List.replicate (n - m) z)) (n - 1)
    ⟨1, Nat.le_refl _, hn1, rfl, rfl, hb5, hD5'⟩ ?_
  rintro _ _ w6 ⟨m, hm1, hmn, rfl, rfl, hb, hD⟩ next hnext
  refine ifB_dec (fun hlt => ?_) (fun hge => ?_)
  · have hlt : m < n := by dsimp only at hlt; omega
    have tm : Int.toNat ((m : Nat) : Int) = m := rfl
    refine ⟨⟨by first | omega | (dsimp only; omega), by first | omega | (dsimp only; omega), by omega⟩, ⟨by omega, by first | omega | (dsimp only; omega), by first | omega | (dsimp only; omega)⟩, ?_⟩
    dsimp only
    rw [tm, if_neg (by omega : ¬ n = m), if_neg (by omega : ¬ n = 0)]
    simp only [Option.map_some, Nat.sub_zero]
    have ea : (blk w.heap.size).add m = ⟨w.heap.size, m, none⟩ := by rw [add_blk]
    have e0 : (blk w.heap.size).add 0 = blk w.heap.size := by rw [add_blk]
    rw [ea, e0]
    obtain ⟨q, hq⟩ : ∃ q, q = Nat.min m (n - m) := ⟨_, rfl⟩
    have hq1 : 1 ≤ q ∧ q ≤ n - m ∧ q ≤ m := by rw [hq]; simp only [Nat.min_def]; split <;> omega
    have hD' := hD.drew
    refine copyS_row hD' (o := m) (news := List.replicate q u) (by rw [List.length_replicate, hq]) (fun j x hj => by
        have hj' : j < q := by have := (List.getElem?_eq_some_iff.1 hj).1; simpa using this
        rw [List.getElem?_replicate, if_pos hj'] at hj
        cases hj
        refine hD'.cell ?_
        rw [List.getElem?_append_left (by simp; omega), List.getElem?_replicate, if_pos (by omega)]) (by simp; omega) (fun x hx => by
        rw [List.eq_of_mem_replicate hx]; exact hu1) fun w7 hD7 hb7 => ?_
    rw [List.length_replicate] at hD7 ⊢
    rw [show IntKind.i64.wrap ((m : Int) + (q : Int)) = ((m + q : Nat) : Int) by rw [wrap64_in (by omega) (by omega)]; omega]
    refine hnext (n - (m + q)) _ _ (by omega) ⟨m + q, by omega, by omega, rfl, rfl, hb7 _ _ hb.drew (Nat.le_refl _), ?_⟩
    have : (List.replicate m u ++ List.replicate (n - m) z).take m ++ List.replicate q u ++ (List.replicate m u ++ List.replicate (n - m) z).drop (m + q) = List.replicate (m + q) u ++ List.replicate (n - (m + q)) z := by
      rw [List.take_left' (by simp), List.drop_append, List.drop_replicate, List.drop_replicate, List.length_replicate, List.replicate_append_replicate]
      simp
      omega
    rw [← this]
    exact hD7
  · have : m = n := by dsimp only at hge; omega
    subst this
    refine hR w.heap.size w6 ?_ (Nat.le_refl _) hb
    simpa using hD

end Go.Proofs
