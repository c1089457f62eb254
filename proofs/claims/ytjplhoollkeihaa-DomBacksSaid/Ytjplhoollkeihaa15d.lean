/-
  The tree in memory; dom's meet and settle.
-/
import Derived.Test.Ytjplhoollkeihaa15c
namespace Go.Proofs
open Go.Gk Go.RowKit Go.Gr Go.Dm

def ovI : Option Nat → Int
  | none => -1
  | some y => (y : Int)
def natL (n : Nat) (f : Nat → Int) : List Value := (List.range n).map fun i => .int .i64 (f i)
theorem natL_get {n i : Nat} {f : Nat → Int} (hi : i < n) : (natL n f)[i]? = some (.int .i64 (f i)) := by simp [natL, hi]
theorem natL_set {n i : Nat} {f : Nat → Int} (v : Int) : (natL n f).set i (.int .i64 v) = natL n fun j => if j = i then v else f j := by
  apply List.ext_getElem
  · simp [natL]
  · intro j h1 h2
    rw [List.getElem_set]
    by_cases e : i = j
    · subst e; simp [natL]
    · rw [if_neg e]; simp [natL, Ne.symm e]
theorem natL_congr {n : Nat} {f g : Nat → Int} (h : ∀ i, i < n → f i = g i) : natL n f = natL n g := List.map_congr_left fun i hi => by rw [h i (List.mem_range.1 hi)]
theorem natL_const (n : Nat) (v : Int) : natL n (fun _ => v) = List.replicate n (.int .i64 v) := by
  apply List.ext_getElem <;> simp [natL]

/-- A dom.Tree: over, depth and rank. -/
structure TB (w : World) (tb gb ob db rb n : Nat) (o d r : Nat → Int) : Prop where
  t : Blk w tb 129 [.pointer (some (Gk.blk gb)), .slice (some (Gk.blk ob)) n n, .slice (some (Gk.blk db)) n n, .slice (some (Gk.blk rb)) n n]
  o : Blk w ob 3 (natL n o)
  d : Blk w db 3 (natL n d)
  r : Blk w rb 3 (natL n r)
  ne : ob ≠ db ∧ ob ≠ rb ∧ db ≠ rb
section
variable {w w' : World} {tb gb ob db rb n : Nat} {o d r : Nat → Int}
theorem TB.below (h : TB w tb gb ob db rb n o d r) (hb : Below w.heap.size w w') : TB w' tb gb ob db rb n o d r := ⟨h.t.below hb, h.o.below hb, h.d.below hb, h.r.below hb, h.ne⟩
theorem TB.of_o {o' : Nat → Int} (h : TB w tb gb ob db rb n o d r) (he : ∀ i, i < n → o i = o' i) : TB w tb gb ob db rb n o' d r := ⟨h.t, natL_congr he ▸ h.o, h.d, h.r, h.ne⟩
theorem TB.setO (h : TB w tb gb ob db rb n o d r) (i : Nat) (v : Int) : TB (w.setCell ((Gk.blk ob).add i) (.int .i64 v)) tb gb ob db rb n (fun j => if j = i then v else o j) d r := by
  obtain ⟨n1, n2, n3⟩ := h.ne
  exact ⟨h.t.other (by rw [add_block]; exact h.t.apart h.o (by decide)) _, natL_set (f := o) v ▸ h.o.set i _, h.d.other (by rw [add_block]; exact n1.symm) _, h.r.other (by rw [add_block]; exact n2.symm) _, h.ne⟩
theorem TB.setD (h : TB w tb gb ob db rb n o d r) (i : Nat) (v : Int) : TB (w.setCell ((Gk.blk db).add i) (.int .i64 v)) tb gb ob db rb n o (fun j => if j = i then v else d j) r := by
  obtain ⟨n1, n2, n3⟩ := h.ne
  exact ⟨h.t.other (by rw [add_block]; exact h.t.apart h.d (by decide)) _, h.o.other (by rw [add_block]; exact n1) _, natL_set (f := d) v ▸ h.d.set i _, h.r.other (by rw [add_block]; exact n3.symm) _, h.ne⟩
theorem TB.setR (h : TB w tb gb ob db rb n o d r) (i : Nat) (v : Int) : TB (w.setCell ((Gk.blk rb).add i) (.int .i64 v)) tb gb ob db rb n o d (fun j => if j = i then v else r j) := by
  obtain ⟨n1, n2, n3⟩ := h.ne
  exact ⟨h.t.other (by rw [add_block]; exact h.t.apart h.r (by decide)) _, h.o.other (by rw [add_block]; exact n2) _, h.d.other (by rw [add_block]; exact n3) _, natL_set (f := r) v ▸ h.r.set i _, h.ne⟩
theorem TB.getO (h : TB w tb gb ob db rb n o d r) {i : Nat} (hi : i < n) {φ : Int → Prop} (hφ : φ (o i)) :
    derefP (some (Gk.blk tb)) fun a => ldS w (a.add 1) fun x => (0 ≤ (i : Int) ∧ (i : Int) < (x.l : Int)) ∧ derefP x.a fun a' => ldI w (a'.add (Int.toNat (i : Int))) .i64 φ :=
  ⟨⟨_, n, n⟩, h.t.cell (n := 1) rfl, ⟨by omega, by first | omega | (dsimp only; omega)⟩, derefP_some rfl ⟨_, h.o.cell (natL_get hi), hφ⟩⟩
theorem TB.getD (h : TB w tb gb ob db rb n o d r) {i : Nat} (hi : i < n) {φ : Int → Prop} (hφ : φ (d i)) :
    derefP (some (Gk.blk tb)) fun a => ldS w (a.add 2) fun x => (0 ≤ (i : Int) ∧ (i : Int) < (x.l : Int)) ∧ derefP x.a fun a' => ldI w (a'.add (Int.toNat (i : Int))) .i64 φ :=
  ⟨⟨_, n, n⟩, h.t.cell (n := 2) rfl, ⟨by omega, by first | omega | (dsimp only; omega)⟩, derefP_some rfl ⟨_, h.d.cell (natL_get hi), hφ⟩⟩
theorem TB.getR (h : TB w tb gb ob db rb n o d r) {i : Nat} (hi : i < n) {φ : Int → Prop} (hφ : φ (r i)) :
    derefP (some (Gk.blk tb)) fun a => ldS w (a.add 3) fun x => (0 ≤ (i : Int) ∧ (i : Int) < (x.l : Int)) ∧ derefP x.a fun a' => ldI w (a'.add (Int.toNat (i : Int))) .i64 φ :=
  ⟨⟨_, n, n⟩, h.t.cell (n := 3) rfl, ⟨by omega, by first | omega | (dsimp only; omega)⟩, derefP_some rfl ⟨_, h.r.cell (natL_get hi), hφ⟩⟩
/-- A store to over. -/
theorem TB.putO (h : TB w tb gb ob db rb n o d r) {i : Nat} (hi : i < n) {v : Int} {K : World → Prop} (hK : K (w.setCell ((Gk.blk ob).add i) (.int .i64 v))) :
    derefP (some (Gk.blk tb)) fun a => ldS w (a.add 1) fun x => (0 ≤ (i : Int) ∧ (i : Int) < (x.l : Int)) ∧ derefP x.a fun a' => Wr w (a'.add (Int.toNat (i : Int))) ∧ Nw (w.setCell (a'.add (Int.toNat (i : Int))) (.int .i64 v)) K :=
  ⟨⟨_, n, n⟩, h.t.cell (n := 1) rfl, ⟨by omega, by first | omega | (dsimp only; omega)⟩, derefP_some rfl ⟨h.o.wr (by simpa [natL] using hi), Nw.mk hK⟩⟩
theorem TB.putD (h : TB w tb gb ob db rb n o d r) {i : Nat} (hi : i < n) {v : Int} {K : World → Prop} (hK : K (w.setCell ((Gk.blk db).add i) (.int .i64 v))) :
    derefP (some (Gk.blk tb)) fun a => ldS w (a.add 2) fun x => (0 ≤ (i : Int) ∧ (i : Int) < (x.l : Int)) ∧ derefP x.a fun a' => Wr w (a'.add (Int.toNat (i : Int))) ∧ Nw (w.setCell (a'.add (Int.toNat (i : Int))) (.int .i64 v)) K :=
  ⟨⟨_, n, n⟩, h.t.cell (n := 2) rfl, ⟨by omega, by first | omega | (dsimp only; omega)⟩, derefP_some rfl ⟨h.d.wr (by simpa [natL] using hi), Nw.mk hK⟩⟩
theorem TB.putR (h : TB w tb gb ob db rb n o d r) {i : Nat} (hi : i < n) {v : Int} {K : World → Prop} (hK : K (w.setCell ((Gk.blk rb).add i) (.int .i64 v))) :
    derefP (some (Gk.blk tb)) fun a => ldS w (a.add 3) fun x => (0 ≤ (i : Int) ∧ (i : Int) < (x.l : Int)) ∧ derefP x.a fun a' => Wr w (a'.add (Int.toNat (i : Int))) ∧ Nw (w.setCell (a'.add (Int.toNat (i : Int))) (.int .i64 v)) K :=
  ⟨⟨_, n, n⟩, h.t.cell (n := 3) rfl, ⟨by omega, by first | omega | (dsimp only; omega)⟩, derefP_some rfl ⟨h.r.wr (by simpa [natL] using hi), Nw.mk hK⟩⟩
end

/-- The ranks, once the order has been gone through. -/
def rkI (od : List Nat) (i : Nat) : Int := if i ∈ od then (rkOf od i : Int) else 0
theorem rkI_mem {od : List Nat} {i : Nat} (h : i ∈ od) : rkI od i = (rkOf od i : Int) := by simp [rkI, h]
theorem rk_inj {od : List Nat} {a b : Nat} (ha : a ∈ od) (hb : b ∈ od) (h : rkOf od a = rkOf od b) : a = b := by
  have h1 := List.idxOf_lt_length_of_mem ha
  have h2 := List.idxOf_lt_length_of_mem hb
  have e1 : od[od.idxOf a] = a := List.getElem_idxOf h1
  have e2 : od[od.idxOf b] = b := List.getElem_idxOf h2
  unfold rkOf at h
  rw [← e1, ← e2]
  simp only [h]

/-- dom.meet. -/
theorem meet_spec {tb gb ob db rb n : Nat} {d : Nat → Int} {ov : Nat → Option Nat} {od : List Nat} (t : Tr (rkOf od) ov) (hpo : ∀ x, PR ov x → x ∈ od) (hlt : ∀ x ∈ od, x < n) {a b : Nat} {w : World} {R : Value → World → Prop}
    (h : TB w tb gb ob db rb n (fun i => ovI (ov i)) d (rkI od)) (ha : PR ov a) (hb : PR ov b)
    (hR : ∀ c w', Below w.heap.size w w' → PR ov c → (∀ e, Anc ov e c ↔ Anc ov e a ∧ Anc ov e b) → R (.int .i64 (c : Int)) w') :
    callR Try.prog 109 #[.pointer (some (Gk.blk tb)), .int .i64 (a : Int), .int .i64 (b : Int)] w R := by
  refine callR.of (dom_Tree_meet_calls _ _ _ R w ?_) fun _ _ h => h
  refine LoopW.ghost (fun j s w' => ∃ x y : Nat, j = rkOf od x + rkOf od y ∧ s = ((x : Int), (y : Int), ()) ∧ PR ov x ∧ PR ov y ∧ (∀ e, Anc ov e x ∧ Anc ov e y ↔ Anc ov e a ∧ Anc ov e b) ∧ Below w.heap.size w w') _ ⟨a, b, rfl, rfl, ha, hb, fun _ => Iff.rfl, Below.refl _ _⟩ ?_
  rintro _ _ w' ⟨x, y, rfl, rfl, hx, hy, hxy, hbw⟩ next hnext
  refine ifB_bne (fun hne => ?_) (fun he => ?_)
  · have hne : x ≠ y := by rintro rfl; exact hne rfl
    have h' := h.below hbw.drew
    have mx := hpo x hx
    have my := hpo y hy
    refine JoinW.cut (fun s w2 => w2 = w'.drew ∧ ∃ p q : Nat, s = ((p : Int), (q : Int), ()) ∧ ((p = x ∧ q = y) ∨ (p = y ∧ q = x)) ∧ rkOf od q < rkOf od p) ?_ ?_
    · dsimp only
      refine h'.getR (hlt x mx) (h'.getR (hlt y my) ?_)
      rw [rkI_mem mx, rkI_mem my]
      refine ifB_dec (fun hl => ⟨rfl, y, x, rfl, .inr ⟨rfl, rfl⟩, by omega⟩) (fun hl => ⟨rfl, x, y, rfl, .inl ⟨rfl, rfl⟩, ?_⟩)
      have : rkOf od x ≠ rkOf od y := fun e => hne (rk_inj mx my e)
      omega
    · rintro _ _ ⟨rfl, p, q, rfl, hpq, hrk⟩
      have hp : PR ov p := by rcases hpq with ⟨rfl, _⟩ | ⟨rfl, _⟩ <;> assumption
      have hq : PR ov q := by rcases hpq with ⟨_, rfl⟩ | ⟨_, rfl⟩ <;> assumption
      have hsum : rkOf od x + rkOf od y = rkOf od p + rkOf od q := by rcases hpq with ⟨rfl, rfl⟩ | ⟨rfl, rfl⟩ <;> omega
      obtain ⟨z, hz⟩ : ∃ z, ov p = some z := by
        cases e : ov p with
        | some z => exact ⟨z, rfl⟩
        | none =>
          rcases hp with rfl | hp
          · have hz := t.zero _ q (Nat.le_refl _) hq
            rcases hz.le t with e | e
            · subst e; omega
            · omega
          · exact absurd e hp
      have hzt := t.up p z hz
      dsimp only
      refine h'.getO (hlt p (hpo p hp)) ?_
      rw [hz]
      refine hnext (rkOf od z + rkOf od q) _ _ (by omega) ⟨z, q, rfl, rfl, hzt.2, hq, fun e => ?_, hbw.drew⟩
      rw [← hxy e]
      have : (Anc ov e x ∧ Anc ov e y) ↔ (Anc ov e p ∧ Anc ov e q) := by
        rcases hpq with ⟨rfl, rfl⟩ | ⟨rfl, rfl⟩
        · exact Iff.rfl
        · exact And.comm
      rw [this]
      constructor
      · rintro ⟨h1, h2⟩; exact ⟨.step hz h1, h2⟩
      · rintro ⟨h1, h2⟩
        refine ⟨?_, h2⟩
        rcases h1.inv with rfl | ⟨z', hz', h1⟩
        · rcases h2.le t with e | e
          · subst e; omega
          · omega
        · rw [hz] at hz'; cases hz'; exact h1
  · have he : x = y := by exact Int.ofNat.inj he
    subst he
    exact hR x w' hbw hx fun e => by rw [← hxy e]; exact ⟨fun h => ⟨h, h⟩, fun h => h.1⟩

end Go.Proofs
