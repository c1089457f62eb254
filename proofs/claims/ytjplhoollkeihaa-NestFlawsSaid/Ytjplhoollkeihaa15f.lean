/-
  The tree in memory; dom's meet and settle; dom.settle; dom.New.
-/
import Derived.Test.Ytjplhoollkeihaa15c
import Derived.Test.Ytjplhoollkeihaa14w
/-!
  The tree in memory; dom's meet and settle.
-/
namespace Go.Proofs
open Go.Gk Go.RowKit Go.Gr Go.Dm

def ovI : Option Nat → Int
  | none => -1
  | some y => (y : Int)
def natL (n : Nat) (f : Nat → Int) : List Value := (List.range n).map fun i => .int .i64 (f i)
theorem natL_get {n i : Nat} {f : Nat → Int} (hi : i < n) : (natL n f)[i]? = some (.int .i64 (f i)) := by simp [natL, hi]
theorem natL_set {n i : Nat} {f : Nat → Int} (v : Int) : (natL n f).set i (.int .i64 v) = natL n fun j => if j = i then v else f j := by
  apply List.ext_getElem
  · simp [natL]
  · intro j h1 h2
    rw [List.getElem_set]
    by_cases e : i = j
    · subst e; simp [natL]
    · rw [if_neg e]; simp [natL, Ne.symm e]
theorem natL_congr {n : Nat} {f g : Nat → Int} (h : ∀ i, i < n → f i = g i) : natL n f = natL n g := List.map_congr_left fun i hi => by rw [h i (List.mem_range.1 hi)]
theorem natL_const (n : Nat) (v : Int) : natL n (fun _ => v) = List.replicate n (.int .i64 v) := by
  apply List.ext_getElem <;> simp [natL]

/-- A dom.Tree: over, depth and rank. -/
structure TB (w : World) (tb gb ob db rb n : Nat) (o d r : Nat → Int) : Prop where
  t : Blk w tb 129 [.pointer (some (Gk.blk gb)), .slice (some (Gk.blk ob)) n n, .slice (some (Gk.blk db)) n n, .slice (some (Gk.blk rb)) n n]
  o : Blk w ob 3 (natL n o)
  d : Blk w db 3 (natL n d)
  r : Blk w rb 3 (natL n r)
  ne : ob ≠ db ∧ ob ≠ rb ∧ db ≠ rb
section
variable {w w' : World} {tb gb ob db rb n : Nat} {o d r : Nat → Int}
theorem TB.below (h : TB w tb gb ob db rb n o d r) (hb : Below w.heap.size w w') : TB w' tb gb ob db rb n o d r := ⟨h.t.below hb, h.o.below hb, h.d.below hb, h.r.below hb, h.ne⟩
theorem TB.of_o {o' : Nat → Int} (h : TB w tb gb ob db rb n o d r) (he : ∀ i, i < n → o i = o' i) : TB w tb gb ob db rb n o' d r := ⟨h.t, natL_congr he ▸ h.o, h.d, h.r, h.ne⟩
theorem TB.setO (h : TB w tb gb ob db rb n o d r) (i : Nat) (v : Int) : TB (w.setCell ((Gk.blk ob).add i) (.int .i64 v)) tb gb ob db rb n (fun j => if j = i then v else o j) d r := by
  obtain ⟨n1, n2, n3⟩ := h.ne
  exact ⟨h.t.other (by rw [add_block]; exact h.t.apart h.o (by decide)) _, natL_set (f := o) v ▸ h.o.set i _, h.d.other (by rw [add_block]; exact n1.symm) _, h.r.other (by rw [add_block]; exact n2.symm) _, h.ne⟩
theorem TB.setD (h : TB w tb gb ob db rb n o d r) (i : Nat) (v : Int) : TB (w.setCell ((Gk.blk db).add i) (.int .i64 v)) tb gb ob db rb n o (fun j => if j = i then v else d j) r := by
  obtain ⟨n1, n2, n3⟩ := h.ne
  exact ⟨h.t.other (by rw [add_block]; exact h.t.apart h.d (by decide)) _, h.o.other (by rw [add_block]; exact n1) _, natL_set (f := d) v ▸ h.d.set i _, h.r.other (by rw [add_block]; exact n3.symm) _, h.ne⟩
theorem TB.setR (h : TB w tb gb ob db rb n o d r) (i : Nat) (v : Int) : TB (w.setCell ((Gk.blk rb).add i) (.int .i64 v)) tb gb ob db rb n o d (fun j => if j = i then v else r j) := by
  obtain ⟨n1, n2, n3⟩ := h.ne
  exact ⟨h.t.other (by rw [add_block]; exact h.t.apart h.r (by decide)) _, h.o.other (by rw [add_block]; exact n2) _, h.d.other (by rw [add_block]; exact n3) _, natL_set (f := r) v ▸ h.r.set i _, h.ne⟩
theorem TB.getO (h : TB w tb gb ob db rb n o d r) {i : Nat} (hi : i < n) {φ : Int → Prop} (hφ : φ (o i)) :
    derefP (some (Gk.blk tb)) fun a => ldS w (a.add 1) fun x => (0 ≤ (i : Int) ∧ (i : Int) < (x.l : Int)) ∧ derefP x.a fun a' => ldI w (a'.add (Int.toNat (i : Int))) .i64 φ :=
  ⟨⟨_, n, n⟩, h.t.cell (n := 1) rfl, ⟨by omega, by first | omega | (dsimp only; omega)⟩, derefP_some rfl ⟨_, h.o.cell (natL_get hi), hφ⟩⟩
theorem TB.getD (h : TB w tb gb ob db rb n o d r) {i : Nat} (hi : i < n) {φ : Int → Prop} (hφ : φ (d i)) :
    derefP (some (Gk.blk tb)) fun a => ldS w (a.add 2) fun x => (0 ≤ (i : Int) ∧ (i : Int) < (x.l : Int)) ∧ derefP x.a fun a' => ldI w (a'.add (Int.toNat (i : Int))) .i64 φ :=
  ⟨⟨_, n, n⟩, h.t.cell (n := 2) rfl, ⟨by omega, by first | omega | (dsimp only; omega)⟩, derefP_some rfl ⟨_, h.d.cell (natL_get hi), hφ⟩⟩
theorem TB.getR (h : TB w tb gb ob db rb n o d r) {i : Nat} (hi : i < n) {φ : Int → Prop} (hφ : φ (r i)) :
    derefP (some (Gk.blk tb)) fun a => ldS w (a.add 3) fun x => (0 ≤ (i : Int) ∧ (i : Int) < (x.l : Int)) ∧ derefP x.a fun a' => ldI w (a'.add (Int.toNat (i : Int))) .i64 φ :=
  ⟨⟨_, n, n⟩, h.t.cell (n := 3) rfl, ⟨by omega, by first | omega | (dsimp only; omega)⟩, derefP_some rfl ⟨_, h.r.cell (natL_get hi), hφ⟩⟩
/-- A store to over. -/
theorem TB.putO (h : TB w tb gb ob db rb n o d r) {i : Nat} (hi : i < n) {v : Int} {K : World → Prop} (hK : K (w.setCell ((Gk.blk ob).add i) (.int .i64 v))) :
    derefP (some (Gk.blk tb)) fun a => ldS w (a.add 1) fun x => (0 ≤ (i : Int) ∧ (i : Int) < (x.l : Int)) ∧ derefP x.a fun a' => Wr w (a'.add (Int.toNat (i : Int))) ∧ Nw (w.setCell (a'.add (Int.toNat (i : Int))) (.int .i64 v)) K :=
  ⟨⟨_, n, n⟩, h.t.cell (n := 1) rfl, ⟨by omega, by first | omega | (dsimp only; omega)⟩, derefP_some rfl ⟨h.o.wr (by simpa [natL] using hi), Nw.mk hK⟩⟩
theorem TB.putD (h : TB w tb gb ob db rb n o d r) {i : Nat} (hi : i < n) {v : Int} {K : World → Prop} (hK : K (w.setCell ((Gk.blk db).add i) (.int .i64 v))) :
    derefP (some (Gk.blk tb)) fun a => ldS w (a.add 2) fun x => (0 ≤ (i : Int) ∧ (i : Int) < (x.l : Int)) ∧ derefP x.a fun a' => Wr w (a'.add (Int.toNat (i : Int))) ∧ Nw (w.setCell (a'.add (Int.toNat (i : Int))) (.int .i64 v)) K :=
  ⟨⟨_, n, n⟩, h.t.cell (n := 2) rfl, ⟨by omega, by first | omega | (dsimp only; omega)⟩, derefP_some rfl ⟨h.d.wr (by simpa [natL] using hi), Nw.mk hK⟩⟩
theorem TB.putR (h : TB w tb gb ob db rb n o d r) {i : Nat} (hi : i < n) {v : Int} {K : World → Prop} (hK : K (w.setCell ((Gk.blk rb).add i) (.int .i64 v))) :
    derefP (some (Gk.blk tb)) fun a => ldS w (a.add 3) fun x => (0 ≤ (i : Int) ∧ (i : Int) < (x.l : Int)) ∧ derefP x.a fun a' => Wr w (a'.add (Int.toNat (i : Int))) ∧ Nw (w.setCell (a'.add (Int.toNat (i : Int))) (.int .i64 v)) K :=
  ⟨⟨_, n, n⟩, h.t.cell (n := 3) rfl, ⟨by omega, by first | omega | (dsimp only; omega)⟩, derefP_some rfl ⟨h.r.wr (by simpa [natL] using hi), Nw.mk hK⟩⟩
end

/-- The ranks, once the order has been gone through. -/
def rkI (od : List Nat) (i : Nat) : Int := if i ∈ od then (rkOf od i : Int) else 0
theorem rkI_mem {od : List Nat} {i : Nat} (h : i ∈ od) : rkI od i = (rkOf od i : Int) := by simp [rkI, h]
theorem rk_inj {od : List Nat} {a b : Nat} (ha : a ∈ od) (hb : b ∈ od) (h : rkOf od a = rkOf od b) : a = b := by
  have h1 := List.idxOf_lt_length_of_mem ha
  have h2 := List.idxOf_lt_length_of_mem hb
  have e1 : od[od.idxOf a] = a := List.getElem_idxOf h1
  have e2 : od[od.idxOf b] = b := List.getElem_idxOf h2
  unfold rkOf at h
  rw [← e1, ← e2]
  simp only [h]

/-- dom.meet. -/
theorem meet_spec {tb gb ob db rb n : Nat} {d : Nat → Int} {ov : Nat → Option Nat} {od : List Nat} (t : Tr (rkOf od) ov) (hpo : ∀ x, PR ov x → x ∈ od) (hlt : ∀ x ∈ od, x < n) {a b : Nat} {w : World} {R : Value → World → Prop}
    (h : TB w tb gb ob db rb n (fun i => ovI (ov i)) d (rkI od)) (ha : PR ov a) (hb : PR ov b)
    (hR : ∀ c w', Below w.heap.size w w' → PR ov c → (∀ e, Anc ov e c ↔ Anc ov e a ∧ Anc ov e b) → R (.int .i64 (c : Int)) w') :
    callR Try.prog 109 #[.pointer (some (Gk.blk tb)), .int .i64 (a : Int), .int .i64 (b : Int)] w R := by
  refine callR.of (dom_Tree_meet_calls _ _ _ R w ?_) fun _ _ h => h
  refine LoopW.ghost (fun j s w' => ∃ x y : Nat, j = rkOf od x + rkOf od y ∧ s = ((x : Int), (y : Int), ()) ∧ PR ov x ∧ PR ov y ∧ (∀ e, Anc ov e x ∧ Anc ov e y ↔ Anc ov e a ∧ Anc ov e b) ∧ Below w.heap.size w w') _ ⟨a, b, rfl, rfl, ha, hb, fun _ => Iff.rfl, Below.refl _ _⟩ ?_
  rintro _ _ w' ⟨x, y, rfl, rfl, hx, hy, hxy, hbw⟩ next hnext
  refine ifB_bne (fun hne => ?_) (fun he => ?_)
  · have hne : x ≠ y := by rintro rfl; exact hne rfl
    have h' := h.below hbw.drew
    have mx := hpo x hx
    have my := hpo y hy
    refine JoinW.cut (fun s w2 => w2 = w'.drew ∧ ∃ p q : Nat, s = ((p : Int), (q : Int), ()) ∧ ((p = x ∧ q = y) ∨ (p = y ∧ q = x)) ∧ rkOf od q < rkOf od p) ?_ ?_
    · dsimp only
      refine h'.getR (hlt x mx) (h'.getR (hlt y my) ?_)
      rw [rkI_mem mx, rkI_mem my]
      refine ifB_dec (fun hl => ⟨rfl, y, x, rfl, .inr ⟨rfl, rfl⟩, by omega⟩) (fun hl => ⟨rfl, x, y, rfl, .inl ⟨rfl, rfl⟩, ?_⟩)
      have : rkOf od x ≠ rkOf od y := fun e => hne (rk_inj mx my e)
      omega
    · rintro _ _ ⟨rfl, p, q, rfl, hpq, hrk⟩
      have hp : PR ov p := by rcases hpq with ⟨rfl, _⟩ | ⟨rfl, _⟩ <;> assumption
      have hq : PR ov q := by rcases hpq with ⟨_, rfl⟩ | ⟨_, rfl⟩ <;> assumption
      have hsum : rkOf od x + rkOf od y = rkOf od p + rkOf od q := by rcases hpq with ⟨rfl, rfl⟩ | ⟨rfl, rfl⟩ <;> omega
      obtain ⟨z, hz⟩ : ∃ z, ov p = some z := by
        cases e : ov p with
        | some z => exact ⟨z, rfl⟩
        | none =>
          rcases hp with rfl | hp
          · have hz := t.zero _ q (Nat.le_refl _) hq
            rcases hz.le t with e | e
            · subst e; omega
            · omega
          · exact absurd e hp
      have hzt := t.up p z hz
      dsimp only
      refine h'.getO (hlt p (hpo p hp)) ?_
      rw [hz]
      refine hnext (rkOf od z + rkOf od q) _ _ (by omega) ⟨z, q, rfl, rfl, hzt.2, hq, fun e => ?_, hbw.drew⟩
      rw [← hxy e]
      have : (Anc ov e x ∧ Anc ov e y) ↔ (Anc ov e p ∧ Anc ov e q) := by
        rcases hpq with ⟨rfl, rfl⟩ | ⟨rfl, rfl⟩
        · exact Iff.rfl
        · exact And.comm
      rw [this]
      constructor
      · rintro ⟨h1, h2⟩; exact ⟨.step hz h1, h2⟩
      · rintro ⟨h1, h2⟩
        refine ⟨?_, h2⟩
        rcases h1.inv with rfl | ⟨z', hz', h1⟩
        · rcases h2.le t with e | e
          · subst e; omega
          · omega
        · rw [hz] at hz'; cases hz'; exact h1
  · have he : x = y := by exact Int.ofNat.inj he
    subst he
    exact hR x w' hbw hx fun e => by rw [← hxy e]; exact ⟨fun h => ⟨h, h⟩, fun h => h.1⟩

end Go.Proofs

/-!
  dom.settle.
-/
namespace Go.Proofs
open Go.Gk Go.RowKit Go.Gr Go.Dm

theorem ovI_none {o : Option Nat} : ovI o = -1 ↔ o = none := by
  cases o with
  | none => simp [ovI]
  | some y => simp [ovI]
theorem ovI_pt (ov : Nat → Option Nat) (k m : Nat) (j : Nat) : (if j = k then (m : Int) else ovI (ov j)) = ovI (pt ov k m j) := by
  unfold pt
  split <;> rfl
/-- What settle ends with. -/
structure Settled (nx : List (List Nat)) (od : List Nat) (ov : Nat → Option Nat) : Prop where
  tr : Tr (rkOf od) ov
  di : DI nx (rkOf od) ov
  pr : ∀ x, PR ov x ↔ x ∈ od
  fix : ∀ x c, ov x = some c → IsMeet ov (fun p => Ed nx p x ∧ PR ov p) c
/-- The fold over the nodes ahead. -/
def Fo (ov : Nat → Option Nat) (l : List Nat) (o : Int) : Prop :=
  (o = -1 ∧ ∀ p ∈ l, ¬ PR ov p) ∨ ∃ m : Nat, o = (m : Int) ∧ PR ov m ∧ (∃ p ∈ l, PR ov p) ∧ IsMeet ov (fun p => p ∈ l ∧ PR ov p) m
theorem Fo.skip {ov : Nat → Option Nat} {l : List Nat} {o : Int} {p : Nat} (h : Fo ov l o) (hp : ¬ PR ov p) : Fo ov (l ++ [p]) o := by
  rcases h with ⟨rfl, h⟩ | ⟨m, rfl, h1, ⟨q, hq, hq'⟩, h3⟩
  · exact .inl ⟨rfl, fun q hq => by
      rcases List.mem_append.1 hq with hq | hq
      · exact h q hq
      · simp at hq; subst hq; exact hp⟩
  · refine .inr ⟨m, rfl, h1, ⟨q, by simp [hq], hq'⟩, fun d => ?_⟩
    rw [h3 d]
    constructor
    · rintro hh q ⟨hq, hqp⟩
      rcases List.mem_append.1 hq with hq | hq
      · exact hh q ⟨hq, hqp⟩
      · simp at hq; subst hq; exact absurd hqp hp
    · exact fun hh q hq => hh q ⟨by simp [hq.1], hq.2⟩
theorem Fo.first {ov : Nat → Option Nat} {l : List Nat} {p : Nat} (h : Fo ov l (-1)) (hp : PR ov p) : Fo ov (l ++ [p]) (p : Int) := by
  rcases h with ⟨_, h⟩ | ⟨m, e, _⟩
  · refine .inr ⟨p, rfl, hp, ⟨p, by simp, hp⟩, fun d => ⟨?_, fun hh => hh p ⟨by simp, hp⟩⟩⟩
    rintro hd q ⟨hq, hqp⟩
    rcases List.mem_append.1 hq with hq | hq
    · exact absurd hqp (h q hq)
    · simp at hq; subst hq; exact hd
  · omega
theorem Fo.more {ov : Nat → Option Nat} {l : List Nat} {o : Nat} {p c : Nat} (h : Fo ov l (o : Int)) (hp : PR ov p) (hc : PR ov c) (hm : ∀ e, Anc ov e c ↔ Anc ov e o ∧ Anc ov e p) : Fo ov (l ++ [p]) (c : Int) := by
  rcases h with ⟨e, _⟩ | ⟨m, e, h1, ⟨q, hq, hq'⟩, h3⟩
  · omega
  · have e : o = m := by omega
    subst e
    refine .inr ⟨c, rfl, hc, ⟨p, by simp, hp⟩, fun d => ?_⟩
    rw [hm d, h3 d]
    constructor
    · rintro ⟨hh, hd⟩ q ⟨hq, hqp⟩
      rcases List.mem_append.1 hq with hq | hq
      · exact hh q ⟨hq, hqp⟩
      · simp at hq; subst hq; exact hd
    · exact fun hh => ⟨fun q hq => hh q ⟨by simp [hq.1], hq.2⟩, hh p ⟨by simp, hp⟩⟩

set_option maxHeartbeats 4000000 in
theorem settle_spec {nx : List (List Nat)} (hx : NxOk nx) {tb gb ob db rb B : Nat} {d : Nat → Int} {od : List Nat} (ok : OdOk nx od) (hod : ∀ x ∈ od, x < nx.length) {p1 : Sl} {w0 w : World} {R : Value → World → Prop}
    (hG : IsG w0 gb nx) (hB : B = w0.heap.size) (hob : B ≤ ob) (hb0 : Below B w0 w) (h : TB w tb gb ob db rb nx.length (fun _ => -1) d (rkI od)) (hp1 : Own w 3 1 p1 (od.map iN)) (hp2 : ∀ a, p1.a = some a → a.block ≠ ob)
    (hR : ∀ w' ov, Below B w0 w' → w.heap.size ≤ w'.heap.size → (∀ k, k < w.heap.size → k ≠ ob → w'.heap[k]? = w.heap[k]?) → TB w' tb gb ob db rb nx.length (fun i => ovI (ov i)) d (rkI od) → Settled nx od ov → R (.tuple #[]) w') :
    callR Try.prog 135 #[.pointer (some (Gk.blk tb)), .slice p1.a p1.l p1.c] w R := by
  refine callR.of (dom_Tree_settle_calls _ p1 R w ?_) fun _ _ h => h
  unfold L_dom_Tree_settle
  have hpl := own_len hp1
  have hmax := hx.max
  have hodl : od.length ≤ nx.length := nodup_le ok.nodup hod
  obtain ⟨j0, hs0⟩ := SS.start (od := od) (ov := fun _ => none) ok hx.pos (fun _ => rfl)
  -- the state of a round
  let St : (Nat → Option Nat) → World → Prop := fun ov w' => Below B w0 w' ∧ w.heap.size ≤ w'.heap.size ∧ (∀ k, k < w.heap.size → k ≠ ob → w'.heap[k]? = w.heap[k]?) ∧ TB w' tb gb ob db rb nx.length (fun i => ovI (ov i)) d (rkI od) ∧ Own w' 3 1 p1 (od.map iN)
  have hBw : B ≤ w.heap.size := by rw [hB]; rw [hB] at hb0; exact hb0.size
  have grow : ∀ {ov w1 w2}, St ov w1 → Below w1.heap.size w1 w2 → St ov w2 := fun {ov w1 w2} h hb => by
    obtain ⟨h1, h2, h3, h4, h5⟩ := h
    exact ⟨h1.trans (hb.mono (by omega)), by have := hb.size; omega, fun k hk hne => (hb.block k (by omega)).trans (h3 k hk hne), h4.below hb, h5.below hb⟩
  refine LoopW.ghost (fun j _ w' => ∃ ov, SS nx od ov j ∧ St ov w') j0 ⟨_, hs0, hb0, Nat.le_refl _, fun _ _ _ => rfl, h, hp1⟩ ?_
  rintro j _ w1 ⟨ov, hs, hst⟩ nextR hnextR
  have t := hs.tr
  have hpo : ∀ x, PR ov x → x ∈ od := fun x hxp => by
    obtain ⟨v, ov0, K, _, _, _, hpr, _⟩ := hs.ph
    exact List.mem_of_mem_take ((hpr x).1 hxp)
  let Ok : Nat → Prop := fun k => ∀ q (hq : q < od.length), q < k → od[q] ≠ 0 → ∃ c, ov od[q] = some c ∧ IsMeet ov (fun p => Ed nx p od[q] ∧ PR ov p) c
  refine LoopW.count od.length (by omega) (fun k w' => Ok k ∧ St ov w') ⟨fun q hq h => absurd h (by omega), hst⟩ ?_
  rintro i w2 hi ⟨hok, hst⟩ next hnext
  refine ifB_dec (fun hlt => ?_) (fun hge => ?_)
  · have hlt : i < od.length := by dsimp only at hlt; omega
    refine JoinW.cut (fun _ w' => Ok (i + 1) ∧ St ov w') ?_ fun _ w' hh => hnext w' hlt hh
    refine elemI hst.2.2.2.2.isS.toI (k := i) (by simpa using hlt) ?_
    rw [List.getElem_map]
    refine ifB_beq (fun he => ?_) (fun hne => ?_)
    · refine ⟨fun q hq hlt' hq0 => ?_, hst⟩
      by_cases e : q = i
      · subst e; exact absurd (by exact Int.ofNat.inj he) hq0
      · exact hok q hq (by omega) hq0
    · have hne0 : od[i] ≠ 0 := fun e => hne (by rw [e]; rfl)
      have hT := hst.2.2.2.1
      refine derefP_some rfl ⟨_, hT.t.cell0 rfl, ?_⟩
      have hg2 : IsG w2 gb nx := hG.below (hB ▸ hst.1)
      refine Ahead_spec hx hg2 fun r w3 a1 a2 a3 => ⟨r, rfl, ?_⟩
      rw [rowAt_nat] at a1
      have hst3 := grow hst a3
      clear a3 hT
      obtain ⟨ah, hah⟩ : ∃ ah, ah = (aheadOf nx).getD od[i] [] := ⟨_, rfl⟩
      have hahn : ∀ p ∈ ah, p < nx.length := fun p hp => by
        rw [hah] at hp
        have := (edge_iff hx).1 hp
        by_cases hpn : p < nx.length
        · exact hpn
        · simp [List.getD, hpn] at this
      have hahl := ahead_le nx od[i]
      rw [← hah] at a1 hahl
      have hrl := own_len a1
      refine LoopW.ghost (fun g st w' => ∃ m : Nat, ∃ o : Int, m ≤ ah.length ∧ g = ah.length - m ∧ st = (o, (m : Int), ()) ∧ Fo ov (ah.take m) o ∧ St ov w' ∧ Own w' 3 1 r (ah.map iN)) ah.length
        ⟨0, -1, by omega, rfl, rfl, .inl ⟨rfl, by simp⟩, hst3, a1⟩ ?_
      rintro _ _ w4 ⟨m, o, hm, rfl, rfl, hF, hst, a1⟩ nxt hnxt
      have hT := hst.2.2.2.1
      refine ifB_dec (fun hltm => ?_) (fun hgem => ?_)
      · have hltm : m < ah.length := by dsimp only at hltm; omega
        have etk : ah.take (m + 1) = ah.take m ++ [ah[m]] := List.take_succ_eq_append_getElem hltm
        have hpn := hahn _ (List.getElem_mem hltm)
        refine JoinW.cut (fun st w' => ∃ o' : Int, st = (o', ()) ∧ Fo ov (ah.take (m + 1)) o' ∧ St ov w' ∧ Own w' 3 1 r (ah.map iN)) ?_ ?_
        · refine elemI a1.isS.toI (k := m) (by simpa using hltm) ?_
          rw [List.getElem_map]
          refine JoinW.cut (fun _ w' => w' = w4 ∧ PR ov ah[m]) ?_ ?_
          · refine ifB_bne (fun hne => ?_) (fun he => ⟨rfl, .inl (Int.ofNat.inj he)⟩)
            refine hT.getO hpn (ifB_beq (fun he => ?_) fun hne' => ⟨rfl, .inr fun e => hne' (ovI_none.2 e)⟩)
            refine ⟨o, rfl, ?_, hst, a1⟩
            rw [etk]
            refine hF.skip fun hp => ?_
            rcases hp with hp | hp
            · exact hne (by rw [hp]; rfl)
            · exact hp (ovI_none.1 he)
          · rintro _ _ ⟨rfl, hp⟩
            refine ifB_beq (fun he => ⟨_, rfl, ?_, hst, a1⟩) (fun hne => ?_)
            · rw [etk]
              dsimp only at he
              exact (he ▸ hF).first hp
            · rcases hF with ⟨e, _⟩ | ⟨mm, rfl, hF1, hF2, hF3⟩
              · exact absurd e hne
              · refine meet_spec t hpo hod hT hF1 hp fun c w5 hb5 hc hce => ⟨_, rfl, _, rfl, ?_, grow hst hb5, a1.below hb5⟩
                rw [etk]
                exact Fo.more (.inr ⟨mm, rfl, hF1, hF2, hF3⟩) hp hc hce
        · rintro _ w7 ⟨o', rfl, hF', hst', a1'⟩
          dsimp only
          rw [wrap64_succ (by omega)]
          exact hnxt (ah.length - (m + 1)) _ _ (by omega) ⟨m + 1, o', by omega, rfl, rfl, hF', hst', a1'⟩
      · have : m = ah.length := by dsimp only at hgem; omega
        subst this
        rw [List.take_length] at hF
        -- the nodes ahead, settled, have come together
        have hpre : ∀ k (hk : k < i), PR ov od[k] := fun k hk => by
          by_cases e : od[k] = 0
          · exact .inl e
          · obtain ⟨c, hc, _⟩ := hok k (by omega) hk e
            exact .inr (by rw [hc]; simp)
        have hi0 : 0 < i := by
          obtain ⟨l, hl⟩ := ok.head
          rcases Nat.eq_zero_or_pos i with e | e
          · subst e; exact absurd (by simp [hl]) hne0
          · exact e
        obtain ⟨q, hq, hqe⟩ := ok.par i hlt hi0
        have hedge : ∀ p, p ∈ ah ↔ Ed nx p od[i] := fun p => by rw [hah]; exact edge_iff hx
        rcases hF with ⟨_, hF⟩ | ⟨mm, rfl, hF1, _, hF3⟩
        · exact absurd (hpre q hq) (hF _ ((hedge _).2 hqe))
        have hM : IsMeet ov (fun p => Ed nx p od[i] ∧ PR ov p) mm := fun e => by
          rw [hF3 e]
          exact ⟨fun hh p hp => hh p ⟨(hedge p).2 hp.1, hp.2⟩, fun hh p hp => hh p ⟨(hedge p).1 hp.1, hp.2⟩⟩
        have hin : od[i] < nx.length := hod _ (List.getElem_mem hlt)
        dsimp only
        refine hT.getO hin (ifB_bne (fun hne' => ?_) (fun he => ?_))
        · refine hT.putO hin ?_
          have hne2 : ov od[i] ≠ some mm := fun e => hne' (by rw [e]; rfl)
          obtain ⟨j', hj', hs'⟩ := hs.next ok hlt hne0 (fun k hk h0 => hok k (by omega) hk h0) hM hF1 hne2
          refine hnextR j' _ _ hj' ⟨_, hs', ?_⟩
          obtain ⟨g1, g2, g3, g4, g5⟩ := hst
          refine ⟨g1.setCell (by rw [add_block]; exact hob) _, by simpa [World.setCell] using g2, fun k hk hne => (heap_set_other hne _ _).trans (g3 k hk hne), (g4.setO od[i] mm).of_o fun j _ => ovI_pt ov od[i] mm j, g5.of_block fun a ha => heap_set_other (hp2 a ha) _ _⟩
        · refine ⟨fun q hq hlt' hq0 => ?_, hst⟩
          by_cases e : q = i
          · subst e
            refine ⟨mm, ?_, hM⟩
            cases e : ov od[q] with
            | none => rw [e] at he; have he : (mm : Int) = -1 := he; omega
            | some y => rw [e] at he; have he : (mm : Int) = (y : Int) := he; rw [show y = mm by omega]
          · exact hok q hq (by omega) hq0
  · have : i = od.length := by dsimp only at hge; omega
    subst this
    obtain ⟨g1, g2, g3, g4, g5⟩ := hst
    have hall : ∀ x ∈ od, x ≠ 0 → ∃ c, ov x = some c ∧ IsMeet ov (fun p => Ed nx p x ∧ PR ov p) c := fun x hx h0 => by
      obtain ⟨q, hq, rfl⟩ := List.mem_iff_getElem.1 hx
      exact hok q hq hq h0
    refine hR w2 ov g1 g2 g3 g4 ⟨t, hs.di, fun x => ⟨hpo x, fun hx => ?_⟩, fun x c hc => ?_⟩
    · by_cases e : x = 0
      · exact .inl e
      · obtain ⟨c, hc, _⟩ := hall x hx e
        exact .inr (by rw [hc]; simp)
    · have hx0 : x ≠ 0 := by rintro rfl; rw [t.root] at hc; cases hc
      obtain ⟨c', hc', hm⟩ := hall x (hpo x (.inr (by rw [hc]; simp))) hx0
      rw [hc] at hc'
      cases hc'
      exact hm

end Go.Proofs

/-!
  dom.New.
-/
namespace Go.Proofs
open Go.Gk Go.RowKit Go.Gr Go.Dm

/-- What the literal's parts have made so far, in whatever order. -/
structure Rs (w1 w : World) (n : Nat) (us rs : List Nat) (rb : Option Nat) : Prop where
  below : Below w1.heap.size w1 w
  a : ∀ b ∈ us, Blk w b 3 [.int .i64 (-1)]
  r : ∀ b ∈ rs, Blk w b 3 (List.replicate n (.int .i64 (-1))) ∧ w1.heap.size ≤ b
  nd : rs.Nodup
  m : ∀ b, rb = some b → Blk w b 3 (List.replicate n (.int .i64 0)) ∧ w1.heap.size ≤ b ∧ b ∉ rs
section
variable {w1 w w' : World} {n : Nat} {us rs : List Nat} {rb : Option Nat}
theorem Rs.grow (h : Rs w1 w n us rs rb) (hb : Below w.heap.size w w') : Rs w1 w' n us rs rb :=
  ⟨h.below.trans (hb.mono h.below.size), fun b hm => (h.a b hm).below hb, fun b hm => ⟨(h.r b hm).1.below hb, (h.r b hm).2⟩, h.nd, fun b e => ⟨(h.m b e).1.below hb, (h.m b e).2⟩⟩
theorem Rs.stepA (h : Rs w1 w n us rs rb) {K : World → Prop} (hK : ∀ w', Rs w1 w' n (w.heap.size :: us) rs rb → K w') : Nw (w.alloc (.cells #[(.int .i64 (-1 : Int))] 3)) K := by
  refine Nw.mk (hK _ ?_)
  have g := h.grow (w' := w.alloc (.cells #[(.int .i64 (-1 : Int))] 3)) ((Below.refl _ _).alloc (Nat.le_refl _) _)
  refine ⟨g.below, fun b hb => ?_, g.r, g.nd, g.m⟩
  rcases List.mem_cons.1 hb with rfl | hb
  · exact Blk.new w 3 #[_]
  · exact g.a b hb
theorem Rs.stepR (h : Rs w1 w n us rs rb) (hn : n ≤ 4096) (hn1 : 1 ≤ n) {b : Nat} (hb : b ∈ us) {K : Sl → World → Prop} (hK : ∀ r w', Rs w1 w' n us (r :: rs) rb → K ⟨some (Gk.blk r), n, n⟩ w') :
    callR Try.prog 134 #[.slice (some (Gk.blk b)) 1 1, .int .i64 (n : Int)] w fun v w' => ∃ x : Sl, v = .slice x.a x.l x.c ∧ K x w' := by
  refine Repeat_spec hn hn1 (h.a b hb) fun r w' hr hf hbw => ⟨⟨some (Gk.blk r), n, n⟩, rfl, hK r w' ?_⟩
  have g := h.grow hbw
  refine ⟨g.below, g.a, fun b hb => ?_, List.nodup_cons.2 ⟨fun hm => ?_, g.nd⟩, fun b e => ⟨(g.m b e).1, (g.m b e).2.1, fun hm => ?_⟩⟩
  · rcases List.mem_cons.1 hb with rfl | hb
    · exact ⟨hr, by have := h.below.size; omega⟩
    · exact g.r b hb
  · have := (h.r r hm).1.lt; omega
  · rcases List.mem_cons.1 hm with rfl | hm
    · have := (h.m b e).1.lt; omega
    · exact (g.m b e).2.2 hm
theorem Rs.stepM (h : Rs w1 w n us rs none) (hn : n ≤ 4096) {K : World → Prop} (hK : ∀ w', Rs w1 w' n us rs (some w.heap.size) → K w') :
    (0 ≤ (n : Int) ∧ (n : Int) ≤ (n : Int) ∧ (8 : Int) * (n : Int) ≤ 281474976710656 ∧ (n : Int) ≤ 9223372036854775807) ∧ Nw (w.alloc (.cells (madeCells #[(.int .i64 (0 : Int))] ((Int.toNat (n : Int)) * 1)) 3)) K := by
  refine ⟨⟨by omega, by omega, by omega, by omega⟩, Nw.mk (hK _ ?_)⟩
  have g := h.grow (w' := w.alloc (.cells (madeCells #[(.int .i64 (0 : Int))] ((Int.toNat (n : Int)) * 1)) 3)) ((Below.refl _ _).alloc (Nat.le_refl _) _)
  refine ⟨g.below, g.a, g.r, g.nd, fun b e => ?_⟩
  cases e
  exact ⟨Blk.made w 3 (.int .i64 0) n, h.below.size, fun hm => by have := (h.r _ hm).1.lt; omega⟩
/-- The tree has been made. -/
def Mt (w1 : World) (n gb : Nat) (p : Option Addr) (w' : World) : Prop :=
  ∃ tb ob db rb, p = some (Gk.blk tb) ∧ w1.heap.size ≤ ob ∧ w1.heap.size ≤ db ∧ w1.heap.size ≤ rb ∧ TB w' tb gb ob db rb n (fun _ => -1) (fun _ => -1) (fun _ => 0) ∧ Below w1.heap.size w1 w' ∧ ob < tb
theorem Rs.stepF {b : Nat} (h : Rs w1 w n us rs (some b)) {gb : Nat} {r1 r2 : Nat} (h1 : r1 ∈ rs) (h2 : r2 ∈ rs) (hne : r1 ≠ r2) :
    Nw (w.alloc (.cells #[(.pointer (some (Gk.blk gb))), (.slice (some (Gk.blk r1)) n n), (.slice (some (Gk.blk r2)) n n), (.slice (some (Gk.blk b)) (Int.toNat (n : Int)) (Int.toNat (n : Int)))] 129)) fun w7 => Mt w1 n gb (some (Gk.blk w.heap.size)) w7 := by
  refine Nw.mk ?_
  have hb : Below w.heap.size w (w.alloc (.cells #[(.pointer (some (Gk.blk gb))), (.slice (some (Gk.blk r1)) n n), (.slice (some (Gk.blk r2)) n n), (.slice (some (Gk.blk b)) (Int.toNat (n : Int)) (Int.toNat (n : Int)))] 129)) := (Below.refl _ _).alloc (Nat.le_refl _) _
  have g := h.grow hb
  obtain ⟨m1, m2, m3⟩ := g.m b rfl
  refine ⟨w.heap.size, r1, r2, b, rfl, (g.r r1 h1).2, (g.r r2 h2).2, m2, ⟨Blk.new w 129 #[_, _, _, _], ?_, ?_, ?_, hne, fun e => m3 (e ▸ h1), fun e => m3 (e ▸ h2)⟩, g.below, (h.r r1 h1).1.lt⟩
  · rw [natL_const]; exact (g.r r1 h1).1
  · rw [natL_const]; exact (g.r r2 h2).1
  · rw [natL_const]; exact m1
end

/-- The depths that New tells. -/
structure DpOk (od : List Nat) (ov : Nat → Option Nat) (dp : Nat → Int) : Prop where
  mem : ∀ x ∈ od, 0 ≤ dp x ∧ dp x ≤ (rkOf od x : Int)
  out : ∀ x, x ∉ od → dp x = -1
  root : ∀ x ∈ od, ov x = none → dp x = 0
  up : ∀ x ∈ od, ∀ y, ov x = some y → dp x = dp y + 1
/-- A tree that New has made. -/
def IsD (w : World) (tb : Nat) (nx : List (List Nat)) (ov : Nat → Option Nat) (dp : Nat → Int) : Prop :=
  ∃ gb ob db rb, TB w tb gb ob db rb nx.length (fun i => ovI (ov i)) dp (rkI (orderOf nx)) ∧ IsG w gb nx
theorem IsD.below {w w' : World} {tb : Nat} {nx : List (List Nat)} {ov : Nat → Option Nat} {dp : Nat → Int} (h : IsD w tb nx ov dp) (hb : Below w.heap.size w w') : IsD w' tb nx ov dp :=
  let ⟨gb, ob, db, rb, h1, h2⟩ := h
  ⟨gb, ob, db, rb, h1.below hb, h2.below hb⟩

theorem odOk {nx : List (List Nat)} (hx : NxOk nx) : OdOk nx (orderOf nx) := ⟨hx.walkOk.ohead, hx.walkOk.nodup, hx.walkOk.opar⟩
theorem od_lt {nx : List (List Nat)} (hx : NxOk nx) : ∀ x ∈ orderOf nx, x < nx.length := fun x h => hx.came.lt x ((hx.walkOk.mem x).1 h)

set_option maxHeartbeats 8000000 in
theorem New_specG {nx : List (List Nat)} (hx : NxOk nx) {gb : Nat} {w : World} {R : Value → World → Prop} (hG : IsG w gb nx)
    (hR : ∀ w' tb ov dp, Below w.heap.size w w' → (∃ ob db rb, TB w' tb gb ob db rb nx.length (fun i => ovI (ov i)) dp (rkI (orderOf nx))) → Settled nx (orderOf nx) ov → DpOk (orderOf nx) ov dp → R (.tuple #[.pointer (some (Gk.blk tb)), .int .i64 0]) w') :
    callR Try.prog 87 #[.pointer (some (Gk.blk gb))] w R := by
  refine callR.of (dom_New_calls _ R w ?_) fun _ _ h => h
  unfold L_dom_New
  have hm := hx.max
  have hp := hx.pos
  refine ifB_false rfl (gLen_spec hG ⟨_, rfl, ?_⟩)
  refine JoinW.cut (fun s w' => Mt w nx.length gb s.1 w') ?_ ?_
  · have h0 : Rs w w.drew nx.length [] [] none := ⟨(Below.refl _ _).drew, fun _ h => (by cases h), fun _ h => (by cases h), List.nodup_nil, fun _ h => (by cases h)⟩
    repeat' first
      | exact Rs.stepF (by assumption) (by simp) (by simp) (by
          have := Rs.nd (by assumption)
          simp at this
          first | exact this | exact fun e => this e.symm)
      | refine Rs.stepM (by assumption) hm fun w' h => ?_
      | refine Rs.stepR (by assumption) hm hp (by simp) fun r w' h => ?_
      | refine Rs.stepA (by assumption) fun w' h => ?_
      | refine And.intro ?_ ?_
  · rintro ⟨p, _⟩ w69 ⟨tb, ob, db, rb, hpe, hob, hdb, hrb, hT, hb69, hobt⟩
    dsimp only at hpe
    subst hpe
    obtain ⟨od, hod⟩ : ∃ od, od = orderOf nx := ⟨_, rfl⟩
    have ok : OdOk nx od := hod ▸ odOk hx
    have hlt : ∀ x ∈ od, x < nx.length := hod ▸ od_lt hx
    have hodl : od.length ≤ nx.length := nodup_le ok.nodup hlt
    refine Order_spec hx (hG.below hb69) fun r w70 o1 o2 o3 => ⟨r, rfl, ?_⟩
    rw [← hod] at o1 hR
    have hrl := own_len o1
    have hT70 := hT.below o3
    have hb70 : Below w.heap.size w w70 := hb69.trans (o3.mono hb69.size)
    have hrb' : ∀ a, r.a = some a → a.block ≠ ob ∧ a.block ≠ db ∧ a.block ≠ rb := fun a ha => by
      have h1 := o2 a ha
      have h2 := hT.o.lt
      have h3 := hT.d.lt
      have h4 := hT.r.lt
      exact ⟨by omega, by omega, by omega⟩
    refine LoopW.count od.length (by omega) (fun k w' => Below w.heap.size w w' ∧ TB w' tb gb ob db rb nx.length (fun _ => -1) (fun _ => -1) (fun i => if i ∈ od.take k then (rkOf od i : Int) else 0) ∧ Own w' 3 1 r (od.map iN)) ⟨hb70, ?_, o1⟩ ?_
    · refine ⟨hT70.t, hT70.o, hT70.d, ?_, hT70.ne⟩
      rw [natL_congr (g := fun _ => 0) (fun i _ => by simp)]
      exact hT70.r
    rintro k w71 hk ⟨hb71, hT71, ho71⟩ next hnext
    refine ifB_dec (fun hltk => ?_) (fun hgek => ?_)
    · have hltk : k < od.length := by dsimp only at hltk; omega
      have hkn := hlt _ (List.getElem_mem hltk)
      refine elemI ho71.isS.toI (k := k) (by simpa using hltk) ?_
      rw [List.getElem_map]
      refine hT71.putR hkn (hnext _ hltk ⟨hb71.setCell (by rw [add_block]; exact hrb) _, ?_, ho71.of_block fun a ha => heap_set_other (hrb' a ha).2.2 _ _⟩)
      have g := hT71.setR od[k] (k : Int)
      refine ⟨g.t, g.o, g.d, ?_, g.ne⟩
      rw [natL_congr (g := fun j => if j = od[k] then (k : Int) else if j ∈ od.take k then (rkOf od j : Int) else 0) (fun j _ => ?_)]
      · exact g.r
      · have hmem : j ∈ od.take (k + 1) ↔ j ∈ od.take k ∨ j = od[k] := by
          rw [List.take_succ_eq_append_getElem hltk, List.mem_append, List.mem_singleton]
        by_cases e : j = od[k]
        · rw [if_pos (hmem.2 (.inr e)), if_pos e, e, rkOf_get ok.nodup hltk]
        · rw [if_neg e]
          by_cases e2 : j ∈ od.take k
          · rw [if_pos (hmem.2 (.inl e2)), if_pos e2]
          · rw [if_neg (fun h => (hmem.1 h).elim e2 e), if_neg e2]
    · have hkk : k = od.length := by dsimp only at hgek; omega
      subst hkk
      have hT71' : TB w71 tb gb ob db rb nx.length (fun _ => -1) (fun _ => -1) (rkI od) := by
        refine ⟨hT71.t, hT71.o, hT71.d, ?_, hT71.ne⟩
        rw [natL_congr (g := fun i => if i ∈ od.take od.length then (rkOf od i : Int) else 0) (fun j _ => by rw [List.take_length]; rfl)]
        exact hT71.r
      refine settle_spec hx ok hlt hG rfl hob hb71 hT71' ho71 (fun a ha => (hrb' a ha).1) fun w73 ov hb73 hz73 hf73 hT73 hS => ⟨rfl, ?_⟩
      have ho73 : Own w73 3 1 r (od.map iN) := ho71.of_block fun a ha => hf73 _ (ho71.lt ha).2 (hrb' a ha).1
      have t := hS.tr
      refine LoopW.count od.length (by omega) (fun k w' => Below w.heap.size w w' ∧ Own w' 3 1 r (od.map iN) ∧ ∃ dp, TB w' tb gb ob db rb nx.length (fun i => ovI (ov i)) dp (rkI od) ∧
          (∀ q (hq : q < od.length), q < k → 0 ≤ dp od[q] ∧ dp od[q] ≤ (q : Int) ∧ (ov od[q] = none → dp od[q] = 0) ∧ ∀ y, ov od[q] = some y → dp od[q] = dp y + 1) ∧ ∀ x, x ∉ od → dp x = -1)
        ⟨hb73, ho73, _, hT73, fun q hq h => absurd h (by omega), fun _ _ => rfl⟩ ?_
      rintro k w74 hk ⟨hb74, ho74, dp, hT74, hD, hout⟩ next2 hnext2
      refine ifB_dec (fun hltk => ?_) (fun hgek => ?_)
      · have hltk : k < od.length := by dsimp only at hltk; omega
        have hkn := hlt _ (List.getElem_mem hltk)
        refine JoinW.cut (fun _ w' => Below w.heap.size w w' ∧ Own w' 3 1 r (od.map iN) ∧ ∃ dp, TB w' tb gb ob db rb nx.length (fun i => ovI (ov i)) dp (rkI od) ∧
          (∀ q (hq : q < od.length), q < k + 1 → 0 ≤ dp od[q] ∧ dp od[q] ≤ (q : Int) ∧ (ov od[q] = none → dp od[q] = 0) ∧ ∀ y, ov od[q] = some y → dp od[q] = dp y + 1) ∧ ∀ x, x ∉ od → dp x = -1) ?_ fun _ w' hh => hnext2 w' hltk hh
        refine elemI ho74.isS.toI (k := k) (by simpa using hltk) ?_
        rw [List.getElem_map]
        refine hT74.putD hkn ?_
        have hT75 := hT74.setD od[k] 0
        have hb75 : Below w.heap.size w (w74.setCell ((Gk.blk db).add od[k]) (.int .i64 0)) := hb74.setCell (by rw [add_block]; exact hdb) _
        have ho75 : Own (w74.setCell ((Gk.blk db).add od[k]) (.int .i64 0)) 3 1 r (od.map iN) := ho74.of_block fun a ha => heap_set_other (hrb' a ha).2.1 _ _
        generalize w74.setCell ((Gk.blk db).add od[k]) (.int .i64 0) = w75 at hT75 hb75 ho75
        have hneq : ∀ q (hq : q < od.length), q ≠ k → od[q] ≠ od[k] := fun q hq hne e => hne (by
          have h1 := rkOf_get ok.nodup hq
          have h2 := rkOf_get ok.nodup hltk
          rw [e, h2] at h1
          exact h1.symm)
        have hbef : ∀ {q y}, (hq : q < od.length) → q ≤ k → ov od[q] = some y → ∃ q' : Nat, ∃ h : q' < od.length, q' < q ∧ od[q'] = y := fun {q y} hq _ hy => by
          obtain ⟨h1, h2⟩ := t.up _ _ hy
          have hm2 := (hS.pr y).1 h2
          have h3 := List.idxOf_lt_length_of_mem hm2
          refine ⟨od.idxOf y, h3, ?_, List.getElem_idxOf h3⟩
          have := rkOf_get ok.nodup hq
          rw [this] at h1
          exact h1
        refine hT75.getO hkn (ifB_bne (fun hne => ?_) (fun he => ?_))
        · obtain ⟨y, hy⟩ : ∃ y, ov od[k] = some y := by
            cases e : ov od[k] with
            | none => exact absurd (ovI_none.2 e) hne
            | some y => exact ⟨y, rfl⟩
          obtain ⟨q', hq'l, hq'k, hq'y⟩ := hbef hltk (Nat.le_refl _) hy
          have hyn : y < nx.length := hq'y ▸ hlt _ (List.getElem_mem hq'l)
          have hyk : y ≠ od[k] := hq'y ▸ hneq q' hq'l (by omega)
          have hT76 := hT75.below (w' := w75.drew) (Below.refl _ _).drew
          refine derefP_some rfl ⟨⟨_, nx.length, nx.length⟩, hT76.t.cell (n := 2) rfl, derefP_some rfl ⟨⟨_, nx.length, nx.length⟩, hT76.t.cell (n := 2) rfl, hT76.getO hkn ?_⟩⟩
          rw [hy]
          refine ⟨⟨by simp [ovI], by simpa [ovI] using hyn⟩, derefP_some rfl ⟨_, hT76.d.cell (natL_get hyn), ⟨⟨by omega, by first | omega | (dsimp only; omega)⟩, derefP_some rfl ⟨hT76.d.wr (by simpa [natL] using hkn), Nw.mk ?_⟩⟩⟩⟩
          have hv := hD q' hq'l hq'k
          rw [hq'y] at hv
          rw [show Int.toNat (ovI (some y)) = y from rfl, if_neg hyk, wrap64_in (by omega) (by omega)]
          refine ⟨hb75.drew.setCell (by rw [add_block]; exact hdb) _, ho75.drew.of_block fun a ha => heap_set_other (hrb' a ha).2.1 _ _, _, hT76.setD od[k] (dp y + 1), fun q hq hqk => ?_, fun x hx => ?_⟩
          · by_cases e : q = k
            · subst e
              simp only [if_true]
              refine ⟨by omega, by omega, fun e => (by rw [hy] at e; cases e), fun y' hy' => ?_⟩
              rw [hy] at hy'
              cases hy'
              simp [hyk]
            · have h1 := hD q hq (by omega)
              have h2 := hneq q hq e
              simp only [h2, if_false]
              refine ⟨h1.1, h1.2.1, h1.2.2.1, fun y' hy' => ?_⟩
              obtain ⟨q2, hq2l, hq2k, hq2y⟩ := hbef hq (by omega) hy'
              have : y' ≠ od[k] := hq2y ▸ hneq q2 hq2l (by omega)
              simp only [this, if_false]
              exact h1.2.2.2 y' hy'
          · have : x ≠ od[k] := fun e => hx (e ▸ List.getElem_mem hltk)
            simp only [this, if_false]
            exact hout x hx
        · have hnone : ov od[k] = none := ovI_none.1 he
          refine ⟨hb75, ho75, _, hT75, fun q hq hqk => ?_, fun x hx => ?_⟩
          · by_cases e : q = k
            · subst e
              simp only [if_true]
              exact ⟨by omega, by omega, fun _ => trivial, fun y' hy' => by rw [hnone] at hy'; cases hy'⟩
            · have h1 := hD q hq (by omega)
              have h2 := hneq q hq e
              simp only [h2, if_false]
              refine ⟨h1.1, h1.2.1, h1.2.2.1, fun y' hy' => ?_⟩
              obtain ⟨q2, hq2l, hq2k, hq2y⟩ := hbef hq (by omega) hy'
              have : y' ≠ od[k] := hq2y ▸ hneq q2 hq2l (by omega)
              simp only [this, if_false]
              exact h1.2.2.2 y' hy'
          · have : x ≠ od[k] := fun e => hx (e ▸ List.getElem_mem hltk)
            simp only [this, if_false]
            exact hout x hx
      · have hkk : k = od.length := by dsimp only at hgek; omega
        subst hkk
        have hget : ∀ x ∈ od, ∃ q : Nat, ∃ h : q < od.length, od[q] = x ∧ rkOf od x = q := fun x hxm => by
          obtain ⟨q, hq, e⟩ := List.mem_iff_getElem.1 hxm
          exact ⟨q, hq, e, e ▸ rkOf_get ok.nodup hq⟩
        refine hR w74 tb ov dp hb74 ⟨ob, db, rb, hod ▸ hT74⟩ hS ⟨fun x hxm => ?_, hout, fun x hxm hn => ?_, fun x hxm y hy => ?_⟩
        · obtain ⟨q, hq, rfl, e⟩ := hget x hxm
          have := hD q hq hq
          rw [e]
          exact ⟨this.1, this.2.1⟩
        · obtain ⟨q, hq, rfl, e⟩ := hget x hxm
          exact (hD q hq hq).2.2.1 hn
        · obtain ⟨q, hq, rfl, e⟩ := hget x hxm
          exact (hD q hq hq).2.2.2 y hy

theorem New_spec {nx : List (List Nat)} (hx : NxOk nx) {gb : Nat} {w : World} {R : Value → World → Prop} (hG : IsG w gb nx)
    (hR : ∀ w' tb ov dp, Below w.heap.size w w' → IsD w' tb nx ov dp → Settled nx (orderOf nx) ov → DpOk (orderOf nx) ov dp → R (.tuple #[.pointer (some (Gk.blk tb)), .int .i64 0]) w') :
    callR Try.prog 87 #[.pointer (some (Gk.blk gb))] w R :=
  New_specG hx hG fun w' tb ov dp hb ⟨ob, db, rb, hT⟩ hS hD => hR w' tb ov dp hb ⟨gb, ob, db, rb, hT, hG.below hb⟩ hS hD

end Go.Proofs
