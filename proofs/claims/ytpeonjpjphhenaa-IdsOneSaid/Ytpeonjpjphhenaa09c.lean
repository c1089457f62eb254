/-
  ids: Check, the program's and the document's, and the law.
-/
import Derived.Test.YtpeonjpjphhenaaL09c
import Derived.Test.Ytpeonjpjphhenaa09n
import Derived.Test.Ytpeonjpjphhenaa05v
import Derived.Test.Ytpeonjpjphhenaa05r
namespace Go.Proofs
open Go.Gk Go.RowKit Go.Gm

/-! ### Plain -/
theorem makerI_iff {pl : List PI} {id : Int} {n : Nat} : 0 ≤ makerI pl id n ↔ ∃ k, k < n ∧ mk1 pl id k = true := by
  unfold makerI
  constructor
  · intro h
    cases e : (List.range n).find? (mk1 pl id) with
    | none => rw [e] at h; exact absurd h (by decide)
    | some k => exact ⟨k, List.mem_range.1 (List.mem_of_find?_eq_some e), List.find?_some e⟩
  · rintro ⟨k, h1, h2⟩
    cases e : (List.range n).find? (mk1 pl id) with
    | none =>
      rw [List.find?_eq_none] at e
      exact absurd h2 (e k (List.mem_range.2 h1))
    | some k => exact Int.natCast_nonneg k
theorem makerI_ge (pl : List PI) (id : Int) (n : Nat) : -1 ≤ makerI pl id n := by
  unfold makerI
  split <;> omega
theorem mk1_zero (pl : List PI) (k : Nat) : mk1 pl 0 k = false := by unfold mk1; simp
theorem MkOk.lt {L : List (Int × Int)} {pl : List PI} (h : MkOk L pl 0) {id v : Int} (hv : lookL L id = some v) (n : Nat) : v < n ↔ 0 ≤ makerI pl id n := by
  obtain ⟨j, rfl, _, q3, q4, q5⟩ := (h id).2 v hv
  rw [makerI_iff]
  constructor
  · intro hh
    exact ⟨j, by omega, q4⟩
  · rintro ⟨k, h1, h2⟩
    rcases Nat.lt_or_ge k j with g | g
    · rw [q5 k (Nat.zero_le _) g] at h2; cases h2
    · omega
theorem MkOk.none {L : List (Int × Int)} {pl : List PI} (h : MkOk L pl 0) {id : Int} (hv : lookL L id = none) : makerI pl id pl.length < 0 := by
  rcases Int.lt_or_le (makerI pl id pl.length) 0 with g | g
  · exact g
  · obtain ⟨k, h1, h2⟩ := makerI_iff.1 g
    rw [(h id).1 hv k (Nat.zero_le _) h1] at h2
    cases h2
theorem MkOk.some {L : List (Int × Int)} {pl : List PI} (h : MkOk L pl 0) {id v : Int} (hv : lookL L id = some v) : 0 ≤ makerI pl id pl.length := by
  obtain ⟨j, _, _, q3, q4, _⟩ := (h id).2 v hv
  exact makerI_iff.2 ⟨j, q3, q4⟩
def idsAt (pl : List PI) (n : Nat) : List Int := idsP (ix pl n).2.1 (ix pl n).2.2.2
def fltP (pl : List PI) (n : Nat) : Int :=
  if 0 ≤ makerI pl (ix pl n).2.2.1 n then 90
  else if (idsAt pl n).any (fun id => decide (makerI pl id pl.length < 0)) = true then 91
  else if partP (ix pl n) = 7 ∧ (idsAt pl n).any (fun id => decide (makerI pl id n < 0)) = true then 92 else 0
def chk9P (bound : Int) (pl : List PI) : Int × Nat := if (layP bound pl).1 ≠ 0 then layP bound pl else match (List.range pl.length).find? (fun k => fltP pl k != 0) with
  | some k => (fltP pl k, k)
  | none => (0, 0)
theorem chk9_lay {bound : Int} {pl : List PI} (h : (layP bound pl).1 ≠ 0) : chk9P bound pl = layP bound pl := if_pos h
theorem chk9_bad {bound : Int} {pl : List PI} (h : ¬ (layP bound pl).1 ≠ 0) {n : Nat} (hn : n < pl.length) (hj : ∀ j, j < n → fltP pl j = 0) (hf : fltP pl n ≠ 0) : chk9P bound pl = (fltP pl n, n) := by
  unfold chk9P
  rw [if_neg h, find_first hn (by rw [bne_iff_ne.2 hf]) fun j hj' => by rw [hj j hj']; rfl]
theorem chk9_good {bound : Int} {pl : List PI} (h : ¬ (layP bound pl).1 ≠ 0) (hj : ∀ j, j < pl.length → fltP pl j = 0) : chk9P bound pl = (0, 0) := by
  unfold chk9P
  have : (List.range pl.length).find? (fun k => fltP pl k != 0) = none := by
    rw [List.find?_eq_none]
    intro j hj'
    rw [hj j (List.mem_range.1 hj')]
    simp
  rw [if_neg h, this]
theorem any_lt {α : Type} {l : List α} {p : α → Bool} {k : Nat} (hk : k < l.length) (h : p l[k] = true) : l.any p = true := List.any_eq_true.2 ⟨l[k], List.getElem_mem hk, h⟩
theorem any_none {α : Type} {l : List α} {p : α → Bool} (h : ∀ k (hk : k < l.length), p l[k] = false) : l.any p = false := by
  cases e : l.any p
  · rfl
  · obtain ⟨x, h1, h2⟩ := List.any_eq_true.1 e
    obtain ⟨k, hk, rfl⟩ := List.mem_iff_getElem.1 h1
    rw [h k hk] at h2
    cases h2

section
variable {x : Mo} {pl : List PI} {w : World} {R : Value → World → Prop}
theorem rMakerN_spec {s : Sl} {id : Int} {n : Nat} (hN : IsPl w s pl) (hn : n ≤ pl.length) (hR : R (.int .i64 (makerI pl id n)) w) : callR Try.prog 70 #[.slice s.a s.l s.c, .int .u32 id, .int .i64 (n : Int)] w R := by
  refine callR.of (intaglioref09_Maker_calls s id n R w ?_) fun _ _ h => h
  have hlen := hN.len
  have hbd := hN.bound
  refine LoopW.count n (by omega) (fun k w' => w' = w ∧ ∀ j, j < k → mk1 pl id j = false) ⟨rfl, fun j hj => by omega⟩ ?_
  rintro k w1 hk ⟨hw, hj⟩ next hnext
  subst hw
  refine ifB_dec (fun h => ?_) (fun h => ?_)
  · have hkn : k < n := by dsimp only at h; omega
    have hlt : k < pl.length := by omega
    have hm : mk1 pl id k = (pl[k].2.2.1 == id && id != 0) := by unfold mk1; rw [getD_lt hlt]
    refine JoinW.cut (fun _ w' => w' = w1 ∧ mk1 pl id k = false) ?_ ?_
    · refine elemPr hN hlt (ifB_beq (fun e1 => ?_) (fun e1 => ⟨rfl, by rw [hm, beq_eq_false_iff_ne.2 e1, Bool.false_and]⟩))
      refine ifB_bne (fun e2 => ?_) (fun e2 => ⟨rfl, by rw [hm, e2]; simp⟩)
      have : makerI pl id n = (k : Int) := by
        unfold makerI
        rw [find_first hkn (by rw [hm, beq_iff_eq.2 e1, bne_iff_ne.2 e2]; rfl) hj]
      rwa [this] at hR
    · rintro _ w2 ⟨hw, hno⟩
      refine hnext w2 hkn ⟨hw, fun j hj' => ?_⟩
      by_cases e : j = k
      · subst e; exact hno
      · exact hj j (by omega)
  · have hk' : k = n := by dsimp only at h; omega
    have : makerI pl id n = -1 := by
      unfold makerI
      have : (List.range n).find? (mk1 pl id) = none := by
        rw [List.find?_eq_none]
        intro j hj'
        rw [hj j (by rw [hk']; exact List.mem_range.1 hj')]
        simp
      rw [this]
    rwa [this] at hR
theorem r9Fault_spec {s : Sl} {n : Nat} (hN : IsPl w s pl) (hp : PlOk pl) (hn : n < pl.length) (hR : ∀ w', Below w.heap.size w w' → R (.int .i64 (fltP pl n)) w') :
    callR Try.prog 41 #[.slice s.a s.l s.c, .int .i64 (n : Int)] w R := by
  refine callR.of (intaglioref09_Fault_calls s n R w ?_) fun _ _ h => h
  have hlen := hN.len
  have h40 := hp.len
  unfold fltP at hR
  have eix : pl[n] = ix pl n := (ix_lt hn).symm
  refine elemPr hN hn ?_
  rw [eix]
  refine rMakerN_spec hN (by omega) ⟨_, rfl, ifB_dec (fun h => ?_) (fun h => ?_)⟩
  · have := hR w (Below.refl _ _)
    rwa [if_pos h] at this
  have hR : ∀ w', Below w.heap.size w w' → R (.int .i64 (if (idsAt pl n).any (fun id => decide (makerI pl id pl.length < 0)) = true then 91 else if partP (ix pl n) = 7 ∧ (idsAt pl n).any (fun id => decide (makerI pl id n < 0)) = true then 92 else 0)) w' := fun w' hb => by
    have := hR w' hb
    rwa [if_neg h] at this
  refine elemPI hN hn fun t ht => ?_
  refine rIds_spec (x := mkIn pl[n] t) ht (hp.args _ (List.getElem_mem hn)) fun r w2 hO hF b2 => ⟨r, rfl, ?_⟩
  have hO : Own w2 22 1 r ((idsAt pl n).map (Value.int .u32)) := by unfold idsAt; rw [← eix]; exact hO
  generalize idsAt pl n = ids at hO hR
  have hI2 := hO.isS
  have hrl := hI2.len
  have hib := hI2.bound
  refine LoopW.count ids.length hib (fun k w' => w' = w2 ∧ ∀ j (hj : j < ids.length), j < k → decide (makerI pl ids[j] pl.length < 0) = false) ⟨rfl, fun j hj h => by omega⟩ ?_
  rintro k w3 hk ⟨hw, hj⟩ next hnext
  subst hw
  have hN3 := hN.below b2
  refine ifB_dec (fun h => ?_) (fun h => ?_)
  · have hlt : k < ids.length := by dsimp only at h; omega
    refine elemU hI2 hlt ?_
    refine rMaker_spec hN3 (by rw [hlen]) ⟨_, rfl, ifB_dec (fun hneg => ?_) (fun hneg => ?_)⟩
    · have := hR w3 b2
      rwa [if_pos (any_lt hlt (decide_eq_true hneg))] at this
    · refine hnext w3 hlt ⟨rfl, fun j hjl hjk => ?_⟩
      by_cases e : j = k
      · subst e; exact decide_eq_false hneg
      · exact hj j hjl (by omega)
  · have hk' : k = ids.length := by dsimp only at h; omega
    have n91 : ¬ ids.any (fun id => decide (makerI pl id pl.length < 0)) = true := by rw [any_none fun j hjl => hj j hjl (by omega)]; decide
    refine LoopW.count ids.length hib (fun k w' => Below w3.heap.size w3 w' ∧ ∀ j (hj : j < ids.length), j < k → ¬ (partP (ix pl n) = 7 ∧ makerI pl ids[j] n < 0)) ⟨Below.refl _ _, fun j hj h => by omega⟩ ?_
    rintro k w5 hk ⟨hb5, hj5⟩ next hnext
    have hb25 := b2.on hb5
    have hI5 := hI2.below hb5
    refine ifB_dec (fun h => ?_) (fun h => ?_)
    · have hlt : k < ids.length := by dsimp only at h; omega
      refine JoinW.cut (fun _ w' => Below w3.heap.size w3 w' ∧ ¬ (partP (ix pl n) = 7 ∧ makerI pl ids[k] n < 0)) ?_ ?_
      · refine elemPI (hN.below hb25) hn fun t ht => ?_
        refine rPart_spec (x := mkIn pl[n] t) ht fun w6 b6 => ⟨_, rfl, ?_⟩
        rw [show partP (piOf (mkIn pl[n] t) pl[n].2.2.2) = partP (ix pl n) by rw [← eix]]
        have hb6 := hb5.on b6
        refine ifB_beq (fun e7 => ?_) (fun e7 => ⟨hb6, fun ⟨g, _⟩ => e7 (by rw [g]; rfl)⟩)
        refine elemU (hI5.below b6) hlt ?_
        refine rMakerN_spec (hN.below (b2.on hb6)) (by omega) ⟨_, rfl, ifB_dec (fun hneg => ?_) (fun hneg => ⟨hb6, fun ⟨_, g⟩ => hneg g⟩)⟩
        have := hR w6 (b2.on hb6)
        rwa [if_neg n91, if_pos ⟨by omega, any_lt hlt (decide_eq_true hneg)⟩] at this
      · rintro _ w8 ⟨hb8, hno⟩
        refine hnext w8 hlt ⟨hb8, fun j hjl hjk => ?_⟩
        by_cases e : j = k
        · subst e; exact hno
        · exact hj5 j hjl (by omega)
    · have hk' : k = ids.length := by dsimp only at h; omega
      have n92 : ¬ (partP (ix pl n) = 7 ∧ ids.any (fun id => decide (makerI pl id n < 0)) = true) := by
        rintro ⟨g1, g2⟩
        obtain ⟨y, y1, y2⟩ := List.any_eq_true.1 g2
        obtain ⟨j, hjl, rfl⟩ := List.mem_iff_getElem.1 y1
        exact hj5 j hjl (by omega) ⟨g1, of_decide_eq_true y2⟩
      have := hR w5 hb25
      rwa [if_neg n91, if_neg n92] at this
theorem r9Check_spec (hN : IsPl w x.2.2.1 pl) (hp : PlOk pl) (hR : ∀ w', Below w.heap.size w w' → R (.agg #[.int .i64 (chk9P x.2.1 pl).1, .int .i64 ((chk9P x.2.1 pl).2 : Int)]) w') :
    callR Try.prog 12 #[moA x] w R := by
  refine callR.of (intaglioref09_Check_calls x R w ?_) fun _ _ h => h
  refine lay_of fun w1 hB1 b1 z1 => ?_
  have hB1 : Blk w1 w.heap.size 25 (moV x) := hB1
  refine lay_of fun w2 hC2 b2 z2 => ?_
  have hC2 : Blk w2 w1.heap.size 29 [.int .i64 0, .int .i64 0] := hC2
  have hb2 := b1.on b2
  have s1 := b1.size
  have hlen := hN.len
  have h40 := hp.len
  refine Mo.load (hB1.below b2) ?_
  refine r5Check_spec (x := x) (hN.below hb2) hp fun w3 b3 => ⟨((layP x.2.1 pl).1, ((layP x.2.1 pl).2 : Int), ()), rfl, ?_⟩
  refine box2 rfl fun w4 h4 b4 z4 => ?_
  have b24 := b3.on b4
  have hb4 := hb2.on b24
  have hB4 := (hB1.below b2).below b24
  have hC4 := hC2.below b24
  have out : ∀ {w' : World} {a b : Int}, Below w4.heap.size w4 w' → (chk9P x.2.1 pl).1 = a → (((chk9P x.2.1 pl).2 : Nat) : Int) = b → Wr w' (blk w1.heap.size) ∧ Nw (w'.setCell (blk w1.heap.size) (.int .i64 a)) fun w7 => Wr w7 ((blk w1.heap.size).add 1) ∧
      Nw (w7.setCell ((blk w1.heap.size).add 1) (.int .i64 b)) fun w8 => ldI w8 ((blk w1.heap.size).add 0) .i64 fun x9 => ldI w8 ((blk w1.heap.size).add 1) .i64 fun x10 => R (.agg #[(.int .i64 x9), (.int .i64 x10)]) w8 := by
    intro w' a b hb e1 e2
    subst e1 e2
    exact st2 (hC4.below hb) rfl fun w8 h8 c8 => Sp.load h8 (hR w8 (c8.below (hb4.on hb) (by omega)))
  refine h4.rI0 rfl (ifB_bne (fun e => ?_) (fun e => ?_))
  · have e' : (layP x.2.1 pl).1 ≠ 0 := e
    have hl := chk9_lay e'
    exact Sp.load h4 (out (Below.refl _ _) (by rw [hl]) (by rw [hl]))
  · have e' : ¬ (layP x.2.1 pl).1 ≠ 0 := fun h => h e
    refine LoopW.count pl.length hN.bound (fun k w' => Below w4.heap.size w4 w' ∧ ∀ j, j < k → fltP pl j = 0) ⟨Below.refl _ _, fun j hj => by omega⟩ ?_
    rintro k w5 hk ⟨hb5, hj5⟩ next hnext
    have hN5 := hN.below (hb4.on hb5)
    refine (hB4.below hb5).rS (n := 2) (x := x.2.2.1) rfl (ifB_dec (fun h => ?_) (fun h => ?_))
    · have hlt : k < pl.length := by dsimp only at h; omega
      refine (hB4.below hb5).rS (n := 2) (x := x.2.2.1) rfl ?_
      refine r9Fault_spec hN5 hp hlt fun w6 b6 => ⟨_, rfl, ?_⟩
      have hb6 := hb5.on b6
      refine ifB_bne (fun e1 => ?_) (fun e1 => ?_)
      · have hb := chk9_bad e' hlt hj5 e1
        exact out hb6 (by rw [hb]) (by rw [hb])
      · refine hnext w6 hlt ⟨hb6, fun j hjk => ?_⟩
        by_cases ej : j = k
        · subst ej; exact e1
        · exact hj5 j (by omega)
    · have hk' : k = pl.length := by dsimp only at h; omega
      have hg := chk9_good e' (fun j hj => hj5 j (by omega))
      exact out hb5 (by rw [hg]) (by rw [hg]; rfl)
end
end Go.Proofs
