/-
  Part 6 of what ConstsParts is proved by: functions walked, and what they come to.
-/
import Derived.Test.YtlcgbhhpaebpbaaGreatDoorProg
import Derived.Laws.CopyRow
import Derived.Test.YtlcgbhhpaebpbaaGreatDoorPConstsParts5
namespace Go.Proofs
open Go.Gk Go.RowKit Go.Gm

noncomputable def wdP (T : TyL) (pl : List PI) (k : Nat) : List Int := ((wdsC T (cnsC T pl k).1 pl k).getD ([], 0)).1
noncomputable def vaP (T : TyL) (pl : List PI) (k : Nat) : Vn := (varC T (cnsC T pl k).1 pl k).1
section
variable {bd : Int} {pl : List PI} {k : Nat} {T : TyL} {C : CnL}
theorem cns_look (W : Whole9 bd pl) (id : Int) : ∀ n, n ≤ pl.length → (∀ c, lookQ (cnsC T pl n).1 id = some c ↔ ∃ k, k < n ∧ isC (ix pl k).1 = true ∧ (ix pl k).2.2.1 = id ∧ c = ((ix pl k).2.1, wdP T pl k)) ∧
    (∀ v, lookQ (cnsC T pl n).2 id = some v ↔ ∃ k, k < n ∧ (partP (ix pl k) = 7 ∧ (ix pl k).1 = 59) ∧ (ix pl k).2.2.1 = id ∧ v = vaP T pl k)
  | 0, _ => ⟨fun c => ⟨fun h => (by cases h), fun ⟨k, h, _⟩ => (by omega)⟩, fun c => ⟨fun h => (by cases h), fun ⟨k, h, _⟩ => (by omega)⟩⟩
  | n + 1, hn => by
    obtain ⟨h1, h2⟩ := cns_look W id n (by omega)
    rcases cns_cases T pl n with h | ⟨h, h7, h59⟩ | ⟨h, hq⟩
    · obtain ⟨p, hp⟩ := wdsC_some T (cnsC T pl n).1 h
      rw [cns_const h hp]
      have hw : wdP T pl n = p.1 := by unfold wdP; rw [hp]; rfl
      have hnew := cns_new (T := T) W (by omega : n < pl.length) h
      constructor
      · intro c
        dsimp only
        rw [lookQ_set]
        split
        · rename_i e
          subst e
          constructor
          · intro q
            cases q
            exact ⟨n, by omega, h, rfl, by rw [hw]⟩
          · rintro ⟨k, k1, k2, k3, rfl⟩
            have : k = n := Classical.byContradiction fun hne => W.new n (by omega) (isC_res W.shape (by omega) h) k (by omega) (by omega) k3
            subst this
            rw [hw]
        · rename_i e
          rw [h1 c]
          constructor
          · rintro ⟨k, k1, k2⟩
            exact ⟨k, by omega, k2⟩
          · rintro ⟨k, k1, k2, k3, k4⟩
            refine ⟨k, ?_, k2, k3, k4⟩
            have : k ≠ n := by rintro rfl; exact e k3.symm
            omega
      · intro v
        dsimp only
        rw [h2 v]
        constructor
        · rintro ⟨k, k1, k2⟩
          exact ⟨k, by omega, k2⟩
        · rintro ⟨k, k1, k2, k3⟩
          refine ⟨k, ?_, k2, k3⟩
          have : k ≠ n := by
            rintro rfl
            rw [isC_cases] at h
            omega
          omega
    · rw [cns_var h7 h59]
      constructor
      · intro c
        dsimp only
        rw [h1 c]
        constructor
        · rintro ⟨k, k1, k2⟩
          exact ⟨k, by omega, k2⟩
        · rintro ⟨k, k1, k2, k3⟩
          refine ⟨k, ?_, k2, k3⟩
          have : k ≠ n := by
            rintro rfl
            rw [h] at k2
            cases k2
          omega
      · intro v
        dsimp only
        rw [lookQ_set]
        split
        · rename_i e
          subst e
          constructor
          · intro q
            cases q
            exact ⟨n, by omega, ⟨h7, h59⟩, rfl, rfl⟩
          · rintro ⟨k, k1, k2, k3, rfl⟩
            have : k = n := Classical.byContradiction fun hne => W.new n (by omega) (var_res W (by omega) h59) k (by omega) (by omega) k3
            subst this
            rfl
        · rename_i e
          rw [h2 v]
          constructor
          · rintro ⟨k, k1, k2⟩
            exact ⟨k, by omega, k2⟩
          · rintro ⟨k, k1, k2, k3, k4⟩
            refine ⟨k, ?_, k2, k3, k4⟩
            have : k ≠ n := by rintro rfl; exact e k3.symm
            omega
    · rw [cns_skip h hq]
      constructor
      · intro c
        rw [h1 c]
        constructor
        · rintro ⟨k, k1, k2⟩
          exact ⟨k, by omega, k2⟩
        · rintro ⟨k, k1, k2, k3⟩
          refine ⟨k, ?_, k2, k3⟩
          have : k ≠ n := by
            rintro rfl
            rw [h] at k2
            cases k2
          omega
      · intro v
        rw [h2 v]
        constructor
        · rintro ⟨k, k1, k2⟩
          exact ⟨k, by omega, k2⟩
        · rintro ⟨k, k1, k2, k3⟩
          refine ⟨k, ?_, k2, k3⟩
          have : k ≠ n := by
            rintro rfl
            exact hq k2
          omega
/-- A constant ahead stays. -/
theorem look_more (W : Whole9 bd pl) {id : Int} {c : Cn} {n m : Nat} (hnm : n ≤ m) (hm : m ≤ pl.length) (h : lookQ (cnsC T pl n).1 id = some c) : lookQ (cnsC T pl m).1 id = some c := by
  obtain ⟨k, k1, k2⟩ := ((cns_look W id n (by omega)).1 c).1 h
  exact ((cns_look W id m hm).1 c).2 ⟨k, by omega, k2⟩
theorem catC_ok {n : Nat} (h : (catC T C pl k n).2 = 0) : ∀ j, j < n → ∃ w, lookQ C (agI pl k j) = some (((tA T (ix pl k).2.1).prt (j : Int)).1, w) := by
  induction n with
  | zero => intro j hj; omega
  | succ n ih =>
    intro j hj
    unfold catC at h
    by_cases h1 : (catC T C pl k n).2 ≠ 0
    · rw [if_pos h1] at h; exact absurd h h1
    rw [if_neg h1] at h
    by_cases h2 : (ofC C (agI pl k n) ((tA T (ix pl k).2.1).prt (n : Int)).1).2 ≠ 0
    · rw [if_pos h2] at h; exact absurd h h2
    by_cases e : j = n
    · subst e
      have h2 := Classical.not_not.1 h2
      unfold ofC at h2
      cases hl : lookQ C (agI pl k j) with
      | none => rw [hl] at h2; cases h2
      | some c =>
        rw [hl] at h2
        have h2 : (if c.1 ≠ ((tA T (ix pl k).2.1).prt (j : Int)).1 then (([] : List Int), (111 : Int)) else (c.2, 0)).2 = 0 := h2
        by_cases h3 : c.1 ≠ ((tA T (ix pl k).2.1).prt (j : Int)).1
        · rw [if_pos h3] at h2; cases h2
        · refine ⟨c.2, ?_⟩
          rw [← Classical.not_not.1 h3]
    · exact ih (Classical.not_not.1 h1) j (by omega)
theorem ofC_some {id ty : Int} {w : List Int} (h : lookQ C id = some (ty, w)) : ofC C id ty = (w, 0) := by
  unfold ofC
  rw [h]
  exact if_neg (fun q => q rfl)
theorem catC_words {n : Nat} (h : (catC T C pl k n).2 = 0) : (catC T C pl k n).1 = (List.range n).flatMap fun j => ((lookQ C (agI pl k j)).getD (0, [])).2 := by
  induction n with
  | zero => rfl
  | succ n ih =>
    obtain ⟨w, hw⟩ := catC_ok h n (by omega)
    have ho := ofC_some hw
    have h1 : (catC T C pl k n).2 = 0 := by
      refine Classical.byContradiction fun q => ?_
      unfold catC at h
      rw [if_pos q] at h
      exact q h
    unfold catC
    rw [if_neg (fun q => q h1), ho, if_neg (fun q => q rfl), ih h1, List.range_succ, List.flatMap_append]
    simp only [List.flatMap_cons, List.flatMap_nil, List.append_nil]
    rw [hw]
    rfl
theorem CnOk.whole (h : CnOk bd pl) (hp : PlOk pl) (h0 : 0 ≤ bd) : Whole9 bd pl := h.ty.whole hp h0
theorem const_at (hb : badC (tyL pl) pl k = 0) (hc : isC (ix pl k).1 = true) : wdsC (tyL pl) (cnsC (tyL pl) pl k).1 pl k = some (wdP (tyL pl) pl k, 0) := by
  unfold badC at hb
  rw [if_pos (isC_part hc)] at hb
  unfold errC at hb
  rw [if_neg (fun e => by rw [isC_cases] at hc; omega)] at hb
  obtain ⟨p, hp⟩ := wdsC_some (tyL pl) (cnsC (tyL pl) pl k).1 hc
  rw [hp] at hb ⊢
  have hb : p.2 = 0 := hb
  unfold wdP
  rw [hp]
  show some p = some (p.1, 0)
  rw [← hb]
theorem CnOk.const (h : CnOk bd pl) (hk : k < pl.length) (hc : isC (ix pl k).1 = true) : wdsC (tyL pl) (cnsC (tyL pl) pl k).1 pl k = some (wdP (tyL pl) pl k, 0) := const_at (h.no k hk) hc
theorem CnOk.var (h : CnOk bd pl) (hk : k < pl.length) (h7 : partP (ix pl k) = 7) (h59 : (ix pl k).1 = 59) : (varC (tyL pl) (cnsC (tyL pl) pl k).1 pl k).2 = 0 := by
  have hb := h.no k hk
  unfold badC at hb
  rw [if_pos h7] at hb
  unfold errC at hb
  rwa [if_pos h59] at hb
theorem full_len (t : Tp) (h : TpOk T t) : t.full.length = t.cnt := by
  unfold Tp.full Tp.cnt
  by_cases e : t.kind = 4 ∨ t.kind = 5
  · obtain ⟨h1, h2, h3⟩ := h.many e
    rw [if_pos h1, List.length_replicate, h3]
    rfl
  · obtain ⟨h1, h2⟩ := h.few e
    rw [h1, if_neg (by omega), Nat.zero_add]
theorem full_prt {t : Tp} (h : TpOk T t) {j : Nat} (hj : j < t.cnt) : t.prt (j : Int) = (t.full.getD j 0, true) := by
  unfold Tp.prt
  rw [if_neg (by omega)]
  unfold Tp.full
  by_cases e : 0 < t.times
  · rw [if_pos e, if_pos e]
    have hk : t.kind = 4 ∨ t.kind = 5 := Classical.byContradiction fun hn => by have := (h.few hn).1; omega
    have : t.cnt = t.times := by unfold Tp.cnt; rw [(h.many hk).2.2]; rfl
    rw [getD_lt (by rw [List.length_replicate]; omega), List.getElem_replicate]
  · rw [if_neg e, if_neg e, Int.toNat_natCast]
theorem range_getD {α : Type} (l : List α) (d : α) : (List.range l.length).map (fun j => l.getD j d) = l := by
  refine List.ext_getElem (by simp) fun i h1 h2 => ?_
  rw [List.getElem_map, List.getElem_range]
  exact getD_lt h2
theorem kind_tp (hT : TbOk T) {id : Int} (h : (tA T id).kind ≠ 0) : TpOk T (tA T id) := tA_ok hT h
/-- A value has as many words as its type. -/
theorem len_at (h : TyOk bd pl) (hp : PlOk pl) (h0 : 0 ≤ bd) : ∀ k, k < pl.length → (∀ j, j ≤ k → badC (tyL pl) pl j = 0) → isC (ix pl k).1 = true → (wdP (tyL pl) pl k).length = (tA (tyL pl) (ix pl k).2.1).size := by
  have W := h.whole hp h0
  have hT : TbOk (tyL pl) := h.tb hp h0 (Nat.le_refl pl.length)
  intro k
  induction k using Nat.strongRecOn with
  | _ k ih =>
    intro hk hno hc
    have hw := const_at (hno k (Nat.le_refl k)) hc
    generalize hwd : wdP (tyL pl) pl k = wd at hw ⊢
    unfold wdsC at hw
    by_cases e1 : (ix pl k).1 = 1 ∨ (ix pl k).1 = 46
    · rw [if_pos e1] at hw
      injection hw with hw
      split at hw
      · cases hw
      · cases hw
        exact List.length_replicate
    rw [if_neg e1] at hw
    by_cases e2 : (ix pl k).1 = 41 ∨ (ix pl k).1 = 42
    · rw [if_pos e2] at hw
      injection hw with hw
      by_cases e : (tA (tyL pl) (ix pl k).2.1).kind ≠ 2
      · rw [if_pos e] at hw; cases hw
      rw [if_neg e] at hw
      have e := Classical.not_not.1 e
      have h1 := ((kind_tp hT (id := (ix pl k).2.1) (by omega)).one (by omega)).1
      rw [h1]
      cases hw
      split <;> rfl
    rw [if_neg e2] at hw
    by_cases e3 : (ix pl k).1 = 43
    · rw [if_pos e3] at hw
      injection hw with hw
      by_cases e : (tA (tyL pl) (ix pl k).2.1).kind ≠ 3
      · rw [if_pos e] at hw; cases hw
      rw [if_neg e] at hw
      have e := Classical.not_not.1 e
      have h1 := ((kind_tp hT (id := (ix pl k).2.1) (by omega)).one (by omega)).1
      rw [h1]
      cases hw
      rfl
    rw [if_neg e3] at hw
    by_cases e4 : (ix pl k).1 = 44
    · rw [if_pos e4] at hw
      injection hw with hw
      by_cases e : ¬ (4 ≤ (tA (tyL pl) (ix pl k).2.1).kind ∧ (tA (tyL pl) (ix pl k).2.1).kind ≤ 6)
      · rw [if_pos e] at hw; cases hw
      rw [if_neg e] at hw
      have e := Classical.not_not.1 e
      by_cases e5 : (ix pl k).2.2.2.length ≠ (tA (tyL pl) (ix pl k).2.1).cnt
      · rw [if_pos e5] at hw; cases hw
      rw [if_neg e5] at hw
      have e5 := Classical.not_not.1 e5
      have htp := kind_tp hT (id := (ix pl k).2.1) (by omega)
      generalize ht : tA (tyL pl) (ix pl k).2.1 = t at e e5 htp hw ⊢
      have hc0 : (catC (tyL pl) (cnsC (tyL pl) pl k).1 pl k (ix pl k).2.2.2.length).2 = 0 := by rw [hw]
      have hcw := catC_words hc0
      rw [hw] at hcw
      have hcw : wd = _ := hcw
      rw [hcw, List.length_flatMap, (htp.sub e).2.2.1, sumT]
      congr 1
      rw [e5, ← full_len t htp]
      conv => rhs; rw [← range_getD t.full 0]
      rw [List.map_map]
      refine List.map_congr_left fun j hj => ?_
      have hj := List.mem_range.1 hj
      rw [full_len t htp] at hj
      obtain ⟨w', hw'⟩ := catC_ok hc0 j (by omega)
      rw [hw']
      show w'.length = (tA (tyL pl) (t.full.getD j 0)).size
      obtain ⟨k', k1, k2, k3, k4⟩ := ((cns_look (T := tyL pl) W (agI pl k j) k (by omega)).1 _).1 hw'
      injection k4 with k4 k5
      rw [k5, ih k' k1 (by omega) (fun j hj => hno j (by omega)) k2, ← k4, ht, full_prt htp hj]
    rw [if_neg e4] at hw
    cases hw
theorem CnOk.len (h : CnOk bd pl) (hp : PlOk pl) (h0 : 0 ≤ bd) (k : Nat) (hk : k < pl.length) : isC (ix pl k).1 = true → (wdP (tyL pl) pl k).length = (tA (tyL pl) (ix pl k).2.1).size :=
  len_at h.ty hp h0 k hk fun j hj => h.no j (by omega)
theorem tA_max (hT : TbOk T) (id : Int) : (tA T id).size ≤ 4096 := by
  unfold tA
  cases h : lookQ T id with
  | none => exact Nat.zero_le _
  | some t => exact (hT id t h).max.1
/-- What stands in the list of constants is no longer than its type. -/
theorem cns_long (h : TyOk bd pl) (hp : PlOk pl) (h0 : 0 ≤ bd) {n : Nat} (hn : n ≤ pl.length) (hno : ∀ j, j < n → badC (tyL pl) pl j = 0) {id : Int} {c : Cn} (hc : lookQ (cnsC (tyL pl) pl n).1 id = some c) : c.2.length = (tA (tyL pl) c.1).size := by
  obtain ⟨k, k1, k2, k3, rfl⟩ := ((cns_look (h.whole hp h0) id n hn).1 c).1 hc
  exact len_at h hp h0 k (by omega) (fun j hj => hno j (by omega)) k2
theorem ofC_long {m : Nat} (h : ∀ id c, lookQ C id = some c → c.2.length ≤ m) (id ty : Int) : (ofC C id ty).1.length ≤ m := by
  unfold ofC
  cases hl : lookQ C id with
  | none => exact Nat.zero_le _
  | some c =>
    dsimp only
    split
    · exact Nat.zero_le _
    · exact h id c hl
theorem catC_long {m : Nat} (h : ∀ id c, lookQ C id = some c → c.2.length ≤ m) : ∀ n, (catC T C pl k n).1.length ≤ n * m
  | 0 => Nat.zero_le _
  | n + 1 => by
    have ih := catC_long h n
    have e : (n + 1) * m = n * m + m := Nat.succ_mul n m
    unfold catC
    split
    · omega
    · split
      · exact Nat.zero_le _
      · rw [List.length_append]
        have := ofC_long h (agI pl k n) ((tA T (ix pl k).2.1).prt (n : Int)).1
        omega
end
end Go.Proofs
namespace Go.Proofs
open Go.Gk
set_option linter.unusedVariables false
set_option maxRecDepth 100000

/-- (*intaglio.consts.Pool).Value -/
def a_consts_Pool_Value : Ann := (.seq none .nil (.seq none (.seq none .nil (.cond (.seq none .nil .nil) .nil)) (.seq none .nil (.seq none .nil .nil))))
def L_consts_Pool_Value (p0 : Option Addr) (p1 : Int) (R : Value → World → Prop) (w : World) : Prop :=
 ifB (Option.isNone p0)
 (R (.tuple #[(.int .u32 (0 : Int)), (.slice none 0 0), (.bool false)]) w)
 (derefP p0 fun a1 =>
 ldM w (a1.add 2) fun x2 =>
 lookOkK Tryz.prog 104 (.map x2) (.int .u32 p1) [(.int .u32), .slice] w fun (x3 : (Int × Sl × Unit)) (b4 : Bool) =>
 Nw (w.alloc (.cells #[(.int .u32 (0 : Int)), (.slice none 0 0)] 102)) fun w1 =>
 Wr w1 (blk w.heap.size) ∧
 Nw (w1.setCell (blk w.heap.size) (.int .u32 x3.1)) fun w2 =>
 Wr w2 ((blk w.heap.size).add 1) ∧
 Nw (w2.setCell ((blk w.heap.size).add 1) (.slice x3.2.1.a x3.2.1.l x3.2.1.c)) fun w3 =>
 ldI w3.drew (blk w.heap.size) .u32 fun x5 =>
 ldS w3.drew ((blk w.heap.size).add 1) fun x6 =>
 callR Tryz.prog 59 #[(.slice x6.a x6.l x6.c)] w3.drew fun v7 w4 =>
 ∃ x8 : Sl, v7 = (.slice x8.a x8.l x8.c) ∧
 w4.cell? (blk w.heap.size) = some (.int .u32 x5) ∧
 R (.tuple #[(.int .u32 x5), (.slice x8.a x8.l x8.c), (.bool b4)]) w4)
theorem consts_Pool_Value_calls (p0 : Option Addr) (p1 : Int) (R : Value → World → Prop) (w : World) (h : L_consts_Pool_Value p0 p1 R w) : Calls Tryz.prog 18 #[(.pointer p0), (.int .u32 p1)] w (Ret R) :=
 lw_calls (fs := Tryz.fs) (an := a_consts_Pool_Value) (args := [(.pointer p0), (.int .u32 p1)]) Tryz.fsOK Tryz.mixed Tryz.func18 (by kernel_rfl) (by kernel_rfl)
 (Eq.mpr (by kernel_rfl : lwFn Tryz.prog Tryz.fs Tryz.f18 a_consts_Pool_Value [(.pointer p0), (.int .u32 p1)] w R = L_consts_Pool_Value p0 p1 R w) h)

/-- (*intaglio.consts.Pool).Variable -/
def a_consts_Pool_Variable : Ann := (.seq none .nil (.seq none (.seq none .nil (.cond (.seq none .nil .nil) .nil)) (.seq none .nil (.seq none .nil .nil))))
def L_consts_Pool_Variable (p0 : Option Addr) (p1 : Int) (R : Value → World → Prop) (w : World) : Prop :=
 ifB (Option.isNone p0)
 (R (.tuple #[(.int .u32 (0 : Int)), (.int .u32 (0 : Int)), (.slice none 0 0), (.bool false)]) w)
 (derefP p0 fun a1 =>
 ldM w (a1.add 4) fun x2 =>
 lookOkK Tryz.prog 105 (.map x2) (.int .u32 p1) [(.int .u32), (.int .u32), .slice] w fun (x3 : (Int × Int × Sl × Unit)) (b4 : Bool) =>
 Nw (w.alloc (.cells #[(.int .u32 (0 : Int)), (.int .u32 (0 : Int)), (.slice none 0 0)] 111)) fun w1 =>
 Wr w1 (blk w.heap.size) ∧
 Nw (w1.setCell (blk w.heap.size) (.int .u32 x3.1)) fun w2 =>
 Wr w2 ((blk w.heap.size).add 1) ∧
 Nw (w2.setCell ((blk w.heap.size).add 1) (.int .u32 x3.2.1)) fun w3 =>
 Wr w3 ((blk w.heap.size).add 2) ∧
 Nw (w3.setCell ((blk w.heap.size).add 2) (.slice x3.2.2.1.a x3.2.2.1.l x3.2.2.1.c)) fun w4 =>
 ldI w4.drew (blk w.heap.size) .u32 fun x5 =>
 ldI w4.drew ((blk w.heap.size).add 1) .u32 fun x6 =>
 ldS w4.drew (((blk w.heap.size).add 1).add 1) fun x7 =>
 callR Tryz.prog 59 #[(.slice x7.a x7.l x7.c)] w4.drew fun v8 w5 =>
 ∃ x9 : Sl, v8 = (.slice x9.a x9.l x9.c) ∧
 w5.cell? ((blk w.heap.size).add 1) = some (.int .u32 x6) ∧
 w5.cell? (blk w.heap.size) = some (.int .u32 x5) ∧
 R (.tuple #[(.int .u32 x5), (.int .u32 x6), (.slice x9.a x9.l x9.c), (.bool b4)]) w5)
theorem consts_Pool_Variable_calls (p0 : Option Addr) (p1 : Int) (R : Value → World → Prop) (w : World) (h : L_consts_Pool_Variable p0 p1 R w) : Calls Tryz.prog 23 #[(.pointer p0), (.int .u32 p1)] w (Ret R) :=
 lw_calls (fs := Tryz.fs) (an := a_consts_Pool_Variable) (args := [(.pointer p0), (.int .u32 p1)]) Tryz.fsOK Tryz.mixed Tryz.func23 (by kernel_rfl) (by kernel_rfl)
 (Eq.mpr (by kernel_rfl : lwFn Tryz.prog Tryz.fs Tryz.f23 a_consts_Pool_Variable [(.pointer p0), (.int .u32 p1)] w R = L_consts_Pool_Variable p0 p1 R w) h)

/-- (*intaglio.consts.Pool).Ids -/
def a_consts_Pool_Ids : Ann := (.seq none .nil (.seq none (.seq none .nil (.cond (.seq none .nil .nil) .nil)) (.seq none .nil .nil)))
def L_consts_Pool_Ids (p0 : Option Addr) (R : Value → World → Prop) (w : World) : Prop :=
 ifB (Option.isNone p0)
 (R (.slice none 0 0) w)
 (derefP p0 fun a1 =>
 ldS w (a1.add 1) fun x2 =>
 callR Tryz.prog 59 #[(.slice x2.a x2.l x2.c)] w fun v3 w1 =>
 ∃ x4 : Sl, v3 = (.slice x4.a x4.l x4.c) ∧
 R (.slice x4.a x4.l x4.c) w1)
theorem consts_Pool_Ids_calls (p0 : Option Addr) (R : Value → World → Prop) (w : World) (h : L_consts_Pool_Ids p0 R w) : Calls Tryz.prog 24 #[(.pointer p0)] w (Ret R) :=
 lw_calls (fs := Tryz.fs) (an := a_consts_Pool_Ids) (args := [(.pointer p0)]) Tryz.fsOK Tryz.mixed Tryz.func24 (by kernel_rfl) (by kernel_rfl)
 (Eq.mpr (by kernel_rfl : lwFn Tryz.prog Tryz.fs Tryz.f24 a_consts_Pool_Ids [(.pointer p0)] w R = L_consts_Pool_Ids p0 R w) h)

/-- (*intaglio.consts.Pool).Types -/
def a_consts_Pool_Types : Ann := (.seq none .nil (.seq none (.seq none .nil (.cond (.seq none .nil .nil) .nil)) (.seq none .nil .nil)))
def L_consts_Pool_Types (p0 : Option Addr) (R : Value → World → Prop) (w : World) : Prop :=
 ifB (Option.isNone p0)
 (R (.pointer none) w)
 (derefP p0 fun a1 =>
 ldP w a1 fun x2 =>
 R (.pointer x2) w)
theorem consts_Pool_Types_calls (p0 : Option Addr) (R : Value → World → Prop) (w : World) (h : L_consts_Pool_Types p0 R w) : Calls Tryz.prog 26 #[(.pointer p0)] w (Ret R) :=
 lw_calls (fs := Tryz.fs) (an := a_consts_Pool_Types) (args := [(.pointer p0)]) Tryz.fsOK Tryz.mixed Tryz.func26 (by kernel_rfl) (by kernel_rfl)
 (Eq.mpr (by kernel_rfl : lwFn Tryz.prog Tryz.fs Tryz.f26 a_consts_Pool_Types [(.pointer p0)] w R = L_consts_Pool_Types p0 R w) h)

/-- intaglio.consts.New -/
def a_consts_New : Ann := (.seq none .nil (.seq none .nil (.seq none (.seq none .nil (.cond (.seq none .nil .nil) .nil)) (.seq none .nil (.seq none .nil (.seq none .nil (.seq none (.seq none .nil (.one (.loop ⟨[1, 3, 6, 8, 9], [(10, (.b (.int .i64)))]⟩ (.seq none (.seq none .nil (.cond .nil .nil)) (.seq none (.one (.seq none .nil (.seq none .nil (.cond (.seq none .nil .nil) .nil)))) .nil))))) (.seq none .nil .nil))))))))
def L_consts_New (p0 : (Int × Int × Sl × Unit)) (R : Value → World → Prop) (w : World) : Prop :=
 Nw (w.alloc (.cells #[(.int .u32 p0.1), (.int .u32 p0.2.1), (.slice p0.2.2.1.a p0.2.2.1.l p0.2.2.1.c)] 25)) fun w1 =>
 Nw (w1.alloc (.cells #[(.int .i64 (0 : Int)), (.int .i64 (0 : Int))] 44)) fun w2 =>
 ldI w2 ((blk w.heap.size).add 0) .u32 fun x1 =>
 ldI w2 ((blk w.heap.size).add 1) .u32 fun x2 =>
 ldS w2 ((blk w.heap.size).add 2) fun x3 =>
 callR Tryz.prog 63 #[(.agg #[(.int .u32 x1), (.int .u32 x2), (.slice x3.a x3.l x3.c)])] w2 fun v4 w3 =>
 ∃ x5 : Option Addr, ∃ x6 : (Int × Int × Unit), v4 = (.tuple #[(.pointer x5), (.agg #[(.int .i64 x6.1), (.int .i64 x6.2.1)])]) ∧
 Nw (w3.alloc (.cells #[(.int .i64 (0 : Int)), (.int .i64 (0 : Int))] 44)) fun w4 =>
 Wr w4 (blk w3.heap.size) ∧
 Nw (w4.setCell (blk w3.heap.size) (.int .i64 x6.1)) fun w5 =>
 Wr w5 ((blk w3.heap.size).add 1) ∧
 Nw (w5.setCell ((blk w3.heap.size).add 1) (.int .i64 x6.2.1)) fun w6 =>
 ldI w6 (blk w3.heap.size) .i64 fun x7 =>
 ifB (x7 != (0 : Int))
 (ldI w6.drew ((blk w3.heap.size).add 0) .i64 fun x8 =>
 ldI w6.drew ((blk w3.heap.size).add 1) .i64 fun x9 =>
 Wr w6.drew (blk w1.heap.size) ∧
 Nw (w6.drew.setCell (blk w1.heap.size) (.int .i64 x8)) fun w7 =>
 Wr w7 ((blk w1.heap.size).add 1) ∧
 Nw (w7.setCell ((blk w1.heap.size).add 1) (.int .i64 x9)) fun w8 =>
 ldI w8 ((blk w1.heap.size).add 0) .i64 fun x10 =>
 ldI w8 ((blk w1.heap.size).add 1) .i64 fun x11 =>
 R (.tuple #[(.pointer none), (.agg #[(.int .i64 x10), (.int .i64 x11)])]) w8)
 (ldI w6 ((blk w.heap.size).add 0) .u32 fun x12 =>
 ldI w6 ((blk w.heap.size).add 1) .u32 fun x13 =>
 ldS w6 ((blk w.heap.size).add 2) fun x14 =>
 callR Tryz.prog 64 #[(.agg #[(.int .u32 x12), (.int .u32 x13), (.slice x14.a x14.l x14.c)])] w6 fun v15 w9 =>
 ∃ x16 : (Int × Int × Int × Int × Int × Int × Int × Int × Int × Int × Int × Int × Int × Int × Int × Int × Int × Int × Int × Int × Unit), ∃ x17 : (Int × Int × Unit), v15 = (.tuple #[(.agg #[(.int .i64 x16.1), (.int .i64 x16.2.1), (.int .i64 x16.2.2.1), (.int .i64 x16.2.2.2.1), (.int .i64 x16.2.2.2.2.1), (.int .i64 x16.2.2.2.2.2.1), (.int .i64 x16.2.2.2.2.2.2.1), (.int .i64 x16.2.2.2.2.2.2.2.1), (.int .i64 x16.2.2.2.2.2.2.2.2.1), (.int .i64 x16.2.2.2.2.2.2.2.2.2.1), (.int .i64 x16.2.2.2.2.2.2.2.2.2.2.1), (.int .i64 x16.2.2.2.2.2.2.2.2.2.2.2.1), (.int .i64 x16.2.2.2.2.2.2.2.2.2.2.2.2.1), (.int .i64 x16.2.2.2.2.2.2.2.2.2.2.2.2.2.1), (.int .i64 x16.2.2.2.2.2.2.2.2.2.2.2.2.2.2.1), (.int .i64 x16.2.2.2.2.2.2.2.2.2.2.2.2.2.2.2.1), (.int .i64 x16.2.2.2.2.2.2.2.2.2.2.2.2.2.2.2.2.1), (.int .i64 x16.2.2.2.2.2.2.2.2.2.2.2.2.2.2.2.2.2.1), (.int .i64 x16.2.2.2.2.2.2.2.2.2.2.2.2.2.2.2.2.2.2.1), (.int .i64 x16.2.2.2.2.2.2.2.2.2.2.2.2.2.2.2.2.2.2.2.1)]), (.agg #[(.int .i64 x17.1), (.int .i64 x17.2.1)])]) ∧
 Nw (w9.alloc (.cells (List.toArray (List.replicate 20 (.int .i64 (0 : Int)))) 117)) fun w10 =>
 Nw (w10.alloc (.cells #[(.int .i64 (0 : Int)), (.int .i64 (0 : Int))] 44)) fun w11 =>
 Wr w11 (blk w9.heap.size) ∧
 Nw (w11.setCell (blk w9.heap.size) (.int .i64 x16.1)) fun w12 =>
 Wr w12 ((blk w9.heap.size).add 1) ∧
 Nw (w12.setCell ((blk w9.heap.size).add 1) (.int .i64 x16.2.1)) fun w13 =>
 Wr w13 ((blk w9.heap.size).add 2) ∧
 Nw (w13.setCell ((blk w9.heap.size).add 2) (.int .i64 x16.2.2.1)) fun w14 =>
 Wr w14 ((blk w9.heap.size).add 3) ∧
 Nw (w14.setCell ((blk w9.heap.size).add 3) (.int .i64 x16.2.2.2.1)) fun w15 =>
 Wr w15 ((blk w9.heap.size).add 4) ∧
 Nw (w15.setCell ((blk w9.heap.size).add 4) (.int .i64 x16.2.2.2.2.1)) fun w16 =>
 Wr w16 ((blk w9.heap.size).add 5) ∧
 Nw (w16.setCell ((blk w9.heap.size).add 5) (.int .i64 x16.2.2.2.2.2.1)) fun w17 =>
 Wr w17 ((blk w9.heap.size).add 6) ∧
 Nw (w17.setCell ((blk w9.heap.size).add 6) (.int .i64 x16.2.2.2.2.2.2.1)) fun w18 =>
 Wr w18 ((blk w9.heap.size).add 7) ∧
 Nw (w18.setCell ((blk w9.heap.size).add 7) (.int .i64 x16.2.2.2.2.2.2.2.1)) fun w19 =>
 Wr w19 ((blk w9.heap.size).add 8) ∧
 Nw (w19.setCell ((blk w9.heap.size).add 8) (.int .i64 x16.2.2.2.2.2.2.2.2.1)) fun w20 =>
 Wr w20 ((blk w9.heap.size).add 9) ∧
 Nw (w20.setCell ((blk w9.heap.size).add 9) (.int .i64 x16.2.2.2.2.2.2.2.2.2.1)) fun w21 =>
 Wr w21 ((blk w9.heap.size).add 10) ∧
 Nw (w21.setCell ((blk w9.heap.size).add 10) (.int .i64 x16.2.2.2.2.2.2.2.2.2.2.1)) fun w22 =>
 Wr w22 ((blk w9.heap.size).add 11) ∧
 Nw (w22.setCell ((blk w9.heap.size).add 11) (.int .i64 x16.2.2.2.2.2.2.2.2.2.2.2.1)) fun w23 =>
 Wr w23 ((blk w9.heap.size).add 12) ∧
 Nw (w23.setCell ((blk w9.heap.size).add 12) (.int .i64 x16.2.2.2.2.2.2.2.2.2.2.2.2.1)) fun w24 =>
 Wr w24 ((blk w9.heap.size).add 13) ∧
 Nw (w24.setCell ((blk w9.heap.size).add 13) (.int .i64 x16.2.2.2.2.2.2.2.2.2.2.2.2.2.1)) fun w25 =>
 Wr w25 ((blk w9.heap.size).add 14) ∧
 Nw (w25.setCell ((blk w9.heap.size).add 14) (.int .i64 x16.2.2.2.2.2.2.2.2.2.2.2.2.2.2.1)) fun w26 =>
 Wr w26 ((blk w9.heap.size).add 15) ∧
 Nw (w26.setCell ((blk w9.heap.size).add 15) (.int .i64 x16.2.2.2.2.2.2.2.2.2.2.2.2.2.2.2.1)) fun w27 =>
 Wr w27 ((blk w9.heap.size).add 16) ∧
 Nw (w27.setCell ((blk w9.heap.size).add 16) (.int .i64 x16.2.2.2.2.2.2.2.2.2.2.2.2.2.2.2.2.1)) fun w28 =>
 Wr w28 ((blk w9.heap.size).add 17) ∧
 Nw (w28.setCell ((blk w9.heap.size).add 17) (.int .i64 x16.2.2.2.2.2.2.2.2.2.2.2.2.2.2.2.2.2.1)) fun w29 =>
 Wr w29 ((blk w9.heap.size).add 18) ∧
 Nw (w29.setCell ((blk w9.heap.size).add 18) (.int .i64 x16.2.2.2.2.2.2.2.2.2.2.2.2.2.2.2.2.2.2.1)) fun w30 =>
 Wr w30 ((blk w9.heap.size).add 19) ∧
 Nw (w30.setCell ((blk w9.heap.size).add 19) (.int .i64 x16.2.2.2.2.2.2.2.2.2.2.2.2.2.2.2.2.2.2.2.1)) fun w31 =>
 Wr w31 (blk w10.heap.size) ∧
 Nw (w31.setCell (blk w10.heap.size) (.int .i64 x17.1)) fun w32 =>
 Wr w32 ((blk w10.heap.size).add 1) ∧
 Nw (w32.setCell ((blk w10.heap.size).add 1) (.int .i64 x17.2.1)) fun w33 =>
 Nw (w33.alloc (.map #[] 0)) fun w34 =>
 Nw (w34.alloc (.map #[] 0)) fun w35 =>
 Nw (w35.alloc (.cells #[(.pointer x5), (.slice none 0 0), (.map (some w33.heap.size)), (.slice none 0 0), (.map (some w34.heap.size))] 107)) fun w36 =>
 callR Tryz.prog 65 #[(.pointer (some (blk w35.heap.size)))] w36 fun v18 w37 =>
 ∃ x19 : Option Nat, v18 = (.map x19) ∧
 (0 ≤ (7 : Int) ∧ (7 : Int) < (10 : Int)) ∧
 ldI w37 ((blk w9.heap.size).add (7 * 2)) .i64 fun x20 =>
 LoopW (S := Int × Unit) (fun s21 w38 n22 =>
 (0 ≤ (7 : Int) ∧ (7 : Int) < (10 : Int)) ∧
 ldI w38 (((blk w9.heap.size).add (7 * 2)).add 1) .i64 fun x23 =>
 ifB (decide (s21.1 < x23))
 (ldS w38 ((blk w.heap.size).add 2) fun x24 =>
 (0 ≤ s21.1 ∧ s21.1 < (x24.l : Int)) ∧
 derefP x24.a fun a25 =>
 ldI w38 ((a25.add ((Int.toNat s21.1) * 4)).add 0) .u16 fun x26 =>
 ldI w38 ((a25.add ((Int.toNat s21.1) * 4)).add 1) .u32 fun x27 =>
 ldI w38 ((a25.add ((Int.toNat s21.1) * 4)).add 2) .u32 fun x28 =>
 ldS w38 ((a25.add ((Int.toNat s21.1) * 4)).add 3) fun x29 =>
 callR Tryz.prog 66 #[(.pointer (some (blk w35.heap.size))), (.agg #[(.int .u16 x26), (.int .u32 x27), (.int .u32 x28), (.slice x29.a x29.l x29.c)]), (.map x19)] w38 fun v30 w39 =>
 ∃ x31 : Int, v30 = (.int .i64 x31) ∧
 ifB (x31 != (0 : Int))
 (Wr w39 (blk w1.heap.size) ∧
 Nw (w39.setCell (blk w1.heap.size) (.int .i64 x31)) fun w40 =>
 Wr w40 ((blk w1.heap.size).add 1) ∧
 Nw (w40.setCell ((blk w1.heap.size).add 1) (.int .i64 s21.1)) fun w41 =>
 ldI w41 ((blk w1.heap.size).add 0) .i64 fun x32 =>
 ldI w41 ((blk w1.heap.size).add 1) .i64 fun x33 =>
 R (.tuple #[(.pointer none), (.agg #[(.int .i64 x32), (.int .i64 x33)])]) w41)
 (n22 ((IntKind.i64.wrap (s21.1 + (1 : Int))), ()) w39))
 (Wr w38 (blk w1.heap.size) ∧
 Nw (w38.setCell (blk w1.heap.size) (.int .i64 (0 : Int))) fun w42 =>
 Wr w42 ((blk w1.heap.size).add 1) ∧
 Nw (w42.setCell ((blk w1.heap.size).add 1) (.int .i64 (0 : Int))) fun w43 =>
 ldI w43 ((blk w1.heap.size).add 0) .i64 fun x34 =>
 ldI w43 ((blk w1.heap.size).add 1) .i64 fun x35 =>
 R (.tuple #[(.pointer (some (blk w35.heap.size))), (.agg #[(.int .i64 x34), (.int .i64 x35)])]) w43))
 (x20, ()) w37)
theorem consts_New_calls (p0 : (Int × Int × Sl × Unit)) (R : Value → World → Prop) (w : World) (h : L_consts_New p0 R w) : Calls Tryz.prog 27 #[(.agg #[(.int .u32 p0.1), (.int .u32 p0.2.1), (.slice p0.2.2.1.a p0.2.2.1.l p0.2.2.1.c)])] w (Ret R) :=
 lw_calls (fs := Tryz.fs) (an := a_consts_New) (args := [(.agg #[(.int .u32 p0.1), (.int .u32 p0.2.1), (.slice p0.2.2.1.a p0.2.2.1.l p0.2.2.1.c)])]) Tryz.fsOK Tryz.mixed Tryz.func27 (by kernel_rfl) (by kernel_rfl)
 (Eq.mpr (by kernel_rfl : lwFn Tryz.prog Tryz.fs Tryz.f27 a_consts_New [(.agg #[(.int .u32 p0.1), (.int .u32 p0.2.1), (.slice p0.2.2.1.a p0.2.2.1.l p0.2.2.1.c)])] w R = L_consts_New p0 R w) h)

/-- intaglio.consts.copied -/
def a_consts_copied : Ann := (.seq none .nil (.seq none .nil (.seq none .nil (.seq none .nil .nil))))
def L_consts_copied (p0 : Sl) (R : Value → World → Prop) (w : World) : Prop :=
 (0 ≤ (p0.l : Int) ∧ (p0.l : Int) ≤ (p0.l : Int) ∧ (4 : Int) * (p0.l : Int) ≤ 281474976710656 ∧ (p0.l : Int) ≤ 9223372036854775807) ∧
 Nw (w.alloc (.cells (madeCells #[(.int .u32 (0 : Int))] (p0.l * 1)) 22)) fun w1 =>
 copyS Tryz.prog #[30, 30] (.slice (some (blk w.heap.size)) p0.l p0.l) (.slice p0.a p0.l p0.c) w1 fun x1 w2 =>
 R (.slice (some (blk w.heap.size)) p0.l p0.l) w2
theorem consts_copied_calls (p0 : Sl) (R : Value → World → Prop) (w : World) (h : L_consts_copied p0 R w) : Calls Tryz.prog 59 #[(.slice p0.a p0.l p0.c)] w (Ret R) :=
 lw_calls (fs := Tryz.fs) (an := a_consts_copied) (args := [(.slice p0.a p0.l p0.c)]) Tryz.fsOK Tryz.mixed Tryz.func59 (by kernel_rfl) (by kernel_rfl)
 (Eq.mpr (by kernel_rfl : lwFn Tryz.prog Tryz.fs Tryz.f59 a_consts_copied [(.slice p0.a p0.l p0.c)] w R = L_consts_copied p0 R w) h)

/-- (*intaglio.consts.Pool).makers -/
def a_consts_Pool_makers : Ann := (.seq none .nil (.seq none .nil .nil))
def L_consts_Pool_makers (p0 : Option Addr) (R : Value → World → Prop) (w : World) : Prop :=
 Nw (w.alloc (.map #[] 0)) fun w1 =>
 updW Tryz.prog 120 (.map (some w.heap.size)) (.int .u16 (1 : Int)) (.func (.func 103) #[(.pointer p0)] #[]) w1 fun w2 =>
 updW Tryz.prog 120 (.map (some w.heap.size)) (.int .u16 (46 : Int)) (.func (.func 103) #[(.pointer p0)] #[]) w2 fun w3 =>
 updW Tryz.prog 120 (.map (some w.heap.size)) (.int .u16 (41 : Int)) (.func (.func 104) #[(.pointer p0)] #[]) w3 fun w4 =>
 updW Tryz.prog 120 (.map (some w.heap.size)) (.int .u16 (42 : Int)) (.func (.func 104) #[(.pointer p0)] #[]) w4 fun w5 =>
 updW Tryz.prog 120 (.map (some w.heap.size)) (.int .u16 (43 : Int)) (.func (.func 105) #[(.pointer p0)] #[]) w5 fun w6 =>
 updW Tryz.prog 120 (.map (some w.heap.size)) (.int .u16 (44 : Int)) (.func (.func 106) #[(.pointer p0)] #[]) w6 fun w7 =>
 R (.map (some w.heap.size)) w7
theorem consts_Pool_makers_calls (p0 : Option Addr) (R : Value → World → Prop) (w : World) (h : L_consts_Pool_makers p0 R w) : Calls Tryz.prog 65 #[(.pointer p0)] w (Ret R) :=
 lw_calls (fs := Tryz.fs) (an := a_consts_Pool_makers) (args := [(.pointer p0)]) Tryz.fsOK Tryz.mixed Tryz.func65 (by kernel_rfl) (by kernel_rfl)
 (Eq.mpr (by kernel_rfl : lwFn Tryz.prog Tryz.fs Tryz.f65 a_consts_Pool_makers [(.pointer p0)] w R = L_consts_Pool_makers p0 R w) h)

/-- (*intaglio.consts.Pool).add -/
def a_consts_Pool_add : Ann := (.seq none .nil (.seq none (.seq none .nil (.cond (.seq none .nil (.seq none .nil (.seq none .nil (.seq none .nil .nil)))) .nil)) (.seq none .nil (.seq none (.seq none .nil (.cond (.seq none .nil .nil) .nil)) (.seq none .nil (.seq none .nil (.seq none .nil (.seq none .nil .nil))))))))
def L_consts_Pool_add (p0 : Option Addr) (p1 : (Int × Int × Int × Sl × Unit)) (p2 : Option Nat) (R : Value → World → Prop) (w : World) : Prop :=
 Nw (w.alloc (.cells #[(.int .u16 p1.1), (.int .u32 p1.2.1), (.int .u32 p1.2.2.1), (.slice p1.2.2.2.1.a p1.2.2.2.1.l p1.2.2.2.1.c)] 52)) fun w1 =>
 ldI w1 (blk w.heap.size) .u16 fun x1 =>
 ifB (x1 == (59 : Int))
 (ldI w1 ((blk w.heap.size).add 0) .u16 fun x2 =>
 ldI w1 ((blk w.heap.size).add 1) .u32 fun x3 =>
 ldI w1 ((blk w.heap.size).add 2) .u32 fun x4 =>
 ldS w1 ((blk w.heap.size).add 3) fun x5 =>
 callR Tryz.prog 107 #[(.pointer p0), (.agg #[(.int .u16 x2), (.int .u32 x3), (.int .u32 x4), (.slice x5.a x5.l x5.c)])] w1 fun v6 w2 =>
 ∃ x7 : (Int × Int × Sl × Unit), ∃ x8 : Int, v6 = (.tuple #[(.agg #[(.int .u32 x7.1), (.int .u32 x7.2.1), (.slice x7.2.2.1.a x7.2.2.1.l x7.2.2.1.c)]), (.int .i64 x8)]) ∧
 Nw (w2.alloc (.cells #[(.int .u32 (0 : Int)), (.int .u32 (0 : Int)), (.slice none 0 0)] 111)) fun w3 =>
 Wr w3 (blk w2.heap.size) ∧
 Nw (w3.setCell (blk w2.heap.size) (.int .u32 x7.1)) fun w4 =>
 Wr w4 ((blk w2.heap.size).add 1) ∧
 Nw (w4.setCell ((blk w2.heap.size).add 1) (.int .u32 x7.2.1)) fun w5 =>
 Wr w5 ((blk w2.heap.size).add 2) ∧
 Nw (w5.setCell ((blk w2.heap.size).add 2) (.slice x7.2.2.1.a x7.2.2.1.l x7.2.2.1.c)) fun w6 =>
 derefP p0 fun a9 =>
 ldS w6.drew (a9.add 3) fun x10 =>
 ldI w6.drew ((blk w.heap.size).add 2) .u32 fun x11 =>
 Nw (w6.drew.alloc (.cells #[(.int .u32 x11)] 22)) fun w7 =>
 w7.cell? (a9.add 3) = some (.slice x10.a x10.l x10.c) ∧
 appendS Tryz.prog 30 (.slice x10.a x10.l x10.c) (.slice (some (blk w6.drew.heap.size)) 1 1) w7 fun r12 w8 =>
 derefP p0 fun a13 =>
 Wr w8 (a13.add 3) ∧
 Nw (w8.setCell (a13.add 3) (.slice r12.a r12.l r12.c)) fun w9 =>
 derefP p0 fun a14 =>
 ldM w9.drew (a14.add 4) fun x15 =>
 ldI w9.drew ((blk w.heap.size).add 2) .u32 fun x16 =>
 ldI w9.drew ((blk w2.heap.size).add 0) .u32 fun x17 =>
 ldI w9.drew ((blk w2.heap.size).add 1) .u32 fun x18 =>
 ldS w9.drew ((blk w2.heap.size).add 2) fun x19 =>
 updW Tryz.prog 105 (.map x15) (.int .u32 x16) (.agg #[(.int .u32 x17), (.int .u32 x18), (.slice x19.a x19.l x19.c)]) w9.drew fun w10 =>
 R (.int .i64 x8) w10)
 (ldI w1 (blk w.heap.size) .u16 fun x20 =>
 lookV Tryz.prog 120 (.map p2) (.int .u16 x20) BK.raw w1 fun (x21 : Value) =>
 funcNil x21 fun b22 =>
 ifB b22
 (R (.int .i64 (0 : Int)) w1)
 (ldI w1 ((blk w.heap.size).add 0) .u16 fun x23 =>
 ldI w1 ((blk w.heap.size).add 1) .u32 fun x24 =>
 ldI w1 ((blk w.heap.size).add 2) .u32 fun x25 =>
 ldS w1 ((blk w.heap.size).add 3) fun x26 =>
 callV Tryz.prog Tryz.fs x21 [(.agg #[(.int .u16 x23), (.int .u32 x24), (.int .u32 x25), (.slice x26.a x26.l x26.c)])] w1 fun v27 w11 =>
 ∃ x28 : Sl, ∃ x29 : Int, v27 = (.tuple #[(.slice x28.a x28.l x28.c), (.int .i64 x29)]) ∧
 derefP p0 fun a30 =>
 ldS w11.drew (a30.add 1) fun x31 =>
 ldI w11.drew ((blk w.heap.size).add 2) .u32 fun x32 =>
 Nw (w11.drew.alloc (.cells #[(.int .u32 x32)] 22)) fun w12 =>
 w12.cell? (a30.add 1) = some (.slice x31.a x31.l x31.c) ∧
 appendS Tryz.prog 30 (.slice x31.a x31.l x31.c) (.slice (some (blk w11.drew.heap.size)) 1 1) w12 fun r33 w13 =>
 derefP p0 fun a34 =>
 Wr w13 (a34.add 1) ∧
 Nw (w13.setCell (a34.add 1) (.slice r33.a r33.l r33.c)) fun w14 =>
 derefP p0 fun a35 =>
 ldM w14.drew (a35.add 2) fun x36 =>
 ldI w14.drew ((blk w.heap.size).add 2) .u32 fun x37 =>
 ldI w14.drew ((blk w.heap.size).add 1) .u32 fun x38 =>
 updW Tryz.prog 104 (.map x36) (.int .u32 x37) (.agg #[(.int .u32 x38), (.slice x28.a x28.l x28.c)]) w14.drew fun w15 =>
 R (.int .i64 x29) w15))
theorem consts_Pool_add_calls (p0 : Option Addr) (p1 : (Int × Int × Int × Sl × Unit)) (p2 : Option Nat) (R : Value → World → Prop) (w : World) (h : L_consts_Pool_add p0 p1 p2 R w) : Calls Tryz.prog 66 #[(.pointer p0), (.agg #[(.int .u16 p1.1), (.int .u32 p1.2.1), (.int .u32 p1.2.2.1), (.slice p1.2.2.2.1.a p1.2.2.2.1.l p1.2.2.2.1.c)]), (.map p2)] w (Ret R) :=
 lw_calls (fs := Tryz.fs) (an := a_consts_Pool_add) (args := [(.pointer p0), (.agg #[(.int .u16 p1.1), (.int .u32 p1.2.1), (.int .u32 p1.2.2.1), (.slice p1.2.2.2.1.a p1.2.2.2.1.l p1.2.2.2.1.c)]), (.map p2)]) Tryz.fsOK Tryz.mixed Tryz.func66 (by kernel_rfl) (by kernel_rfl)
 (Eq.mpr (by kernel_rfl : lwFn Tryz.prog Tryz.fs Tryz.f66 a_consts_Pool_add [(.pointer p0), (.agg #[(.int .u16 p1.1), (.int .u32 p1.2.1), (.int .u32 p1.2.2.1), (.slice p1.2.2.2.1.a p1.2.2.2.1.l p1.2.2.2.1.c)]), (.map p2)] w R = L_consts_Pool_add p0 p1 p2 R w) h)

/-- (*intaglio.consts.Pool).nothing -/
def a_consts_Pool_nothing : Ann := (.seq none .nil (.seq none (.seq none .nil (.cond (.seq none .nil .nil) .nil)) (.seq none .nil .nil)))
def L_consts_Pool_nothing (p0 : Option Addr) (p1 : (Int × Int × Int × Sl × Unit)) (R : Value → World → Prop) (w : World) : Prop :=
 Nw (w.alloc (.cells #[(.int .u16 p1.1), (.int .u32 p1.2.1), (.int .u32 p1.2.2.1), (.slice p1.2.2.2.1.a p1.2.2.2.1.l p1.2.2.2.1.c)] 52)) fun w1 =>
 derefP p0 fun a1 =>
 ldP w1.drew a1 fun x2 =>
 ldI w1.drew ((blk w.heap.size).add 1) .u32 fun x3 =>
 callR Tryz.prog 146 #[(.pointer x2), (.int .u32 x3)] w1.drew fun v4 w2 =>
 ∃ x5 : Bool, v4 = (.bool x5) ∧
 ifB (!x5)
 (R (.tuple #[(.slice none 0 0), (.int .i64 (100 : Int))]) w2)
 (derefP p0 fun a6 =>
 ldP w2.drew a6 fun x7 =>
 ldI w2.drew ((blk w.heap.size).add 1) .u32 fun x8 =>
 callR Tryz.prog 30 #[(.pointer x7), (.int .u32 x8)] w2.drew fun v9 w3 =>
 ∃ x10 : Int, v9 = (.int .i64 x10) ∧
 (0 ≤ x10 ∧ x10 ≤ x10 ∧ (4 : Int) * x10 ≤ 281474976710656 ∧ x10 ≤ 9223372036854775807) ∧
 Nw (w3.alloc (.cells (madeCells #[(.int .u32 (0 : Int))] ((Int.toNat x10) * 1)) 22)) fun w4 =>
 R (.tuple #[(.slice (some (blk w3.heap.size)) (Int.toNat x10) (Int.toNat x10)), (.int .i64 (0 : Int))]) w4)
theorem consts_Pool_nothing_calls (p0 : Option Addr) (p1 : (Int × Int × Int × Sl × Unit)) (R : Value → World → Prop) (w : World) (h : L_consts_Pool_nothing p0 p1 R w) : Calls Tryz.prog 103 #[(.pointer p0), (.agg #[(.int .u16 p1.1), (.int .u32 p1.2.1), (.int .u32 p1.2.2.1), (.slice p1.2.2.2.1.a p1.2.2.2.1.l p1.2.2.2.1.c)])] w (Ret R) :=
 lw_calls (fs := Tryz.fs) (an := a_consts_Pool_nothing) (args := [(.pointer p0), (.agg #[(.int .u16 p1.1), (.int .u32 p1.2.1), (.int .u32 p1.2.2.1), (.slice p1.2.2.2.1.a p1.2.2.2.1.l p1.2.2.2.1.c)])]) Tryz.fsOK Tryz.mixed Tryz.func103 (by kernel_rfl) (by kernel_rfl)
 (Eq.mpr (by kernel_rfl : lwFn Tryz.prog Tryz.fs Tryz.f103 a_consts_Pool_nothing [(.pointer p0), (.agg #[(.int .u16 p1.1), (.int .u32 p1.2.1), (.int .u32 p1.2.2.1), (.slice p1.2.2.2.1.a p1.2.2.2.1.l p1.2.2.2.1.c)])] w R = L_consts_Pool_nothing p0 p1 R w) h)

/-- (*intaglio.consts.Pool).truth -/
def a_consts_Pool_truth : Ann := (.seq none .nil (.seq none (.seq none .nil (.cond (.seq none .nil .nil) .nil)) (.seq none (.seq none .nil (.cond (.seq none .nil .nil) .nil)) (.seq none .nil .nil))))
def L_consts_Pool_truth (p0 : Option Addr) (p1 : (Int × Int × Int × Sl × Unit)) (R : Value → World → Prop) (w : World) : Prop :=
 Nw (w.alloc (.cells #[(.int .u16 p1.1), (.int .u32 p1.2.1), (.int .u32 p1.2.2.1), (.slice p1.2.2.2.1.a p1.2.2.2.1.l p1.2.2.2.1.c)] 52)) fun w1 =>
 ldI w1 ((blk w.heap.size).add 1) .u32 fun x1 =>
 Nw (w1.alloc (.cells #[(.int .u8 (2 : Int))] 5)) fun w2 =>
 callR Tryz.prog 147 #[(.pointer p0), (.int .u32 x1), (.slice (some (blk w1.heap.size)) 1 1)] w2 fun v2 w3 =>
 ∃ x3 : Bool, v2 = (.bool x3) ∧
 ifB (!x3)
 (R (.tuple #[(.slice none 0 0), (.int .i64 (100 : Int))]) w3)
 (ldI w3 (blk w.heap.size) .u16 fun x4 =>
 ifB (x4 == (41 : Int))
 (Nw (w3.alloc (.cells #[(.int .u32 (1 : Int))] 22)) fun w4 =>
 R (.tuple #[(.slice (some (blk w3.heap.size)) 1 1), (.int .i64 (0 : Int))]) w4)
 (Nw (w3.alloc (.cells #[(.int .u32 (0 : Int))] 22)) fun w5 =>
 R (.tuple #[(.slice (some (blk w3.heap.size)) 1 1), (.int .i64 (0 : Int))]) w5))
theorem consts_Pool_truth_calls (p0 : Option Addr) (p1 : (Int × Int × Int × Sl × Unit)) (R : Value → World → Prop) (w : World) (h : L_consts_Pool_truth p0 p1 R w) : Calls Tryz.prog 104 #[(.pointer p0), (.agg #[(.int .u16 p1.1), (.int .u32 p1.2.1), (.int .u32 p1.2.2.1), (.slice p1.2.2.2.1.a p1.2.2.2.1.l p1.2.2.2.1.c)])] w (Ret R) :=
 lw_calls (fs := Tryz.fs) (an := a_consts_Pool_truth) (args := [(.pointer p0), (.agg #[(.int .u16 p1.1), (.int .u32 p1.2.1), (.int .u32 p1.2.2.1), (.slice p1.2.2.2.1.a p1.2.2.2.1.l p1.2.2.2.1.c)])]) Tryz.fsOK Tryz.mixed Tryz.func104 (by kernel_rfl) (by kernel_rfl)
 (Eq.mpr (by kernel_rfl : lwFn Tryz.prog Tryz.fs Tryz.f104 a_consts_Pool_truth [(.pointer p0), (.agg #[(.int .u16 p1.1), (.int .u32 p1.2.1), (.int .u32 p1.2.2.1), (.slice p1.2.2.2.1.a p1.2.2.2.1.l p1.2.2.2.1.c)])] w R = L_consts_Pool_truth p0 p1 R w) h)

/-- (*intaglio.consts.Pool).number -/
def a_consts_Pool_number : Ann := (.seq none .nil (.seq none (.seq none .nil (.cond (.seq none .nil .nil) .nil)) (.seq none .nil .nil)))
def L_consts_Pool_number (p0 : Option Addr) (p1 : (Int × Int × Int × Sl × Unit)) (R : Value → World → Prop) (w : World) : Prop :=
 Nw (w.alloc (.cells #[(.int .u16 p1.1), (.int .u32 p1.2.1), (.int .u32 p1.2.2.1), (.slice p1.2.2.2.1.a p1.2.2.2.1.l p1.2.2.2.1.c)] 52)) fun w1 =>
 ldI w1 ((blk w.heap.size).add 1) .u32 fun x1 =>
 Nw (w1.alloc (.cells #[(.int .u8 (3 : Int))] 5)) fun w2 =>
 callR Tryz.prog 147 #[(.pointer p0), (.int .u32 x1), (.slice (some (blk w1.heap.size)) 1 1)] w2 fun v2 w3 =>
 ∃ x3 : Bool, v2 = (.bool x3) ∧
 ifB (!x3)
 (R (.tuple #[(.slice none 0 0), (.int .i64 (100 : Int))]) w3)
 (ldS w3 ((blk w.heap.size).add 3) fun x4 =>
 (0 ≤ (0 : Int) ∧ (0 : Int) < (x4.l : Int)) ∧
 derefP x4.a fun a5 =>
 ldI w3 ((a5.add (0 * 3)).add 1) .u32 fun x6 =>
 Nw (w3.alloc (.cells #[(.int .u32 x6)] 22)) fun w4 =>
 R (.tuple #[(.slice (some (blk w3.heap.size)) 1 1), (.int .i64 (0 : Int))]) w4)
theorem consts_Pool_number_calls (p0 : Option Addr) (p1 : (Int × Int × Int × Sl × Unit)) (R : Value → World → Prop) (w : World) (h : L_consts_Pool_number p0 p1 R w) : Calls Tryz.prog 105 #[(.pointer p0), (.agg #[(.int .u16 p1.1), (.int .u32 p1.2.1), (.int .u32 p1.2.2.1), (.slice p1.2.2.2.1.a p1.2.2.2.1.l p1.2.2.2.1.c)])] w (Ret R) :=
 lw_calls (fs := Tryz.fs) (an := a_consts_Pool_number) (args := [(.pointer p0), (.agg #[(.int .u16 p1.1), (.int .u32 p1.2.1), (.int .u32 p1.2.2.1), (.slice p1.2.2.2.1.a p1.2.2.2.1.l p1.2.2.2.1.c)])]) Tryz.fsOK Tryz.mixed Tryz.func105 (by kernel_rfl) (by kernel_rfl)
 (Eq.mpr (by kernel_rfl : lwFn Tryz.prog Tryz.fs Tryz.f105 a_consts_Pool_number [(.pointer p0), (.agg #[(.int .u16 p1.1), (.int .u32 p1.2.1), (.int .u32 p1.2.2.1), (.slice p1.2.2.2.1.a p1.2.2.2.1.l p1.2.2.2.1.c)])] w R = L_consts_Pool_number p0 p1 R w) h)

/-- (*intaglio.consts.Pool).composite -/
def a_consts_Pool_composite : Ann := (.seq none .nil (.seq none (.seq none .nil (.cond (.seq none .nil .nil) .nil)) (.seq none (.seq none .nil (.cond (.seq none .nil .nil) .nil)) (.seq none .nil (.seq none (.seq none .nil (.one (.loop ⟨[0, 3, 31, 32], [(6, (.b .slice)), (33, (.b (.int .i64)))]⟩ (.seq none .nil (.seq none (.cond .nil .nil) (.seq none (.one (.seq none .nil (.seq none .nil (.seq none .nil (.seq none (.seq none .nil (.cond (.seq none .nil .nil) .nil)) .nil))))) .nil)))))) (.seq none .nil .nil))))))
def L_consts_Pool_composite (p0 : Option Addr) (p1 : (Int × Int × Int × Sl × Unit)) (R : Value → World → Prop) (w : World) : Prop :=
 Nw (w.alloc (.cells #[(.int .u16 p1.1), (.int .u32 p1.2.1), (.int .u32 p1.2.2.1), (.slice p1.2.2.2.1.a p1.2.2.2.1.l p1.2.2.2.1.c)] 52)) fun w1 =>
 ldI w1 ((blk w.heap.size).add 1) .u32 fun x1 =>
 Nw (w1.alloc (.cells #[(.int .u8 (4 : Int)), (.int .u8 (5 : Int)), (.int .u8 (6 : Int))] 5)) fun w2 =>
 callR Tryz.prog 147 #[(.pointer p0), (.int .u32 x1), (.slice (some (blk w1.heap.size)) 3 3)] w2 fun v2 w3 =>
 ∃ x3 : Bool, v2 = (.bool x3) ∧
 ifB (!x3)
 (R (.tuple #[(.slice none 0 0), (.int .i64 (100 : Int))]) w3)
 (ldS w3.drew ((blk w.heap.size).add 3) fun x4 =>
 derefP p0 fun a5 =>
 ldP w3.drew a5 fun x6 =>
 ldI w3.drew ((blk w.heap.size).add 1) .u32 fun x7 =>
 callR Tryz.prog 148 #[(.pointer x6), (.int .u32 x7)] w3.drew fun v8 w4 =>
 ∃ x9 : Int, v8 = (.int .i64 x9) ∧
 w4.cell? ((blk w.heap.size).add 3) = some (.slice x4.a x4.l x4.c) ∧
 ifB ((x4.l : Int) != x9)
 (R (.tuple #[(.slice none 0 0), (.int .i64 (111 : Int))]) w4)
 (ldS w4 ((blk w.heap.size).add 3) fun x10 =>
 LoopW (S := Sl × Int × Unit) (fun s11 w5 n12 =>
 ifB (decide (s11.2.1 < (x10.l : Int)))
 ((0 ≤ s11.2.1 ∧ s11.2.1 < (x10.l : Int)) ∧
 derefP x10.a fun a13 =>
 ldI w5 ((a13.add ((Int.toNat s11.2.1) * 3)).add 0) .u8 fun x14 =>
 ldI w5 ((a13.add ((Int.toNat s11.2.1) * 3)).add 1) .u32 fun x15 =>
 ldStr w5 ((a13.add ((Int.toNat s11.2.1) * 3)).add 2) fun x16 =>
 Nw (w5.alloc (.cells #[(.int .u8 (0 : Int)), (.int .u32 (0 : Int)), (.string (ByteArray.mk #[]))] 55)) fun w6 =>
 Wr w6 (blk w5.heap.size) ∧
 Nw (w6.setCell (blk w5.heap.size) (.int .u8 x14)) fun w7 =>
 Wr w7 ((blk w5.heap.size).add 1) ∧
 Nw (w7.setCell ((blk w5.heap.size).add 1) (.int .u32 x15)) fun w8 =>
 Wr w8 ((blk w5.heap.size).add 2) ∧
 Nw (w8.setCell ((blk w5.heap.size).add 2) (.string x16)) fun w9 =>
 derefP p0 fun a17 =>
 ldP w9.drew a17 fun x18 =>
 ldI w9.drew ((blk w.heap.size).add 1) .u32 fun x19 =>
 callR Tryz.prog 149 #[(.pointer x18), (.int .u32 x19), (.int .i64 s11.2.1)] w9.drew fun v20 w10 =>
 ∃ x21 : Int, ∃ x22 : Bool, v20 = (.tuple #[(.int .u32 x21), (.bool x22)]) ∧
 ldI w10 ((blk w5.heap.size).add 1) .u32 fun x23 =>
 callR Tryz.prog 150 #[(.pointer p0), (.int .u32 x23), (.int .u32 x21)] w10 fun v24 w11 =>
 ∃ x25 : Sl, ∃ x26 : Int, v24 = (.tuple #[(.slice x25.a x25.l x25.c), (.int .i64 x26)]) ∧
 ifB (x26 != (0 : Int))
 (R (.tuple #[(.slice none 0 0), (.int .i64 x26)]) w11)
 (appendS Tryz.prog 30 (.slice s11.1.a s11.1.l s11.1.c) (.slice x25.a x25.l x25.c) w11 fun r27 w12 =>
 n12 (r27, (IntKind.i64.wrap (s11.2.1 + (1 : Int))), ()) w12))
 (R (.tuple #[(.slice s11.1.a s11.1.l s11.1.c), (.int .i64 (0 : Int))]) w5))
 ((Sl.mk none 0 0), (0 : Int), ()) w4))
theorem consts_Pool_composite_calls (p0 : Option Addr) (p1 : (Int × Int × Int × Sl × Unit)) (R : Value → World → Prop) (w : World) (h : L_consts_Pool_composite p0 p1 R w) : Calls Tryz.prog 106 #[(.pointer p0), (.agg #[(.int .u16 p1.1), (.int .u32 p1.2.1), (.int .u32 p1.2.2.1), (.slice p1.2.2.2.1.a p1.2.2.2.1.l p1.2.2.2.1.c)])] w (Ret R) :=
 lw_calls (fs := Tryz.fs) (an := a_consts_Pool_composite) (args := [(.pointer p0), (.agg #[(.int .u16 p1.1), (.int .u32 p1.2.1), (.int .u32 p1.2.2.1), (.slice p1.2.2.2.1.a p1.2.2.2.1.l p1.2.2.2.1.c)])]) Tryz.fsOK Tryz.mixed Tryz.func106 (by kernel_rfl) (by kernel_rfl)
 (Eq.mpr (by kernel_rfl : lwFn Tryz.prog Tryz.fs Tryz.f106 a_consts_Pool_composite [(.pointer p0), (.agg #[(.int .u16 p1.1), (.int .u32 p1.2.1), (.int .u32 p1.2.2.1), (.slice p1.2.2.2.1.a p1.2.2.2.1.l p1.2.2.2.1.c)])] w R = L_consts_Pool_composite p0 p1 R w) h)

/-- (*intaglio.consts.Pool).holds -/
def a_consts_Pool_holds : Ann := (.seq none .nil (.seq none .nil (.seq none (.seq none .nil (.cond (.seq none .nil .nil) .nil)) (.seq none .nil (.seq none .nil (.seq (some ⟨[0, 3, 4, 8], []⟩) (.seq none .nil (.cond (.seq none .nil .nil) .nil)) (.seq none (.seq none .nil (.cond (.seq none .nil (.seq none .nil .nil)) .nil)) (.seq none .nil (.seq none .nil (.seq none .nil .nil))))))))))
def L_consts_Pool_holds (p0 : Option Addr) (p1 : (Int × Int × Int × Sl × Unit)) (R : Value → World → Prop) (w : World) : Prop :=
 Nw (w.alloc (.cells #[(.int .u16 p1.1), (.int .u32 p1.2.1), (.int .u32 p1.2.2.1), (.slice p1.2.2.2.1.a p1.2.2.2.1.l p1.2.2.2.1.c)] 52)) fun w1 =>
 Nw (w1.alloc (.cells #[(.int .u32 (0 : Int)), (.int .u32 (0 : Int)), (.slice none 0 0)] 111)) fun w2 =>
 derefP p0 fun a1 =>
 ldP w2.drew a1 fun x2 =>
 ldI w2.drew ((blk w.heap.size).add 1) .u32 fun x3 =>
 callR Tryz.prog 151 #[(.pointer x2), (.int .u32 x3)] w2.drew fun v4 w3 =>
 ∃ x5 : Int, ∃ x6 : Bool, v4 = (.tuple #[(.int .u32 x5), (.bool x6)]) ∧
 ifB (!x6)
 (Wr w3 (blk w1.heap.size) ∧
 Nw (w3.setCell (blk w1.heap.size) (.int .u32 (0 : Int))) fun w4 =>
 Wr w4 ((blk w1.heap.size).add 1) ∧
 Nw (w4.setCell ((blk w1.heap.size).add 1) (.int .u32 (0 : Int))) fun w5 =>
 Wr w5 ((blk w1.heap.size).add 2) ∧
 Nw (w5.setCell ((blk w1.heap.size).add 2) (.slice none 0 0)) fun w6 =>
 ldI w6 ((blk w1.heap.size).add 0) .u32 fun x7 =>
 ldI w6 ((blk w1.heap.size).add 1) .u32 fun x8 =>
 ldS w6 ((blk w1.heap.size).add 2) fun x9 =>
 R (.tuple #[(.agg #[(.int .u32 x7), (.int .u32 x8), (.slice x9.a x9.l x9.c)]), (.int .i64 (100 : Int))]) w6)
 (ldS w3 ((blk w.heap.size).add 3) fun x10 =>
 (0 ≤ (0 : Int) ∧ (0 : Int) < (x10.l : Int)) ∧
 derefP x10.a fun a11 =>
 ldI w3 ((a11.add (0 * 3)).add 1) .u32 fun x12 =>
 Nw (w3.alloc (.cells #[(.int .u32 (0 : Int)), (.int .u32 (0 : Int)), (.slice none 0 0)] 111)) fun w7 =>
 Wr w7 (blk w3.heap.size) ∧
 Nw (w7.setCell (blk w3.heap.size) (.int .u32 x12)) fun w8 =>
 Wr w8 ((blk w3.heap.size).add 1) ∧
 Nw (w8.setCell ((blk w3.heap.size).add 1) (.int .u32 (0 : Int))) fun w9 =>
 Wr w9 ((blk w3.heap.size).add 2) ∧
 Nw (w9.setCell ((blk w3.heap.size).add 2) (.slice none 0 0)) fun w10 =>
 derefP p0 fun a13 =>
 ldP w10.drew a13 fun x14 =>
 ldI w10.drew ((blk w.heap.size).add 1) .u32 fun x15 =>
 callR Tryz.prog 149 #[(.pointer x14), (.int .u32 x15), (.int .i64 (0 : Int))] w10.drew fun v16 w11 =>
 ∃ x17 : Int, ∃ x18 : Bool, v16 = (.tuple #[(.int .u32 x17), (.bool x18)]) ∧
 Wr w11 ((blk w3.heap.size).add 1) ∧
 Nw (w11.setCell ((blk w3.heap.size).add 1) (.int .u32 x17)) fun w12 =>
 JoinW (S := Unit) (fun m19 =>
 ldI w12 (blk w3.heap.size) .u32 fun x21 =>
 ifB (x5 != x21)
 (Wr w12 (blk w1.heap.size) ∧
 Nw (w12.setCell (blk w1.heap.size) (.int .u32 (0 : Int))) fun w13 =>
 Wr w13 ((blk w1.heap.size).add 1) ∧
 Nw (w13.setCell ((blk w1.heap.size).add 1) (.int .u32 (0 : Int))) fun w14 =>
 Wr w14 ((blk w1.heap.size).add 2) ∧
 Nw (w14.setCell ((blk w1.heap.size).add 2) (.slice none 0 0)) fun w15 =>
 ldI w15 ((blk w1.heap.size).add 0) .u32 fun x22 =>
 ldI w15 ((blk w1.heap.size).add 1) .u32 fun x23 =>
 ldS w15 ((blk w1.heap.size).add 2) fun x24 =>
 R (.tuple #[(.agg #[(.int .u32 x22), (.int .u32 x23), (.slice x24.a x24.l x24.c)]), (.int .i64 (112 : Int))]) w15)
 (ldS w12 ((blk w.heap.size).add 3) fun x25 =>
 ifB (decide ((x25.l : Int) > (1 : Int)))
 (ifB (x5 == (1 : Int))
 (Wr w12 (blk w1.heap.size) ∧
 Nw (w12.setCell (blk w1.heap.size) (.int .u32 (0 : Int))) fun w16 =>
 Wr w16 ((blk w1.heap.size).add 1) ∧
 Nw (w16.setCell ((blk w1.heap.size).add 1) (.int .u32 (0 : Int))) fun w17 =>
 Wr w17 ((blk w1.heap.size).add 2) ∧
 Nw (w17.setCell ((blk w1.heap.size).add 2) (.slice none 0 0)) fun w18 =>
 ldI w18 ((blk w1.heap.size).add 0) .u32 fun x26 =>
 ldI w18 ((blk w1.heap.size).add 1) .u32 fun x27 =>
 ldS w18 ((blk w1.heap.size).add 2) fun x28 =>
 R (.tuple #[(.agg #[(.int .u32 x26), (.int .u32 x27), (.slice x28.a x28.l x28.c)]), (.int .i64 (112 : Int))]) w18)
 (m19 (()) w12))
 (m19 (()) w12)))
 (fun s20 w19 =>
 ldS w19 ((blk w.heap.size).add 3) fun x29 =>
 ifB ((x29.l : Int) == (1 : Int))
 (derefP p0 fun a30 =>
 ldP w19.drew a30 fun x31 =>
 ldI w19.drew ((blk w3.heap.size).add 1) .u32 fun x32 =>
 callR Tryz.prog 30 #[(.pointer x31), (.int .u32 x32)] w19.drew fun v33 w20 =>
 ∃ x34 : Int, v33 = (.int .i64 x34) ∧
 (0 ≤ x34 ∧ x34 ≤ x34 ∧ (4 : Int) * x34 ≤ 281474976710656 ∧ x34 ≤ 9223372036854775807) ∧
 Nw (w20.alloc (.cells (madeCells #[(.int .u32 (0 : Int))] ((Int.toNat x34) * 1)) 22)) fun w21 =>
 Wr w21 (((blk w3.heap.size).add 1).add 1) ∧
 Nw (w21.setCell (((blk w3.heap.size).add 1).add 1) (.slice (some (blk w20.heap.size)) (Int.toNat x34) (Int.toNat x34))) fun w22 =>
 ldI w22 ((blk w3.heap.size).add 0) .u32 fun x35 =>
 ldI w22 ((blk w3.heap.size).add 1) .u32 fun x36 =>
 ldS w22 ((blk w3.heap.size).add 2) fun x37 =>
 Wr w22 (blk w1.heap.size) ∧
 Nw (w22.setCell (blk w1.heap.size) (.int .u32 x35)) fun w23 =>
 Wr w23 ((blk w1.heap.size).add 1) ∧
 Nw (w23.setCell ((blk w1.heap.size).add 1) (.int .u32 x36)) fun w24 =>
 Wr w24 ((blk w1.heap.size).add 2) ∧
 Nw (w24.setCell ((blk w1.heap.size).add 2) (.slice x37.a x37.l x37.c)) fun w25 =>
 ldI w25 ((blk w1.heap.size).add 0) .u32 fun x38 =>
 ldI w25 ((blk w1.heap.size).add 1) .u32 fun x39 =>
 ldS w25 ((blk w1.heap.size).add 2) fun x40 =>
 R (.tuple #[(.agg #[(.int .u32 x38), (.int .u32 x39), (.slice x40.a x40.l x40.c)]), (.int .i64 (0 : Int))]) w25)
 (ldS w19.drew ((blk w.heap.size).add 3) fun x41 =>
 (0 ≤ (1 : Int) ∧ (1 : Int) < (x41.l : Int)) ∧
 derefP x41.a fun a42 =>
 ldI w19.drew ((a42.add (1 * 3)).add 1) .u32 fun x43 =>
 ldI w19.drew ((blk w3.heap.size).add 1) .u32 fun x44 =>
 callR Tryz.prog 150 #[(.pointer p0), (.int .u32 x43), (.int .u32 x44)] w19.drew fun v45 w26 =>
 ∃ x46 : Sl, ∃ x47 : Int, v45 = (.tuple #[(.slice x46.a x46.l x46.c), (.int .i64 x47)]) ∧
 Wr w26 (((blk w3.heap.size).add 1).add 1) ∧
 Nw (w26.setCell (((blk w3.heap.size).add 1).add 1) (.slice x46.a x46.l x46.c)) fun w27 =>
 ldI w27 ((blk w3.heap.size).add 0) .u32 fun x48 =>
 ldI w27 ((blk w3.heap.size).add 1) .u32 fun x49 =>
 ldS w27 ((blk w3.heap.size).add 2) fun x50 =>
 Wr w27 (blk w1.heap.size) ∧
 Nw (w27.setCell (blk w1.heap.size) (.int .u32 x48)) fun w28 =>
 Wr w28 ((blk w1.heap.size).add 1) ∧
 Nw (w28.setCell ((blk w1.heap.size).add 1) (.int .u32 x49)) fun w29 =>
 Wr w29 ((blk w1.heap.size).add 2) ∧
 Nw (w29.setCell ((blk w1.heap.size).add 2) (.slice x50.a x50.l x50.c)) fun w30 =>
 ldI w30 ((blk w1.heap.size).add 0) .u32 fun x51 =>
 ldI w30 ((blk w1.heap.size).add 1) .u32 fun x52 =>
 ldS w30 ((blk w1.heap.size).add 2) fun x53 =>
 R (.tuple #[(.agg #[(.int .u32 x51), (.int .u32 x52), (.slice x53.a x53.l x53.c)]), (.int .i64 x47)]) w30)))
theorem consts_Pool_holds_calls (p0 : Option Addr) (p1 : (Int × Int × Int × Sl × Unit)) (R : Value → World → Prop) (w : World) (h : L_consts_Pool_holds p0 p1 R w) : Calls Tryz.prog 107 #[(.pointer p0), (.agg #[(.int .u16 p1.1), (.int .u32 p1.2.1), (.int .u32 p1.2.2.1), (.slice p1.2.2.2.1.a p1.2.2.2.1.l p1.2.2.2.1.c)])] w (Ret R) :=
 lw_calls (fs := Tryz.fs) (an := a_consts_Pool_holds) (args := [(.pointer p0), (.agg #[(.int .u16 p1.1), (.int .u32 p1.2.1), (.int .u32 p1.2.2.1), (.slice p1.2.2.2.1.a p1.2.2.2.1.l p1.2.2.2.1.c)])]) Tryz.fsOK Tryz.mixed Tryz.func107 (by kernel_rfl) (by kernel_rfl)
 (Eq.mpr (by kernel_rfl : lwFn Tryz.prog Tryz.fs Tryz.f107 a_consts_Pool_holds [(.pointer p0), (.agg #[(.int .u16 p1.1), (.int .u32 p1.2.1), (.int .u32 p1.2.2.1), (.slice p1.2.2.2.1.a p1.2.2.2.1.l p1.2.2.2.1.c)])] w R = L_consts_Pool_holds p0 p1 R w) h)

/-- (*intaglio.consts.Pool).kinds -/
def a_consts_Pool_kinds : Ann := (.seq none .nil (.seq none .nil .nil))
def L_consts_Pool_kinds (p0 : Option Addr) (p1 : Int) (p2 : Sl) (R : Value → World → Prop) (w : World) : Prop :=
 derefP p0 fun a1 =>
 ldP w a1 fun x2 =>
 callR Tryz.prog 185 #[(.pointer x2), (.int .u32 p1)] w fun v3 w1 =>
 ∃ x4 : Int, v3 = (.int .u8 x4) ∧
 callR Tryz.prog 184 #[(.slice p2.a p2.l p2.c), (.int .u8 x4)] w1 fun v5 w2 =>
 ∃ x6 : Bool, v5 = (.bool x6) ∧
 R (.bool x6) w2
theorem consts_Pool_kinds_calls (p0 : Option Addr) (p1 : Int) (p2 : Sl) (R : Value → World → Prop) (w : World) (h : L_consts_Pool_kinds p0 p1 p2 R w) : Calls Tryz.prog 147 #[(.pointer p0), (.int .u32 p1), (.slice p2.a p2.l p2.c)] w (Ret R) :=
 lw_calls (fs := Tryz.fs) (an := a_consts_Pool_kinds) (args := [(.pointer p0), (.int .u32 p1), (.slice p2.a p2.l p2.c)]) Tryz.fsOK Tryz.mixed Tryz.func147 (by kernel_rfl) (by kernel_rfl)
 (Eq.mpr (by kernel_rfl : lwFn Tryz.prog Tryz.fs Tryz.f147 a_consts_Pool_kinds [(.pointer p0), (.int .u32 p1), (.slice p2.a p2.l p2.c)] w R = L_consts_Pool_kinds p0 p1 p2 R w) h)

/-- (*intaglio.consts.Pool).of -/
def a_consts_Pool_of : Ann := (.seq none .nil (.seq none .nil (.seq none (.one (.seq none .nil (.cond (.seq none .nil .nil) (.seq none .nil (.cond (.seq none .nil .nil) .nil))))) (.seq none .nil .nil))))
def L_consts_Pool_of (p0 : Option Addr) (p1 : Int) (p2 : Int) (R : Value → World → Prop) (w : World) : Prop :=
 derefP p0 fun a1 =>
 ldM w (a1.add 2) fun x2 =>
 lookOkK Tryz.prog 104 (.map x2) (.int .u32 p1) [(.int .u32), .slice] w fun (x3 : (Int × Sl × Unit)) (b4 : Bool) =>
 Nw (w.alloc (.cells #[(.int .u32 (0 : Int)), (.slice none 0 0)] 102)) fun w1 =>
 Wr w1 (blk w.heap.size) ∧
 Nw (w1.setCell (blk w.heap.size) (.int .u32 x3.1)) fun w2 =>
 Wr w2 ((blk w.heap.size).add 1) ∧
 Nw (w2.setCell ((blk w.heap.size).add 1) (.slice x3.2.1.a x3.2.1.l x3.2.1.c)) fun w3 =>
 ifB (!b4)
 (R (.tuple #[(.slice none 0 0), (.int .i64 (110 : Int))]) w3)
 (ldI w3 (blk w.heap.size) .u32 fun x5 =>
 ifB (x5 != p2)
 (R (.tuple #[(.slice none 0 0), (.int .i64 (111 : Int))]) w3)
 (ldS w3 ((blk w.heap.size).add 1) fun x6 =>
 R (.tuple #[(.slice x6.a x6.l x6.c), (.int .i64 (0 : Int))]) w3))
theorem consts_Pool_of_calls (p0 : Option Addr) (p1 : Int) (p2 : Int) (R : Value → World → Prop) (w : World) (h : L_consts_Pool_of p0 p1 p2 R w) : Calls Tryz.prog 150 #[(.pointer p0), (.int .u32 p1), (.int .u32 p2)] w (Ret R) :=
 lw_calls (fs := Tryz.fs) (an := a_consts_Pool_of) (args := [(.pointer p0), (.int .u32 p1), (.int .u32 p2)]) Tryz.fsOK Tryz.mixed Tryz.func150 (by kernel_rfl) (by kernel_rfl)
 (Eq.mpr (by kernel_rfl : lwFn Tryz.prog Tryz.fs Tryz.f150 a_consts_Pool_of [(.pointer p0), (.int .u32 p1), (.int .u32 p2)] w R = L_consts_Pool_of p0 p1 p2 R w) h)

end Go.Proofs
namespace Go.Proofs
open Go.Gk
set_option linter.unusedVariables false
set_option maxRecDepth 100000

/-- slices.Contains[[]uint8,uint8] -/
def a_slices_Contains_suint8_uint8 : Ann := (.seq none .nil (.seq none .nil .nil))
def L_slices_Contains_suint8_uint8 (p0 : Sl) (p1 : Int) (R : Value → World → Prop) (w : World) : Prop :=
 callR Tryz.prog 239 #[(.slice p0.a p0.l p0.c), (.int .u8 p1)] w fun v1 w1 =>
 ∃ x2 : Int, v1 = (.int .i64 x2) ∧
 R (.bool (decide (x2 ≥ (0 : Int)))) w1
theorem slices_Contains_suint8_uint8_calls (p0 : Sl) (p1 : Int) (R : Value → World → Prop) (w : World) (h : L_slices_Contains_suint8_uint8 p0 p1 R w) : Calls Tryz.prog 184 #[(.slice p0.a p0.l p0.c), (.int .u8 p1)] w (Ret R) :=
 lw_calls (fs := Tryz.fs) (an := a_slices_Contains_suint8_uint8) (args := [(.slice p0.a p0.l p0.c), (.int .u8 p1)]) Tryz.fsOK Tryz.mixed Tryz.func184 (by kernel_rfl) (by kernel_rfl)
 (Eq.mpr (by kernel_rfl : lwFn Tryz.prog Tryz.fs Tryz.f184 a_slices_Contains_suint8_uint8 [(.slice p0.a p0.l p0.c), (.int .u8 p1)] w R = L_slices_Contains_suint8_uint8 p0 p1 R w) h)

/-- slices.Index[[]uint8,uint8] -/
def a_slices_Index_suint8_uint8 : Ann := (.seq none .nil (.seq none (.seq none .nil (.one (.loop ⟨[0, 1, 7], [(8, (.b (.int .i64)))]⟩ (.seq none .nil (.seq none (.cond .nil .nil) (.seq none (.one (.seq none .nil (.seq none .nil (.cond (.seq none .nil .nil) .nil)))) .nil)))))) (.seq none .nil .nil)))
def L_slices_Index_suint8_uint8 (p0 : Sl) (p1 : Int) (R : Value → World → Prop) (w : World) : Prop :=
 LoopW (S := Int × Unit) (fun s1 w1 n2 =>
 ifB (decide (s1.1 < (p0.l : Int)))
 ((0 ≤ s1.1 ∧ s1.1 < (p0.l : Int)) ∧
 derefP p0.a fun a3 =>
 ldI w1 (a3.add (Int.toNat s1.1)) .u8 fun x4 =>
 ifB (p1 == x4)
 (R (.int .i64 s1.1) w1)
 (n2 ((IntKind.i64.wrap (s1.1 + (1 : Int))), ()) w1))
 (R (.int .i64 (-1 : Int)) w1))
 ((0 : Int), ()) w
theorem slices_Index_suint8_uint8_calls (p0 : Sl) (p1 : Int) (R : Value → World → Prop) (w : World) (h : L_slices_Index_suint8_uint8 p0 p1 R w) : Calls Tryz.prog 239 #[(.slice p0.a p0.l p0.c), (.int .u8 p1)] w (Ret R) :=
 lw_calls (fs := Tryz.fs) (an := a_slices_Index_suint8_uint8) (args := [(.slice p0.a p0.l p0.c), (.int .u8 p1)]) Tryz.fsOK Tryz.mixed Tryz.func239 (by kernel_rfl) (by kernel_rfl)
 (Eq.mpr (by kernel_rfl : lwFn Tryz.prog Tryz.fs Tryz.f239 a_slices_Index_suint8_uint8 [(.slice p0.a p0.l p0.c), (.int .u8 p1)] w R = L_slices_Index_suint8_uint8 p0 p1 R w) h)

end Go.Proofs
namespace Go.Proofs
open Go.Gk Go.RowKit Go.Gm

abbrev Cv := Int × Sl × Unit
abbrev Vv := Int × Int × Sl × Unit
abbrev cvK : List BK := [(.int .u32), .slice]
abbrev vvK : List BK := [(.int .u32), (.int .u32), .slice]
def cv0 : Cv := (0, ⟨none, 0, 0⟩, ())
def vv0 : Vv := (0, 0, ⟨none, 0, 0⟩, ())
abbrev vvV (v : Vv) : List Value := [.int .u32 v.1, .int .u32 v.2.1, .slice v.2.2.1.a v.2.2.1.l v.2.2.1.c]
/-- Words in memory, in blocks that A allows. -/
structure WdOk (A : Nat → Prop) (w : World) (s : Sl) (l : List Int) : Prop where
  is : IsS (Value.int .u32) w s l
  loc : ∀ y, s.a = some y → A y.block ∧ y.block < w.heap.size
section
variable {A A' : Nat → Prop} {w w' : World} {s : Sl} {l : List Int}
theorem WdOk.keep (h : WdOk A w s l) (hk : ∀ b, A b → b < w.heap.size → w'.heap[b]? = w.heap[b]? ∧ A' b) (hs : w.heap.size ≤ w'.heap.size) : WdOk A' w' s l :=
  ⟨h.is.of_block fun a ha hlt => (hk _ (h.loc a ha).1 hlt).1, fun y hy => ⟨(hk _ (h.loc y hy).1 (h.loc y hy).2).2, by have := (h.loc y hy).2; omega⟩⟩
theorem WdOk.below (h : WdOk A w s l) (hb : Below w.heap.size w w') : WdOk A w' s l := h.keep (fun b h1 h2 => ⟨hb.block b h2, h1⟩) hb.size
theorem WdOk.mono (h : WdOk A w s l) (hA : ∀ b, A b → b < w.heap.size → A' b) : WdOk A' w s l := h.keep (fun b h1 h2 => ⟨rfl, hA b h1 h2⟩) (Nat.le_refl _)
theorem WdOk.nil (A : Nat → Prop) (w : World) : WdOk A w ⟨none, 0, 0⟩ [] := ⟨nilS _ w, fun y hy => by cases hy⟩
theorem WdOk.blk {b : Nat} (hB : Blk w b 22 (l.map (Value.int .u32))) (hA : A b) (hl : l.length ≤ 9223372036854775807) : WdOk A w ⟨some (Gk.blk b), l.length, l.length⟩ l :=
  ⟨⟨rfl, Nat.le_refl _, hl, fun e => (by cases e), fun a ha i hi => (by cases ha; exact hB.cell (by rw [List.getElem?_map, List.getElem?_eq_getElem hi]; rfl))⟩, fun y hy => by cases hy; exact ⟨hA, hB.lt⟩⟩
theorem WdOk.own (h : Own w 22 1 s (l.map (Value.int .u32))) (hA : ∀ y, s.a = some y → A y.block) : WdOk A w s l :=
  ⟨h.isS, fun y hy => ⟨hA y hy, (h.lt hy).2⟩⟩
end
structure CvOk (A : Nat → Prop) (w : World) (v : Cv) (c : Cn) : Prop where
  ty : v.1 = c.1
  wd : WdOk A w v.2.1 c.2
structure VvOk (A : Nat → Prop) (w : World) (v : Vv) (c : Vn) : Prop where
  cl : v.1 = c.1
  ty : v.2.1 = c.2.1
  wd : WdOk A w v.2.2.1 c.2.2
/-- The map of the constants, of the variables. -/
def IsCn (w : World) (A : Nat → Prop) (r : Nat) (C : CnL) : Prop := ∃ V : List (Int × Cv), IsMq w r (aggQ cvK) V ∧ Al2 (fun a c => a.1 = c.1 ∧ CvOk A w a.2 c.2) V C
def IsVn (w : World) (A : Nat → Prop) (r : Nat) (C : VnL) : Prop := ∃ V : List (Int × Vv), IsMq w r (aggQ vvK) V ∧ Al2 (fun a c => a.1 = c.1 ∧ VvOk A w a.2 c.2) V C
section
variable {A A' : Nat → Prop} {w w' : World} {r : Nat} {C : CnL} {D : VnL}
theorem IsCn.keep (h : IsCn w A r C) (hr : w'.heap[r]? = w.heap[r]?) (hk : ∀ b, A b → b < w.heap.size → w'.heap[b]? = w.heap[b]? ∧ A' b) (hs : w.heap.size ≤ w'.heap.size) : IsCn w' A' r C := by
  obtain ⟨V, h1, h2⟩ := h
  exact ⟨V, h1.of_block hr, allR (fun a c q => ⟨q.1, q.2.ty, q.2.wd.keep hk hs⟩) h2⟩
theorem IsVn.keep (h : IsVn w A r D) (hr : w'.heap[r]? = w.heap[r]?) (hk : ∀ b, A b → b < w.heap.size → w'.heap[b]? = w.heap[b]? ∧ A' b) (hs : w.heap.size ≤ w'.heap.size) : IsVn w' A' r D := by
  obtain ⟨V, h1, h2⟩ := h
  exact ⟨V, h1.of_block hr, allR (fun a c q => ⟨q.1, q.2.cl, q.2.ty, q.2.wd.keep hk hs⟩) h2⟩
theorem IsCn.lt (h : IsCn w A r C) : r < w.heap.size := by obtain ⟨V, h1, _⟩ := h; exact h1.lt
theorem IsVn.lt (h : IsVn w A r D) : r < w.heap.size := by obtain ⟨V, h1, _⟩ := h; exact h1.lt
theorem IsCn.below (h : IsCn w A r C) (hb : Below w.heap.size w w') : IsCn w' A r C := h.keep (hb.block r h.lt) (fun b h1 h2 => ⟨hb.block b h2, h1⟩) hb.size
theorem IsVn.below (h : IsVn w A r D) (hb : Below w.heap.size w w') : IsVn w' A r D := h.keep (hb.block r h.lt) (fun b h1 h2 => ⟨hb.block b h2, h1⟩) hb.size
theorem uCn : Tryz.prog.underlying 104 = some (.map 22 102) := by kernel_rfl
theorem uVn : Tryz.prog.underlying 105 = some (.map 22 111) := by kernel_rfl
theorem zCn : ∃ i, Tryz.prog.info? 102 = some i ∧ i.zero = some (aggQ cvK cv0) := by
  have h : (Tryz.prog.info? 102).map (·.zero) = some (some (aggQ cvK cv0)) := by kernel_rfl
  cases hi : Tryz.prog.info? 102 with
  | none => rw [hi] at h; cases h
  | some i => rw [hi] at h; exact ⟨i, rfl, by injection h⟩
theorem zVn : ∃ i, Tryz.prog.info? 111 = some i ∧ i.zero = some (aggQ vvK vv0) := by
  have h : (Tryz.prog.info? 111).map (·.zero) = some (some (aggQ vvK vv0)) := by kernel_rfl
  cases hi : Tryz.prog.info? 111 with
  | none => rw [hi] at h; cases h
  | some i => rw [hi] at h; exact ⟨i, rfl, by injection h⟩
theorem IsCn.looked (h : IsCn w A r C) (id : Int) : ∃ V : List (Int × Cv), IsMq w r (aggQ cvK) V ∧ (lookQ V id).isSome = (lookQ C id).isSome ∧ CvOk A w ((lookQ V id).getD cv0) ((lookQ C id).getD (0, [])) := by
  obtain ⟨V, h1, h2⟩ := h
  refine ⟨V, h1, ?_⟩
  rcases lookR h2 (id := id) with ⟨e1, e2⟩ | ⟨v, t, e1, e2, e3⟩
  · rw [e1, e2]
    exact ⟨rfl, rfl, WdOk.nil A w⟩
  · rw [e1, e2]
    exact ⟨rfl, e3⟩
theorem IsVn.looked (h : IsVn w A r D) (id : Int) : ∃ V : List (Int × Vv), IsMq w r (aggQ vvK) V ∧ (lookQ V id).isSome = (lookQ D id).isSome ∧ VvOk A w ((lookQ V id).getD vv0) ((lookQ D id).getD (0, 0, [])) := by
  obtain ⟨V, h1, h2⟩ := h
  refine ⟨V, h1, ?_⟩
  rcases lookR h2 (id := id) with ⟨e1, e2⟩ | ⟨v, t, e1, e2, e3⟩
  · rw [e1, e2]
    exact ⟨rfl, rfl, rfl, WdOk.nil A w⟩
  · rw [e1, e2]
    exact ⟨rfl, e3⟩
theorem IsCn.lookOk (h : IsCn w A r C) {id : Int} {φ : HL cvK → Bool → Prop} (hφ : ∀ v : Cv, CvOk A w v ((lookQ C id).getD (0, [])) → φ v (lookQ C id).isSome) : lookOkK Tryz.prog 104 (.map (some r)) (.int .u32 id) cvK w φ := by
  obtain ⟨V, h1, h2, h3⟩ := h.looked id
  exact lookOkK_of (ks := cvK) (d := cv0) uCn Tryz.underlying22 zCn h1 (by have h4 := hφ _ h3; rw [← h2] at h4; exact h4)
theorem IsVn.lookOk (h : IsVn w A r D) {id : Int} {φ : HL vvK → Bool → Prop} (hφ : ∀ v : Vv, VvOk A w v ((lookQ D id).getD (0, 0, [])) → φ v (lookQ D id).isSome) : lookOkK Tryz.prog 105 (.map (some r)) (.int .u32 id) vvK w φ := by
  obtain ⟨V, h1, h2, h3⟩ := h.looked id
  exact lookOkK_of (ks := vvK) (d := vv0) uVn Tryz.underlying22 zVn h1 (by have h4 := hφ _ h3; rw [← h2] at h4; exact h4)
end
/-- A pool that is read while it grows. -/
structure IsPq (w : World) (B pb : Nat) (A : Nat → Prop) (T : TyL) (C : CnL) : Prop where
  ex : ∃ (tb r r2 : Nat) (o1 o2 : Sl), Blk w pb 107 [.pointer (some (Gk.blk tb)), .slice o1.a o1.l o1.c, .map (some r), .slice o2.a o2.l o2.c, .map (some r2)] ∧ IsTb w B tb T ∧ IsCn w A r C
theorem IsPq.below {w w' : World} {B pb : Nat} {A : Nat → Prop} {T : TyL} {C : CnL} (h : IsPq w B pb A T C) (hb : Below w.heap.size w w') : IsPq w' B pb A T C := by
  obtain ⟨tb, r, r2, o1, o2, h1, h2, h3⟩ := h
  exact ⟨tb, r, r2, o1, o2, h1.below hb, h2.below hb, h3.below hb⟩
theorem IsPq.drew {w : World} {B pb : Nat} {A : Nat → Prop} {T : TyL} {C : CnL} (h : IsPq w B pb A T C) : IsPq w.drew B pb A T C := h.below (Below.refl _ _).drew
section
variable {w : World} {B pb id ty : Nat} {A : Nat → Prop} {T : TyL} {C : CnL} {R : Value → World → Prop}
theorem pContains8 {s : Sl} {l : List Int} {n : Int} (h : IsS (Value.int .u8) w s l) (hR : R (.bool (l.contains n)) w) :
    callR Tryz.prog 184 #[.slice s.a s.l s.c, .int .u8 n] w R := by
  refine callR.of (slices_Contains_suint8_uint8_calls s n R w ?_) fun _ _ h => h
  refine callR.of (slices_Index_suint8_uint8_calls s n _ w ?_) fun _ _ h => h
  have hl := h.len
  refine LoopW.count l.length h.bound (fun k w' => w' = w ∧ ∀ j (hj : j < l.length), j < k → l[j] ≠ n) ⟨rfl, fun j hj hk => absurd hk (by omega)⟩ ?_
  rintro k _ hk ⟨rfl, hn⟩ next hnext
  refine ifB_dec (fun hlt => ?_) (fun hge => ⟨_, rfl, ?_⟩)
  · have hlt : k < l.length := by dsimp only at hlt; omega
    refine h.addr hlt fun a _ hc => ⟨l[k], by simpa using hc, ifB_beq (fun e => ⟨_, rfl, ?_⟩) (fun e => hnext _ hlt ⟨rfl, fun j hj hjk => ?_⟩)⟩
    · have e0 : decide ((k : Int) ≥ 0) = l.contains n := by
        have : l.contains n = true := List.contains_iff_mem.2 (e ▸ List.getElem_mem hlt)
        rw [this]
        simp
      rw [← e0] at hR
      exact hR
    · by_cases e' : j = k
      · subst e'; exact fun h => e h.symm
      · exact hn j hj (by omega)
  · have e0 : l.contains n = false := by
      cases hc : l.contains n with
      | false => rfl
      | true =>
        obtain ⟨j, hj, e⟩ := List.mem_iff_getElem.1 (List.contains_iff_mem.1 hc)
        exact absurd e (hn j hj (by dsimp only at hge; omega))
    rw [e0] at hR
    exact hR
theorem kinds_spec {ty : Int} {s : Sl} {l : List Int} (h : IsPq w B pb A T C) (hs : IsS (Value.int .u8) w s l) (hR : ∀ w', Below w.heap.size w w' → R (.bool (l.contains (tA T ty).kind)) w') :
    callR Tryz.prog 147 #[.pointer (some (blk pb)), .int .u32 ty, .slice s.a s.l s.c] w R := by
  refine callR.of (consts_Pool_kinds_calls _ ty s R w ?_) fun _ _ h => h
  obtain ⟨tb, r, r2, o1, o2, h1, h2, h3⟩ := h
  refine derefP_some rfl ⟨_, h1.cell0 rfl, tyKind_spec h2 fun w1 b1 => ⟨_, rfl, pContains8 (hs.below b1) ⟨_, rfl, hR w1 b1⟩⟩⟩
theorem of_spec {id ty : Int} (h : IsPq w B pb A T C) (hR : ∀ w' s, WdOk A w' s (ofC C id ty).1 → Below w.heap.size w w' → R (.tuple #[.slice s.a s.l s.c, .int .i64 (ofC C id ty).2]) w') :
    callR Tryz.prog 150 #[.pointer (some (blk pb)), .int .u32 id, .int .u32 ty] w R := by
  refine callR.of (consts_Pool_of_calls _ id ty R w ?_) fun _ _ h => h
  obtain ⟨tb, r, r2, o1, o2, h1, h2, h3⟩ := h
  refine derefP_some rfl ⟨_, h1.cell (n := 2) rfl, h3.lookOk fun v hv => ?_⟩
  refine box2 rfl fun w1 hB1 b1 z1 => ?_
  unfold ofC at hR
  cases hl : lookQ C id with
  | none =>
    rw [hl] at hR
    exact ifB_true rfl (hR w1 ⟨none, 0, 0⟩ (WdOk.nil A w1) b1)
  | some c =>
    rw [hl] at hR hv
    have hv : CvOk A w v c := hv
    dsimp only at hR
    refine ifB_false rfl (hB1.rI0 rfl (ifB_bne (fun e => ?_) (fun e => hB1.rS (n := 1) (x := v.2.1) rfl ?_)))
    · rw [if_pos (by rw [hv.ty] at e; exact e)] at hR
      exact hR w1 ⟨none, 0, 0⟩ (WdOk.nil A w1) b1
    · rw [if_neg (fun q => q (by rw [hv.ty] at e; exact e))] at hR
      exact hR w1 v.2.1 (hv.wd.below b1) b1
end
end Go.Proofs
namespace Go.Proofs
open Go.Gk Go.RowKit Go.Gm

theorem isS_blk {α : Type} {f : α → Value} {w : World} {b : Nat} {T : TypeId} {l : List α} (hB : Blk w b T (l.map f)) (hl : l.length ≤ 9223372036854775807) : IsS f w ⟨some (Gk.blk b), l.length, l.length⟩ l :=
  ⟨rfl, Nat.le_refl _, hl, fun e => (by cases e), fun a ha i hi => (by cases ha; exact hB.cell (by rw [List.getElem?_map, List.getElem?_eq_getElem hi]; rfl))⟩
/-- append of nothing. -/
theorem append_zero {P : Program} {t e : TypeId} {sz bytes : Nat} (he : ElemT P t e sz bytes) {w : World} {s : Sl} {xs : List Value} (h : Own w e sz s xs) {c : Nat} {k : Sl → World → Prop} (hk : k s w) : appendS P t (.slice s.a s.l s.c) (.slice none 0 c) w k := by
  obtain ⟨hu, i, z, hi, rfl, rfl, hz, hzs⟩ := he
  obtain ⟨hx, h2⟩ := h
  rcases h2 with rfl | ⟨b, cs, ha, hB, hc, hcm, hcs, htk⟩
  · refine ⟨⟨none, 0, 0⟩, w, ?_, hk⟩
    simp [Builtin.append_, run_underlying hu, sizeOf, typeInfo, hi, Builtin.lenOf, Builtin.firstCells, Sl.v]
  · obtain ⟨sa, sl, sc⟩ := s
    dsimp only at ha hc
    subst ha
    refine ⟨⟨some (blk b), sl, sc⟩, w, ?_, hk⟩
    simp [Builtin.append_, run_underlying hu, sizeOf, typeInfo, hi, Builtin.lenOf, Builtin.firstCells, Sl.v, hc, storeCells]
theorem makeU {w : World} {n : Nat} (hn : n ≤ 4294967296) {K : World → Prop} (hK : ∀ w', Blk w' w.heap.size 22 (List.replicate n (.int .u32 0)) → Below w.heap.size w w' → K w') :
    (0 ≤ (n : Int) ∧ (n : Int) ≤ (n : Int) ∧ (4 : Int) * (n : Int) ≤ 281474976710656 ∧ (n : Int) ≤ 9223372036854775807) ∧ Nw (w.alloc (.cells (madeCells #[(.int .u32 (0 : Int))] ((Int.toNat (n : Int)) * 1)) 22)) K :=
  ⟨⟨by omega, by omega, by omega, by omega⟩, Nw.gen fun w' e => hK w' (by rw [e]; exact Blk.made w _ _ n) (by rw [e]; exact (Below.refl _ _).alloc (Nat.le_refl _) _)⟩
/-- What a maker hands out. -/
def MkR (R : Value → World → Prop) (w : World) (p : List Int × Int) : Prop := ∀ w' s, WdOk (fun b => w.heap.size ≤ b) w' s p.1 → Below w.heap.size w w' → R (.tuple #[.slice s.a s.l s.c, .int .i64 p.2]) w'
section
variable {w : World} {B pb k : Nat} {A : Nat → Prop} {T : TyL} {C : CnL} {R : Value → World → Prop} {pl : List PI} {t : Sl} {bd : Int}
theorem replU (n : Nat) : (List.replicate n (0 : Int)).map (Value.int .u32) = List.replicate n (Value.int .u32 0) := List.map_replicate ..
theorem cNothing_spec {x : Ins} (h : IsPq w B pb A T C) (hT : TbOk T) (hR : MkR R w (if (tA T x.2.1).size = 0 then ([], 100) else (List.replicate (tA T x.2.1).size 0, 0))) :
    callR Tryz.prog 103 #[.pointer (some (blk pb)), inA x] w R := by
  refine callR.of (consts_Pool_nothing_calls _ x R w ?_) fun _ _ h => h
  refine lay_of fun w1 hI1 b1 z1 => ?_
  have hI1 : Blk w1 w.heap.size 52 (inV x) := hI1
  obtain ⟨tb, r, r2, o1, o2, h1, h2, h3⟩ := (h.below b1).drew
  refine derefP_some rfl ⟨_, h1.cell0 rfl, hI1.drew.rI (n := 1) rfl (tyPlain_spec h2 fun w2 b2 => ⟨_, rfl, ?_⟩)⟩
  have b02 := (b1.drew).on b2
  refine ifB_not (ifB_dec (fun g => ?_) (fun g => ?_))
  · rw [if_neg (by omega)] at hR
    refine derefP_some rfl ⟨_, (h1.below b2).drew.cell0 rfl, (hI1.drew.below b2).drew.rI (n := 1) rfl (tySize_spec ((h2.below b2).below (Below.refl _ _).drew) fun w3 b3 => ⟨_, rfl, makeU (by have := tA_max hT x.2.1; omega) fun w4 h4 b4 => ?_⟩)⟩
    have b24 := (b02.drew).on (b3.on b4)
    have := hR w4 ⟨some (blk w3.heap.size), (tA T x.2.1).size, (tA T x.2.1).size⟩ (by
      have q := WdOk.blk (A := fun b => w.heap.size ≤ b) (l := List.replicate (tA T x.2.1).size 0) (b := w3.heap.size) (w := w4) (by rw [replU]; exact h4) (by have := b02.size; have := b3.size; show w.heap.size ≤ w3.heap.size; exact Nat.le_trans ‹_› ‹_›) (by rw [List.length_replicate]; have := tA_max hT x.2.1; omega)
      rw [List.length_replicate] at q
      exact q) b24
    rw [Int.toNat_natCast]
    exact this
  · rw [if_pos (by omega)] at hR
    exact hR w2 ⟨none, 0, 0⟩ (WdOk.nil _ _) b02
theorem one8 {w : World} {v : Int} {K : World → Prop} (hK : ∀ w', IsS (Value.int .u8) w' ⟨some (blk w.heap.size), 1, 1⟩ [v] → Below w.heap.size w w' → K w') : Nw (w.alloc (.cells #[.int .u8 v] 5)) K :=
  lay_of fun w1 h1 b1 _ => hK w1 (isS_blk (l := [v]) h1 (by simp)) b1
theorem cTruth_spec {x : Ins} (h : IsPq w B pb A T C) (hR : MkR R w (if (tA T x.2.1).kind ≠ 2 then ([], 100) else (if x.1 = 41 then [1] else [0], 0))) :
    callR Tryz.prog 104 #[.pointer (some (blk pb)), inA x] w R := by
  refine callR.of (consts_Pool_truth_calls _ x R w ?_) fun _ _ h => h
  refine lay_of fun w1 hI1 b1 z1 => ?_
  have hI1 : Blk w1 w.heap.size 52 (inV x) := hI1
  refine hI1.rI (n := 1) (x := x.2.1) rfl ?_
  refine one8 fun w2 hS b2 => ?_
  refine kinds_spec (s := ⟨some (blk w1.heap.size), 1, 1⟩) (h.below (b1.on b2)) hS fun w3 b3 => ?_
  refine ⟨_, rfl, ?_⟩
  have b03 := (b1.on b2).on b3
  refine ifB_not (ifB_bool (fun g => ?_) (fun g => ?_))
  · have g : (tA T x.2.1).kind = 2 := by simpa using g
    rw [if_neg (fun q => q g)] at hR
    refine ((hI1.below b2).below b3).rI0 rfl (ifB_beq (fun e => ?_) (fun e => ?_))
    all_goals
      refine lay_of fun w4 h4 b4 z4 => ?_
    · have e : x.1 = 41 := e
      rw [if_pos e] at hR
      exact hR w4 _ (WdOk.blk (l := [1]) h4 b03.size (by simp)) (b03.on b4)
    · have e : ¬ x.1 = 41 := e
      rw [if_neg e] at hR
      exact hR w4 _ (WdOk.blk (l := [0]) h4 b03.size (by simp)) (b03.on b4)
  · have g : ¬ (tA T x.2.1).kind = 2 := by simpa using g
    rw [if_pos g] at hR
    exact hR w3 ⟨none, 0, 0⟩ (WdOk.nil _ _) b03
theorem cNumber_spec {x : Ins} {al : List Ag} (h : IsPq w B pb A T C) (ha : IsAg w x.2.2.2.1 al) (hl : (tA T x.2.1).kind = 3 → 0 < al.length) (hR : MkR R w (if (tA T x.2.1).kind ≠ 3 then ([], 100) else ([(al.getD 0 ag0).2.1], 0))) :
    callR Tryz.prog 105 #[.pointer (some (blk pb)), inA x] w R := by
  refine callR.of (consts_Pool_number_calls _ x R w ?_) fun _ _ h => h
  refine lay_of fun w1 hI1 b1 z1 => ?_
  have hI1 : Blk w1 w.heap.size 52 (inV x) := hI1
  refine hI1.rI (n := 1) (x := x.2.1) rfl ?_
  refine one8 fun w2 hS b2 => ?_
  refine kinds_spec (s := ⟨some (blk w1.heap.size), 1, 1⟩) (h.below (b1.on b2)) hS fun w3 b3 => ?_
  refine ⟨_, rfl, ?_⟩
  have b03 := (b1.on b2).on b3
  refine ifB_not (ifB_bool (fun g => ?_) (fun g => ?_))
  · have g : (tA T x.2.1).kind = 3 := by simpa using g
    rw [if_neg (fun q => q g)] at hR
    have hl := hl g
    refine ((hI1.below b2).below b3).rS (n := 3) (x := x.2.2.2.1) rfl ?_
    have ha3 : IsAg w3 x.2.2.2.1 al := IsC.below agV_len ha b03
    obtain ⟨a, he⟩ := ha3.base hl
    have hc := ha3.cell a he 0 hl 1 (by decide)
    refine ⟨⟨by decide, by have := ha3.len; omega⟩, derefP_some he ⟨al[0].2.1, by rw [add_add']; exact hc, lay_of fun w4 h4 b4 z4 => ?_⟩⟩
    rw [getD_lt hl] at hR
    exact hR w4 _ (WdOk.blk (l := [al[0].2.1]) h4 b03.size (by simp)) (b03.on b4)
  · have g : ¬ (tA T x.2.1).kind = 3 := by simpa using g
    rw [if_pos g] at hR
    exact hR w3 ⟨none, 0, 0⟩ (WdOk.nil _ _) b03
end
end Go.Proofs
namespace Go.Proofs
open Go.Gk Go.RowKit Go.Gm

theorem Wl.app {w0 w : World} {r s : Sl} {D l : List Int} (h : Wl w0 w r D) (hs : IsS (Value.int .u32) w s l) (hl : D.length + l.length ≤ 4398046511104) {k : Sl → World → Prop} (hk : ∀ r' w', Wl w0 w' r' (D ++ l) → (∀ b T cs, 22 ≠ T → Blk w b T cs → Blk w' b T cs) → k r' w') :
    appendS Tryz.prog 30 (.slice r.a r.l r.c) (.slice s.a s.l s.c) w k := by
  obtain ⟨sa, sl, sc⟩ := s
  have hl1 : sl = l.length := hs.len
  have hl2 := h.len
  cases sa with
  | none =>
    have hc : sc = 0 := hs.nil rfl
    have h2 : sl ≤ sc := hs.cap
    have h0 : sl = 0 := by omega
    subst h0
    have hnil : l = [] := List.eq_nil_of_length_eq_zero hl1.symm
    subst hnil
    exact append_zero eU32 h.own (hk r w (by rw [List.append_nil]; exact h) fun b T cs _ q => q)
  | some a =>
    refine append_own eU32 h.own (m := sl) (news := l.map (Value.int .u32)) (by rw [List.length_map]; omega) (fun j u hj => ?_) (fun u hu => by obtain ⟨x, _, rfl⟩ := List.mem_map.1 hu; rfl) (by omega) (by omega) fun r' w' h1 hl' hg => ?_
    · have hjl : j < l.length := by have := (List.getElem?_eq_some_iff.1 hj).1; rwa [List.length_map] at this
      rw [List.getElem?_map, List.getElem?_eq_getElem hjl] at hj
      cases hj
      exact hs.cell a rfl j hjl
    · rw [← List.map_append] at h1
      rcases hg with ⟨e1, e2, e3⟩ | ⟨b', h3, h4, h5⟩
      · subst e2
        refine hk r' w' ⟨h1, fun a ha => (by rw [e1] at ha; cases ha), h.below⟩ fun b T cs _ q => q
      · have hbb : w0.heap.size ≤ b' := by
          rcases h4 with h4 | h4
          · exact h.fr _ h4
          · have := h.below.size
            omega
        refine hk r' w' ⟨h1, fun a ha => (by rw [h3] at ha; cases ha; exact hbb), h.below.trans (below_grown h5 hbb h.below.size)⟩ fun b T cs hne hB => hB.of_block (h5.block _ hB.lt fun e => ?_)
        have e := Option.some.inj e
        subst e
        rcases h4 with h4 | h4
        · exact own_notBlk h.own hB hne h4
        · have := hB.lt
          omega
section
variable {w : World} {B pb k : Nat} {A : Nat → Prop} {T : TyL} {C : CnL} {R : Value → World → Prop} {pl : List PI} {t : Sl} {bd : Int}
theorem catC_err {j : Nat} (h : (catC T C pl k j).2 = 0) (he : (ofC C (agI pl k j) ((tA T (ix pl k).2.1).prt (j : Int)).1).2 ≠ 0) : ∀ n, j < n → catC T C pl k n = ([], (ofC C (agI pl k j) ((tA T (ix pl k).2.1).prt (j : Int)).1).2)
  | 0, hn => by omega
  | n + 1, hn => by
    by_cases e : j = n
    · subst e
      show (if (catC T C pl k j).2 ≠ 0 then _ else if _ ≠ 0 then _ else _) = _
      rw [if_neg (fun q => q h), if_pos he]
    · have ih := catC_err h he n (by omega)
      show (if (catC T C pl k n).2 ≠ 0 then catC T C pl k n else if _ ≠ 0 then _ else _) = _
      rw [ih, if_pos he]
theorem catC_succ {j : Nat} (h : (catC T C pl k j).2 = 0) (he : (ofC C (agI pl k j) ((tA T (ix pl k).2.1).prt (j : Int)).1).2 = 0) : catC T C pl k (j + 1) = ((catC T C pl k j).1 ++ (ofC C (agI pl k j) ((tA T (ix pl k).2.1).prt (j : Int)).1).1, 0) := by
  show (if (catC T C pl k j).2 ≠ 0 then _ else if _ ≠ 0 then _ else _) = _
  rw [if_neg (fun q => q h), if_neg (fun q => q he)]
set_option maxHeartbeats 1000000 in
theorem cComposite_spec (h : IsPq w B pb A T C) (hT : TbOk T) (hk : k < pl.length) (ht : IsAg w t pl[k].2.2.2) (hn : pl[k].2.2.2.length ≤ 65535) (hL : ∀ id c, lookQ C id = some c → c.2.length ≤ 4096)
    (hR : MkR R w (if ¬ (4 ≤ (tA T (ix pl k).2.1).kind ∧ (tA T (ix pl k).2.1).kind ≤ 6) then ([], 100) else if (ix pl k).2.2.2.length ≠ (tA T (ix pl k).2.1).cnt then ([], 111) else catC T C pl k (ix pl k).2.2.2.length)) :
    callR Tryz.prog 106 #[.pointer (some (blk pb)), inA (mkIn pl[k] t)] w R := by
  refine callR.of (consts_Pool_composite_calls _ (mkIn pl[k] t) R w ?_) fun _ _ h => h
  have hix := ix_lt hk
  refine lay_of fun w1 hI1 b1 z1 => ?_
  have hI1 : Blk w1 w.heap.size 52 (inV (mkIn pl[k] t)) := hI1
  refine hI1.rI (n := 1) (x := pl[k].2.1) rfl ?_
  refine lay_of fun w2 hS b2 z2 => ?_
  have hS : IsS (Value.int .u8) w2 ⟨some (blk w1.heap.size), 3, 3⟩ [4, 5, 6] := isS_blk (l := [4, 5, 6]) hS (by simp)
  refine kinds_spec (s := ⟨some (blk w1.heap.size), 3, 3⟩) (h.below (b1.on b2)) hS fun w3 b3 => ?_
  refine ⟨_, rfl, ?_⟩
  have b03 := (b1.on b2).on b3
  have hI3 := (hI1.below b2).below b3
  have eK : ([4, 5, 6] : List Int).contains (tA T pl[k].2.1).kind = decide (4 ≤ (tA T (ix pl k).2.1).kind ∧ (tA T (ix pl k).2.1).kind ≤ 6) := by
    rw [hix]
    generalize (tA T pl[k].2.1).kind = q
    rw [Bool.eq_iff_iff, List.contains_iff_mem, decide_eq_true_eq]
    simp only [List.mem_cons, List.not_mem_nil, or_false]
    omega
  rw [eK]
  refine ifB_not (ifB_dec (fun g => ?_) (fun g => ?_))
  rotate_left
  · rw [if_pos g] at hR
    exact hR w3 ⟨none, 0, 0⟩ (WdOk.nil _ _) b03
  rw [if_neg (fun q => q g)] at hR
  have P3 := (h.below b03).drew
  have P3' := P3
  obtain ⟨tb, r, r2, o1, o2, h1, h2, h3⟩ := P3'
  refine hI3.drew.rS (n := 3) (x := t) rfl (derefP_some rfl ⟨_, h1.cell0 rfl, hI3.drew.rI (n := 1) (x := pl[k].2.1) rfl (tyCount_spec h2 hT fun w4 b4 => ?_)⟩)
  have b04 := (b03.drew).on b4
  have hI4 := hI3.drew.below b4
  refine ⟨_, rfl, hI4.cell (n := 3) rfl, ?_⟩
  have ht4 : IsAg w4 t pl[k].2.2.2 := IsC.below agV_len ht b04
  have htl := ht4.len
  have eL : (ix pl k).2.2.2 = pl[k].2.2.2 := by rw [hix]
  rw [eL] at hR
  have eT : (ix pl k).2.1 = pl[k].2.1 := by rw [hix]
  refine ifB_bne (fun g2 => ?_) (fun g2 => ?_)
  · rw [if_pos (by rw [eT]; omega)] at hR
    exact hR w4 ⟨none, 0, 0⟩ (WdOk.nil _ _) b04
  rw [if_neg (by rw [eT]; omega)] at hR
  refine hI4.rS (n := 3) (x := t) rfl ?_
  refine LoopW.ghost (fun m (st : Sl × Int × Unit) w' => ∃ (r : Sl) (j : Nat), st = (r, (j : Int), ()) ∧ j ≤ pl[k].2.2.2.length ∧ m = pl[k].2.2.2.length - j ∧ (catC T C pl k j).2 = 0 ∧ Wl w4 w' r (catC T C pl k j).1 ∧ Blk w' w.heap.size 52 (inV (mkIn pl[k] t))) pl[k].2.2.2.length ⟨⟨none, 0, 0⟩, 0, rfl, Nat.zero_le _, rfl, rfl, Wl.nil w4, hI4⟩ ?_
  rintro _ _ w5 ⟨r, j, rfl, hj, rfl, hj0, hW, hI5⟩ next hnext
  have b05 := b04.on hW.below
  refine ifB_dec (fun g => ?_) (fun g => ?_)
  · have hjl : j < pl[k].2.2.2.length := by dsimp only at g; omega
    have eA : agI pl k j = pl[k].2.2.2[j].2.1 := by
      unfold agI
      rw [eL, getD_lt hjl]
    refine elemA3 (IsC.below agV_len ht b05) hjl (box3 rfl fun w9 h9 b9 z9 => ?_)
    obtain ⟨tb', r', r2', o1', o2', p1, p2, p3⟩ := ((h.below b05).below b9).drew
    have hI9 := hI5.below b9
    refine derefP_some rfl ⟨_, p1.cell0 rfl, hI9.drew.rI (n := 1) (x := pl[k].2.1) rfl (tyPart_spec p2 hT fun w10 b10 => ?_)⟩
    refine ⟨_, _, rfl, (h9.drew.below b10).rI (n := 1) (x := pl[k].2.2.2[j].2.1) rfl ?_⟩
    have b510 := ((b9.drew).on b10)
    refine of_spec (h.below (b05.on b510)) fun w11 s hs b11 => ?_
    rw [← eT, ← eA] at hs ⊢
    refine ⟨s, _, rfl, ifB_bne (fun he => ?_) (fun he => ?_)⟩
    · have := catC_err hj0 he _ hjl
      rw [this] at hR
      exact hR w11 ⟨none, 0, 0⟩ (WdOk.nil _ _) ((b05.on b510).on b11)
    · have hlen := catC_long (T := T) (pl := pl) (k := k) hL j
      have hlen2 := ofC_long hL (agI pl k j) ((tA T (ix pl k).2.1).prt (j : Int)).1
      have hmul : j * 4096 ≤ 65535 * 4096 := Nat.mul_le_mul_right _ (by omega)
      have hsum : (catC T C pl k j).1.length + (ofC C (agI pl k j) ((tA T (ix pl k).2.1).prt (j : Int)).1).1.length ≤ 4398046511104 := by omega
      refine ((hW.on b510).on b11).app hs.is hsum fun r' w12 hW12 hkeep => ?_
      dsimp only
      rw [wrap64_succ (by omega)]
      refine hnext (pl[k].2.2.2.length - (j + 1)) _ w12 (by omega) ⟨r', j + 1, rfl, by omega, rfl, ?_⟩
      rw [catC_succ hj0 he]
      exact ⟨rfl, hW12, hkeep _ _ _ (by decide) ((hI9.drew.below b10).below b11)⟩
  · have hje : j = pl[k].2.2.2.length := by dsimp only at g; omega
    subst hje
    have := hR w5 r (WdOk.own hW.own fun y hy => Nat.le_trans b04.size (hW.fr y hy)) b05
    rw [hj0] at this
    exact this
theorem IsPq.low (h : IsPq w B pb A T C) : IsPq w B pb (fun b => A b ∧ b < w.heap.size) T C := by
  obtain ⟨tb, r, r2, o1, o2, h1, h2, h3⟩ := h
  exact ⟨tb, r, r2, o1, o2, h1, h2, h3.keep rfl (fun b q1 q2 => ⟨rfl, q1, q2⟩) (Nat.le_refl _)⟩
/-- What holds hands out. -/
def HdR (R : Value → World → Prop) (w : World) (A : Nat → Prop) (p : Vn × Int) : Prop := ∀ w' v, VvOk (fun b => A b ∨ w.heap.size ≤ b) w' v p.1 → Below w.heap.size w w' → R (.tuple #[.agg #[.int .u32 v.1, .int .u32 v.2.1, .slice v.2.2.1.a v.2.2.1.l v.2.2.1.c], .int .i64 p.2]) w'
theorem VvOk.nil (A : Nat → Prop) (w : World) : VvOk A w vv0 (0, 0, []) := ⟨rfl, rfl, WdOk.nil A w⟩
theorem Vv.load {b : Nat} {Ty : TypeId} {v : Vv} (h : Blk w b Ty (vvV v)) {φ : Int → Int → Sl → Prop} (hφ : φ v.1 v.2.1 v.2.2.1) : ldI w ((blk b).add 0) .u32 fun x1 => ldI w ((blk b).add 1) .u32 fun x2 => ldS w ((blk b).add 2) fun x3 => φ x1 x2 x3 :=
  ⟨_, h.cell (n := 0) rfl, _, h.cell (n := 1) rfl, _, h.cell (n := 2) rfl, hφ⟩
theorem holds_spec (h : IsPq w B pb A T C) (hT : TbOk T) (hk : k < pl.length) (ht : IsAg w t pl[k].2.2.2) (hn : 1 ≤ pl[k].2.2.2.length) (hR : HdR R w A (varC T C pl k)) :
    callR Tryz.prog 107 #[.pointer (some (blk pb)), inA (mkIn pl[k] t)] w R := by
  refine callR.of (consts_Pool_holds_calls _ (mkIn pl[k] t) R w ?_) fun _ _ h => h
  have hix := ix_lt hk
  have eL : (ix pl k).2.2.2 = pl[k].2.2.2 := by rw [hix]
  have eT : (ix pl k).2.1 = pl[k].2.1 := by rw [hix]
  refine lay_of fun w1 hI1 b1 z1 => ?_
  have hI1 : Blk w1 w.heap.size 52 (inV (mkIn pl[k] t)) := hI1
  refine lay_of fun w2 hO2 b2 z2 => ?_
  have hO2 : Blk w2 w1.heap.size 111 (vvV vv0) := hO2
  have b02 := b1.on b2
  have h02 := (h.below b02).drew
  have h02' := h02
  obtain ⟨tb, r, r2, o1, o2, q1, q2, q3⟩ := h02'
  refine derefP_some rfl ⟨_, q1.cell0 rfl, (hI1.below b2).drew.rI (n := 1) (x := pl[k].2.1) rfl (tyClass_spec q2 fun w3 b3 => ?_)⟩
  have b03 := (b02.drew).on b3
  have hI3 := (hI1.below b2).drew.below b3
  have hO3 := hO2.drew.below b3
  refine ⟨_, _, rfl, ?_⟩
  unfold varC at hR
  rw [eL, eT] at hR
  refine ifB_not (ifB_beq (fun g => ?_) (fun g => ?_))
  rotate_left
  · rw [if_pos g] at hR
    refine st3 hO3 rfl fun w6 h6 c6 => Vv.load (v := vv0) h6 ?_
    exact hR w6 vv0 (VvOk.nil _ _) (c6.below b03 (by omega))
  rw [if_neg (fun q => q g)] at hR
  have ht3 : IsAg w3 t pl[k].2.2.2 := IsC.below agV_len ht b03
  refine hI3.rS (n := 3) (x := t) rfl ?_
  obtain ⟨a, he⟩ := ht3.base hn
  have hc := ht3.cell a he 0 hn 1 (by decide)
  refine ⟨⟨by decide, by have := ht3.len; omega⟩, derefP_some he ⟨pl[k].2.2.2[0].2.1, by rw [add_add']; exact hc, ?_⟩⟩
  have eC : agI pl k 0 = pl[k].2.2.2[0].2.1 := by
    unfold agI
    rw [eL, getD_lt hn]
  rw [← eC]
  refine box3 rfl fun w10 hV10 b10 z10 => ?_
  have b010 := b03.on b10
  have h010 := (h.below b010).drew
  obtain ⟨tb', r', r2', o1', o2', p1, p2, p3⟩ := h010
  have hI10 := hI3.below b10
  refine derefP_some rfl ⟨_, p1.cell0 rfl, hI10.drew.rI (n := 1) (x := pl[k].2.1) rfl (tyPart_spec (k := 0) p2 hT fun w11 b11 => ?_)⟩
  refine ⟨_, _, rfl, ?_⟩
  have hV11 := hV10.drew.below b11
  refine ⟨hV11.wr (n := 1) (by show 1 < 3; decide), Nw.gen fun w12 e12 => ?_⟩
  have c12 : Chg w3.heap.size w11 w12 := by rw [e12]; exact Chg.set _ _ _ _
  have hV12 : Blk w12 w3.heap.size 111 (vvV (agI pl k 0, ((tA T pl[k].2.1).prt 0).1, ⟨none, 0, 0⟩, ())) := by rw [e12]; exact hV11.set 1 _
  have b011 := (b010.drew).on b11
  have s03 := b03.size
  have b012 : Below w.heap.size w w12 := c12.below b011 (by omega)
  have lt3 : w1.heap.size < w3.heap.size := hO3.lt
  have hI12 : Blk w12 w.heap.size 52 (inV (mkIn pl[k] t)) := c12.blk (hI10.drew.below b11) (by omega)
  have hO12 : Blk w12 w1.heap.size 111 (vvV vv0) := c12.blk ((hO3.below b10).drew.below b11) (by omega)
  have htl := ht3.len
  generalize hS : (tA T pl[k].2.1).prt 0 = pr at hV12 hR ⊢
  refine JoinW.cut (fun (_ : Unit) w' => w12 = w' ∧ ¬ ((tA T pl[k].2.1).cls ≠ agI pl k 0 ∨ (1 < pl[k].2.2.2.length ∧ (tA T pl[k].2.1).cls = 1))) ?_ ?_
  · have bad : (tA T pl[k].2.1).cls ≠ agI pl k 0 ∨ (1 < pl[k].2.2.2.length ∧ (tA T pl[k].2.1).cls = 1) → ∀ w15, Below w.heap.size w w15 → R (.tuple #[.agg #[.int .u32 vv0.1, .int .u32 vv0.2.1, .slice vv0.2.2.1.a vv0.2.2.1.l vv0.2.2.1.c], .int .i64 112]) w15 := fun g w15 hb => by
      rw [if_pos g] at hR
      exact hR w15 vv0 (VvOk.nil _ _) hb
    refine hV12.rI0 rfl (ifB_bne (fun g1 => ?_) (fun g1 => ?_))
    · exact st3 hO12 rfl fun w15 h15 c15 => Vv.load (v := vv0) h15 (bad (.inl g1) w15 (c15.below b012 (by omega)))
    refine hI12.rS (n := 3) (x := t) rfl (ifB_dec (fun g2 => ifB_beq (fun g3 => ?_) (fun g3 => ⟨rfl, ?_⟩)) (fun g2 => ⟨rfl, ?_⟩))
    · exact st3 hO12 rfl fun w15 h15 c15 => Vv.load (v := vv0) h15 (bad (.inr ⟨by omega, g3⟩) w15 (c15.below b012 (by omega)))
    · rintro (q | q)
      · exact q g1
      · exact g3 q.2
    · rintro (q | q)
      · exact q g1
      · omega
  rintro _ w19 ⟨rfl, g⟩
  rw [if_neg g] at hR
  refine hI12.rS (n := 3) (x := t) rfl (ifB_beq (fun g1 => ?_) (fun g1 => ?_))
  · rw [if_pos (by omega)] at hR
    obtain ⟨tb2, r2, r22, o12, o22, u1, u2, u3⟩ := (h.below b012).drew
    refine derefP_some rfl ⟨_, u1.cell0 rfl, hV12.drew.rI (n := 1) rfl (tySize_spec u2 fun w20 b20 => ⟨_, rfl, ?_⟩)⟩
    have hmx := tA_max hT pr.1
    refine makeU (n := (tA T pr.1).size) (by omega) fun w21 h21 b21 => ?_
    have b1221 := ((Below.refl w12.heap.size w12).drew.on b20).on b21
    have hV21 := hV12.below b1221
    rw [add_add']
    refine ⟨hV21.wr (n := 2) (by show 2 < 3; decide), Nw.gen fun w22 e22 => ?_⟩
    have c22 : Chg w3.heap.size w21 w22 := by rw [e22]; exact Chg.set _ _ _ _
    have hV22 : Blk w22 w3.heap.size 111 (vvV (agI pl k 0, pr.1, ⟨some (Gk.blk w20.heap.size), Int.toNat ((tA T pr.1).size : Int), Int.toNat ((tA T pr.1).size : Int)⟩, ())) := by rw [e22]; exact hV21.set 2 _
    have hO22 := c22.blk (hO12.below b1221) (by omega)
    have lt12 := hV12.lt
    have s20 := ((Below.refl w12.heap.size w12).drew.on b20).size
    have h22 : Blk w22 w20.heap.size 22 (List.replicate (tA T pr.1).size (.int .u32 0)) := c22.blk h21 (by omega)
    refine Vv.load hV22 (st3 hO22 rfl fun w25 h25 c25 => Vv.load (v := (agI pl k 0, pr.1, ⟨some (Gk.blk w20.heap.size), Int.toNat ((tA T pr.1).size : Int), Int.toNat ((tA T pr.1).size : Int)⟩, ())) h25 ?_)
    have b022 : Below w.heap.size w w22 := c22.below (b012.on b1221) (by omega)
    have h25b : Blk w25 w20.heap.size 22 ((List.replicate (tA T pr.1).size (0 : Int)).map (Value.int .u32)) := by rw [replU]; exact c25.blk h22 (by omega)
    have q := WdOk.blk (A := fun b => A b ∨ w.heap.size ≤ b) h25b (.inr (by omega)) (by rw [List.length_replicate]; have := tA_max hT pr.1; omega)
    rw [List.length_replicate] at q
    exact hR w25 (agI pl k 0, pr.1, ⟨some (Gk.blk w20.heap.size), Int.toNat ((tA T pr.1).size : Int), Int.toNat ((tA T pr.1).size : Int)⟩, ()) ⟨rfl, rfl, q⟩ (c25.below b022 (by omega))
  · rw [if_neg (by omega)] at hR
    refine hI12.drew.rS (n := 3) (x := t) rfl ?_
    have ht12 : IsAg w12.drew t pl[k].2.2.2 := IsC.below agV_len ht b012.drew
    have hn1 : 1 < pl[k].2.2.2.length := by omega
    obtain ⟨a2, he2⟩ := ht12.base hn1
    have hc2 := ht12.cell a2 he2 1 hn1 1 (by decide)
    have eC2 : agI pl k 1 = pl[k].2.2.2[1].2.1 := by
      unfold agI
      rw [eL, getD_lt hn1]
    refine ⟨⟨by decide, by omega⟩, derefP_some he2 ⟨pl[k].2.2.2[1].2.1, by rw [add_add']; exact hc2, hV12.drew.rI (n := 1) rfl ?_⟩⟩
    rw [← eC2]
    refine of_spec ((h.low.below b012).drew) fun w26 s hs b26 => ⟨s, _, rfl, ?_⟩
    have b1226 := (Below.refl w12.heap.size w12).drew.on b26
    have hV26 := hV12.below b1226
    rw [add_add']
    refine ⟨hV26.wr (n := 2) (by show 2 < 3; decide), Nw.gen fun w27 e27 => ?_⟩
    have c27 : Chg w3.heap.size w26 w27 := by rw [e27]; exact Chg.set _ _ _ _
    have hV27 : Blk w27 w3.heap.size 111 (vvV (agI pl k 0, pr.1, s, ())) := by rw [e27]; exact hV26.set 2 _
    have hO27 := c27.blk (hO12.below b1226) (by omega)
    refine Vv.load hV27 (st3 hO27 rfl fun w30 h30 c30 => Vv.load (v := (agI pl k 0, pr.1, s, ())) h30 ?_)
    have b027 : Below w.heap.size w w27 := c27.below (b012.on b1226) (by omega)
    have lt12 := hV12.lt
    refine hR w30 (agI pl k 0, pr.1, s, ()) ⟨rfl, rfl, ?_⟩ (c30.below b027 (by omega))
    refine (hs.keep (w' := w30) (A' := fun b => A b ∨ w.heap.size ≤ b) (fun b q _ => ⟨(c30.block b (by omega)).trans (c27.block b (by omega)), .inl q.1⟩) ?_)
    rw [c30.size, c27.size]
    exact Nat.le_refl _
end
end Go.Proofs
namespace Go.Proofs
open Go.Gk Go.RowKit Go.Gm

abbrev mkF (pb f : Nat) : Value := .func (.func f) #[.pointer (some (Gk.blk pb))] #[]
abbrev mkL (pb : Nat) : List (Int × Value) := [(1, mkF pb 103), (46, mkF pb 103), (41, mkF pb 104), (42, mkF pb 104), (43, mkF pb 105), (44, mkF pb 106)]
abbrev IsMk11 (w : World) (r pb : Nat) : Prop := IsMg (κ := Int) w r (Value.int .u16) BK.raw.v (mkL pb)
theorem uMk : Tryz.prog.underlying 120 = some (.map 49 195) := by kernel_rfl
theorem uU16 : Tryz.prog.underlying 49 = some (.int .u16) := by kernel_rfl
theorem zMk : ∃ i, Tryz.prog.info? 195 = some i ∧ i.zero = some (BK.raw.v .nilFunc) := by
  have h : (Tryz.prog.info? 195).map (·.zero) = some (some .nilFunc) := by kernel_rfl
  cases hi : Tryz.prog.info? 195 with
  | none => rw [hi] at h; cases h
  | some i => rw [hi] at h; exact ⟨i, rfl, by injection h⟩
theorem cMakers_spec {w : World} {pb : Nat} {R : Value → World → Prop} (hR : ∀ w', IsMk11 w' w.heap.size pb → Below w.heap.size w w' → R (.map (some w.heap.size)) w') :
    callR Tryz.prog 65 #[.pointer (some (blk pb))] w R := by
  refine callR.of (consts_Pool_makers_calls _ R w ?_) fun _ _ h => h
  refine Nw.gen fun w1 e1 => ?_
  have h1 : IsMg (κ := Int) w1 w.heap.size (Value.int .u16) BK.raw.v [] := by rw [e1]; exact IsMg.new w _ _
  have b1 : Below w.heap.size w w1 := by rw [e1]; exact (Below.refl _ _).alloc (Nat.le_refl _) _
  refine updG_of (intKey .u16) uMk uU16 h1 rfl rfl fun w2 h2 c2 => ?_
  refine updG_of (intKey .u16) uMk uU16 h2 rfl rfl fun w3 h3 c3 => ?_
  refine updG_of (intKey .u16) uMk uU16 h3 rfl rfl fun w4 h4 c4 => ?_
  refine updG_of (intKey .u16) uMk uU16 h4 rfl rfl fun w5 h5 c5 => ?_
  refine updG_of (intKey .u16) uMk uU16 h5 rfl rfl fun w6 h6 c6 => ?_
  refine updG_of (intKey .u16) uMk uU16 h6 rfl rfl fun w7 h7 c7 => ?_
  have n := Nat.le_refl w.heap.size
  exact hR w7 h7 (c7.below (c6.below (c5.below (c4.below (c3.below (c2.below b1 n) n) n) n) n) n)
/-- Blocks that the two lists leave alone. -/
abbrev Al (E : Nat) (o1 o2 : Sl) (b : Nat) : Prop := E ≤ b ∧ o1.a ≠ some (Gk.blk b) ∧ o2.a ≠ some (Gk.blk b)
structure Gp (w0 w : World) (tb : Nat) (o1 o2 : Sl) (L1 L2 : List Int) (C : CnL) (V : VnL) : Prop where
  below : Below w0.heap.size w0 w
  sz : w0.heap.size + 4 ≤ w.heap.size
  pool : Blk w (w0.heap.size + 2) 107 [.pointer (some (Gk.blk tb)), .slice o1.a o1.l o1.c, .map (some w0.heap.size), .slice o2.a o2.l o2.c, .map (some (w0.heap.size + 1))]
  own1 : Own w 22 1 o1 (L1.map (Value.int .u32))
  own2 : Own w 22 1 o2 (L2.map (Value.int .u32))
  fr1 : Fresh (w0.heap.size + 4) o1
  fr2 : Fresh (w0.heap.size + 4) o2
  ap : ∀ b, o1.a = some (Gk.blk b) → o2.a ≠ some (Gk.blk b)
  cn : IsCn w (Al (w0.heap.size + 4) o1 o2) w0.heap.size C
  vn : IsVn w (Al (w0.heap.size + 4) o1 o2) (w0.heap.size + 1) V
  mks : IsMk11 w (w0.heap.size + 3) (w0.heap.size + 2)
section
variable {w0 w w' : World} {tb B : Nat} {o1 o2 : Sl} {L1 L2 : List Int} {C : CnL} {V : VnL} {T : TyL}
theorem Gp.on (h : Gp w0 w tb o1 o2 L1 L2 C V) (hb : Below w.heap.size w w') : Gp w0 w' tb o1 o2 L1 L2 C V :=
  ⟨h.below.on hb, Nat.le_trans h.sz hb.size, h.pool.below hb, h.own1.below hb, h.own2.below hb, h.fr1, h.fr2, h.ap, h.cn.below hb, h.vn.below hb, h.mks.below hb⟩
theorem Gp.drew (h : Gp w0 w tb o1 o2 L1 L2 C V) : Gp w0 w.drew tb o1 o2 L1 L2 C V := h.on (Below.refl _ _).drew
theorem Gp.pq (h : Gp w0 w tb o1 o2 L1 L2 C V) (hT : IsTb w0 B tb T) : IsPq w B (w0.heap.size + 2) (Al (w0.heap.size + 4) o1 o2) T C :=
  ⟨tb, w0.heap.size, w0.heap.size + 1, o1, o2, h.pool, hT.below h.below, h.cn⟩
theorem Gp.new (h : Gp w0 w tb o1 o2 L1 L2 C V) {b : Nat} (hb : w.heap.size ≤ b) : Al (w0.heap.size + 4) o1 o2 b :=
  ⟨Nat.le_trans h.sz hb, fun e => by have := (h.own1.lt e).2; have : b < w.heap.size := this; omega, fun e => by have := (h.own2.lt e).2; have : b < w.heap.size := this; omega⟩
theorem own_other {s t : Sl} {T : TypeId} {sz : Nat} {xs : List Value} (h : Own w T sz s xs) (hap : ∀ b, s.a = some (Gk.blk b) → t.a ≠ some (Gk.blk b)) {a : Addr} (ha : s.a = some a) (e : t.a = some (Gk.blk a.block)) : False := by
  have := (h.lt ha).1
  exact hap a.block (by rw [ha, this]) e
theorem Gp.push2 (h : Gp w0 w tb o1 o2 L1 L2 C V) {id : Int} {b : Nat} (hB : Blk w b 22 [.int .u32 id]) (hl : L2.length ≤ 4398046511104) {K : World → Prop}
    (hK : ∀ r w', Gp w0 w' tb o1 r L1 (L2 ++ [id]) C V → (∀ c T cs, 22 ≠ T → c ≠ w0.heap.size + 2 → Blk w c T cs → Blk w' c T cs) → (∀ s l, WdOk (Al (w0.heap.size + 4) o1 o2) w s l → WdOk (Al (w0.heap.size + 4) o1 r) w' s l) → w.heap.size ≤ w'.heap.size → K w') :
    appendS Tryz.prog 30 (.slice o2.a o2.l o2.c) (.slice (some (blk b)) 1 1) w fun r w8 => derefP (some (blk (w0.heap.size + 2))) fun a => Wr w8 (a.add 3) ∧ Nw (w8.setCell (a.add 3) (.slice r.a r.l r.c)) K := by
  have hlo := h.own2.1
  rw [List.length_map] at hlo
  have hsz := h.sz
  refine push_at10 eU32 h.own2 (vs := [.int .u32 id]) rfl (fun u hu => by rw [List.mem_singleton.1 hu]; rfl) hB (by omega) (by omega) fun r w8 b' hO ha hb' hbel hkeep => ?_
  have hge : w0.heap.size + 4 ≤ b' := by
    rcases hb' with e | e
    · exact h.fr2 _ e
    · omega
  have hs8 : w.heap.size ≤ w8.heap.size := (hbel 0 (Nat.zero_le _) (Nat.zero_le _)).size
  have nb : ∀ {c : Nat}, c < w.heap.size → c ≠ b' → w8.heap[c]? = w.heap[c]? := fun h1 h2 => hkeep _ h1 h2
  have P8 := h.pool.of_block (nb h.pool.lt (by omega))
  refine derefP_some rfl ⟨P8.wr (n := 3) (by show 3 < 5; decide), Nw.gen fun w9 e9 => ?_⟩
  have c9 : Chg (w0.heap.size + 2) w8 w9 := by rw [e9]; exact Chg.set _ _ _ _
  have P9 := P8.set 3 (Value.slice r.a r.l r.c)
  rw [← e9] at P9
  have s9 := c9.size
  have alA : ∀ c, Al (w0.heap.size + 4) o1 o2 c → c < w.heap.size → w9.heap[c]? = w.heap[c]? ∧ Al (w0.heap.size + 4) o1 r c := fun c h1 h2 => by
    have hne : c ≠ b' := fun e => by
      rcases hb' with e2 | e2
      · exact h1.2.2 (by rw [e2, e])
      · omega
    exact ⟨(c9.block _ (by have := h1.1; omega)).trans (nb h2 hne), ⟨h1.1, h1.2.1, fun q => hne (by rw [ha] at q; injection q with q; injection q with q; exact q.symm)⟩⟩
  have one : ∀ a, o1.a = some a → a.block ≠ b' := fun a h1 e => by
    rcases hb' with e2 | e2
    · exact own_other h.own1 (h.ap) h1 (by rw [e]; exact e2)
    · have := (h.own1.lt h1).2
      omega
  have apn : ∀ c, o1.a = some (Gk.blk c) → r.a ≠ some (Gk.blk c) := fun c h1 h2 => by
    rw [ha] at h2
    have e : b' = c := by injection h2 with h2; injection h2 with h2
    exact one _ h1 e.symm
  have old : ∀ c, c < w.heap.size → c ≠ b' → c ≠ w0.heap.size + 2 → w9.heap[c]? = w.heap[c]? := fun c h1 h2 h3 => (c9.block _ h3).trans (nb h1 h2)
  refine hK r w9 ⟨c9.below (h.below.trans (hbel _ (by omega) (by omega))) (by omega), by omega, P9, h.own1.of_block fun a h1 => old _ (h.own1.lt h1).2 (one a h1) (by have := h.fr1 a h1; omega), by rw [List.map_append]; exact hO.of_block fun a h1 => c9.block _ (by rw [ha] at h1; cases h1; show b' ≠ _; omega), h.fr1, fun a h1 => (by rw [ha] at h1; cases h1; exact hge), apn, ?_, ?_, h.mks.of_block (old _ h.mks.lt (by omega) (by omega))⟩ (fun c T cs hT hc hq => ?_) (fun s l hq => hq.keep alA (by omega)) (by omega)
  · exact h.cn.keep (old _ h.cn.lt (by omega) (by omega)) alA (by omega)
  · exact h.vn.keep (old _ h.vn.lt (by omega) (by omega)) alA (by omega)
  · refine hq.of_block (old _ hq.lt (fun e => ?_) hc)
    subst e
    rcases hb' with e2 | e2
    · exact own_notBlk h.own2 hq hT e2
    · have := hq.lt
      omega
theorem Gp.push1 (h : Gp w0 w tb o1 o2 L1 L2 C V) {id : Int} {b : Nat} (hB : Blk w b 22 [.int .u32 id]) (hl : L1.length ≤ 4398046511104) {K : World → Prop}
    (hK : ∀ r w', Gp w0 w' tb r o2 (L1 ++ [id]) L2 C V → (∀ c T cs, 22 ≠ T → c ≠ w0.heap.size + 2 → Blk w c T cs → Blk w' c T cs) → (∀ s l, WdOk (Al (w0.heap.size + 4) o1 o2) w s l → WdOk (Al (w0.heap.size + 4) r o2) w' s l) → w.heap.size ≤ w'.heap.size → K w') :
    appendS Tryz.prog 30 (.slice o1.a o1.l o1.c) (.slice (some (blk b)) 1 1) w fun r w8 => derefP (some (blk (w0.heap.size + 2))) fun a => Wr w8 (a.add 1) ∧ Nw (w8.setCell (a.add 1) (.slice r.a r.l r.c)) K := by
  have hlo := h.own1.1
  rw [List.length_map] at hlo
  have hsz := h.sz
  refine push_at10 eU32 h.own1 (vs := [.int .u32 id]) rfl (fun u hu => by rw [List.mem_singleton.1 hu]; rfl) hB (by omega) (by omega) fun r w8 b' hO ha hb' hbel hkeep => ?_
  have hge : w0.heap.size + 4 ≤ b' := by
    rcases hb' with e | e
    · exact h.fr1 _ e
    · omega
  have hs8 : w.heap.size ≤ w8.heap.size := (hbel 0 (Nat.zero_le _) (Nat.zero_le _)).size
  have nb : ∀ {c : Nat}, c < w.heap.size → c ≠ b' → w8.heap[c]? = w.heap[c]? := fun h1 h2 => hkeep _ h1 h2
  have P8 := h.pool.of_block (nb h.pool.lt (by omega))
  refine derefP_some rfl ⟨P8.wr (n := 1) (by show 1 < 5; decide), Nw.gen fun w9 e9 => ?_⟩
  have c9 : Chg (w0.heap.size + 2) w8 w9 := by rw [e9]; exact Chg.set _ _ _ _
  have P9 := P8.set 1 (Value.slice r.a r.l r.c)
  rw [← e9] at P9
  have s9 := c9.size
  have alA : ∀ c, Al (w0.heap.size + 4) o1 o2 c → c < w.heap.size → w9.heap[c]? = w.heap[c]? ∧ Al (w0.heap.size + 4) r o2 c := fun c h1 h2 => by
    have hne : c ≠ b' := fun e => by
      rcases hb' with e2 | e2
      · exact h1.2.1 (by rw [e2, e])
      · omega
    exact ⟨(c9.block _ (by have := h1.1; omega)).trans (nb h2 hne), ⟨h1.1, fun q => hne (by rw [ha] at q; injection q with q; injection q with q; exact q.symm), h1.2.2⟩⟩
  have one : ∀ a, o2.a = some a → a.block ≠ b' := fun a h1 e => by
    rcases hb' with e2 | e2
    · exact own_other h.own2 (fun c q1 q2 => h.ap c q2 q1) h1 (by rw [e]; exact e2)
    · have := (h.own2.lt h1).2
      omega
  have apn : ∀ c, o2.a = some (Gk.blk c) → r.a ≠ some (Gk.blk c) := fun c h1 h2 => by
    rw [ha] at h2
    have e : b' = c := by injection h2 with h2; injection h2 with h2
    exact one _ h1 e.symm
  have old : ∀ c, c < w.heap.size → c ≠ b' → c ≠ w0.heap.size + 2 → w9.heap[c]? = w.heap[c]? := fun c h1 h2 h3 => (c9.block _ h3).trans (nb h1 h2)
  refine hK r w9 ⟨c9.below (h.below.trans (hbel _ (by omega) (by omega))) (by omega), by omega, P9, by rw [List.map_append]; exact hO.of_block fun a h1 => c9.block _ (by rw [ha] at h1; cases h1; show b' ≠ _; omega), h.own2.of_block fun a h1 => old _ (h.own2.lt h1).2 (one a h1) (by have := h.fr2 a h1; omega), fun a h1 => (by rw [ha] at h1; cases h1; exact hge), h.fr2, fun c h1 h2 => apn c h2 h1, ?_, ?_, h.mks.of_block (old _ h.mks.lt (by omega) (by omega))⟩ (fun c T cs hT hc hq => ?_) (fun s l hq => hq.keep alA (by omega)) (by omega)
  · exact h.cn.keep (old _ h.cn.lt (by omega) (by omega)) alA (by omega)
  · exact h.vn.keep (old _ h.vn.lt (by omega) (by omega)) alA (by omega)
  · refine hq.of_block (old _ hq.lt (fun e => ?_) hc)
    subst e
    rcases hb' with e2 | e2
    · exact own_notBlk h.own1 hq hT e2
    · have := hq.lt
      omega
end
end Go.Proofs
namespace Go.Proofs
open Go.Gk Go.RowKit Go.Gm

section
variable {w0 w w' : World} {tb B k : Nat} {o1 o2 : Sl} {L1 L2 : List Int} {C : CnL} {V : VnL} {T : TyL} {pl : List PI} {t : Sl} {bd : Int} {R : Value → World → Prop}
theorem Gp.setV (h : Gp w0 w tb o1 o2 L1 L2 C V) {id : Int} {v : Vv} {vn : Vn} (hv : VvOk (Al (w0.heap.size + 4) o1 o2) w v vn) {K : World → Prop} (hK : ∀ w', Gp w0 w' tb o1 o2 L1 L2 C (setQ V id vn) → K w') :
    updW Tryz.prog 105 (.map (some (w0.heap.size + 1))) (.int .u32 id) (.agg #[.int .u32 v.1, .int .u32 v.2.1, .slice v.2.2.1.a v.2.2.1.l v.2.2.1.c]) w K := by
  obtain ⟨Vl, V1, V2⟩ := h.vn
  refine updQ_of (f := aggQ vvK) (v := (v : Vv)) uVn eTyKey V1 rfl fun w1 V3 c => hK w1 ?_
  have c : Chg (w0.heap.size + 1) w w1 := c
  have hs := c.size
  have al : ∀ b, Al (w0.heap.size + 4) o1 o2 b → b < w.heap.size → w1.heap[b]? = w.heap[b]? ∧ Al (w0.heap.size + 4) o1 o2 b := fun b h1 _ => ⟨c.block _ (by have := h1.1; omega), h1⟩
  refine ⟨c.below h.below (by omega), by have := h.sz; omega, c.blk h.pool (by omega), h.own1.of_block fun a ha => c.block _ (by have := h.fr1 a ha; omega), h.own2.of_block fun a ha => c.block _ (by have := h.fr2 a ha; omega), h.fr1, h.fr2, h.ap, h.cn.keep (c.block _ (by omega)) al (by omega), ?_, h.mks.of_block (c.block _ (by omega))⟩
  exact ⟨_, V3, setR (R := fun a c => VvOk (Al (w0.heap.size + 4) o1 o2) w1 a c) ⟨hv.cl, hv.ty, hv.wd.keep al (by omega)⟩ (allR (fun a c q => ⟨q.1, q.2.cl, q.2.ty, q.2.wd.keep al (by omega)⟩) V2)⟩
theorem Gp.setC (h : Gp w0 w tb o1 o2 L1 L2 C V) {id ty : Int} {s : Sl} {l : List Int} (hv : WdOk (Al (w0.heap.size + 4) o1 o2) w s l) {K : World → Prop} (hK : ∀ w', Gp w0 w' tb o1 o2 L1 L2 (setQ C id (ty, l)) V → K w') :
    updW Tryz.prog 104 (.map (some w0.heap.size)) (.int .u32 id) (.agg #[.int .u32 ty, .slice s.a s.l s.c]) w K := by
  obtain ⟨Vl, V1, V2⟩ := h.cn
  refine updQ_of (f := aggQ cvK) (v := ((ty, s, ()) : Cv)) uCn eTyKey V1 rfl fun w1 V3 c => hK w1 ?_
  have c : Chg w0.heap.size w w1 := c
  have hs := c.size
  have al : ∀ b, Al (w0.heap.size + 4) o1 o2 b → b < w.heap.size → w1.heap[b]? = w.heap[b]? ∧ Al (w0.heap.size + 4) o1 o2 b := fun b h1 _ => ⟨c.block _ (by have := h1.1; omega), h1⟩
  refine ⟨c.below h.below (by omega), by have := h.sz; omega, c.blk h.pool (by omega), h.own1.of_block fun a ha => c.block _ (by have := h.fr1 a ha; omega), h.own2.of_block fun a ha => c.block _ (by have := h.fr2 a ha; omega), h.fr1, h.fr2, h.ap, ?_, h.vn.keep (c.block _ (by omega)) al (by omega), h.mks.of_block (c.block _ (by omega))⟩
  exact ⟨_, V3, setR (R := fun a c => CvOk (Al (w0.heap.size + 4) o1 o2) w1 a c) ⟨rfl, hv.keep al (by omega)⟩ (allR (fun a c q => ⟨q.1, q.2.ty, q.2.wd.keep al (by omega)⟩) V2)⟩
theorem lookMk {pb : Nat} {op : Int} : lookG (mkL pb) op = if op = 1 ∨ op = 46 then some (mkF pb 103) else if op = 41 ∨ op = 42 then some (mkF pb 104) else if op = 43 then some (mkF pb 105) else if op = 44 then some (mkF pb 106) else none := by
  simp only [lookG]
  by_cases h1 : op = 1
  · subst h1; rfl
  by_cases h2 : op = 46
  · subst h2; rfl
  by_cases h3 : op = 41
  · subst h3; rfl
  by_cases h4 : op = 42
  · subst h4; rfl
  by_cases h5 : op = 43
  · subst h5; rfl
  by_cases h6 : op = 44
  · subst h6; rfl
  simp [h1, h2, h3, h4, h5, h6]
theorem callC_spec {pb : Nat} {A : Nat → Prop} (h : IsPq w B pb A T C) (hT : TbOk T) (hs : (shapeP bd pl).1 = 0) (hk : k < pl.length) (ht : IsAg w t pl[k].2.2.2) (hL : ∀ id c, lookQ C id = some c → c.2.length ≤ 4096) {p : List Int × Int} (hp : wdsC T C pl k = some p) {f : Value} (hf : lookG (mkL pb) (ix pl k).1 = some f) (hR : MkR R w p) :
    callV Tryz.prog Tryz.fs f [inA (mkIn pl[k] t)] w R := by
  have hix := ix_lt hk
  have eL : (ix pl k).2.2.2 = pl[k].2.2.2 := by rw [hix]
  have eT : (ix pl k).2.1 = pl[k].2.1 := by rw [hix]
  have c1 : Tryz.fs.contains 103 = true := by kernel_rfl
  have c2 : Tryz.fs.contains 104 = true := by kernel_rfl
  have c3 : Tryz.fs.contains 105 = true := by kernel_rfl
  have c4 : Tryz.fs.contains 106 = true := by kernel_rfl
  rw [lookMk] at hf
  unfold wdsC at hp
  by_cases e1 : (ix pl k).1 = 1 ∨ (ix pl k).1 = 46
  · rw [if_pos e1] at hf hp
    cases hf
    cases hp
    unfold callV
    simp only [c1]
    exact cNothing_spec (x := mkIn pl[k] t) h hT (by show MkR R w (if (tA T pl[k].2.1).size = 0 then _ else _); rw [← eT]; exact hR)
  rw [if_neg e1] at hf hp
  by_cases e2 : (ix pl k).1 = 41 ∨ (ix pl k).1 = 42
  · rw [if_pos e2] at hf hp
    cases hf
    cases hp
    unfold callV
    simp only [c2]
    refine cTruth_spec (x := mkIn pl[k] t) h ?_
    show MkR R w (if (tA T pl[k].2.1).kind ≠ 2 then _ else (if pl[k].1 = 41 then _ else _, _))
    rw [← eT, show pl[k].1 = (ix pl k).1 by rw [hix]]
    exact hR
  rw [if_neg e2] at hf hp
  by_cases e3 : (ix pl k).1 = 43
  · rw [if_pos e3] at hf hp
    cases hf
    cases hp
    unfold callV
    simp only [c3]
    have hl : (ix pl k).2.2.2.length = 1 := form_len hs hk e3 form_43
    refine cNumber_spec (x := mkIn pl[k] t) (al := pl[k].2.2.2) h ht (fun _ => by rw [← eL]; omega) ?_
    show MkR R w (if (tA T pl[k].2.1).kind ≠ 3 then _ else _)
    rw [← eT, ← eL]
    exact hR
  rw [if_neg e3] at hf hp
  by_cases e4 : (ix pl k).1 = 44
  · rw [if_pos e4] at hf hp
    cases hf
    cases hp
    unfold callV
    simp only [c4]
    exact cComposite_spec h hT hk ht (args_le hs hk) hL hR
  rw [if_neg e4] at hf
  cases hf
theorem cns_len (W : Whole9 bd pl) (T : TyL) {n : Nat} (hn : n ≤ pl.length) : (cnsC T pl n).1.length ≤ n ∧ (cnsC T pl n).2.length ≤ n := by
  obtain ⟨h1, h2⟩ := cns_ids (T := T) W n hn
  have h1 := congrArg List.length h1
  have h2 := congrArg List.length h2
  simp only [List.length_map] at h1 h2
  have a1 := List.length_filter_le (fun k => isC (ix pl k).1) (List.range n)
  have a2 := List.length_filter_le (fun k => decide (partP (ix pl k) = 7 ∧ (ix pl k).1 = 59)) (List.range n)
  rw [List.length_range] at a1 a2
  omega
set_option maxHeartbeats 1000000 in
theorem add_spec (h : Gp w0 w tb o1 o2 ((cnsC T pl k).1.map (·.1)) ((cnsC T pl k).2.map (·.1)) (cnsC T pl k).1 (cnsC T pl k).2) (hT : IsTb w0 B tb T) (hTb : TbOk T) (hp : PlOk pl) (W : Whole9 bd pl) (hk : k < pl.length) (h7 : partP (ix pl k) = 7) (ht : IsAg w t pl[k].2.2.2)
    (hL : ∀ id c, lookQ (cnsC T pl k).1 id = some c → c.2.length ≤ 4096)
    (hR : ∀ w' o1' o2', Gp w0 w' tb o1' o2' ((cnsC T pl (k + 1)).1.map (·.1)) ((cnsC T pl (k + 1)).2.map (·.1)) (cnsC T pl (k + 1)).1 (cnsC T pl (k + 1)).2 → R (.int .i64 (errC T (cnsC T pl k).1 pl k)) w') :
    callR Tryz.prog 66 #[.pointer (some (blk (w0.heap.size + 2))), inA (mkIn pl[k] t), .map (some (w0.heap.size + 3))] w R := by
  refine callR.of (consts_Pool_add_calls _ (mkIn pl[k] t) _ R w ?_) fun _ _ h => h
  have hix := ix_lt hk
  have eR : (ix pl k).2.2.1 = pl[k].2.2.1 := by rw [hix]
  have eO : (ix pl k).1 = pl[k].1 := by rw [hix]
  have eT : (ix pl k).2.1 = pl[k].2.1 := by rw [hix]
  have hplen := hp.len
  obtain ⟨l1, l2⟩ := cns_len W T (n := k) (by omega)
  have hs0 := h.below.size
  refine lay_of fun w1 hI1 b1 z1 => ?_
  have hI1 : Blk w1 w.heap.size 52 (inV (mkIn pl[k] t)) := hI1
  have ht1 : IsAg w1 t pl[k].2.2.2 := IsC.below agV_len ht b1
  have g1 := h.on b1
  refine hI1.rI0 (x := pl[k].1) rfl (ifB_beq (fun e => ?_) (fun e => ?_))
  · -- a variable
    have e59 : (ix pl k).1 = 59 := by rw [eO]; exact e
    have hE : errC T (cnsC T pl k).1 pl k = (varC T (cnsC T pl k).1 pl k).2 := by
      unfold errC
      rw [if_pos e59]
    rw [hE, cns_var h7 e59] at hR
    dsimp only at hR
    rw [setQ_keys, if_neg (cns_newV W hk e59)] at hR
    have hvl : 1 ≤ pl[k].2.2.2.length := by
      have := var_len W.shape hk e59
      rw [hix] at this
      omega
    refine Ins.load (x := mkIn pl[k] t) hI1 (holds_spec (g1.pq hT) hTb hk ht1 hvl fun w2 v hv b2 => ?_)
    have g2 := g1.on b2
    have hv2 : VvOk (Al (w0.heap.size + 4) o1 o2) w2 v (varC T (cnsC T pl k).1 pl k).1 := ⟨hv.cl, hv.ty, hv.wd.mono fun b q _ => by
      rcases q with q | q
      · exact q
      · exact g1.new q⟩
    refine ⟨v, _, rfl, box3 rfl fun w6 hX6 b6 z6 => ?_⟩
    have b26 := b2.on b6
    have g6 := (g2.on b6).drew
    refine derefP_some rfl (g6.pool.rS (n := 3) (x := o2) rfl ((hI1.below b26).drew.rI (n := 2) (x := pl[k].2.2.1) rfl ?_))
    refine lay_of fun w7 hE7 b7 z7 => ?_
    have hE7 : Blk w7 w6.drew.heap.size 22 [.int .u32 pl[k].2.2.1] := hE7
    have g7 := g6.on b7
    have hX7 := hX6.drew.below b7
    have hI7 := (hI1.below b26).drew.below b7
    have b67 := (Below.refl w6.heap.size w6).drew.on b7
    have hv7 := (hv2.wd.below b6).below b67
    have q1 := b1.size
    have q2 := b2.size
    have hsz := h.sz
    refine ⟨g7.pool.cell (n := 3) rfl, g7.push2 hE7 (by rw [List.length_map]; omega) fun r w9 g9 hkeep hwd hs9 => ?_⟩
    have hX9 := hkeep _ _ _ (by decide) (by omega) hX7
    have hI9 := hkeep _ _ _ (by decide) (by omega) hI7
    have hv9 := hwd _ _ hv7
    refine derefP_some rfl ⟨_, g9.drew.pool.cell (n := 4) rfl, hI9.drew.rI (n := 2) (x := pl[k].2.2.1) rfl (Vv.load (v := v) hX9.drew (g9.drew.setV ⟨hv2.cl, hv2.ty, hv9.below (Below.refl _ _).drew⟩ fun w10 g10 => ?_))⟩
    rw [← eR] at g10
    exact hR w10 o1 r g10
  have e59 : ¬ (ix pl k).1 = 59 := by rw [eO]; exact e
  refine hI1.rI0 (x := pl[k].1) rfl (lookVG_of (β := .raw) (intKey .u16) uMk uU16 zMk g1.mks rfl ?_)
  rw [← eO]
  generalize hv : (lookG (α := BK.raw.T) (mkL (w0.heap.size + 2)) (ix pl k).1).getD Value.nilFunc = v
  have hv : (lookG (α := Value) (mkL (w0.heap.size + 2)) (ix pl k).1).getD Value.nilFunc = v := hv
  cases hc : isC (ix pl k).1 with
  | false =>
    have hE : errC T (cnsC T pl k).1 pl k = 0 := by
      unfold errC
      rw [if_neg e59, wdsC_none hc]
    have hn : lookG (mkL (w0.heap.size + 2)) (ix pl k).1 = none := by
      rw [lookMk]
      have : ¬ isC (ix pl k).1 = true := by rw [hc]; simp
      rw [isC_cases] at this
      rw [if_neg (by omega), if_neg (by omega), if_neg (by omega), if_neg (by omega)]
    rw [hn] at hv
    have hv : Value.nilFunc = v := hv
    subst hv
    rw [hE, cns_skip hc (fun q => e59 q.2)] at hR
    unfold funcNil
    dsimp only
    exact ifB_true rfl (hR w1 o1 o2 g1)
  | true =>
    obtain ⟨p, hp'⟩ := wdsC_some T (cnsC T pl k).1 hc
    have hE : errC T (cnsC T pl k).1 pl k = p.2 := by
      unfold errC
      rw [if_neg e59, hp']
    rw [hE, cns_const hc hp'] at hR
    dsimp only at hR
    rw [setQ_keys, if_neg (cns_new W hk hc)] at hR
    obtain ⟨f, hf, hfn⟩ : ∃ f, lookG (mkL (w0.heap.size + 2)) (ix pl k).1 = some f ∧ ∃ a b c, f = .func a b c := by
      rw [lookMk]
      rw [isC_cases] at hc
      split
      · exact ⟨_, rfl, _, _, _, rfl⟩
      split
      · exact ⟨_, rfl, _, _, _, rfl⟩
      split
      · exact ⟨_, rfl, _, _, _, rfl⟩
      split
      · exact ⟨_, rfl, _, _, _, rfl⟩
      · omega
    rw [hf] at hv
    have hv : f = v := hv
    subst hv
    obtain ⟨fa, fb, fc, rfl⟩ := hfn
    unfold funcNil
    dsimp only
    refine ifB_false rfl (Ins.load (x := mkIn pl[k] t) hI1 (callC_spec (g1.pq hT) hTb W.shape hk ht1 hL hp' hf fun w2 s hwd b2 => ?_))
    have g2 := (g1.on b2).drew
    have hwd2 : WdOk (Al (w0.heap.size + 4) o1 o2) w2 s p.1 := hwd.mono fun b q _ => g1.new q
    refine ⟨s, _, rfl, derefP_some rfl (g2.pool.rS (n := 1) (x := o1) rfl ((hI1.below b2).drew.rI (n := 2) (x := pl[k].2.2.1) rfl ?_))⟩
    refine lay_of fun w7 hE7 b7 z7 => ?_
    have hE7 : Blk w7 w2.drew.heap.size 22 [.int .u32 pl[k].2.2.1] := hE7
    have g7 := g2.on b7
    have hI7 := (hI1.below b2).drew.below b7
    have b27 := (Below.refl w2.heap.size w2).drew.on b7
    have hv7 := hwd2.below b27
    have q1 := b1.size
    have q2 := b2.size
    have hsz := h.sz
    refine ⟨g7.pool.cell (n := 1) rfl, g7.push1 hE7 (by rw [List.length_map]; omega) fun r w9 g9 hkeep hwd hs9 => ?_⟩
    have hI9 := hkeep _ _ _ (by decide) (by omega) hI7
    have hv9 := hwd _ _ hv7
    refine derefP_some rfl ⟨_, g9.drew.pool.cell (n := 2) rfl, hI9.drew.rI (n := 2) (x := pl[k].2.2.1) rfl (hI9.drew.rI (n := 1) (x := pl[k].2.1) rfl (g9.drew.setC (ty := pl[k].2.1) (hv9.below (Below.refl _ _).drew) fun w10 g10 => ?_))⟩
    rw [← eR, ← eT] at g10
    exact hR w10 r o2 g10
end
end Go.Proofs
namespace Go.Proofs
open Go.Gk Go.RowKit Go.Gm

section
variable {w w' : World} {B B' tb pb : Nat} {T : TyL} {C : CnL} {V : VnL} {pl : List PI}
theorem IsTb.mono (h : IsTb w B tb T) (hB : B' ≤ B) : IsTb w B' tb T := by
  obtain ⟨⟨r, o, h1, ⟨Vl, v1, v2⟩, h3⟩, h4⟩ := h
  exact ⟨⟨r, o, h1, ⟨⟨Vl, v1, allR (fun a c q => ⟨q.1, q.2.mono hB⟩) v2⟩, Nat.le_trans hB h3⟩⟩, Nat.le_trans hB h4⟩
/-- A pool in memory; all that it holds lies from B on. -/
structure IsPo (w : World) (B pb : Nat) (T : TyL) (C : CnL) (V : VnL) : Prop where
  ex : ∃ (tb rc rv : Nat) (o1 o2 : Sl), Blk w pb 107 [.pointer (some (Gk.blk tb)), .slice o1.a o1.l o1.c, .map (some rc), .slice o2.a o2.l o2.c, .map (some rv)] ∧ IsTb w B tb T ∧ IsCn w (fun b => B ≤ b) rc C ∧ IsVn w (fun b => B ≤ b) rv V ∧
    IsS (Value.int .u32) w o1 (C.map (·.1)) ∧ IsS (Value.int .u32) w o2 (V.map (·.1)) ∧ Fresh B o1 ∧ Fresh B o2 ∧ B ≤ rc ∧ B ≤ rv
  lo : B ≤ pb
theorem IsPo.keep (h : IsPo w B pb T C V) (hb : ∀ k, B ≤ k → k < w.heap.size → w'.heap[k]? = w.heap[k]?) (hs : w.heap.size ≤ w'.heap.size) : IsPo w' B pb T C V := by
  obtain ⟨⟨tb, rc, rv, o1, o2, h1, h2, h3, h4, h5, h6, h7, h8, h9, h10⟩, h11⟩ := h
  exact ⟨⟨tb, rc, rv, o1, o2, h1.of_block (hb pb h11 h1.lt), h2.keep hb, h3.keep (hb rc h9 h3.lt) (fun b q1 q2 => ⟨hb b q1 q2, q1⟩) hs, h4.keep (hb rv h10 h4.lt) (fun b q1 q2 => ⟨hb b q1 q2, q1⟩) hs,
    h5.of_block fun a ha hlt => hb _ (h7 a ha) hlt, h6.of_block fun a ha hlt => hb _ (h8 a ha) hlt, h7, h8, h9, h10⟩, h11⟩
theorem IsPo.below (h : IsPo w B pb T C V) (hb : Below w.heap.size w w') : IsPo w' B pb T C V := h.keep (fun k _ h2 => hb.block k h2) hb.size
theorem cns_rest (T : TyL) {n : Nat} : ∀ m, n ≤ m → (∀ k, n ≤ k → k < m → partP (ix pl k) ≠ 7) → cnsC T pl m = cnsC T pl n
  | 0, h, _ => by have : n = 0 := by omega
                  subst this
                  rfl
  | m + 1, h, hk => by
    by_cases e : n = m + 1
    · subst e; rfl
    · have ih := cns_rest T m (by omega) fun k h1 h2 => hk k h1 (by omega)
      show (if partP (ix pl m) = 7 then _ else cnsC T pl m) = _
      rw [if_neg (hk m (by omega) (by omega)), ih]
theorem bad_rest {T : TyL} {k : Nat} (h : partP (ix pl k) ≠ 7) : badC T pl k = 0 := if_neg h
end
section
variable {x : Mo} {pl : List PI} {w : World} {R : Value → World → Prop}
set_option maxHeartbeats 4000000 in
theorem cNew_spec (hN : IsPl w x.2.2.1 pl) (hp : PlOk pl) (h0 : 0 ≤ x.2.1) (ht : Tab w)
    (hBad : (conE x.2.1 pl).1 ≠ 0 → ∀ w', Below w.heap.size w w' → R (.tuple #[.pointer none, .agg #[.int .i64 (conE x.2.1 pl).1, .int .i64 (conE x.2.1 pl).2]]) w')
    (hOk : CnOk x.2.1 pl → ∀ w' pb, Below w.heap.size w w' → IsPo w' w.heap.size pb (tyL pl) (cnL pl) (vnL pl) → R (.tuple #[.pointer (some (blk pb)), .agg #[.int .i64 0, .int .i64 0]]) w') :
    callR Tryz.prog 27 #[moA x] w R := by
  refine callR.of (consts_New_calls x R w ?_) fun _ _ h => h
  refine lay_of fun w1 hB1 b1 z1 => ?_
  have hB1 : Blk w1 w.heap.size 25 (moV x) := hB1
  refine lay_of fun w2 hS2 b2 z2 => ?_
  have hS2 : Blk w2 w1.heap.size 44 [.int .i64 0, .int .i64 0] := hS2
  have b02 := b1.on b2
  have out : ∀ {w' : World} {p : Option Addr} {e a : Int}, Blk w' w1.heap.size 44 [.int .i64 0, .int .i64 0] → Below w.heap.size w w' → (∀ w'', Chg w1.heap.size w' w'' → Below w.heap.size w w'' → R (.tuple #[.pointer p, .agg #[.int .i64 e, .int .i64 a]]) w'') →
      Wr w' (blk w1.heap.size) ∧ Nw (w'.setCell (blk w1.heap.size) (.int .i64 e)) fun w8 => Wr w8 ((blk w1.heap.size).add 1) ∧ Nw (w8.setCell ((blk w1.heap.size).add 1) (.int .i64 a)) fun w9 => ldI w9 ((blk w1.heap.size).add 0) .i64 fun x9 => ldI w9 ((blk w1.heap.size).add 1) .i64 fun x10 =>
        R (.tuple #[.pointer p, .agg #[.int .i64 x9, .int .i64 x10]]) w9 := fun {w' p e a} hS hb hR =>
    st2 hS rfl fun w9 hS9 c9 => Sp.load hS9 (hR w9 c9 (c9.below hb (by omega)))
  have sz1 := b1.size
  refine Mo.load (hB1.below b2) (tyNew_spec (x := x) (hN.below b02) hp h0 (ht.below b02) (fun hc w3 b3 => ?_) (fun hTy w3 tb b3 hT => ?_))
  · have he := conE_bad hc
    refine ⟨none, ((typE x.2.1 pl).1, (typE x.2.1 pl).2, ()), rfl, box2 rfl fun w6 h6 b6 z6 => h6.rI0 rfl (ifB_bne (fun _ => ?_) (fun q => absurd q hc))⟩
    have b26 := b3.on b6
    refine Sp.load h6.drew (out (hS2.below b26).drew (b02.on b26).drew fun w' _ hb => ?_)
    have := hBad (by rw [he]; exact hc) w' hb
    rwa [he] at this
  refine ⟨some (blk tb), (0, 0, ()), rfl, box2 rfl fun w6 h6 b6 z6 => h6.rI0 rfl (ifB_bne (fun q => absurd rfl q) (fun _ => ?_))⟩
  have b26 := b3.on b6
  have b06 := b02.on b26
  have hc : (chk9P x.2.1 pl).1 = 0 := hTy.chk
  have hty : (typE x.2.1 pl).1 = 0 := by rw [typE_ok hTy.chk hTy.no]
  have W := Whole9.of hp h0 hc
  have hs := W.shape
  have hTb : TbOk (tyL pl) := hTy.tb hp h0 (Nat.le_refl _)
  have hlay : (layP x.2.1 pl).1 = 0 := (chk9_ok hc).2.1
  refine Mo.load ((hB1.below b2).below b26) (Parts_spec (x := x) (hN.below b06) hp fun y w9 b9 hy => ⟨y, ((layP x.2.1 pl).1, ((layP x.2.1 pl).2 : Int), ()), rfl, ?_⟩)
  obtain ⟨hPt, _⟩ := hy hlay
  have b09 := b06.on b9
  refine lay_of fun w10 hP10 b10 z10 => ?_
  refine lay_of fun w11 hQ11 b11 z11 => ?_
  refine st20 (x := y) (hP10.below b11) (by simp) fun w31 hP31 c31 => ?_
  have lt9 : w9.heap.size < w11.heap.size := by have := b11.size; omega
  refine st2 (c31.blk hQ11 (by omega)) rfl fun w33 hQ33 c33 => ?_
  have b911 := b10.on b11
  have b933 : Below w9.heap.size w9 w33 := c33.below (c31.below b911 (Nat.le_refl _)) (by omega)
  have b033 := b09.on b933
  have hP33 : Blk w33 w9.heap.size 117 (sp20 y) := c33.blk hP31 (by omega)
  have b633 := b9.on b933
  have hT33 := (hT.below b6).below b633
  have hB33 := ((hB1.below b2).below b26).below b633
  have hS33 := (hS2.below b26).below b633
  refine Nw.gen fun w34 e34 => ?_
  have z34 : w34.heap.size = w33.heap.size + 1 := by rw [e34]; simp
  have b34 : Below w33.heap.size w33 w34 := by rw [e34]; exact (Below.refl _ _).alloc (Nat.le_refl _) _
  have hc34 : IsMq w34 w33.heap.size (aggQ cvK) ([] : List (Int × Cv)) := by rw [e34]; exact IsMq.new w33 _
  refine Nw.gen fun w35 e35 => ?_
  have z35 : w35.heap.size = w34.heap.size + 1 := by rw [e35]; simp
  have b35 : Below w34.heap.size w34 w35 := by rw [e35]; exact (Below.refl _ _).alloc (Nat.le_refl _) _
  have hv35 : IsMq w35 w34.heap.size (aggQ vvK) ([] : List (Int × Vv)) := by rw [e35]; exact IsMq.new w34 _
  refine lay_of fun w36 hK36 b36 z36 => ?_
  have hK36 : Blk w36 w35.heap.size 107 [.pointer (some (blk tb)), .slice none 0 0, .map (some w33.heap.size), .slice none 0 0, .map (some w34.heap.size)] := hK36
  refine cMakers_spec fun w37 hM37 b37 => ⟨some w36.heap.size, rfl, ?_⟩
  have q34 : w34.heap.size = w33.heap.size + 1 := by omega
  have q35 : w35.heap.size = w33.heap.size + 2 := by omega
  have q36 : w36.heap.size = w33.heap.size + 3 := by omega
  rw [q34, q35] at hK36
  rw [q34] at hv35
  rw [q35, q36] at hM37
  rw [q35, q36]
  have b3637 := b36.on b37
  have b3337 := (b34.on b35).on b3637
  have start : Gp w33 w37 tb ⟨none, 0, 0⟩ ⟨none, 0, 0⟩ [] [] [] [] :=
    ⟨b3337, by have := hM37.lt; omega, hK36.below b37, Own.nil _ _ _, Own.nil _ _ _, nilFr _, nilFr _, fun b h => (by cases h), ⟨[], hc34.below (b35.on b3637), .nil⟩, ⟨[], hv35.below b3637, .nil⟩, hM37⟩
  have P := hPt 7 (by decide)
  generalize ha : (l20 y).getD (2 * 7) 0 = a at P
  generalize hb : (l20 y).getD (2 * 7 + 1) 0 = b at P
  obtain ⟨P1, P2, P3, P4⟩ := P
  obtain ⟨a, rfl⟩ := Int.eq_ofNat_of_zero_le P1
  obtain ⟨b, rfl⟩ := Int.eq_ofNat_of_zero_le (Int.le_trans P1 P2)
  have hP37 := hP33.below b3337
  have b037 := b033.on b3337
  have hplen := hp.len
  refine ⟨by decide, hP37.rI (n := 14) (x := (a : Int)) (by rw [← ha]; rfl) ?_⟩
  have hcn0 : cnsC (tyL pl) pl a = ([], []) := cns_rest (n := 0) (tyL pl) a (Nat.zero_le _) fun k _ hk => fun e => by
    have := (P4 k (by omega)).2 e
    omega
  have hend : cnsC (tyL pl) pl pl.length = cnsC (tyL pl) pl b := cns_rest (tyL pl) pl.length (by omega) fun k hk1 hk2 => fun e => by
    have := (P4 k (by omega)).2 e
    omega
  refine LoopW.ghost (fun m (st : Int × Unit) w' => ∃ (n : Nat) (o1 o2 : Sl), st = ((n : Int), ()) ∧ a ≤ n ∧ n ≤ b ∧ m = b - n ∧ Gp w33 w' tb o1 o2 ((cnsC (tyL pl) pl n).1.map (·.1)) ((cnsC (tyL pl) pl n).2.map (·.1)) (cnsC (tyL pl) pl n).1 (cnsC (tyL pl) pl n).2 ∧ ∀ k, k < n → badC (tyL pl) pl k = 0) (b - a)
    ⟨a, ⟨none, 0, 0⟩, ⟨none, 0, 0⟩, rfl, Nat.le_refl _, by omega, rfl, by rw [hcn0]; exact start, fun k hk => bad_rest fun e => by have := (P4 k (by omega)).2 e; omega⟩ ?_
  rintro _ _ w38 ⟨n, o1, o2, rfl, hn1, hn2, rfl, G, hno⟩ next hnext
  have hS38 := hS33.below G.below
  have hB38 := hB33.below G.below
  have b038 := b033.on G.below
  have lt1 : w1.heap.size < w33.heap.size := hS33.lt
  refine ⟨by decide, ?_⟩
  rw [add_add']
  refine (hP33.below G.below).rI (n := 15) (x := (b : Int)) (by rw [← hb]; rfl) (ifB_dec (fun g => ?_) (fun g => ?_))
  rotate_left
  · -- the end
    have hne : n = b := by dsimp only at g; omega
    subst hne
    refine out hS38 b038 fun w' c hbw => ?_
    have hCn : CnOk x.2.1 pl := ⟨hTy, fun k hk => by
      by_cases e : k < n
      · exact hno k e
      · exact bad_rest fun e2 => by have := (P4 k hk).2 e2; omega⟩
    refine hOk hCn w' _ hbw ?_
    have s0 := b033.size
    have cb : ∀ k, w33.heap.size ≤ k → w'.heap[k]? = w38.heap[k]? := fun k hk => c.block _ (by omega)
    have hsz := c.size
    have e1 : cnL pl = (cnsC (tyL pl) pl n).1 := congrArg Prod.fst hend
    have e2 : vnL pl = (cnsC (tyL pl) pl n).2 := congrArg Prod.snd hend
    rw [e1, e2]
    have hTe := hT33.below G.below
    have s2 := b02.size
    refine ⟨⟨tb, w33.heap.size, w33.heap.size + 1, o1, o2, G.pool.of_block (cb _ (by omega)), (hTe.keep fun k h1 h2 => c.block _ (by omega)).mono s2, G.cn.keep (cb _ (by omega)) (fun k h1 h2 => ⟨cb _ (by have := h1.1; omega), by have := h1.1; show w.heap.size ≤ k; omega⟩) (by omega), G.vn.keep (cb _ (by omega)) (fun k h1 h2 => ⟨cb _ (by have := h1.1; omega), by have := h1.1; show w.heap.size ≤ k; omega⟩) (by omega), ?_, ?_, fun q hq => ?_, fun q hq => ?_, by omega, by omega⟩, by omega⟩
    · exact G.own1.isS.of_block fun q hq _ => cb _ (by have := G.fr1 q hq; omega)
    · exact G.own2.isS.of_block fun q hq _ => cb _ (by have := G.fr2 q hq; omega)
    · have := G.fr1 q hq
      omega
    · have := G.fr2 q hq
      omega
  · have hnb : n < b := by dsimp only at g; omega
    have hnl : n < pl.length := by omega
    have h7 : partP (ix pl n) = 7 := (P4 n hnl).1 ⟨by omega, by omega⟩
    refine hB38.rS (n := 2) (x := x.2.2.1) rfl (elemPI0 hN b038 hnl fun t hI0 => ?_)
    have hA : IsAg w38 t pl[n].2.2.2 := IsC.below agV_len hI0 b038
    refine add_spec G hT33 hTb hp W hnl h7 hA (fun id c hc => by
      have := cns_long hTy hp h0 (Nat.le_of_lt hnl) hno hc
      rw [this]
      exact tA_max hTb _) fun w39 o1' o2' G39 => ⟨_, rfl, ?_⟩
    have hbad : badC (tyL pl) pl n = errC (tyL pl) (cnsC (tyL pl) pl n).1 pl n := by
      unfold badC
      rw [if_pos h7]
    rw [← hbad]
    refine ifB_bne (fun he => ?_) (fun he => ?_)
    · have hE := conE_at hty hnl he hno
      refine out (hS33.below G39.below) (b033.on G39.below) fun w' _ hbw => ?_
      have := hBad (by rw [hE]; exact he) w' hbw
      rwa [hE] at this
    · dsimp only
      rw [wrap64_succ (by omega)]
      refine hnext (b - (n + 1)) _ w39 (by omega) ⟨n + 1, o1', o2', rfl, by omega, by omega, rfl, G39, fun k hk => ?_⟩
      by_cases e : k = n
      · subst e; exact he
      · exact hno k (by omega)
end
end Go.Proofs
namespace Go.Proofs
open Go.Gk Go.RowKit Go.Gm

theorem below_row {B : Nat} {w w' : World} (h : Below B w w') {g : Nat} (hg : B ≤ g) (cs : Array Value) : Below B w (w'.setRow g cs) :=
  ⟨h.os, h.tape, h.output, by simpa [World.setRow] using h.size, fun k hk => (setRow_other w' g k cs (by omega)).trans (h.block k hk)⟩
theorem copyU_row {w : World} {b : Nat} {s : Sl} {l : List Int} {cs : List Value} (hD : Blk w b 22 cs) (hcs : cs.length = l.length) (hs : IsS (Value.int .u32) w s l)
    {k : Int → World → Prop} (hk : ∀ w', Blk w' b 22 (l.map (Value.int .u32)) → (∀ B w0, Below B w0 w → B ≤ b → Below B w0 w') → k (l.length : Int) w') :
    copyS Tryz.prog #[30, 30] (.slice (some (Gk.blk b)) l.length l.length) (.slice s.a s.l s.c) w k := by
  have hun : (Tryz.prog).underlying 30 = some (.slice 22) := by kernel_rfl
  have hsz : ((Tryz.prog).info? 22).map (·.size) = some 1 := by kernel_rfl
  obtain ⟨sa, sl, sc⟩ := s
  have hl1 : sl = l.length := hs.len
  cases sa with
  | none =>
    have hc : sc = 0 := hs.nil rfl
    have h2 : sl ≤ sc := hs.cap
    have h0 : sl = 0 := by omega
    subst h0
    have hnil : l = [] := List.eq_nil_of_length_eq_zero hl1.symm
    subst hnil
    have hcs : cs = [] := List.eq_nil_of_length_eq_zero hcs
    subst hcs
    obtain ⟨i, hi, hi1⟩ : ∃ i, (Tryz.prog).info? 22 = some i ∧ i.size = 1 := by
      cases hq : (Tryz.prog).info? 22 with
      | none => rw [hq] at hsz; cases hsz
      | some i => rw [hq] at hsz; exact ⟨i, rfl, by injection hsz⟩
    refine ⟨0, w, ?_, hk w hD fun B w0 h _ => h⟩
    simp [Builtin.copy_, run_underlying hun, sizeOf, typeInfo, hi, Builtin.lenOf, Builtin.firstCells, storeCells, goInt]
  | some a =>
    have hn : (l.map (Value.int .u32)).length = Nat.min sl l.length := by rw [List.length_map, hl1]; exact (Nat.min_self _).symm
    have hc := run_copy_row (P := Tryz.prog) w 30 30 0 22 b 0 l.length l.length a sl sc cs.toArray 22 (l.map (Value.int .u32)) hun hsz hD hn (fun j v hj => by
      have hjl : j < l.length := by have := (List.getElem?_eq_some_iff.1 hj).1; rwa [List.length_map] at this
      rw [List.getElem?_map, List.getElem?_eq_getElem hjl] at hj
      cases hj
      exact hs.cell a rfl j hjl) (by simp [hcs]) (fun v hv => by obtain ⟨x, _, rfl⟩ := List.mem_map.1 hv; rfl)
    have e : (cs.toArray.toList.take 0 ++ l.map (Value.int .u32) ++ cs.toArray.toList.drop (0 + (l.map (Value.int .u32)).length)) = l.map (Value.int .u32) := by
      simp [hcs]
    rw [e] at hc
    have e2 : ((l.map (Value.int .u32)).length : Int) = (l.length : Int) := by rw [List.length_map]
    refine ⟨_, _, hc, ?_⟩
    rw [e2]
    refine hk _ ?_ fun B w0 hb hB => below_row hb hB _
    exact setRow_heap w b _ _ _ _ hD
section
variable {w w' : World} {B pb : Nat} {T : TyL} {C : CnL} {V : VnL} {R : Value → World → Prop}
theorem copied_spec {s : Sl} {l : List Int} (hs : IsS (Value.int .u32) w s l) (hl : l.length ≤ 4398046511104) (hR : ∀ w' b, w.heap.size ≤ b → Blk w' b 22 (l.map (Value.int .u32)) → Below w.heap.size w w' → R (.slice (some (blk b)) l.length l.length) w') :
    callR Tryz.prog 59 #[.slice s.a s.l s.c] w R := by
  refine callR.of (consts_copied_calls s R w ?_) fun _ _ h => h
  have hsl := hs.len
  unfold L_consts_copied
  rw [hsl]
  refine ⟨⟨by omega, by omega, by omega, by omega⟩, Nw.gen fun w1 e1 => ?_⟩
  have h1 : Blk w1 w.heap.size 22 (List.replicate l.length (.int .u32 0)) := by rw [e1]; exact Blk.made w _ _ l.length
  have b1 : Below w.heap.size w w1 := by rw [e1]; exact (Below.refl _ _).alloc (Nat.le_refl _) _
  have := copyU_row h1 (by rw [List.length_replicate]) (hs.below b1) (k := fun _ w2 => R (.slice (some (blk w.heap.size)) l.length l.length) w2) fun w2 h2 hb => hR w2 w.heap.size (Nat.le_refl _) h2 (hb _ _ b1 (Nat.le_refl _))
  rw [hsl] at this
  exact this
theorem cTypes_spec (h : IsPo w B pb T C V) (hR : ∀ tb, IsTb w B tb T → R (.pointer (some (blk tb))) w) : callR Tryz.prog 26 #[.pointer (some (blk pb))] w R := by
  refine callR.of (consts_Pool_Types_calls _ R w ?_) fun _ _ h => h
  obtain ⟨⟨tb, rc, rv, o1, o2, h1, h2, _⟩, _⟩ := h
  exact ifB_false rfl (derefP_some rfl ⟨_, h1.cell0 rfl, hR tb h2⟩)
theorem cIds_spec (h : IsPo w B pb T C V) (hl : C.length ≤ 4398046511104) (hR : ∀ w' b, w.heap.size ≤ b → Blk w' b 22 ((C.map (·.1)).map (Value.int .u32)) → Below w.heap.size w w' → R (.slice (some (blk b)) C.length C.length) w') :
    callR Tryz.prog 24 #[.pointer (some (blk pb))] w R := by
  refine callR.of (consts_Pool_Ids_calls _ R w ?_) fun _ _ h => h
  obtain ⟨⟨tb, rc, rv, o1, o2, h1, h2, h3, h4, h5, h6, _⟩, _⟩ := h
  refine ifB_false rfl (derefP_some rfl ⟨o1, h1.cell (n := 1) rfl, copied_spec h5 (by rw [List.length_map]; exact hl) fun w' b hb hB hbl => ⟨⟨some (Gk.blk b), _, _⟩, rfl, ?_⟩⟩)
  have := hR w' b hb hB hbl
  rw [List.length_map]
  exact this
/-- What stands at an id. -/
abbrev cnA (C : CnL) (id : Int) : Cn := (lookQ C id).getD (0, [])
abbrev vnA (V : VnL) (id : Int) : Vn := (lookQ V id).getD (0, 0, [])
theorem cValue_spec {id : Int} (h : IsPo w B pb T C V) (hl : (cnA C id).2.length ≤ 4398046511104) (hR : ∀ w' b, w.heap.size ≤ b → Blk w' b 22 ((cnA C id).2.map (Value.int .u32)) → Below w.heap.size w w' → R (.tuple #[.int .u32 (cnA C id).1, .slice (some (blk b)) (cnA C id).2.length (cnA C id).2.length, .bool (lookQ C id).isSome]) w') :
    callR Tryz.prog 18 #[.pointer (some (blk pb)), .int .u32 id] w R := by
  refine callR.of (consts_Pool_Value_calls _ id R w ?_) fun _ _ h => h
  obtain ⟨⟨tb, rc, rv, o1, o2, h1, h2, h3, _⟩, _⟩ := h
  refine ifB_false rfl (derefP_some rfl ⟨_, h1.cell (n := 2) rfl, h3.lookOk fun v hv => ?_⟩)
  refine box2 rfl fun w1 hB1 b1 z1 => hB1.drew.rI0 rfl (hB1.drew.rS (n := 1) (x := v.2.1) rfl ?_)
  have b1d := b1.drew
  refine copied_spec ((hv.wd.is.below b1).below (Below.refl _ _).drew) hl fun w4 b hb hB4 b4 => ⟨⟨some (Gk.blk b), _, _⟩, rfl, (hB1.drew.below b4).cell0 rfl, ?_⟩
  have hty : v.1 = (cnA C id).1 := hv.ty
  rw [hty]
  exact hR w4 b (Nat.le_trans b1.size hb) hB4 (b1d.on b4)
theorem cVariable_spec {id : Int} (h : IsPo w B pb T C V) (hl : (vnA V id).2.2.length ≤ 4398046511104) (hR : ∀ w' b, w.heap.size ≤ b → Blk w' b 22 ((vnA V id).2.2.map (Value.int .u32)) → Below w.heap.size w w' → R (.tuple #[.int .u32 (vnA V id).1, .int .u32 (vnA V id).2.1, .slice (some (blk b)) (vnA V id).2.2.length (vnA V id).2.2.length, .bool (lookQ V id).isSome]) w') :
    callR Tryz.prog 23 #[.pointer (some (blk pb)), .int .u32 id] w R := by
  refine callR.of (consts_Pool_Variable_calls _ id R w ?_) fun _ _ h => h
  obtain ⟨⟨tb, rc, rv, o1, o2, h1, h2, h3, h4, _⟩, _⟩ := h
  refine ifB_false rfl (derefP_some rfl ⟨_, h1.cell (n := 4) rfl, h4.lookOk fun v hv => ?_⟩)
  refine box3 rfl fun w1 hB1 b1 z1 => hB1.drew.rI0 rfl (hB1.drew.rI (n := 1) (x := v.2.1) rfl ?_)
  rw [add_add']
  refine hB1.drew.rS (n := 2) (x := v.2.2.1) rfl ?_
  have b1d := b1.drew
  refine copied_spec ((hv.wd.is.below b1).below (Below.refl _ _).drew) hl fun w4 b hb hB4 b4 => ⟨⟨some (Gk.blk b), _, _⟩, rfl, (hB1.drew.below b4).cell (n := 1) rfl, (hB1.drew.below b4).cell0 rfl, ?_⟩
  have hcl : v.1 = (vnA V id).1 := hv.cl
  have hty : v.2.1 = (vnA V id).2.1 := hv.ty
  rw [hcl, hty]
  exact hR w4 b (Nat.le_trans b1.size hb) hB4 (b1d.on b4)
end
end Go.Proofs
namespace Go.Proofs
open Go.Gk Go.RowKit Go.Gm

end Go.Proofs
namespace Go.Proofs
open Go.Gk
set_option linter.unusedVariables false
set_option maxRecDepth 100000

/-- intaglio.intagliolaw11.ConstsParts -/
def a_intagliolaw11_ConstsParts : Ann := (.seq none .nil (.seq none .nil (.seq none .nil (.seq (some ⟨[1, 4], []⟩) (.seq none .nil (.cond (.seq none .nil .nil) .nil)) (.seq none .nil (.seq none (.seq none .nil (.cond (.seq none .nil .nil) .nil)) (.seq none .nil (.seq none .nil (.seq none (.seq none .nil (.one (.loop ⟨[1, 3, 8], [(9, (.b (.int .i64))), (10, (.b (.int .i64)))]⟩ (.seq none (.seq none .nil (.cond .nil .nil)) (.seq (some ⟨[1, 3, 8, 10], [(9, (.b (.int .i64)))]⟩) (.one (.seq none .nil (.seq none .nil (.seq (some ⟨[1, 3, 8, 10, 11], [(9, (.b (.int .i64)))]⟩) (.seq none .nil (.cond (.seq none .nil (.seq (some ⟨[1, 3, 8, 9, 10, 11, 13], []⟩) (.seq none .nil (.cond (.seq none .nil .nil) .nil)) (.seq none .nil (.cond (.seq none .nil (.seq none (.seq none .nil (.one (.loop ⟨[1, 3, 8, 9, 10, 11, 13], [(15, (.b .slice)), (16, (.b (.int .i64)))]⟩ (.seq none (.seq none .nil (.cond .nil .nil)) (.seq none (.one (.seq none .nil (.seq none (.seq none .nil (.cond (.seq none .nil .nil) .nil)) .nil))) .nil))))) (.seq none .nil (.cond (.seq none .nil .nil) .nil)))) .nil)))) .nil)) (.seq none .nil (.seq none .nil (.cond (.seq (some ⟨[1, 3, 8, 9, 10, 11, 22], []⟩) (.seq none .nil (.cond (.seq none .nil .nil) .nil)) (.seq none .nil (.cond (.seq none .nil (.seq none .nil (.cond (.seq none .nil .nil) .nil))) .nil))) .nil))))))) .nil))))) (.seq none .nil .nil))))))))))
def L_intagliolaw11_ConstsParts (p0 : (Int × Int × Sl × Unit)) (R : Value → World → Prop) (w : World) : Prop :=
 Nw (w.alloc (.cells #[(.int .u32 p0.1), (.int .u32 p0.2.1), (.slice p0.2.2.1.a p0.2.2.1.l p0.2.2.1.c)] 25)) fun w1 =>
 callR Tryz.prog 28 #[] w1 fun v1 w2 =>
 ∃ x2 : (Int × Int × Sl × Unit), v1 = (.agg #[(.int .u32 x2.1), (.int .u32 x2.2.1), (.slice x2.2.2.1.a x2.2.2.1.l x2.2.2.1.c)]) ∧
 callR Tryz.prog 27 #[(.agg #[(.int .u32 x2.1), (.int .u32 x2.2.1), (.slice x2.2.2.1.a x2.2.2.1.l x2.2.2.1.c)])] w2 fun v3 w3 =>
 ∃ x4 : Option Addr, ∃ x5 : (Int × Int × Unit), v3 = (.tuple #[(.pointer x4), (.agg #[(.int .i64 x5.1), (.int .i64 x5.2.1)])]) ∧
 Nw (w3.alloc (.cells #[(.int .i64 (0 : Int)), (.int .i64 (0 : Int))] 44)) fun w4 =>
 Wr w4 (blk w3.heap.size) ∧
 Nw (w4.setCell (blk w3.heap.size) (.int .i64 x5.1)) fun w5 =>
 Wr w5 ((blk w3.heap.size).add 1) ∧
 Nw (w5.setCell ((blk w3.heap.size).add 1) (.int .i64 x5.2.1)) fun w6 =>
 callR Tryz.prog 18 #[(.pointer x4), (.int .u32 (2 : Int))] w6 fun v6 w7 =>
 ∃ x7 : Int, ∃ x8 : Sl, ∃ x9 : Bool, v6 = (.tuple #[(.int .u32 x7), (.slice x8.a x8.l x8.c), (.bool x9)]) ∧
 JoinW (S := Unit) (fun m10 =>
 ldI w7 (blk w3.heap.size) .i64 fun x12 =>
 ifB (x12 != (0 : Int))
 (R (.bool false) w7)
 (ifB (x7 != (1 : Int))
 (R (.bool false) w7)
 (ifB ((x8.l : Int) != (1 : Int))
 (R (.bool false) w7)
 ((0 ≤ (0 : Int) ∧ (0 : Int) < (x8.l : Int)) ∧
 derefP x8.a fun a13 =>
 ldI w7 (a13.add 0) .u32 fun x14 =>
 ifB (x14 != (7 : Int))
 (R (.bool false) w7)
 (ifB (!x9)
 (R (.bool false) w7)
 (m10 (()) w7))))))
 (fun s11 w8 =>
 ldI w8 ((blk w.heap.size).add 0) .u32 fun x15 =>
 ldI w8 ((blk w.heap.size).add 1) .u32 fun x16 =>
 ldS w8 ((blk w.heap.size).add 2) fun x17 =>
 callR Tryz.prog 29 #[(.agg #[(.int .u32 x15), (.int .u32 x16), (.slice x17.a x17.l x17.c)])] w8 fun v18 w9 =>
 ∃ x19 : (Int × Int × Sl × Unit), v18 = (.agg #[(.int .u32 x19.1), (.int .u32 x19.2.1), (.slice x19.2.2.1.a x19.2.2.1.l x19.2.2.1.c)]) ∧
 callR Tryz.prog 27 #[(.agg #[(.int .u32 x19.1), (.int .u32 x19.2.1), (.slice x19.2.2.1.a x19.2.2.1.l x19.2.2.1.c)])] w9 fun v20 w10 =>
 ∃ x21 : Option Addr, ∃ x22 : (Int × Int × Unit), v20 = (.tuple #[(.pointer x21), (.agg #[(.int .i64 x22.1), (.int .i64 x22.2.1)])]) ∧
 Wr w10 (blk w3.heap.size) ∧
 Nw (w10.setCell (blk w3.heap.size) (.int .i64 x22.1)) fun w11 =>
 Wr w11 ((blk w3.heap.size).add 1) ∧
 Nw (w11.setCell ((blk w3.heap.size).add 1) (.int .i64 x22.2.1)) fun w12 =>
 ldI w12 (blk w3.heap.size) .i64 fun x23 =>
 ifB (x23 != (0 : Int))
 (R (.bool (Option.isNone x21)) w12)
 (callR Tryz.prog 26 #[(.pointer x21)] w12 fun v24 w13 =>
 ∃ x25 : Option Addr, v24 = (.pointer x25) ∧
 LoopW (S := Int × Int × Unit) (fun s26 w14 n27 =>
 ldS w14 ((blk w.heap.size).add 2) fun x28 =>
 ifB (decide (s26.2.1 < (x28.l : Int)))
 (JoinW (S := Int × Unit) (fun m29 =>
 ldS w14 ((blk w.heap.size).add 2) fun x31 =>
 (0 ≤ s26.2.1 ∧ s26.2.1 < (x31.l : Int)) ∧
 derefP x31.a fun a32 =>
 ldI w14 ((a32.add ((Int.toNat s26.2.1) * 4)).add 0) .u16 fun x33 =>
 ldI w14 ((a32.add ((Int.toNat s26.2.1) * 4)).add 1) .u32 fun x34 =>
 ldI w14 ((a32.add ((Int.toNat s26.2.1) * 4)).add 2) .u32 fun x35 =>
 ldS w14 ((a32.add ((Int.toNat s26.2.1) * 4)).add 3) fun x36 =>
 Nw (w14.alloc (.cells #[(.int .u16 (0 : Int)), (.int .u32 (0 : Int)), (.int .u32 (0 : Int)), (.slice none 0 0)] 52)) fun w15 =>
 Wr w15 (blk w14.heap.size) ∧
 Nw (w15.setCell (blk w14.heap.size) (.int .u16 x33)) fun w16 =>
 Wr w16 ((blk w14.heap.size).add 1) ∧
 Nw (w16.setCell ((blk w14.heap.size).add 1) (.int .u32 x34)) fun w17 =>
 Wr w17 ((blk w14.heap.size).add 2) ∧
 Nw (w17.setCell ((blk w14.heap.size).add 2) (.int .u32 x35)) fun w18 =>
 Wr w18 ((blk w14.heap.size).add 3) ∧
 Nw (w18.setCell ((blk w14.heap.size).add 3) (.slice x36.a x36.l x36.c)) fun w19 =>
 ldI w19 ((blk w14.heap.size).add 2) .u32 fun x37 =>
 callR Tryz.prog 18 #[(.pointer x21), (.int .u32 x37)] w19 fun v38 w20 =>
 ∃ x39 : Int, ∃ x40 : Sl, ∃ x41 : Bool, v38 = (.tuple #[(.int .u32 x39), (.slice x40.a x40.l x40.c), (.bool x41)]) ∧
 JoinW (S := Int × Unit) (fun m42 =>
 ifB x41
 (JoinW (S := Unit) (fun m44 =>
 ldI w20 ((blk w14.heap.size).add 1) .u32 fun x46 =>
 ifB (x39 != x46)
 (R (.bool false) w20)
 (callR Tryz.prog 30 #[(.pointer x25), (.int .u32 x39)] w20 fun v47 w21 =>
 ∃ x48 : Int, v47 = (.int .i64 x48) ∧
 ifB ((x40.l : Int) != x48)
 (R (.bool false) w21)
 (m44 (()) w21)))
 (fun s45 w22 =>
 ldI w22 (blk w14.heap.size) .u16 fun x49 =>
 ifB (x49 == (44 : Int))
 (LoopW (S := Sl × Int × Unit) (fun s50 w23 n51 =>
 ldS w23 ((blk w14.heap.size).add 3) fun x52 =>
 ifB (decide (s50.2.1 < (x52.l : Int)))
 (ldS w23 ((blk w14.heap.size).add 3) fun x53 =>
 (0 ≤ s50.2.1 ∧ s50.2.1 < (x53.l : Int)) ∧
 derefP x53.a fun a54 =>
 ldI w23 ((a54.add ((Int.toNat s50.2.1) * 3)).add 1) .u32 fun x55 =>
 callR Tryz.prog 18 #[(.pointer x21), (.int .u32 x55)] w23 fun v56 w24 =>
 ∃ x57 : Int, ∃ x58 : Sl, ∃ x59 : Bool, v56 = (.tuple #[(.int .u32 x57), (.slice x58.a x58.l x58.c), (.bool x59)]) ∧
 ifB (!x59)
 (R (.bool false) w24)
 (appendS Tryz.prog 30 (.slice s50.1.a s50.1.l s50.1.c) (.slice x58.a x58.l x58.c) w24 fun r60 w25 =>
 n51 (r60, (IntKind.i64.wrap (s50.2.1 + (1 : Int))), ()) w25))
 (callR Tryz.prog 19 #[(.slice s50.1.a s50.1.l s50.1.c), (.slice x40.a x40.l x40.c)] w23 fun v61 w26 =>
 ∃ x62 : Bool, v61 = (.bool x62) ∧
 ifB (!x62)
 (R (.bool false) w26)
 (m42 ((IntKind.i64.wrap (s26.1 + (1 : Int))), ()) w26)))
 ((Sl.mk none 0 0), (0 : Int), ()) w22)
 (m42 ((IntKind.i64.wrap (s26.1 + (1 : Int))), ()) w22)))
 (m42 (s26.1, ()) w20))
 (fun s43 w27 =>
 ldI w27 ((blk w14.heap.size).add 2) .u32 fun x63 =>
 callR Tryz.prog 23 #[(.pointer x21), (.int .u32 x63)] w27 fun v64 w28 =>
 ∃ x65 : Int, ∃ x66 : Int, ∃ x67 : Sl, ∃ x68 : Bool, v64 = (.tuple #[(.int .u32 x65), (.int .u32 x66), (.slice x67.a x67.l x67.c), (.bool x68)]) ∧
 ifB x68
 (JoinW (S := Unit) (fun m69 =>
 ldI w28 (blk w14.heap.size) .u16 fun x71 =>
 ifB (x71 != (59 : Int))
 (R (.bool false) w28)
 (ldS w28 ((blk w14.heap.size).add 3) fun x72 =>
 (0 ≤ (0 : Int) ∧ (0 : Int) < (x72.l : Int)) ∧
 derefP x72.a fun a73 =>
 ldI w28 ((a73.add (0 * 3)).add 1) .u32 fun x74 =>
 ifB (x65 != x74)
 (R (.bool false) w28)
 (callR Tryz.prog 30 #[(.pointer x25), (.int .u32 x66)] w28 fun v75 w29 =>
 ∃ x76 : Int, v75 = (.int .i64 x76) ∧
 ifB ((x67.l : Int) != x76)
 (R (.bool false) w29)
 (m69 (()) w29))))
 (fun s70 w30 =>
 ldS w30 ((blk w14.heap.size).add 3) fun x77 =>
 ifB ((x77.l : Int) == (2 : Int))
 (ldS w30 ((blk w14.heap.size).add 3) fun x78 =>
 (0 ≤ (1 : Int) ∧ (1 : Int) < (x78.l : Int)) ∧
 derefP x78.a fun a79 =>
 ldI w30 ((a79.add (1 * 3)).add 1) .u32 fun x80 =>
 callR Tryz.prog 18 #[(.pointer x21), (.int .u32 x80)] w30 fun v81 w31 =>
 ∃ x82 : Int, ∃ x83 : Sl, ∃ x84 : Bool, v81 = (.tuple #[(.int .u32 x82), (.slice x83.a x83.l x83.c), (.bool x84)]) ∧
 callR Tryz.prog 19 #[(.slice x67.a x67.l x67.c), (.slice x83.a x83.l x83.c)] w31 fun v85 w32 =>
 ∃ x86 : Bool, v85 = (.bool x86) ∧
 ifB (!x86)
 (R (.bool false) w32)
 (m29 (s43.1, ()) w32))
 (m29 (s43.1, ()) w30)))
 (m29 (s43.1, ()) w28)))
 (fun s30 w33 =>
 n27 (s30.1, (IntKind.i64.wrap (s26.2.1 + (1 : Int))), ()) w33))
 (callR Tryz.prog 24 #[(.pointer x21)] w14 fun v87 w34 =>
 ∃ x88 : Sl, v87 = (.slice x88.a x88.l x88.c) ∧
 R (.bool (s26.1 == (x88.l : Int))) w34))
 ((0 : Int), (0 : Int), ()) w13))
theorem intagliolaw11_ConstsParts_calls (p0 : (Int × Int × Sl × Unit)) (R : Value → World → Prop) (w : World) (h : L_intagliolaw11_ConstsParts p0 R w) : Calls Tryz.prog 6 #[(.agg #[(.int .u32 p0.1), (.int .u32 p0.2.1), (.slice p0.2.2.1.a p0.2.2.1.l p0.2.2.1.c)])] w (Ret R) :=
 lw_calls (fs := Tryz.fs) (an := a_intagliolaw11_ConstsParts) (args := [(.agg #[(.int .u32 p0.1), (.int .u32 p0.2.1), (.slice p0.2.2.1.a p0.2.2.1.l p0.2.2.1.c)])]) Tryz.fsOK Tryz.mixed Tryz.func6 (by kernel_rfl) (by kernel_rfl)
 (Eq.mpr (by kernel_rfl : lwFn Tryz.prog Tryz.fs Tryz.f6 a_intagliolaw11_ConstsParts [(.agg #[(.int .u32 p0.1), (.int .u32 p0.2.1), (.slice p0.2.2.1.a p0.2.2.1.l p0.2.2.1.c)])] w R = L_intagliolaw11_ConstsParts p0 R w) h)

/-- intaglio.intagliolaw11.least -/
def a_intagliolaw11_least : Ann := (.seq none .nil (.seq none .nil .nil))
def L_intagliolaw11_least  (R : Value → World → Prop) (w : World) : Prop :=
 Nw (w.alloc (.cells #[(.int .u32 (0 : Int)), (.int .u32 (0 : Int)), (.slice none 0 0)] 25)) fun w1 =>
 callR Tryz.prog 34 #[(.int .u32 (0 : Int))] w1 fun v1 w2 =>
 ∃ x2 : (Int × Int × ByteArray × Unit), v1 = (.agg #[(.int .u8 x2.1), (.int .u32 x2.2.1), (.string x2.2.2.1)]) ∧
 callR Tryz.prog 34 #[(.int .u32 (0 : Int))] w2 fun v3 w3 =>
 ∃ x4 : (Int × Int × ByteArray × Unit), v3 = (.agg #[(.int .u8 x4.1), (.int .u32 x4.2.1), (.string x4.2.2.1)]) ∧
 Nw (w3.alloc (.cells #[(.int .u8 x2.1), (.int .u32 x2.2.1), (.string x2.2.2.1), (.int .u8 x4.1), (.int .u32 x4.2.1), (.string x4.2.2.1)] 55)) fun w4 =>
 callR Tryz.prog 67 #[(.int .u32 (32 : Int))] w4 fun v5 w5 =>
 ∃ x6 : (Int × Int × ByteArray × Unit), v5 = (.agg #[(.int .u8 x6.1), (.int .u32 x6.2.1), (.string x6.2.2.1)]) ∧
 callR Tryz.prog 67 #[(.int .u32 (0 : Int))] w5 fun v7 w6 =>
 ∃ x8 : (Int × Int × ByteArray × Unit), v7 = (.agg #[(.int .u8 x8.1), (.int .u32 x8.2.1), (.string x8.2.2.1)]) ∧
 Nw (w6.alloc (.cells #[(.int .u8 x6.1), (.int .u32 x6.2.1), (.string x6.2.2.1), (.int .u8 x8.1), (.int .u32 x8.2.1), (.string x8.2.2.1)] 55)) fun w7 =>
 callR Tryz.prog 67 #[(.int .u32 (7 : Int))] w7 fun v9 w8 =>
 ∃ x10 : (Int × Int × ByteArray × Unit), v9 = (.agg #[(.int .u8 x10.1), (.int .u32 x10.2.1), (.string x10.2.2.1)]) ∧
 Nw (w8.alloc (.cells #[(.int .u8 x10.1), (.int .u32 x10.2.1), (.string x10.2.2.1)] 55)) fun w9 =>
 Nw (w9.alloc (.cells #[(.int .u16 (14 : Int)), (.int .u32 (0 : Int)), (.int .u32 (0 : Int)), (.slice (some (blk w3.heap.size)) 2 2), (.int .u16 (21 : Int)), (.int .u32 (0 : Int)), (.int .u32 (1 : Int)), (.slice (some (blk w6.heap.size)) 2 2), (.int .u16 (43 : Int)), (.int .u32 (1 : Int)), (.int .u32 (2 : Int)), (.slice (some (blk w8.heap.size)) 1 1)] 52)) fun w10 =>
 Wr w10 (blk w.heap.size) ∧
 Nw (w10.setCell (blk w.heap.size) (.int .u32 (0 : Int))) fun w11 =>
 Wr w11 ((blk w.heap.size).add 1) ∧
 Nw (w11.setCell ((blk w.heap.size).add 1) (.int .u32 (3 : Int))) fun w12 =>
 Wr w12 ((blk w.heap.size).add 2) ∧
 Nw (w12.setCell ((blk w.heap.size).add 2) (.slice (some (blk w9.heap.size)) 3 3)) fun w13 =>
 ldI w13 ((blk w.heap.size).add 0) .u32 fun x11 =>
 ldI w13 ((blk w.heap.size).add 1) .u32 fun x12 =>
 ldS w13 ((blk w.heap.size).add 2) fun x13 =>
 R (.agg #[(.int .u32 x11), (.int .u32 x12), (.slice x13.a x13.l x13.c)]) w13
theorem intagliolaw11_least_calls  (R : Value → World → Prop) (w : World) (h : L_intagliolaw11_least  R w) : Calls Tryz.prog 28 #[] w (Ret R) :=
 lw_calls (fs := Tryz.fs) (an := a_intagliolaw11_least) (args := []) Tryz.fsOK Tryz.mixed Tryz.func28 (by kernel_rfl) (by kernel_rfl)
 (Eq.mpr (by kernel_rfl : lwFn Tryz.prog Tryz.fs Tryz.f28 a_intagliolaw11_least [] w R = L_intagliolaw11_least  R w) h)

/-- intaglio.intagliokit.Enum -/
def a_intagliokit_Enum : Ann := (.seq none .nil (.seq none .nil .nil))
def L_intagliokit_Enum (p0 : Int) (R : Value → World → Prop) (w : World) : Prop :=
 Nw (w.alloc (.cells #[(.int .u8 (0 : Int)), (.int .u32 (0 : Int)), (.string (ByteArray.mk #[]))] 55)) fun w1 =>
 Wr w1 (blk w.heap.size) ∧
 Nw (w1.setCell (blk w.heap.size) (.int .u8 (4 : Int))) fun w2 =>
 Wr w2 ((blk w.heap.size).add 1) ∧
 Nw (w2.setCell ((blk w.heap.size).add 1) (.int .u32 p0)) fun w3 =>
 Wr w3 ((blk w.heap.size).add 2) ∧
 Nw (w3.setCell ((blk w.heap.size).add 2) (.string (ByteArray.mk #[]))) fun w4 =>
 ldI w4 ((blk w.heap.size).add 0) .u8 fun x1 =>
 ldI w4 ((blk w.heap.size).add 1) .u32 fun x2 =>
 ldStr w4 ((blk w.heap.size).add 2) fun x3 =>
 R (.agg #[(.int .u8 x1), (.int .u32 x2), (.string x3)]) w4
theorem intagliokit_Enum_calls (p0 : Int) (R : Value → World → Prop) (w : World) (h : L_intagliokit_Enum p0 R w) : Calls Tryz.prog 34 #[(.int .u32 p0)] w (Ret R) :=
 lw_calls (fs := Tryz.fs) (an := a_intagliokit_Enum) (args := [(.int .u32 p0)]) Tryz.fsOK Tryz.mixed Tryz.func34 (by kernel_rfl) (by kernel_rfl)
 (Eq.mpr (by kernel_rfl : lwFn Tryz.prog Tryz.fs Tryz.f34 a_intagliokit_Enum [(.int .u32 p0)] w R = L_intagliokit_Enum p0 R w) h)

/-- intaglio.intagliokit.Number -/
def a_intagliokit_Number : Ann := (.seq none .nil (.seq none .nil .nil))
def L_intagliokit_Number (p0 : Int) (R : Value → World → Prop) (w : World) : Prop :=
 Nw (w.alloc (.cells #[(.int .u8 (0 : Int)), (.int .u32 (0 : Int)), (.string (ByteArray.mk #[]))] 55)) fun w1 =>
 Wr w1 (blk w.heap.size) ∧
 Nw (w1.setCell (blk w.heap.size) (.int .u8 (2 : Int))) fun w2 =>
 Wr w2 ((blk w.heap.size).add 1) ∧
 Nw (w2.setCell ((blk w.heap.size).add 1) (.int .u32 p0)) fun w3 =>
 Wr w3 ((blk w.heap.size).add 2) ∧
 Nw (w3.setCell ((blk w.heap.size).add 2) (.string (ByteArray.mk #[]))) fun w4 =>
 ldI w4 ((blk w.heap.size).add 0) .u8 fun x1 =>
 ldI w4 ((blk w.heap.size).add 1) .u32 fun x2 =>
 ldStr w4 ((blk w.heap.size).add 2) fun x3 =>
 R (.agg #[(.int .u8 x1), (.int .u32 x2), (.string x3)]) w4
theorem intagliokit_Number_calls (p0 : Int) (R : Value → World → Prop) (w : World) (h : L_intagliokit_Number p0 R w) : Calls Tryz.prog 67 #[(.int .u32 p0)] w (Ret R) :=
 lw_calls (fs := Tryz.fs) (an := a_intagliokit_Number) (args := [(.int .u32 p0)]) Tryz.fsOK Tryz.mixed Tryz.func67 (by kernel_rfl) (by kernel_rfl)
 (Eq.mpr (by kernel_rfl : lwFn Tryz.prog Tryz.fs Tryz.f67 a_intagliokit_Number [(.int .u32 p0)] w R = L_intagliokit_Number p0 R w) h)

end Go.Proofs
namespace Go.Proofs
open Go.Gk Go.RowKit Go.Gm

def lsP : List PI := [(14, 0, 0, [(4, 0, bs []), (4, 0, bs [])]), (21, 0, 1, [(2, 32, bs []), (2, 0, bs [])]), (43, 1, 2, [(2, 7, bs [])])]
theorem ls_chk : chk9P 3 lsP = (0, 0) := by decide +kernel
theorem ls_ok : PlOk lsP := by
  refine ⟨by show 40 * 3 ≤ _; decide, fun p hp => ?_, fun p hp y hy => ?_, fun p hp => ?_⟩
  · simp only [lsP, List.mem_cons, List.not_mem_nil, or_false] at hp
    rcases hp with rfl | rfl | rfl <;> decide
  · have : y.2.2 = bs [] := by
      simp only [lsP, List.mem_cons, List.not_mem_nil, or_false] at hp
      rcases hp with rfl | rfl | rfl <;> simp only [List.mem_cons, List.not_mem_nil, or_false] at hy <;> first | (rcases hy with rfl | rfl <;> rfl) | (subst hy; rfl)
    rw [this]
    decide
  · simp only [lsP, List.mem_cons, List.not_mem_nil, or_false] at hp
    rcases hp with rfl | rfl | rfl <;> decide
theorem ls_typ : (typE 3 lsP).1 = 0 := by
  rw [typE_ok]
  · rw [ls_chk]
  · exact (by decide +kernel : ∀ k, k < 3 → errT (tysT lsP k) lsP k = 0)
theorem ls_con : conE 3 lsP = (0, 0) := by
  exact conE_ok ls_typ (by decide +kernel : ∀ k, k < 3 → badC (tyL lsP) lsP k = 0)
theorem ls_cn : cnL lsP = [(2, 1, [7])] := by kernel_rfl
section
variable {w : World} {R : Value → World → Prop}
theorem cEnum_spec {n : Int} (hR : ∀ w', Below w.heap.size w w' → R (.agg #[.int .u8 4, .int .u32 n, .string (bs [])]) w') : callR Tryz.prog 34 #[.int .u32 n] w R := by
  refine callR.of (intagliokit_Enum_calls n R w ?_) fun _ _ h => h
  refine box3 rfl fun w4 h4 b4 z4 => ?_
  exact h4.rI (n := 0) (x := 4) rfl (h4.rI (n := 1) (x := n) rfl (h4.rT (n := 2) (x := bs []) rfl (hR w4 b4)))
theorem cNum_spec {n : Int} (hR : ∀ w', Below w.heap.size w w' → R (.agg #[.int .u8 2, .int .u32 n, .string (bs [])]) w') : callR Tryz.prog 67 #[.int .u32 n] w R := by
  refine callR.of (intagliokit_Number_calls n R w ?_) fun _ _ h => h
  refine box3 rfl fun w4 h4 b4 z4 => ?_
  exact h4.rI (n := 0) (x := 2) rfl (h4.rI (n := 1) (x := n) rfl (h4.rT (n := 2) (x := bs []) rfl (hR w4 b4)))
theorem cLeast_spec (hR : ∀ w' s, IsPl w' s lsP → Below w.heap.size w w' → R (moA (0, 3, s, ())) w') : callR Tryz.prog 28 #[] w R := by
  refine callR.of (intagliolaw11_least_calls R w ?_) fun _ _ h => h
  refine lay_of fun w1 hM1 b1 z1 => ?_
  have hM1 : Blk w1 w.heap.size 25 (moV (0, 0, ⟨none, 0, 0⟩, ())) := hM1
  refine cEnum_spec fun w2 b2 => ⟨(4, 0, bs [], ()), rfl, cEnum_spec fun w3 b3 => ⟨(4, 0, bs [], ()), rfl, lay_of fun w4 hA4 b4 z4 => ?_⟩⟩
  have hA4 : Blk w4 w3.heap.size 55 (flat agV [(4, 0, bs []), (4, 0, bs [])]) := hA4
  refine cNum_spec fun w5 b5 => ⟨(2, 32, bs [], ()), rfl, cNum_spec fun w6 b6 => ⟨(2, 0, bs [], ()), rfl, lay_of fun w7 hA7 b7 z7 => ?_⟩⟩
  have hA7 : Blk w7 w6.heap.size 55 (flat agV [(2, 32, bs []), (2, 0, bs [])]) := hA7
  refine cNum_spec fun w8 b8 => ⟨(2, 7, bs [], ()), rfl, lay_of fun w9 hA9 b9 z9 => lay_of fun w10 hI10 b10 z10 => ?_⟩
  have hA9 : Blk w9 w8.heap.size 55 (flat agV [(2, 7, bs [])]) := hA9
  have hI10 : Blk w10 w9.heap.size 52 (flat inV [(14, 0, 0, ⟨some (blk w3.heap.size), 2, 2⟩, ()), (21, 0, 1, ⟨some (blk w6.heap.size), 2, 2⟩, ()), (43, 1, 2, ⟨some (blk w8.heap.size), 1, 1⟩, ())]) := hI10
  have s1 := b1.size; have s2 := b2.size; have s3 := b3.size; have s4 := b4.size; have s5 := b5.size; have s6 := b6.size; have s7 := b7.size; have s8 := b8.size; have s9 := b9.size
  have b810 := b9.on b10
  have b610 := (b7.on b8).on b810
  have b310 := ((b4.on b5).on b6).on b610
  have b110 := (b2.on b3).on b310
  refine st3 (hM1.below b110) rfl fun w13 hD13 c13 => ?_
  have hD13 : Blk w13 w.heap.size 25 (moV (0, 3, ⟨some (blk w9.heap.size), 3, 3⟩, ())) := hD13
  refine Mo.load hD13 (hR w13 ⟨some (blk w9.heap.size), 3, 3⟩ ?_ (c13.below (b1.on b110) (Nat.le_refl _)))
  have hI := c13.blk hI10 (by omega)
  have h1 := c13.blk (hA4.below (((b5.on b6).on b610))) (by omega)
  have h2 := c13.blk (hA7.below (b8.on b810)) (by omega)
  have h3 := c13.blk (hA9.below b10) (by omega)
  refine ⟨rfl, Nat.le_refl _, by show 3 ≤ _; omega, fun h => (by cases h), fun a ha k hk => ?_⟩
  cases ha
  have cell : ∀ (k : Nat) (t : Sl) (p : PI), k < 3 → (∀ j, j < 4 → (flat inV [(14, 0, 0, ⟨some (blk w3.heap.size), 2, 2⟩, ()), (21, 0, 1, ⟨some (blk w6.heap.size), 2, 2⟩, ()), (43, 1, 2, ⟨some (blk w8.heap.size), 1, 1⟩, ())])[k * 4 + j]? = (inV (mkIn p t))[j]?) →
      ∀ j, j < 4 → w13.cell? ((blk w9.heap.size).add (k * 4 + j)) = (inV (mkIn p t))[j]? := fun k t p hk3 he j hj => by
    have hlt : j < (inV (mkIn p t)).length := hj
    have h := he j hj
    rw [List.getElem?_eq_getElem hlt] at h ⊢
    exact hI.cell h
  have four : ∀ {P : Nat → Prop}, P 0 → P 1 → P 2 → P 3 → ∀ j, j < 4 → P j := fun {P} h0 h1 h2 h3 j hj => by
    have hj4 : j = 0 ∨ j = 1 ∨ j = 2 ∨ j = 3 := by omega
    rcases hj4 with rfl | rfl | rfl | rfl <;> assumption
  have hk3 : k < 3 := hk
  have hkc : k = 0 ∨ k = 1 ∨ k = 2 := by omega
  rcases hkc with rfl | rfl | rfl
  · exact ⟨⟨some (blk w3.heap.size), 2, 2⟩, cell 0 _ _ (by decide) (four rfl rfl rfl rfl), Blk.isC agV_len (by omega) h1 (by simp)⟩
  · exact ⟨⟨some (blk w6.heap.size), 2, 2⟩, cell 1 _ _ (by decide) (four rfl rfl rfl rfl), Blk.isC agV_len (by omega) h2 (by simp)⟩
  · exact ⟨⟨some (blk w8.heap.size), 1, 1⟩, cell 2 _ _ (by decide) (four rfl rfl rfl rfl), Blk.isC agV_len (by omega) h3 (by simp)⟩
end
end Go.Proofs
namespace Go.Proofs
open Go.Gk Go.RowKit Go.Gm

theorem flatMap_cong {α β : Type} {f g : α → List β} : ∀ {l : List α}, (∀ x ∈ l, f x = g x) → l.flatMap f = l.flatMap g
  | [], _ => rfl
  | a :: l, h => by
    rw [List.flatMap_cons, List.flatMap_cons, h a (List.mem_cons_self ..), flatMap_cong fun x hx => h x (List.mem_cons_of_mem _ hx)]
section
variable {bd : Int} {pl : List PI} {k : Nat}
theorem cn_at (h : CnOk bd pl) (hp : PlOk pl) (h0 : 0 ≤ bd) (hk : k < pl.length) (hc : isC (ix pl k).1 = true) : lookQ (cnL pl) (ix pl k).2.2.1 = some ((ix pl k).2.1, wdP (tyL pl) pl k) :=
  ((cns_look (h.whole hp h0) _ pl.length (Nat.le_refl _)).1 _).2 ⟨k, hk, hc, rfl, rfl⟩
theorem cn_not (h : CnOk bd pl) (hp : PlOk pl) (h0 : 0 ≤ bd) (hk : k < pl.length) (hc : isC (ix pl k).1 = false) : lookQ (cnL pl) (ix pl k).2.2.1 = none := by
  have W := h.whole hp h0
  cases hl : lookQ (cnL pl) (ix pl k).2.2.1 with
  | none => rfl
  | some c =>
    obtain ⟨j, j1, j2, j3, _⟩ := ((cns_look (T := tyL pl) W _ pl.length (Nat.le_refl _)).1 c).1 hl
    have hr := isC_res W.shape j1 j2
    have : j = k := by
      rcases Nat.lt_trichotomy j k with q | q | q
      · exact absurd j3 (W.new k hk (by rw [← j3]; exact hr) j q (by omega))
      · exact q
      · exact absurd j3.symm (W.new j j1 hr k q (by omega))
    subst this
    rw [j2] at hc
    cases hc
theorem vn_at (h : CnOk bd pl) (hp : PlOk pl) (h0 : 0 ≤ bd) (hk : k < pl.length) (hc : partP (ix pl k) = 7 ∧ (ix pl k).1 = 59) : lookQ (vnL pl) (ix pl k).2.2.1 = some (vaP (tyL pl) pl k) :=
  ((cns_look (h.whole hp h0) _ pl.length (Nat.le_refl _)).2 _).2 ⟨k, hk, hc, rfl, rfl⟩
theorem vn_not (h : CnOk bd pl) (hp : PlOk pl) (h0 : 0 ≤ bd) (hk : k < pl.length) (hc : ¬ (partP (ix pl k) = 7 ∧ (ix pl k).1 = 59)) : lookQ (vnL pl) (ix pl k).2.2.1 = none := by
  have W := h.whole hp h0
  cases hl : lookQ (vnL pl) (ix pl k).2.2.1 with
  | none => rfl
  | some c =>
    obtain ⟨j, j1, j2, j3, _⟩ := ((cns_look (T := tyL pl) W _ pl.length (Nat.le_refl _)).2 c).1 hl
    have hr := var_res W j1 j2.2
    have : j = k := by
      rcases Nat.lt_trichotomy j k with q | q | q
      · exact absurd j3 (W.new k hk (by rw [← j3]; exact hr) j q (by omega))
      · exact q
      · exact absurd j3.symm (W.new j j1 hr k q (by omega))
    subst this
    exact absurd j2 hc
theorem cn_long (h : CnOk bd pl) (hp : PlOk pl) (h0 : 0 ≤ bd) {id : Int} {c : Cn} (hc : lookQ (cnL pl) id = some c) : c.2.length = (tA (tyL pl) c.1).size :=
  cns_long h.ty hp h0 (Nat.le_refl _) h.no hc
theorem CnOk.tb (h : CnOk bd pl) (hp : PlOk pl) (h0 : 0 ≤ bd) : TbOk (tyL pl) := h.ty.tb hp h0 (Nat.le_refl pl.length)
theorem cnA_len (h : CnOk bd pl) (hp : PlOk pl) (h0 : 0 ≤ bd) (id : Int) : (cnA (cnL pl) id).2.length ≤ 4096 := by
  unfold cnA
  cases hl : lookQ (cnL pl) id with
  | none => exact Nat.zero_le _
  | some c =>
    have := cn_long h hp h0 hl
    show c.2.length ≤ 4096
    rw [this]
    exact tA_max (h.tb hp h0) _
/-- A variable that is sound. -/
theorem va_ok (h : CnOk bd pl) (hp : PlOk pl) (h0 : 0 ≤ bd) (hk : k < pl.length) (hc : partP (ix pl k) = 7 ∧ (ix pl k).1 = 59) :
    (vaP (tyL pl) pl k).1 = agI pl k 0 ∧ (vaP (tyL pl) pl k).2.2.length = (tA (tyL pl) (vaP (tyL pl) pl k).2.1).size ∧ ((ix pl k).2.2.2.length = 2 → (vaP (tyL pl) pl k).2.2 = (cnA (cnL pl) (agI pl k 1)).2 ∧ (lookQ (cnL pl) (agI pl k 1)).isSome = true) := by
  have W := h.whole hp h0
  have hv := h.var hk hc.1 hc.2
  unfold vaP
  unfold varC at hv ⊢
  by_cases e1 : (tA (tyL pl) (ix pl k).2.1).kind ≠ 7
  · rw [if_pos e1] at hv; cases hv
  rw [if_neg e1] at hv ⊢
  by_cases e2 : (tA (tyL pl) (ix pl k).2.1).cls ≠ agI pl k 0 ∨ (1 < (ix pl k).2.2.2.length ∧ (tA (tyL pl) (ix pl k).2.1).cls = 1)
  · rw [if_pos e2] at hv; cases hv
  rw [if_neg e2] at hv ⊢
  by_cases e3 : (ix pl k).2.2.2.length = 1
  · rw [if_pos e3]
    exact ⟨rfl, List.length_replicate, fun e => by omega⟩
  rw [if_neg e3] at hv ⊢
  generalize ((tA (tyL pl) (ix pl k).2.1).prt 0).1 = ty at hv ⊢
  have hv : (ofC (cnsC (tyL pl) pl k).1 (agI pl k 1) ty).2 = 0 := hv
  cases hl : lookQ (cnsC (tyL pl) pl k).1 (agI pl k 1) with
  | none =>
    unfold ofC at hv
    rw [hl] at hv
    cases hv
  | some c =>
    have hty : c.1 = ty := by
      unfold ofC at hv
      rw [hl] at hv
      refine Classical.byContradiction fun q => ?_
      have hv : (if c.1 ≠ ty then (([] : List Int), (111 : Int)) else (c.2, 0)).2 = 0 := hv
      rw [if_pos q] at hv
      cases hv
    have ho : ofC (cnsC (tyL pl) pl k).1 (agI pl k 1) ty = (c.2, 0) := ofC_some (by rw [hl, ← hty])
    rw [ho]
    have hm := look_more W (Nat.le_of_lt hk) (Nat.le_refl pl.length) hl
    refine ⟨rfl, ?_, fun _ => ⟨?_, ?_⟩⟩
    · show c.2.length = (tA (tyL pl) ty).size
      rw [cn_long h hp h0 hm, hty]
    · show c.2 = ((lookQ (cnL pl) (agI pl k 1)).getD (0, [])).2
      rw [hm]
      rfl
    · rw [hm]
      rfl
theorem vnA_len (h : CnOk bd pl) (hp : PlOk pl) (h0 : 0 ≤ bd) (id : Int) : (vnA (vnL pl) id).2.2.length ≤ 4096 := by
  unfold vnA
  cases hl : lookQ (vnL pl) id with
  | none => exact Nat.zero_le _
  | some c =>
    obtain ⟨j, j1, j2, j3, rfl⟩ := ((cns_look (T := tyL pl) (h.whole hp h0) _ pl.length (Nat.le_refl _)).2 c).1 hl
    have := (va_ok h hp h0 j1 j2).2.1
    show (vaP (tyL pl) pl j).2.2.length ≤ 4096
    rw [this]
    exact tA_max (h.tb hp h0) _
/-- A composite's words. -/
theorem comp_ok (h : CnOk bd pl) (hp : PlOk pl) (h0 : 0 ≤ bd) (hk : k < pl.length) (hc : (ix pl k).1 = 44) :
    (∀ j, j < (ix pl k).2.2.2.length → (lookQ (cnL pl) (agI pl k j)).isSome = true) ∧ wdP (tyL pl) pl k = (List.range (ix pl k).2.2.2.length).flatMap fun j => (cnA (cnL pl) (agI pl k j)).2 := by
  have W := h.whole hp h0
  have hw := h.const hk (by rw [isC_cases]; omega)
  generalize hwd : wdP (tyL pl) pl k = wd at hw ⊢
  unfold wdsC at hw
  rw [if_neg (by omega), if_neg (by omega), if_neg (by omega), if_pos hc] at hw
  injection hw with hw
  by_cases e : ¬ (4 ≤ (tA (tyL pl) (ix pl k).2.1).kind ∧ (tA (tyL pl) (ix pl k).2.1).kind ≤ 6)
  · rw [if_pos e] at hw; cases hw
  rw [if_neg e] at hw
  by_cases e5 : (ix pl k).2.2.2.length ≠ (tA (tyL pl) (ix pl k).2.1).cnt
  · rw [if_pos e5] at hw; cases hw
  rw [if_neg e5] at hw
  have hc0 : (catC (tyL pl) (cnsC (tyL pl) pl k).1 pl k (ix pl k).2.2.2.length).2 = 0 := by rw [hw]
  have hcw := catC_words hc0
  rw [hw] at hcw
  have hcw : wd = _ := hcw
  constructor
  · intro j hj
    obtain ⟨w', hw'⟩ := catC_ok hc0 j hj
    rw [look_more W (Nat.le_of_lt hk) (Nat.le_refl pl.length) hw']
    rfl
  · rw [hcw]
    refine flatMap_cong fun j hj => ?_
    obtain ⟨w', hw'⟩ := catC_ok hc0 j (List.mem_range.1 hj)
    have hm := look_more W (Nat.le_of_lt hk) (Nat.le_refl pl.length) hw'
    show _ = ((lookQ (cnL pl) (agI pl k j)).getD (0, [])).2
    rw [hm, hw']
abbrev cntC (pl : List PI) (n : Nat) : Nat := ((List.range n).filter fun k => isC (ix pl k).1).length
theorem cntC_succ (pl : List PI) (n : Nat) : cntC pl (n + 1) = cntC pl n + if isC (ix pl n).1 = true then 1 else 0 := by
  unfold cntC
  rw [List.range_succ, List.filter_append, List.length_append, List.filter_cons]
  split
  · rfl
  · rfl
theorem cntC_le (pl : List PI) (n : Nat) : cntC pl n ≤ n := by
  have := List.length_filter_le (fun k => isC (ix pl k).1) (List.range n)
  rwa [List.length_range] at this
theorem cn_count (W : Whole9 bd pl) : (cnL pl).length = cntC pl pl.length := by
  have := congrArg List.length (cns_ids (T := tyL pl) W pl.length (Nat.le_refl _)).1
  rw [List.length_map, List.length_map] at this
  exact this
end
end Go.Proofs
namespace Go.Proofs
open Go.Gk Go.RowKit Go.Gm

theorem isU_blk {w : World} {b : Nat} {l : List Int} (hB : Blk w b 22 (l.map (Value.int .u32))) (hl : l.length ≤ 4398046511104) : IsS (Value.int .u32) w ⟨some (Gk.blk b), l.length, l.length⟩ l := isS_blk hB (by omega)
section
variable {x : Mo} {pl : List PI} {w : World} {R : Value → World → Prop}
/-- The least module's constants. -/
theorem cLeastNew_spec {s : Sl} (hN : IsPl w s lsP) (ht : Tab w) (hR : ∀ w' pb, Below w.heap.size w w' → IsPo w' w.heap.size pb (tyL lsP) (cnL lsP) (vnL lsP) → R (.tuple #[.pointer (some (blk pb)), .agg #[.int .i64 0, .int .i64 0]]) w') :
    callR Tryz.prog 27 #[moA (0, 3, s, ())] w R :=
  cNew_spec (x := (0, 3, s, ())) hN ls_ok (by show (0 : Int) ≤ 3; decide) ht (fun hc => absurd (by show (conE 3 lsP).1 = 0; rw [ls_con]) hc) fun _ w' pb hb hP => hR w' pb hb hP
set_option maxHeartbeats 4000000 in
theorem ConstsParts_spec (hN : IsPl w x.2.2.1 pl) (hp : PlOk pl) (h0 : 0 ≤ x.2.1) (htab : Tab w) (hR : ∀ w', Below w.heap.size w w' → R (.bool true) w') :
    callR Tryz.prog 6 #[moA x] w R := by
  refine callR.of (intagliolaw11_ConstsParts_calls x R w ?_) fun _ _ h => h
  refine lay_of fun w1 hB1 b1 z1 => ?_
  have hB1 : Blk w1 w.heap.size 25 (moV x) := hB1
  refine cLeast_spec fun w2 sl hls b2 => ⟨(0, 3, sl, ()), rfl, ?_⟩
  have b02 := b1.on b2
  refine cLeastNew_spec hls (htab.below b02) fun w3 pb0 b3 hP0 => ⟨some (blk pb0), (0, 0, ()), rfl, box2 rfl fun w6 hS6 b6 z6 => ?_⟩
  have b26 := b3.on b6
  have hl7 : (cnA (cnL lsP) 2) = (1, [7]) := by rw [ls_cn]; rfl
  refine cValue_spec (id := 2) (hP0.below b6) (by rw [hl7]; decide) fun w7 b hbb hB7 b7 => ?_
  rw [hl7] at hB7 ⊢
  refine ⟨1, ⟨some (blk b), 1, 1⟩, true, by rw [ls_cn]; rfl, ?_⟩
  have b07 := (b02.on b26).on b7
  have hB7' : Blk w7 b 22 [.int .u32 7] := hB7
  refine JoinW.cut (fun (_ : Unit) w' => w7 = w') ?_ ?_
  · refine (hS6.below b7).rI0 (x := 0) rfl (ifB_bne (fun q => absurd rfl q) fun _ => ifB_bne (fun q => absurd rfl q) fun _ => ifB_bne (fun q => absurd rfl q) fun _ => ?_)
    refine ⟨⟨by decide, by show (0 : Int) < ((1 : Nat) : Int); decide⟩, derefP_some rfl (hB7'.rI (n := 0) (x := 7) rfl (ifB_bne (fun q => absurd rfl q) fun _ => ifB_false rfl rfl))⟩
  rintro _ w8 rfl
  have hB8 := hB1.below ((b2.on b26).on b7)
  have hS8 := hS6.below b7
  refine Mo.load hB8 (CopyModule_spec (x := x) (hN.below b07) hp fun cb w9 hcb hcpy hN9 b9 => ⟨(x.1, x.2.1, ⟨some (blk cb), pl.length, pl.length⟩, ()), rfl, ?_⟩)
  have b09 := b07.on b9
  have s3 : w.heap.size ≤ w3.heap.size := (b02.on b3).size
  refine cNew_spec (x := (x.1, x.2.1, ⟨some (blk cb), pl.length, pl.length⟩, ())) hN9 hp h0 (htab.below b09) (fun hc w10 b10 => ?_) (fun hC w10 pb b10 hPo => ?_)
  · refine ⟨none, ((conE x.2.1 pl).1, (conE x.2.1 pl).2, ()), rfl, st2 ((hS8.below b9).below b10) rfl fun w12 hS12 c12 => hS12.rI0 rfl (ifB_bne (fun _ => ?_) (fun q => absurd q hc))⟩
    exact hR w12 (c12.below (b09.on b10) s3)
  refine ⟨some (blk pb), (0, 0, ()), rfl, st2 ((hS8.below b9).below b10) rfl fun w12 hS12 c12 => hS12.rI0 rfl (ifB_bne (fun q => absurd rfl q) (fun _ => ?_))⟩
  have b012 := c12.below (b09.on b10) s3
  have lt3 : w3.heap.size < w9.heap.size := (hS8.below b9).lt
  have hPo12 : IsPo w12 w9.heap.size pb (tyL pl) (cnL pl) (vnL pl) := hPo.keep (fun k h1 _ => c12.block _ (by omega)) (by rw [c12.size]; exact Nat.le_refl _)
  have hB12 : Blk w12 w.heap.size 25 (moV x) := c12.blk ((hB8.below b9).below b10) (by have := b1.size; have := (b2.on b3).size; omega)
  refine cTypes_spec hPo12 fun tb hTb => ⟨some (blk tb), rfl, ?_⟩
  have hC : CnOk x.2.1 pl := hC
  have W := hC.whole hp h0
  have hs := W.shape
  have hnl := hN.len
  have hplen := hp.len
  have hT := hC.tb hp h0
  refine LoopW.ghost (fun m (st : Int × Int × Unit) w' => ∃ n : Nat, st = ((cntC pl n : Int), (n : Int), ()) ∧ n ≤ pl.length ∧ m = pl.length - n ∧ Below w12.heap.size w12 w') pl.length ⟨0, rfl, Nat.zero_le _, rfl, Below.refl _ _⟩ ?_
  rintro _ _ w14 ⟨n, rfl, hn, rfl, b14⟩ next hnext
  have b014 := b012.on b14
  have hP14 := hPo12.below b14
  have hB14 := hB12.below b14
  have hT14 := hTb.below b14
  refine hB14.rS (n := 2) (x := x.2.2.1) rfl (ifB_dec (fun g => ?_) (fun g => ?_))
  rotate_left
  · -- the end
    have hne : n = pl.length := by dsimp only at g; omega
    subst hne
    have hcl := cn_count W
    refine cIds_spec hP14 (by rw [hcl]; have := cntC_le pl pl.length; omega) fun w34 b34 _ _ hb34 => ⟨⟨some (blk b34), _, _⟩, rfl, ?_⟩
    have := hR w34 (b014.on hb34)
    dsimp only
    rw [hcl, beq_self_eq_true]
    exact this
  have hnl' : n < pl.length := by dsimp only at g; omega
  have hix := ix_lt hnl'
  have eR : (ix pl n).2.2.1 = pl[n].2.2.1 := by rw [hix]
  have eO : (ix pl n).1 = pl[n].1 := by rw [hix]
  have eT : (ix pl n).2.1 = pl[n].2.1 := by rw [hix]
  have eL : (ix pl n).2.2.2 = pl[n].2.2.2 := by rw [hix]
  have hcn := cntC_succ pl n
  have hcl := cntC_le pl n
  have alen := args_le hs hnl'
  have eA : ∀ {j : Nat} (hj : j < pl[n].2.2.2.length), agI pl n j = pl[n].2.2.2[j].2.1 := fun {j} hj => by
    unfold agI
    rw [eL, getD_lt hj]
  refine JoinW.cut (fun (st : Int × Unit) w' => st = ((cntC pl (n + 1) : Int), ()) ∧ Below w14.heap.size w14 w') ?_ ?_
  rotate_left
  · rintro _ w33 ⟨rfl, b33⟩
    dsimp only
    rw [wrap64_succ (by omega)]
    exact hnext (pl.length - (n + 1)) _ w33 (by omega) ⟨n + 1, rfl, by omega, rfl, b14.on b33⟩
  refine hB14.rS (n := 2) (x := x.2.2.1) rfl (elemPI0 hN b014 hnl' fun t hI0 => box4 rfl fun w19 hI19 b19 z19 => ?_)
  have hI19 : Blk w19 w14.heap.size 52 (inV (mkIn pl[n] t)) := hI19
  have b019 := b014.on b19
  refine hI19.rI (n := 2) (x := pl[n].2.2.1) rfl ?_
  refine cValue_spec (hP14.below b19) (by have := cnA_len hC hp h0 pl[n].2.2.1; omega) fun w20 vb hvb hV20 b20 => ?_
  have b1420 := b19.on b20
  refine ⟨(cnA (cnL pl) pl[n].2.2.1).1, ⟨some (blk vb), _, _⟩, (lookQ (cnL pl) pl[n].2.2.1).isSome, rfl, ?_⟩
  have hI20 := hI19.below b20
  have hP20 := hP14.below b1420
  have hT20 := hT14.below b1420
  -- a value of the pool, asked for in the midst
  have val : ∀ {w' : World} {id : Int} {K : Value → World → Prop}, Below w14.heap.size w14 w' → (∀ w'' b, IsS (Value.int .u32) w'' ⟨some (blk b), (cnA (cnL pl) id).2.length, (cnA (cnL pl) id).2.length⟩ (cnA (cnL pl) id).2 → Below w'.heap.size w' w'' → K (.tuple #[.int .u32 (cnA (cnL pl) id).1, .slice (some (blk b)) (cnA (cnL pl) id).2.length (cnA (cnL pl) id).2.length, .bool (lookQ (cnL pl) id).isSome]) w'') →
      callR Tryz.prog 18 #[.pointer (some (blk pb)), .int .u32 id] w' K := fun {w' id K} hb hK =>
    cValue_spec (hP14.below hb) (by have := cnA_len hC hp h0 id; omega) fun w'' b _ hB hbb => hK w'' b (isU_blk hB (by have := cnA_len hC hp h0 id; omega)) hbb
  refine JoinW.cut (fun (st : Int × Unit) w' => st = ((cntC pl (n + 1) : Int), ()) ∧ Below w20.heap.size w20 w') ?_ ?_
  · -- constants
    cases hc : isC (ix pl n).1 with
    | false =>
      have hno := cn_not hC hp h0 hnl' hc
      rw [eR] at hno
      rw [hno]
      refine ifB_false rfl ⟨?_, Below.refl _ _⟩
      rw [hcn, if_neg (by rw [hc]; simp)]
      rfl
    | true =>
      have hat := cn_at hC hp h0 hnl' hc
      rw [eR] at hat
      have hA : cnA (cnL pl) pl[n].2.2.1 = ((ix pl n).2.1, wdP (tyL pl) pl n) := by
        unfold cnA
        rw [hat]
        rfl
      have hcn : cntC pl (n + 1) = cntC pl n + 1 := by rw [hcn, if_pos hc]
      rw [hat]
      rw [hA] at hV20 ⊢
      have hlen := hC.len hp h0 n hnl' hc
      have hV := isU_blk hV20 (by rw [hlen]; have := tA_max hT (ix pl n).2.1; omega)
      refine ifB_true rfl ?_
      refine JoinW.cut (fun (_ : Unit) w' => Below w20.heap.size w20 w') ?_ ?_
      · refine hI20.rI (n := 1) (x := pl[n].2.1) rfl (ifB_bne (fun q => absurd eT q) fun _ => tySize_spec hT20 fun w21 b21 => ⟨_, rfl, ifB_bne (fun q => absurd (by dsimp only; rw [hlen]) q) fun _ => b21⟩)
      rintro _ w22 b22
      refine (hI20.below b22).rI0 (x := pl[n].1) rfl (ifB_beq (fun e => ?_) (fun e => ?_))
      rotate_left
      · refine ⟨?_, b22⟩
        dsimp only
        rw [wrap64_succ (by omega), hcn]
      have e44 : (ix pl n).1 = 44 := by rw [eO]; exact e
      obtain ⟨k1, k2⟩ := comp_ok hC hp h0 hnl' e44
      rw [eL] at k1 k2
      have b1422 := b1420.on b22
      refine LoopW.ghost (fun m (st : Sl × Int × Unit) w' => ∃ (r : Sl) (j : Nat), st = (r, (j : Int), ()) ∧ j ≤ pl[n].2.2.2.length ∧ m = pl[n].2.2.2.length - j ∧ Wl w22 w' r ((List.range j).flatMap fun j => (cnA (cnL pl) (agI pl n j)).2)) pl[n].2.2.2.length ⟨⟨none, 0, 0⟩, 0, rfl, Nat.zero_le _, rfl, Wl.nil w22⟩ ?_
      rintro _ _ w23 ⟨r, j, rfl, hj, rfl, hW⟩ next2 hnext2
      have b2223 := hW.below
      have hI23 := (hI20.below b22).below b2223
      have ht23 : IsAg w23 t pl[n].2.2.2 := IsC.below agV_len hI0 (b014.on (b1422.on b2223))
      have htl := ht23.len
      refine hI23.rS (n := 3) (x := t) rfl (ifB_dec (fun g => ?_) (fun g => ?_))
      · have hjl : j < pl[n].2.2.2.length := by dsimp only at g; omega
        refine hI23.rS (n := 3) (x := t) rfl ?_
        obtain ⟨a, he⟩ := ht23.base hjl
        have hcell := ht23.cell a he j hjl 1 (by decide)
        refine ⟨⟨by dsimp only; omega, by dsimp only; omega⟩, derefP_some he ⟨pl[n].2.2.2[j].2.1, by rw [add_add']; exact hcell, ?_⟩⟩
        rw [← eA hjl]
        refine val (b1422.on b2223) fun w24 b hs24 b24 => ⟨_, ⟨some (blk b), _, _⟩, _, rfl, ?_⟩
        rw [k1 j hjl]
        refine ifB_false rfl ?_
        have hbnd : ∀ m, ((List.range m).flatMap fun j => (cnA (cnL pl) (agI pl n j)).2).length ≤ m * 4096 := fun m => by
          induction m with
          | zero => exact Nat.le_refl _
          | succ m ih =>
            rw [List.range_succ, List.flatMap_append, List.length_append]
            simp only [List.flatMap_cons, List.flatMap_nil, List.append_nil]
            have := cnA_len hC hp h0 (agI pl n m)
            have e : (m + 1) * 4096 = m * 4096 + 4096 := Nat.succ_mul m 4096
            omega
        have h1 := hbnd j
        have h2 := cnA_len hC hp h0 (agI pl n j)
        have hmul : j * 4096 ≤ 65535 * 4096 := Nat.mul_le_mul_right _ (by omega)
        refine (hW.on b24).app hs24 (by omega) fun r' w25 hW25 _ => ?_
        dsimp only
        rw [wrap64_succ (by omega)]
        refine hnext2 (pl[n].2.2.2.length - (j + 1)) _ w25 (by omega) ⟨r', j + 1, rfl, by omega, rfl, ?_⟩
        rw [List.range_succ, List.flatMap_append]
        simp only [List.flatMap_cons, List.flatMap_nil, List.append_nil]
        exact hW25
      · have hje : j = pl[n].2.2.2.length := by dsimp only at g; omega
        subst hje
        rw [← k2] at hW
        refine Words_spec hW.own.isS ((hV.below b22).below b2223) fun w26 _ b26 => ⟨_, rfl, ?_⟩
        refine ifB_false (by simp) ⟨?_, (b22.on b2223).on b26⟩
        dsimp only
        rw [wrap64_succ (by omega), hcn]
  -- variables
  rintro _ w27 ⟨rfl, b27⟩
  have hI27 := hI20.below b27
  have b1427 := b1420.on b27
  refine hI27.rI (n := 2) (x := pl[n].2.2.1) rfl ?_
  refine cVariable_spec (hP14.below b1427) (by have := vnA_len hC hp h0 pl[n].2.2.1; omega) fun w28 ub hub hU28 b28 => ?_
  refine ⟨_, _, ⟨some (blk ub), _, _⟩, (lookQ (vnL pl) pl[n].2.2.1).isSome, rfl, ?_⟩
  have b1428 := b1427.on b28
  have hI28 := hI27.below b28
  by_cases hv : partP (ix pl n) = 7 ∧ (ix pl n).1 = 59
  rotate_left
  · have hno := vn_not hC hp h0 hnl' hv
    rw [eR] at hno
    rw [hno]
    exact ifB_false rfl ⟨rfl, b1428⟩
  have hat := vn_at hC hp h0 hnl' hv
  rw [eR] at hat
  have hA : vnA (vnL pl) pl[n].2.2.1 = vaP (tyL pl) pl n := by
    unfold vnA
    rw [hat]
    rfl
  obtain ⟨v1, v2, v3⟩ := va_ok hC hp h0 hnl' hv
  rw [hat]
  rw [hA] at hU28 ⊢
  have hU := isU_blk hU28 (by rw [v2]; have := tA_max hT (vaP (tyL pl) pl n).2.1; omega)
  have vl := var_len hs hnl' hv.2
  rw [eL] at vl v3
  have ht28 : IsAg w28 t pl[n].2.2.2 := IsC.below agV_len hI0 (b014.on b1428)
  refine ifB_true rfl ?_
  refine JoinW.cut (fun (_ : Unit) w' => Below w28.heap.size w28 w') ?_ ?_
  · refine hI28.rI0 (x := pl[n].1) rfl (ifB_bne (fun q => absurd (by rw [← eO]; exact hv.2) q) fun _ => hI28.rS (n := 3) (x := t) rfl ?_)
    have hj0 : 0 < pl[n].2.2.2.length := by omega
    obtain ⟨a, he⟩ := ht28.base hj0
    have hcell := ht28.cell a he 0 hj0 1 (by decide)
    have htl := ht28.len
    refine ⟨⟨by decide, by omega⟩, derefP_some he ⟨pl[n].2.2.2[0].2.1, by rw [add_add']; exact hcell, ifB_bne (fun q => absurd (by rw [v1, eA hj0]) q) fun _ => tySize_spec (hT14.below b1428) fun w29 b29 => ⟨_, rfl, ifB_bne (fun q => absurd (by dsimp only; rw [v2]) q) fun _ => b29⟩⟩⟩
  rintro _ w30 b30
  have ht30 : IsAg w30 t pl[n].2.2.2 := IsC.below agV_len hI0 (b014.on (b1428.on b30))
  have htl := ht30.len
  refine (hI28.below b30).rS (n := 3) (x := t) rfl (ifB_beq (fun e => ?_) (fun e => ⟨rfl, b1428.on b30⟩))
  have hj1 : 1 < pl[n].2.2.2.length := by omega
  obtain ⟨v4, v5⟩ := v3 (by omega)
  refine (hI28.below b30).rS (n := 3) (x := t) rfl ?_
  obtain ⟨a, he⟩ := ht30.base hj1
  have hcell := ht30.cell a he 1 hj1 1 (by decide)
  refine ⟨⟨by decide, by omega⟩, derefP_some he ⟨pl[n].2.2.2[1].2.1, by rw [add_add']; exact hcell, ?_⟩⟩
  rw [← eA hj1]
  refine val (b1428.on b30) fun w31 b hs31 b31 => ⟨_, ⟨some (blk b), _, _⟩, _, rfl, ?_⟩
  refine Words_spec ((hU.below b30).below b31) hs31 fun w32 _ b32 => ⟨_, rfl, ?_⟩
  exact ifB_false (by rw [v4]; simp) ⟨rfl, ((b1428.on b30).on b31).on b32⟩
end
end Go.Proofs
