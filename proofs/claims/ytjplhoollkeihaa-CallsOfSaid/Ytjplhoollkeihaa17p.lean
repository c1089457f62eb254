/-
  How deep a function calls: plain, and calls.made's closure.
-/
import Derived.Test.Ytjplhoollkeihaa17z
namespace Go.Proofs
open Go.Gk Go.RowKit Go.Gr

section
variable {rows : List (List Nat)}
/-- Depth, by fuel. -/
def dpf (rows : List (List Nat)) : Nat → Nat → Nat
  | 0, _ => 0
  | f + 1, i => (rows.getD i []).foldl (fun m k => max m (dpf rows f k + 1)) 0
def dep (rows : List (List Nat)) (i : Nat) : Nat := dpf rows (rows.length + 1) i
open Classical in
noncomputable def rkC (rows : List (List Nat)) (i : Nat) : Nat := (List.range rows.length).countP fun k => decide (Wy rows i k)
theorem rkC_le (i : Nat) : rkC rows i ≤ rows.length := by
  unfold rkC
  have := List.countP_le_length (p := fun k => @decide (Wy rows i k) (Classical.propDecidable _)) (l := List.range rows.length)
  simpa using this
theorem countP_ltC {p q : Nat → Bool} (h : ∀ x, p x = true → q x = true) {i : Nat} (hq : q i = true) (hp : p i = false) : ∀ {l : List Nat}, i ∈ l → l.countP p < l.countP q
  | a :: l, hi => by
    rw [List.countP_cons, List.countP_cons]
    have hle : l.countP p ≤ l.countP q := List.countP_mono_left fun x _ => h x
    rcases List.mem_cons.1 hi with rfl | hi
    · rw [hq, hp]
      simp only [if_true, Bool.false_eq_true, if_false]
      omega
    · have := countP_ltC h hq hp hi
      have h' := h a
      have e : (if p a = true then 1 else 0) ≤ (if q a = true then 1 else 0 : Nat) := by
        by_cases c : p a = true
        · rw [if_pos c, if_pos (h' c)]; exact Nat.le_refl _
        · rw [if_neg c]; exact Nat.zero_le _
      omega
/-- No call leads back. -/
def NoRound (rows : List (List Nat)) : Prop := ¬ ∃ i k, k ∈ rows.getD i [] ∧ Wy rows k i
theorem mem_ltC {i k : Nat} (hk : k ∈ rows.getD i []) : i < rows.length := by
  by_cases e : i < rows.length
  · exact e
  · simp [List.getD, List.getElem?_eq_none (show rows.length ≤ i by omega)] at hk
theorem rkC_lt (hn : NoRound rows) {i k : Nat} (hk : k ∈ rows.getD i []) : rkC rows k < rkC rows i := by
  unfold rkC
  refine countP_ltC (i := i) (fun x hx => ?_) ?_ ?_ (List.mem_range.2 (mem_ltC hk))
  · simp only [decide_eq_true_eq] at hx ⊢
    exact Wy.head hk hx
  · simpa using Wy.refl
  · simpa using fun q => hn ⟨i, k, hk, q⟩
theorem foldl_congr {f g : Nat → Nat} : ∀ {l : List Nat} {m : Nat}, (∀ k ∈ l, f k = g k) → l.foldl (fun m k => max m (f k + 1)) m = l.foldl (fun m k => max m (g k + 1)) m
  | [], _, _ => rfl
  | a :: l, m, h => by
    rw [List.foldl_cons, List.foldl_cons, h a (by simp)]
    exact foldl_congr fun k hk => h k (by simp [hk])
theorem dpf_stab (hn : NoRound rows) : ∀ (f f' i : Nat), rkC rows i < f → rkC rows i < f' → dpf rows f i = dpf rows f' i
  | 0, _, _, h, _ => by omega
  | _ + 1, 0, _, _, h => by omega
  | f + 1, f' + 1, i, h, h' => by
    show (rows.getD i []).foldl (fun m k => max m (dpf rows f k + 1)) 0 = (rows.getD i []).foldl (fun m k => max m (dpf rows f' k + 1)) 0
    exact foldl_congr fun k hk => by
      have := rkC_lt hn hk
      exact dpf_stab hn f f' k (by omega) (by omega)
theorem dep_eq (hn : NoRound rows) (i : Nat) : dep rows i = (rows.getD i []).foldl (fun m k => max m (dep rows k + 1)) 0 := by
  show (rows.getD i []).foldl (fun m k => max m (dpf rows rows.length k + 1)) 0 = _
  exact foldl_congr fun k hk => by
    have := rkC_lt hn hk
    have := rkC_le (rows := rows) i
    exact dpf_stab hn rows.length (rows.length + 1) k (by omega) (by have := rkC_le (rows := rows) k; omega)
theorem foldl_le {f : Nat → Nat} {B : Nat} : ∀ {l : List Nat} {m : Nat}, m ≤ B → (∀ k ∈ l, f k + 1 ≤ B) → l.foldl (fun m k => max m (f k + 1)) m ≤ B
  | [], _, h, _ => h
  | a :: l, m, h, hl => by
    rw [List.foldl_cons]
    exact foldl_le (by have := hl a (by simp); omega) fun k hk => hl k (by simp [hk])
theorem dep_le (hn : NoRound rows) : ∀ (g i : Nat), rkC rows i ≤ g → dep rows i ≤ g
  | 0, i, h => by
    rw [dep_eq hn]
    refine foldl_le (Nat.le_refl _) fun k hk => ?_
    have := rkC_lt hn hk
    omega
  | g + 1, i, h => by
    rw [dep_eq hn]
    refine foldl_le (by omega) fun k hk => ?_
    have := rkC_lt hn hk
    have := dep_le hn g k (by omega)
    omega
theorem dep_len (hn : NoRound rows) (i : Nat) : dep rows i ≤ rows.length := Nat.le_trans (dep_le hn _ i (Nat.le_refl _)) (rkC_le i)
end

section
variable {rows : List (List Nat)} {s : Sl} {hs : List Sl}
/-- What the walk of made hangs on. -/
structure MSt (w0 : World) (b0 b1 b2 rc bd : Nat) (s : Sl) (hs : List Sl) (rows : List (List Nat)) (w : World) : Prop where
  hI : IsNN w0 s hs rows
  below : Below w0.heap.size w0 w
  ge : w0.heap.size ≤ bd
  c0 : Blk w b0 65 [.pointer (some (Gk.blk rc))]
  rcd : ∃ v1 v2, Blk w rc 133 [v1, v2, .slice (some (Gk.blk bd)) rows.length rows.length]
  c1 : Blk w b1 22 [s.val]
  c2 : Blk w b2 52 [.func (.func 179) #[] #[.pointer (some (Gk.blk b0)), .pointer (some (Gk.blk b1)), .pointer (some (Gk.blk b2))]]
theorem MSt.only {w0 : World} {b0 b1 b2 rc bd : Nat} {w w' : World} {n c : Nat} (h : MSt w0 b0 b1 b2 rc bd s hs rows w) {cs : List Value} (hB : Blk w bd 3 cs) (ho : Only ⟨some (Gk.blk bd), n, c⟩ w w') : MSt w0 b0 b1 b2 rc bd s hs rows w' := by
  have keep : ∀ {b : Nat} {T : TypeId} {xs : List Value}, Blk w b T xs → T ≠ 3 → Blk w' b T xs := fun {b T xs} hb hT => hb.of_block (ho.block _ fun a ha e => by
    cases ha
    have e : bd = b := e
    subst e
    exact hT (hb.type hB))
  obtain ⟨v1, v2, hr⟩ := h.rcd
  exact ⟨h.hI, h.below.trans (ho.below fun a ha => by cases ha; exact h.ge), h.ge, keep h.c0 (by decide), ⟨v1, v2, keep hr (by decide)⟩, keep h.c1 (by decide), keep h.c2 (by decide)⟩
abbrev dvL (n : Nat) (dv : Nat → Int) : List Value := (List.range n).map fun j => .int .i64 (dv j)
theorem dvL_set {n : Nat} {dv : Nat → Int} {i : Nat} {v : Int} : (dvL n dv).set i (.int .i64 v) = dvL n fun j => if j = i then v else dv j := by
  apply List.ext_getElem
  · simp
  · intro j h1 h2
    simp only [List.getElem_set, List.getElem_map, List.getElem_range]
    by_cases e : i = j
    · rw [if_pos e, if_pos e.symm]
    · rw [if_neg e, if_neg fun q => e q.symm]
/-- Known depths. -/
def MV (rows : List (List Nat)) (dv : Nat → Int) : Prop := ∀ j, dv j = -1 ∨ dv j = (dep rows j : Int)
theorem if_max (a b : Nat) : (if (a : Int) > (b : Int) then (a : Int) else (b : Int)) = ((max b a : Nat) : Int) := by
  split <;> omega
set_option maxHeartbeats 2000000 in
theorem made1_spec {w0 : World} {b0 b1 b2 rc bd : Nat} (hn : NoRound rows) (hr : ∀ i, ∀ t ∈ rows.getD i [], t < rows.length) (hlen : ∀ i, (rows.getD i []).length ≤ 9223372036854775807) (hmax : rows.length ≤ 4096) : ∀ (f k : Nat) (dv : Nat → Int) (w : World) (R : Value → World → Prop), k < rows.length → rkC rows k ≤ f → MV rows dv → MSt w0 b0 b1 b2 rc bd s hs rows w → Blk w bd 3 (dvL rows.length dv) →
    (∀ (dv' : Nat → Int) w', Only ⟨some (Gk.blk bd), rows.length, rows.length⟩ w w' → Blk w' bd 3 (dvL rows.length dv') → MV rows dv' → (∀ j, dv j ≠ -1 → dv' j = dv j) → dv' k = (dep rows k : Int) → R (.int .i64 (dep rows k : Int)) w') →
    Calls Try.prog 179 #[.int .i64 (k : Int), .pointer (some (Gk.blk b0)), .pointer (some (Gk.blk b1)), .pointer (some (Gk.blk b2))] w (Ret R) := by
  intro f
  induction f with
  | zero =>
    intro k dv w R hk hf
    exfalso
    have : 0 < rkC rows k := by
      unfold rkC
      rw [List.countP_pos_iff]
      exact ⟨k, List.mem_range.2 hk, by simpa using Wy.refl⟩
    omega
  | succ f ih =>
    intro k dv w R hk hf hMV hC hB hR
    refine calls_made_1_calls (k : Int) _ _ _ R w ?_
    -- a depth is asked
    have ask : ∀ {w2 : World} {dv2 : Nat → Int}, MSt w0 b0 b1 b2 rc bd s hs rows w2 → Blk w2 bd 3 (dvL rows.length dv2) → ∀ {φ : Int → Prop}, φ (dv2 k) → ldP w2 (Gk.blk b0) fun x3 => derefP x3 fun a4 => ldS w2 (a4.add 2) fun x5 => (0 ≤ (k : Int) ∧ (k : Int) < (x5.l : Int)) ∧ derefP x5.a fun a6 => ldI w2 (a6.add (Int.toNat (k : Int))) .i64 φ := fun {w2 dv2} hC2 hB2 {φ} hφ => by
      obtain ⟨v1, v2, hrec⟩ := hC2.rcd
      exact ⟨_, hC2.c0.cell0 rfl, derefP_some rfl ⟨⟨some (Gk.blk bd), rows.length, rows.length⟩, hrec.cell (n := 2) rfl, ⟨by omega, by show (k : Int) < (rows.length : Int); omega⟩, derefP_some rfl ⟨_, hB2.cell (n := k) (by simp [hk]), hφ⟩⟩⟩
    refine JoinW.cut (fun _ w2 => ∃ dv2 : Nat → Int, Only ⟨some (Gk.blk bd), rows.length, rows.length⟩ w w2 ∧ Blk w2 bd 3 (dvL rows.length dv2) ∧ MSt w0 b0 b1 b2 rc bd s hs rows w2 ∧ MV rows dv2 ∧ (∀ j, dv j ≠ -1 → dv2 j = dv j) ∧ dv2 k = (dep rows k : Int)) ?_ ?_
    · refine ask hC hB (ifB_dec (fun hlt => ?_) fun hge => ⟨dv, Only.refl _ _, hB, hC, hMV, fun _ _ => rfl, ?_⟩)
      · have hk1 : dv k = -1 := by rcases hMV k with q | q <;> omega
        have hkh : k < hs.length := by have := hC.hI.len; omega
        refine ⟨s, hC.c1.cell0 rfl, rowN (hC.hI.below hC.below) hk hkh ?_⟩
        have ri : ∀ {w2}, Below w0.heap.size w0 w2 → IsI w2 hs[k] ((rows.getD k []).map fun (x : Nat) => (x : Int)) := fun {w2} hb => rowI (hC.hI.below hb) hk hkh
        have l8 := (ri hC.below).len
        rw [List.length_map] at l8
        refine LoopW.countS (rows.getD k []).length (hlen k) (fun m (a : Int) w2 => a = (((rows.getD k []).take m).foldl (fun m k => max m (dep rows k + 1)) 0 : Nat) ∧ ∃ dv2 : Nat → Int, Only ⟨some (Gk.blk bd), rows.length, rows.length⟩ w w2 ∧ Blk w2 bd 3 (dvL rows.length dv2) ∧ MSt w0 b0 b1 b2 rc bd s hs rows w2 ∧ MV rows dv2 ∧ (∀ j, dv j ≠ -1 → dv2 j = dv j)) ⟨by simp, dv, Only.refl _ _, hB, hC, hMV, fun _ _ => rfl⟩ ?_
        rintro m a w2 hm ⟨rfl, dv2, on2, hB2, hC2, hMV2, hk2⟩ next hnext
        refine ifB_dec (fun hlt2 => ?_) (fun hge2 => ?_)
        · have hlt2 : m < (rows.getD k []).length := by dsimp only at hlt2; omega
          refine elemI (ri hC2.below) (k := m) (by rw [List.length_map]; exact hlt2) ?_
          rw [List.getElem_map]
          refine ⟨_, hC2.c2.cell0 rfl, ?_⟩
          have hct : Try.fs.contains 179 = true := by kernel_rfl
          unfold callV
          simp only [hct]
          have hmem := List.getElem_mem hlt2
          have hrk := rkC_lt hn hmem
          have hd := dep_len hn (rows.getD k [])[m]
          refine ih (rows.getD k [])[m] dv2 w2 _ (hr k _ hmem) (by omega) hMV2 hC2 hB2 fun dv3 w3 on3 hB3 hMV3 hk3 hd3 => ⟨_, rfl, hnext _ _ hlt2 ⟨?_, dv3, on2.trans on3, hB3, hC2.only hB2 on3, hMV3, fun j hj => ?_⟩⟩
          · rw [wrap64_succ (by omega), List.take_succ_eq_append_getElem hlt2, List.foldl_append, List.foldl_cons, List.foldl_nil]
            exact if_max _ _
          · rw [hk3 j (by rw [hk2 j hj]; exact hj), hk2 j hj]
        · have hme : m = (rows.getD k []).length := by dsimp only at hge2; omega
          subst hme
          rw [List.take_length, ← dep_eq hn]
          obtain ⟨v1, v2, hrec⟩ := hC2.rcd
          refine ⟨_, hC2.c0.cell0 rfl, derefP_some rfl ⟨⟨some (Gk.blk bd), rows.length, rows.length⟩, hrec.cell (n := 2) rfl, ⟨by omega, by show (k : Int) < (rows.length : Int); omega⟩, derefP_some rfl ⟨hB2.wr (n := k) (by simp; exact hk), Nw.gen fun w3 hw3 => ?_⟩⟩⟩
          have on3 : Only ⟨some (Gk.blk bd), rows.length, rows.length⟩ w2 w3 := by rw [hw3]; exact (Only.refl _ _).set rfl _ _
          have hB3 : Blk w3 bd 3 (dvL rows.length fun j => if j = k then (dep rows k : Int) else dv2 j) := by rw [hw3, ← dvL_set]; exact hB2.set k _
          refine ⟨_, on2.trans on3, hB3, hC2.only hB2 on3, fun j => ?_, fun j hj => ?_, by simp⟩
          · by_cases e : j = k
            · subst e; right; simp
            · simp only [if_neg e]; exact hMV2 j
          · have e : j ≠ k := fun q => hj (by rw [q]; exact hk1)
            simp only [if_neg e]
            exact hk2 j hj
      · rcases hMV k with q | q
        · omega
        · exact q
    · rintro _ w4 ⟨dv2, on2, hB2, hC2, hMV2, hk2, hd2⟩
      refine ask hC2 hB2 ?_
      rw [hd2]
      exact hR dv2 w4 on2 hB2 hMV2 hk2 hd2
end

end Go.Proofs
