/-
  calls.closed and calls.round: who reaches whom.
-/
import Derived.Test.Ytjplhoollkeihaa14s
import Derived.Test.YtjplhoollkeihaaL17b
namespace Go.Proofs
open Go.Gk Go.RowKit Go.Gr

/-- Ways along a row's numbers. -/
inductive Wy (rows : List (List Nat)) (a : Nat) : Nat → Prop
  | refl : Wy rows a a
  | step {b c : Nat} : Wy rows a b → c ∈ rows.getD b [] → Wy rows a c
theorem Wy.head {rows : List (List Nat)} {a b c : Nat} (h : b ∈ rows.getD a []) (k : Wy rows b c) : Wy rows a c := by
  induction k with
  | refl => exact .step .refl h
  | step _ e ih => exact .step ih e
theorem Wy.trans {rows : List (List Nat)} {a b c : Nat} (h : Wy rows a b) (k : Wy rows b c) : Wy rows a c := by
  induction k with
  | refl => exact h
  | step _ e ih => exact .step ih e
theorem Wy.lt {rows : List (List Nat)} (hr : ∀ i, ∀ t ∈ rows.getD i [], t < rows.length) {a b : Nat} (ha : a < rows.length) (h : Wy rows a b) : b < rows.length := by
  induction h with
  | refl => exact ha
  | step _ e _ => exact hr _ _ e

section
variable {rows : List (List Nat)} {s : Sl} {hs : List Sl}
/-- What the walk of closed hangs on. -/
structure CSt (w0 : World) (b0 b1 b2 bs : Nat) (s : Sl) (hs : List Sl) (rows : List (List Nat)) (w : World) : Prop where
  hI : IsNN w0 s hs rows
  below : Below w0.heap.size w0 w
  ge : w0.heap.size ≤ bs
  c0 : Blk w b0 126 [.slice (some (Gk.blk bs)) rows.length rows.length]
  c1 : Blk w b1 22 [s.val]
  c2 : Blk w b2 119 [.func (.func 178) #[] #[.pointer (some (Gk.blk b0)), .pointer (some (Gk.blk b1)), .pointer (some (Gk.blk b2))]]
theorem CSt.only {w0 : World} {b0 b1 b2 bs : Nat} {w w' : World} {n c : Nat} (h : CSt w0 b0 b1 b2 bs s hs rows w) {cs : List Value} (hB : Blk w bs 4 cs) (ho : Only ⟨some (Gk.blk bs), n, c⟩ w w') : CSt w0 b0 b1 b2 bs s hs rows w' := by
  have keep : ∀ {b : Nat} {T : TypeId} {xs : List Value}, Blk w b T xs → T ≠ 4 → Blk w' b T xs := fun {b T xs} hb hT => hb.of_block (ho.block _ fun a ha e => by
    cases ha
    have e : bs = b := e
    subst e
    exact hT (hb.type hB))
  exact ⟨h.hI, h.below.trans (ho.below fun a ha => by cases ha; exact h.ge), h.ge, keep h.c0 (by decide), keep h.c1 (by decide), keep h.c2 (by decide)⟩
theorem rowN {w : World} (hI : IsNN w s hs rows) {i : Nat} (_hi : i < rows.length) (hi' : i < hs.length) {φ : Sl → Prop} (hφ : φ hs[i]) : (0 ≤ (i : Int) ∧ (i : Int) < (s.l : Int)) ∧ derefP s.a fun a => ldS w (a.add (Int.toNat (i : Int))) φ :=
  elemS hI.top (k := i) hi' hφ
theorem rowI {w : World} (hI : IsNN w s hs rows) {i : Nat} (hi : i < rows.length) (hi' : i < hs.length) : IsI w hs[i] ((rows.getD i []).map fun (x : Nat) => (x : Int)) := by
  have := hI.row i hi' hi
  rw [show rows.getD i [] = rows[i] by simp [List.getD, hi]]
  exact IsS.toI this
theorem getD_mapB {bl : List Bool} {b : Nat} (hb : b < bl.length) : (bl.map Value.bool)[b]? = some (.bool (bl.getD b false)) := by simp [List.getD, hb]
theorem unseen_lt {n : Nat} {S : List Bool} {k : Nat} (hk : k < n) (hl : S.length = n) (hS : S.getD k false = false) : n - (S.set k true).count true < n - S.count true := by
  have h1 := count_up (bl := S) (t := k) (by omega) hS
  have h2 : (S.set k true).count true ≤ n := by
    have := List.count_le_length (a := true) (l := S.set k true)
    rw [List.length_set] at this
    omega
  omega
set_option maxHeartbeats 2000000 in
theorem closed1_spec {w0 : World} {b0 b1 b2 bs : Nat} (hr : ∀ i, ∀ t ∈ rows.getD i [], t < rows.length) (hlen : ∀ i, (rows.getD i []).length ≤ 9223372036854775807) : ∀ (f k : Nat) (S : List Bool) (w : World) (R : Value → World → Prop), k < rows.length → S.length = rows.length → rows.length - S.count true ≤ f → CSt w0 b0 b1 b2 bs s hs rows w → Blk w bs 4 (S.map Value.bool) →
    (∀ (S' : List Bool) w', Only ⟨some (Gk.blk bs), rows.length, rows.length⟩ w w' → Blk w' bs 4 (S'.map Value.bool) → S'.length = rows.length → (∀ j, S.getD j false = true → S'.getD j false = true) → S'.getD k false = true → (∀ x, S'.getD x false = true → S.getD x false = false → Wy rows k x ∧ ∀ t ∈ rows.getD x [], S'.getD t false = true) → R (.tuple #[]) w') →
    Calls Try.prog 178 #[.int .i64 (k : Int), .pointer (some (Gk.blk b0)), .pointer (some (Gk.blk b1)), .pointer (some (Gk.blk b2))] w (Ret R) := by
  intro f
  induction f with
  | zero =>
    intro k S w R hk hl hf hC hB hR
    refine calls_closed_1_calls (k : Int) _ _ _ R w ?_
    refine ⟨⟨some (Gk.blk bs), rows.length, rows.length⟩, hC.c0.cell0 rfl, ⟨by omega, by show (k : Int) < (rows.length : Int); omega⟩, derefP_some rfl ⟨_, hB.cell (n := k) (getD_mapB (by omega)), ifB_bool (fun e => ?_) fun e => ?_⟩⟩
    · exact hR S w (Only.refl _ _) hB hl (fun j h => h) e fun x h1 h2 => by rw [h1] at h2; cases h2
    · exfalso
      have e : S.getD k false = false := e
      have := unseen_lt hk hl e
      omega
  | succ f ih =>
    intro k S w R hk hl hf hC hB hR
    refine calls_closed_1_calls (k : Int) _ _ _ R w ?_
    refine ⟨⟨some (Gk.blk bs), rows.length, rows.length⟩, hC.c0.cell0 rfl, ⟨by omega, by show (k : Int) < (rows.length : Int); omega⟩, derefP_some rfl ⟨_, hB.cell (n := k) (getD_mapB (by omega)), ifB_bool (fun e => ?_) fun e => ?_⟩⟩
    · exact hR S w (Only.refl _ _) hB hl (fun j h => h) e fun x h1 h2 => by rw [h1] at h2; cases h2
    have e : S.getD k false = false := e
    have hu := unseen_lt hk hl e
    refine ⟨⟨some (Gk.blk bs), rows.length, rows.length⟩, hC.c0.cell0 rfl, ⟨by omega, by show (k : Int) < (rows.length : Int); omega⟩, derefP_some rfl ⟨hB.wr (n := k) (by simp; omega), Nw.gen fun w1 hw1 => ?_⟩⟩
    have on1 : Only ⟨some (Gk.blk bs), rows.length, rows.length⟩ w w1 := by rw [hw1]; exact (Only.refl _ _).set rfl _ _
    have hB1 : Blk w1 bs 4 ((S.set k true).map Value.bool) := by rw [hw1, List.map_set]; exact hB.set k _
    have hC1 := hC.only hB on1
    clear hw1
    have hkh : k < hs.length := by have := hC1.hI.len; omega
    refine ⟨s, hC1.c1.cell0 rfl, rowN (hC1.hI.below hC1.below) hk hkh ?_⟩
    have hrow := hr k
    have hll := hlen k
    obtain ⟨row, hrw⟩ : ∃ row, row = rows.getD k [] := ⟨_, rfl⟩
    have ri : ∀ {w2}, Below w0.heap.size w0 w2 → IsI w2 hs[k] (row.map fun (x : Nat) => (x : Int)) := fun {w2} hb => by rw [hrw]; exact rowI (hC1.hI.below hb) hk hkh
    have l8 := (ri hC1.below).len
    rw [List.length_map] at l8
    rw [← hrw] at hrow hll
    have rw1 : ∀ t ∈ row, Wy rows k t := fun t ht => .step .refl (by rw [← hrw]; exact ht)
    refine LoopW.count row.length hll (fun m w2 => Only ⟨some (Gk.blk bs), rows.length, rows.length⟩ w w2 ∧ CSt w0 b0 b1 b2 bs s hs rows w2 ∧ ∃ S2 : List Bool, Blk w2 bs 4 (S2.map Value.bool) ∧ S2.length = rows.length ∧ (∀ j, (S.set k true).getD j false = true → S2.getD j false = true) ∧ (∀ j (hj : j < row.length), j < m → S2.getD row[j] false = true) ∧
      ∀ x, S2.getD x false = true → (S.set k true).getD x false = false → Wy rows k x ∧ ∀ t ∈ rows.getD x [], S2.getD t false = true) ⟨on1, hC1, _, hB1, by rw [List.length_set]; exact hl, fun j h => h, fun j hj h => by omega, fun x h1 h2 => by rw [h1] at h2; cases h2⟩ ?_
    rintro m w2 hm ⟨on2, hC2, S2, hB2, hl2, hs1, hs2, hs3⟩ next hnext
    have i2 := ri hC2.below
    refine ifB_dec (fun hlt => ?_) (fun hge => ?_)
    · have hlt : m < row.length := by dsimp only at hlt; omega
      refine elemI i2 (k := m) (by rw [List.length_map]; exact hlt) ?_
      rw [List.getElem_map]
      refine ⟨_, hC2.c2.cell0 rfl, ?_⟩
      have hct : Try.fs.contains 178 = true := by kernel_rfl
      unfold callV
      simp only [hct]
      have hcnt : (S.set k true).count true ≤ S2.count true := by
        have : ∀ (a b : List Bool), a.length = b.length → (∀ j, a.getD j false = true → b.getD j false = true) → a.count true ≤ b.count true := by
          intro a
          induction a with
          | nil => intro b _ _; simp
          | cons x r ih =>
            intro b hb h
            cases b with
            | nil => simp at hb
            | cons y q =>
              have h0 := h 0
              have := ih q (by simpa using hb) fun j hj => by simpa using h (j + 1) (by simpa using hj)
              rw [List.count_cons, List.count_cons]
              cases x <;> cases y <;> simp at h0 ⊢ <;> omega
        exact this _ _ (by rw [List.length_set, hl, hl2]) hs1
      refine ih row[m] S2 w2 _ (hrow _ (List.getElem_mem hlt)) hl2 (by omega) hC2 hB2 fun S3 w3 on3 hB3 hl3 k1 k2 k3 => ⟨rfl, hnext _ hlt ⟨on2.trans on3, hC2.only hB2 on3, S3, hB3, hl3, fun j hj => k1 j (hs1 j hj), fun j hj hjm => ?_, fun x h1 h2 => ?_⟩⟩
      · by_cases e' : j = m
        · subst e'; exact k2
        · exact k1 _ (hs2 j hj (by omega))
      · by_cases e' : S2.getD x false = true
        · obtain ⟨q1, q2⟩ := hs3 x e' h2
          exact ⟨q1, fun t ht => k1 t (q2 t ht)⟩
        · obtain ⟨q1, q2⟩ := k3 x h1 (by simpa using e')
          exact ⟨(rw1 _ (List.getElem_mem hlt)).trans q1, q2⟩
    · have hme : m = row.length := by dsimp only at hge; omega
      subst hme
      refine hR S2 w2 on2 hB2 hl2 (fun j hj => hs1 j ?_) (hs1 k ?_) fun x h1 h2 => ?_
      · rw [getD_set (by omega), hj]; rfl
      · rw [getD_set (by omega)]; simp
      · by_cases ex : x = k
        · subst ex
          refine ⟨.refl, fun t ht => ?_⟩
          rw [← hrw] at ht
          obtain ⟨j, hj, ej⟩ := List.getElem_of_mem ht
          rw [← ej]
          exact hs2 j hj hj
        · exact hs3 x h1 (by rw [getD_set (by omega), h2]; simpa using ex)
end

end Go.Proofs
