/-
  slices.Compact at whatever numbers: what stands in a row, rising, once.
-/
import Derived.Test.Ytjplhoollkeihaa17v
import Derived.Test.YtjplhoollkeihaaL15d
import Derived.Lib.SliceRun
import Derived.Lib.LazyBuf
namespace Go.Proofs
open Go.Gk Go.RowKit Go.Gr

/-- What stands in a row, rising, each once. -/
def riseL (n : Nat) (l : List Nat) : List Nat := (List.range n).filter fun k => l.contains k
theorem mem_riseL {n : Nat} {l : List Nat} (hl : ∀ x ∈ l, x < n) {x : Nat} : x ∈ riseL n l ↔ x ∈ l := by
  unfold riseL
  rw [List.mem_filter, List.mem_range, List.contains_iff_mem]
  exact ⟨fun h => h.2, fun h => ⟨hl x h, h⟩⟩
theorem riseL_lt (n : Nat) (l : List Nat) : (riseL n l).Pairwise (· < ·) := List.Pairwise.filter _ List.pairwise_lt_range
/-- Sorted. -/
def sortL (l : List Nat) : List Nat := l.mergeSort fun x y => decide (x ≤ y)
theorem sortL_sorted (l : List Nat) : (sortL l).Pairwise (· ≤ ·) := by
  have := List.pairwise_mergeSort (le := fun (x y : Nat) => decide (x ≤ y)) (fun a b c h1 h2 => by simp at *; omega) (fun a b => by simp; omega) l
  exact this.imp fun h => by simpa using h
theorem sortL_perm (l : List Nat) : (sortL l).Perm l := List.mergeSort_perm _ _
theorem sortL_int (l : List Nat) : ((l.map fun (x : Nat) => (x : Int)).mergeSort fun x y => decide (x ≤ y)) = (sortL l).map fun (x : Nat) => (x : Int) := by
  refine List.Perm.eq_of_pairwise (le := fun (x y : Int) => x ≤ y) (fun a b _ _ h1 h2 => Int.le_antisymm h1 h2) ?_ ?_ ?_
  · have := List.pairwise_mergeSort (le := fun (x y : Int) => decide (x ≤ y)) (fun a b c h1 h2 => by simp at *; omega) (fun a b => by simp; omega) (l.map fun (x : Nat) => (x : Int))
    exact this.imp fun h => by simpa using h
  · rw [List.pairwise_map]
    exact (sortL_sorted l).imp fun h => by omega
  · exact (List.mergeSort_perm _ _).trans ((sortL_perm l).symm.map _)

/-- The first k of a row, without those that stand behind their like. -/
def cpk (f : Nat → Nat) : Nat → List Nat
  | 0 => []
  | k + 1 => if k ≠ 0 ∧ f k = f (k - 1) then cpk f k else cpk f k ++ [f k]
theorem cpk_len (f : Nat → Nat) : ∀ k, (cpk f k).length ≤ k
  | 0 => by simp [cpk]
  | k + 1 => by
    have := cpk_len f k
    unfold cpk
    split
    · omega
    · simp; omega
theorem cpk_ne {f : Nat → Nat} : ∀ {k : Nat}, 0 < k → (∀ j, 0 < j → j < k → f j ≠ f (j - 1)) → cpk f k = (List.range k).map f
  | 0, h, _ => by omega
  | k + 1, _, h => by
    unfold cpk
    rw [List.range_succ, List.map_append]
    by_cases hk : k = 0
    · subst hk; simp [cpk]
    · rw [if_neg (fun q => h k (by omega) (by omega) q.2), cpk_ne (by omega) fun j h1 h2 => h j h1 (by omega)]
      simp
theorem cpk_spec {f : Nat → Nat} : ∀ (k : Nat), (∀ i j, i ≤ j → j < k → f i ≤ f j) → (cpk f k).Pairwise (· < ·) ∧ (∀ x, x ∈ cpk f k ↔ ∃ i, i < k ∧ f i = x)
  | 0, _ => by simp [cpk]
  | k + 1, h => by
    obtain ⟨h1, h2⟩ := cpk_spec k fun i j hi hj => h i j hi (by omega)
    unfold cpk
    split
    · rename_i hk
      refine ⟨h1, fun x => (h2 x).trans ⟨fun ⟨i, hi, e⟩ => ⟨i, by omega, e⟩, fun ⟨i, hi, e⟩ => ?_⟩⟩
      by_cases e' : i = k
      · exact ⟨k - 1, by omega, by rw [← hk.2, ← e', e]⟩
      · exact ⟨i, by omega, e⟩
    · rename_i hk
      refine ⟨?_, fun x => ?_⟩
      · rw [List.pairwise_append]
        refine ⟨h1, by simp, fun x hx y hy => ?_⟩
        obtain ⟨i, hi, e⟩ := (h2 x).1 hx
        have hy : y = f k := by simpa using hy
        have a1 := h i (k - 1) (by omega) (by omega)
        have a2 := h (k - 1) k (by omega) (by omega)
        have : f k ≠ f (k - 1) := fun q => hk ⟨by omega, q⟩
        omega
      · rw [List.mem_append, h2]
        constructor
        · rintro (⟨i, hi, e⟩ | hx)
          · exact ⟨i, by omega, e⟩
          · have hx : x = f k := by simpa using hx
            exact ⟨k, by omega, hx.symm⟩
        · rintro ⟨i, hi, e⟩
          by_cases e' : i = k
          · right; rw [← e, e']; simp
          · left; exact ⟨i, by omega, e⟩
/-- Sorted, each once. -/
theorem cpk_sort {n : Nat} {l : List Nat} (hl : ∀ x ∈ l, x < n) : cpk (fun i => (sortL l).getD i 0) (sortL l).length = riseL n l := by
  have hp := sortL_sorted l
  have hs : ∀ i j, i ≤ j → j < (sortL l).length → (sortL l).getD i 0 ≤ (sortL l).getD j 0 := fun i j hi hj => by
    have e : ∀ k (h : k < (sortL l).length), (sortL l).getD k 0 = (sortL l)[k] := fun k h => by simp [List.getD, h]
    rw [e i (by omega), e j hj]
    rcases Nat.lt_or_ge i j with h | h
    · exact List.pairwise_iff_getElem.1 hp i j (by omega) hj h
    · have : i = j := by omega
      subst this
      exact Nat.le_refl _
  obtain ⟨h1, h2⟩ := cpk_spec (sortL l).length hs
  refine List.Perm.eq_of_pairwise (le := fun (x y : Nat) => x < y) (fun a b _ _ h1 h2 => by omega) h1 (riseL_lt n l) ?_
  have n1 : (cpk (fun i => (sortL l).getD i 0) (sortL l).length).Nodup := h1.imp fun h => Nat.ne_of_lt h
  have n2 : (riseL n l).Nodup := (riseL_lt n l).imp fun h => Nat.ne_of_lt h
  refine (List.perm_ext_iff_of_nodup n1 n2).2 fun a => ?_
  rw [h2, mem_riseL hl, ← (sortL_perm l).mem_iff]
  constructor
  · rintro ⟨i, hi, rfl⟩
    simp only [List.getD, hi, List.getElem?_eq_getElem, Option.getD_some]
    exact List.getElem_mem _
  · intro ha
    obtain ⟨i, hi, e⟩ := List.getElem_of_mem ha
    exact ⟨i, hi, by simp [List.getD, hi, e]⟩

theorem setCells_sz (b : Nat) : ∀ (vs : List Value) (o : Nat) (w : World), (w.setCells b o vs).heap.size = w.heap.size
  | [], _, _ => rfl
  | v :: vs, o, w => by
    show ((w.setCell ⟨b, o, none⟩ v).setCells b (o + 1) vs).heap.size = _
    rw [setCells_sz b vs]
    simp [World.setCell]
theorem setCells_own : ∀ (vs : List Value) (o : Nat) {w : World} {b : Nat} {T : TypeId} {cs : List Value}, Blk w b T cs → ∃ cs', Blk (w.setCells b o vs) b T cs' ∧ cs'.length = cs.length ∧ cs'.take o = cs.take o
  | [], o, w, b, T, cs, h => ⟨cs, h, rfl, rfl⟩
  | v :: vs, o, w, b, T, cs, h => by
    have h1 : Blk (w.setCell ⟨b, o, none⟩ v) b T (cs.set o v) := by have := h.set o v; rw [add_blk] at this; exact this
    obtain ⟨cs', h2, h3, h4⟩ := setCells_own vs (o + 1) h1
    refine ⟨cs', h2, by rw [h3, List.length_set], ?_⟩
    have := congrArg (List.take o) h4
    rw [List.take_take, List.take_take, Nat.min_eq_left (by omega), List.take_set_of_le (by omega)] at this
    exact this

set_option maxHeartbeats 2000000 in
theorem CompactD_spec {l : List Nat} (hn : l.length < 4611686018427387904) {r : Sl} {w : World} {R : Value → World → Prop} (h : Own w 3 1 r (l.map iN))
    (hR : ∀ r' w', Own w' 3 1 r' ((cpk (fun i => l.getD i 0) l.length).map iN) → (∀ B w0, Below B w0 w → B ≤ w.heap.size → Fresh B r → Below B w0 w' ∧ B ≤ w'.heap.size ∧ Fresh B r') → R (.slice r'.a r'.l r'.c) w') :
    callR Try.prog 133 #[.slice r.a r.l r.c] w R := by
  refine callR.of (slices_Compact_sint_int_calls r R w ?_) fun _ _ h => h
  have hrl := own_len h
  obtain ⟨f, hf⟩ : ∃ f : Nat → Nat, f = fun i => l.getD i 0 := ⟨_, rfl⟩
  rw [← hf] at hR
  have hfl : ∀ k (hk : k < l.length), l[k] = f k := fun k hk => by rw [hf]; simp [List.getD, hk]
  have hmap : (List.range l.length).map f = l := by
    apply List.ext_getElem
    · simp
    · intro k h1 h2
      rw [List.getElem_map, List.getElem_range, hfl k h2]
  have same : ∀ {w'}, w'.heap = w.heap → Below w.heap.size w w' → (∀ j, 0 < j → j < l.length → f j ≠ f (j - 1)) → R (.slice r.a r.l r.c) w' := fun {w'} hh hb hne => by
    refine hR r w' ?_ fun B w0 h1 h2 h3 => ⟨h1.trans (hb.mono h2), by have := hb.size; omega, h3⟩
    by_cases e : l.length = 0
    · have hl0 : l = [] := List.eq_nil_of_length_eq_zero e
      subst hl0
      exact h.of_block fun a _ => by rw [hh]
    · rw [cpk_ne (by omega) hne, hmap]
      exact h.of_block fun a _ => by rw [hh]
  refine ifB_dec (fun hlt => same rfl (Below.refl _ _) fun j h1 h2 => by omega) fun h2 => ?_
  refine LoopW.ghost (fun j s w' => ∃ k : Nat, 1 ≤ k ∧ k ≤ l.length ∧ j = l.length - k ∧ s = ((k : Int), ()) ∧ w'.heap = w.heap ∧ Below w.heap.size w w' ∧ Only r w w' ∧ ∀ i, 0 < i → i < k → f i ≠ f (i - 1)) (l.length - 1) ⟨1, Nat.le_refl _, by omega, rfl, rfl, rfl, Below.refl _ _, Only.refl _ _, fun i h1 h2 => by omega⟩ ?_
  rintro _ _ w1 ⟨k, hk1, hk, rfl, rfl, hh, hb, on, hne⟩ next hnext
  dsimp only
  refine ifB_dec (fun hlt => ?_) (fun hge => same hh hb fun j h1 h2 => hne j h1 (by omega))
  have hlt : k < l.length := by omega
  have ek : IntKind.i64.wrap ((k : Int) - 1) = ((k - 1 : Nat) : Int) := by rw [wrap64_in (by omega) (by omega)]; omega
  have hd : Own w1.drew 3 1 r (l.map iN) := h.of_block fun a _ => by show w1.heap[a.block]? = _; rw [hh]
  refine elemI hd.isS.toI (k := k) (by simpa using hlt) ?_
  rw [List.getElem_map, ek]
  refine elemI hd.isS.toI (k := k - 1) (by simp; omega) ?_
  rw [List.getElem_map, hfl k hlt, hfl (k - 1) (by omega)]
  refine ifB_beq (fun he => ?_) fun hne' => hnext (l.length - (k + 1)) _ _ (by omega) ⟨k + 1, by omega, by omega, rfl, by rw [wrap64_succ (by omega)], hh, hb.drew, on.drew, fun i h1 h2 => ?_⟩
  · have he : f k = f (k - 1) := by omega
    obtain ⟨b, cs, ha, hB, hc1, hc2, hc3, hc4⟩ := h.2.resolve_left fun e => by subst e; simp at hrl; omega
    refine ⟨⟨by omega, by omega, by omega⟩, ?_⟩
    have hcn : r.c ≠ k := by omega
    simp only [Int.toNat_natCast]
    rw [if_neg hcn]
    -- the part behind the first like ones
    have rd : ∀ {w2 : World} {C : List Nat} {j : Nat}, Own w2 3 1 r ((C ++ l.drop C.length).map iN) → C.length ≤ k + j → k + j < l.length → ∀ {φ : Int → Prop}, φ (f (k + j) : Int) → (0 ≤ (j : Int) ∧ (j : Int) < ((r.l - k : Nat) : Int)) ∧ derefP (Option.map (fun a => a.add k) r.a) fun a => ldI w2 (a.add (Int.toNat (j : Int))) .i64 φ := fun {w2 C j} ho h1 h2 {φ} hφ => by
      refine ⟨⟨by omega, by omega⟩, ?_⟩
      have hi := elemI ho.isS.toI (k := k + j) (by simp; omega) (φ := φ) (by
        rw [List.getElem_map, List.getElem_append_right (by omega), List.getElem_drop]
        rw [hfl _ (by omega)]
        rw [show C.length + (k + j - C.length) = k + j by omega]
        exact hφ)
      rw [ha]
      rw [ha] at hi
      obtain ⟨_, hi⟩ := hi
      show ldI w2 (((Gk.blk b).add k).add (Int.toNat (j : Int))) .i64 φ
      rw [add_add _ _ _ rfl]
      exact hi
    refine LoopW.ghost (fun g (st : Int × Int × Unit) w' => ∃ j : Nat, 1 ≤ j ∧ k + j ≤ l.length ∧ g = l.length - (k + j) ∧ st = (((cpk f (k + j)).length : Int), (j : Int), ()) ∧ Only r w w' ∧ Own w' 3 1 r ((cpk f (k + j) ++ l.drop (cpk f (k + j)).length).map iN) ∧ (cpk f (k + j)).length ≤ k + j - 1) (l.length - (k + 1)) ⟨1, Nat.le_refl _, by omega, rfl, ?_, on.drew, ?_, ?_⟩ ?_
    · have : cpk f (k + 1) = cpk f k := by unfold cpk; rw [if_pos ⟨by omega, he⟩]; cases k <;> rfl
      rw [this, cpk_ne (by omega) hne]
      simp
    · have : cpk f (k + 1) = cpk f k := by unfold cpk; rw [if_pos ⟨by omega, he⟩]; cases k <;> rfl
      rw [this, cpk_ne (by omega) hne]
      have e : (List.range k).map f ++ l.drop ((List.range k).map f).length = l := by
        have : (List.range k).map f = l.take k := by
          apply List.ext_getElem
          · simp; omega
          · intro i h1 h2
            simp only [List.getElem_map, List.getElem_range, List.getElem_take]
            rw [hfl i (by simp at h1; omega)]
        rw [this, List.length_take, Nat.min_eq_left (by omega), List.take_append_drop]
      rw [e]
      exact hd
    · have : cpk f (k + 1) = cpk f k := by unfold cpk; rw [if_pos ⟨by omega, he⟩]; cases k <;> rfl
      rw [this]
      have := cpk_len f k
      omega
    rintro _ _ w2 ⟨j, hj1, hj2, rfl, rfl, on2, o2, hcl⟩ next2 hnext2
    dsimp only
    have hstep : cpk f (k + (j + 1)) = if f (k + j) = f (k + j - 1) then cpk f (k + j) else cpk f (k + j) ++ [f (k + j)] := by
      rw [show k + (j + 1) = k + j + 1 by omega]
      show (if k + j ≠ 0 ∧ f (k + j) = f (k + j - 1) then cpk f (k + j) else cpk f (k + j) ++ [f (k + j)]) = _
      by_cases e : f (k + j) = f (k + j - 1)
      · rw [if_pos ⟨by omega, e⟩, if_pos e]
      · rw [if_neg (fun q => e q.2), if_neg e]
    refine ifB_dec (fun hlt2 => ?_) fun hge2 => ?_
    · have hlt2 : k + j < l.length := by omega
      have ej : IntKind.i64.wrap ((j : Int) - 1) = ((j - 1 : Nat) : Int) := by rw [wrap64_in (by omega) (by omega)]; omega
      rw [ej]
      refine JoinW.cut (fun (st : Int × Unit) w' => st.1 = ((cpk f (k + (j + 1))).length : Int) ∧ Only r w w' ∧ Own w' 3 1 r ((cpk f (k + (j + 1)) ++ l.drop (cpk f (k + (j + 1))).length).map iN) ∧ (cpk f (k + (j + 1))).length ≤ k + j) ?_ fun st w' ⟨q1, q2, q3, q4⟩ => hnext2 (l.length - (k + (j + 1))) _ _ (by omega) ⟨j + 1, by omega, by omega, rfl, by rw [q1, wrap64_succ (by omega)], q2, q3, by omega⟩
      refine rd o2.drew (by omega) hlt2 (rd (j := j - 1) o2.drew (by omega) (by omega) ?_)
      rw [show k + (j - 1) = k + j - 1 by omega]
      refine ifB_bne (fun hn1 => rd o2.drew (by omega) hlt2 ?_) fun he1 => ?_
      · have hnf : f (k + j) ≠ f (k + j - 1) := fun q => hn1 (by rw [q])
        obtain ⟨b', hb', hw', hp'⟩ := own_set o2.drew (i := (cpk f (k + j)).length) (by simp; omega) (iN (f (k + j)))
        rw [ha] at hb'
        have hbb : Gk.blk b' = Gk.blk b := (Option.some.inj hb').symm
        rw [hbb] at hw' hp'
        refine ⟨⟨by omega, by omega⟩, derefP_some ha ⟨hw', Nw.mk ⟨?_, on2.drew.set ha _ _, ?_, ?_⟩⟩⟩
        · rw [hstep, if_neg hnf]
          rw [wrap64_succ (by omega)]
          simp
        · rw [hstep, if_neg hnf]
          have e : (List.map iN (cpk f (k + j) ++ l.drop (cpk f (k + j)).length)).set (cpk f (k + j)).length (iN (f (k + j))) = List.map iN (cpk f (k + j) ++ [f (k + j)] ++ l.drop (cpk f (k + j) ++ [f (k + j)]).length) := by
            rw [← List.map_set]
            congr 1
            rw [List.set_append_right _ _ (by omega), Nat.sub_self, List.append_assoc]
            congr 1
            rw [List.drop_eq_getElem_cons (by omega), List.set_cons_zero]
            simp
          rw [← e]
          exact hp'
        · rw [hstep, if_neg hnf]
          simp
          omega
      · have hef : f (k + j) = f (k + j - 1) := by omega
        refine ⟨by rw [hstep, if_pos hef], on2.drew, ?_, ?_⟩
        · rw [hstep, if_pos hef]; exact o2.drew
        · rw [hstep, if_pos hef]; omega
    · have hje : k + j = l.length := by omega
      rw [hje] at o2 hcl ⊢
      refine ⟨⟨by omega, by omega, by omega⟩, ?_⟩
      obtain ⟨c, hcdef⟩ : ∃ c, c = (cpk f l.length).length := ⟨_, rfl⟩
      rw [← hcdef] at hcl ⊢
      simp only [Int.toNat_natCast]
      rw [if_neg (show r.c ≠ c by omega), ha]
      obtain ⟨b2, cs2, ha2, hB2, _, _, hc32, hc42⟩ := o2.2.resolve_left fun e => by rw [e] at ha; cases ha
      rw [ha] at ha2
      have hbb : b2 = b := by
        have := congrArg Addr.block (Option.some.inj ha2)
        exact this.symm
      subst hbb
      have hcl2 := Go.Lib.run_clear_slice (P := Try.prog) w2 32 3 0 (.int .i64 0) Try.underlying32 (fun w => by kernel_rfl) rfl rfl b2 c (r.l - c) (r.c - c) (by omega) (fun i hi => by
        have : w2.cell? ⟨b2, c + i, none⟩ = cs2[c + i]? := by
          obtain ⟨v, hv⟩ : ∃ v, cs2[c + i]? = some v := ⟨_, List.getElem?_eq_getElem (by omega)⟩
          rw [hv, ← add_blk]; exact hB2.cell hv
        rw [this, List.getElem?_eq_getElem (by omega)]; rfl) (fun i hi => by rw [← add_blk]; exact hB2.frozen _)
      refine ⟨w2.setCells b2 c (List.replicate (r.l - c) (.int .i64 0)), ?_, ⟨by omega, by omega, by omega⟩, ?_⟩
      · show (Builtin.clear_ #[32] 0 #[.slice (some ((Gk.blk b2).add c)) (r.l - c) (r.c - c)]).run Try.prog w2 = _
        rw [add_blk]
        exact hcl2
      · obtain ⟨cs3, h31, h32, h33⟩ := setCells_own (List.replicate (r.l - c) (.int .i64 0)) c hB2
        rw [if_neg (show r.c ≠ 0 by omega)]
        refine hR ⟨some (Gk.blk b2), c, r.c⟩ _ ⟨by simp [← hcdef], .inr ⟨b2, cs3, rfl, h31, by show c ≤ r.c; omega, hc2, by rw [h32]; exact hc32, ?_⟩⟩ fun B w0 h1 h2 h3 => ?_
        · show cs3.take (c * 1) = _
          rw [Nat.mul_one, h33]
          have := congrArg (List.take c) hc42
          rw [List.take_take, Nat.min_eq_left (by omega), List.map_append, List.take_append_of_le_length (by simp; omega)] at this
          rw [this, hcdef, List.take_of_length_le (by simp)]
        · have hBb : B ≤ b2 := h3 _ ha
          have bw := h1.trans (on2.below fun a e => by rw [ha] at e; cases e; exact hBb)
          have := below_setCells (a := w0) (b := b2) hBb (List.replicate (r.l - c) (.int .i64 0)) c w2 bw
          refine ⟨this, ?_, fun a e => by cases e; exact hBb⟩
          have := on2.size
          have s1 : (w2.setCells b2 c (List.replicate (r.l - c) (.int .i64 0))).heap.size = w2.heap.size := setCells_sz _ _ _ _
          omega
  · by_cases e : i = k
    · subst e; omega
    · exact hne i h1 (by omega)

end Go.Proofs
