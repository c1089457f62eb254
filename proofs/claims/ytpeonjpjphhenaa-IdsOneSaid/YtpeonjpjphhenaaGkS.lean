/-
  The layer's soundness: 'lwFn' of a function's code gives 'Calls'.
-/
import Derived.Test.YtpeonjpjphhenaaGk
import Derived.Deep.LoopGhost
import Derived.Sort.LoopGhostIn
import Derived.OrdersIn
import Derived.TacticsIn
import Derived.RangeFuncIn
import Derived.RangeFuncRecord
namespace Go.Gk
variable {P : Program} {D : List Deferred}

theorem run_underlying' {t : TypeId} {d : TypeDesc} (h : P.underlying t = some d) (w : World) : (underlying t).run P w = .ok d w := by
  simp [underlying, h]
theorem run_sizeOf' {t : TypeId} {i : TypeInfo} (h : P.info? t = some i) (w : World) : (sizeOf t).run P w = .ok i.size w := by
  simp [sizeOf, typeInfo, h]
theorem szK_out {e : TypeId} {k : Nat → Prop} (h : szK P e k) : ∃ i, P.info? e = some i ∧ k i.size := by
  unfold szK at h
  split at h
  · rename_i i hi; exact ⟨i, hi, h⟩
  · exact h.elim
theorem derefP_out {p : Option Addr} {k : Addr → Prop} (h : derefP p k) : ∃ a, p = some a ∧ k a := by
  cases p with
  | none => exact h.elim
  | some a => exact ⟨a, rfl, h⟩

theorem mulN_eq (n z : Nat) : mulN n z = n * z := by
  unfold mulN
  split
  · omega
  · rfl
theorem ifB_F {b : Bool} {k : Prop} (h : ifB b False k) : b = false ∧ k := by
  cases b
  · exact ⟨rfl, h⟩
  · exact h.elim
theorem ruleQ_pv {o : Oper} {ρ : Operand → Value} {k : Value → Prop}
    (h : match pv P (execOp ρ o) with | some (.value v) => k v | _ => False) : ∃ v, (∀ w, (execOp ρ o).run P w = .ok (.value v) w) ∧ k v := by
  split at h
  · rename_i v hv
    exact ⟨v, fun w => pv_run hv w, h⟩
  · exact h.elim

theorem nilTest_sound {t : TypeId} {x y : Value} {b : Bool} (h : nilTest P t x y = some b) (w : World) : (Op.equal t x y).run P w = .ok b w := by
  unfold nilTest at h
  unfold Op.equal Op.maxDepth Op.equalIn
  split at h
  · rename_i e hu
    split at h
    · cases h
      simp only [Sem.run_bind, run_underlying' hu, Result.andThen_ok]
      rename_i p
      cases p <;> simp
    · cases h
  · rename_i e hu
    split at h
    · cases h
      simp only [Sem.run_bind, run_underlying' hu, Result.andThen_ok]
      rename_i p _ _ _ _
      cases p <;> simp
    · cases h
  · rename_i e e' hu
    split at h
    · cases h
      simp only [Sem.run_bind, run_underlying' hu, Result.andThen_ok]
      rename_i p
      cases p <;> simp
    · cases h
  · cases h
theorem nilTest_shape {t : TypeId} {x y : Value} {b : Bool} (h : nilTest P t x y = some b) : (∃ p, x = .pointer p ∧ y = .pointer none) ∨ (∃ a l c l' c', x = .slice a l c ∧ y = .slice none l' c') ∨ (∃ m, x = .map m ∧ y = .map none) := by
  unfold nilTest at h
  split at h
  · split at h
    · exact .inl ⟨_, rfl, rfl⟩
    · cases h
  · split at h
    · exact .inr (.inl ⟨_, _, _, _, _, rfl, rfl⟩)
    · cases h
  · split at h
    · exact .inr (.inr ⟨_, rfl, rfl⟩)
    · cases h
  · cases h
theorem funcTest_nil {t : TypeId} {a b : Array TypeId} {c : Bool} (hu : P.underlying t = some (.func a b c)) (w : World) : (Op.equal t .nilFunc .nilFunc).run P w = .ok true w := by
  unfold Op.equal Op.maxDepth Op.equalIn
  simp only [Sem.run_bind, run_underlying' hu, Result.andThen_ok, Sem.run_pure]
theorem funcTest_func {t : TypeId} {a b : Array TypeId} {c : Bool} (hu : P.underlying t = some (.func a b c)) (f : Fn) (x y : Array Value) (w : World) : (Op.equal t (.func f x y) .nilFunc).run P w = .ok false w := by
  unfold Op.equal Op.maxDepth Op.equalIn
  simp only [Sem.run_bind, run_underlying' hu, Result.andThen_ok, Sem.run_pure]
theorem isFuncT_out {t : TypeId} (h : isFuncT P t = true) : ∃ a b c, P.underlying t = some (.func a b c) := by
  unfold isFuncT at h
  split at h
  · exact ⟨_, _, _, by assumption⟩
  · cases h
theorem isNilF_out {v : Value} (h : isNilF v = true) : v = .nilFunc := by
  unfold isNilF at h
  split at h
  · rfl
  · cases h

theorem pairTest_sound {t : TypeId} {x y : Value} {b : Bool} (h : pairTest P t x y = some b) (w : World) : (Op.equal t x y).run P w = .ok b w ∧ P.eqGuardType P.depth t = false ∧ ∃ xs ys, x = .agg xs ∧ y = .agg ys := by
  unfold pairTest at h
  split at h
  · rename_i e xs ys hu
    split at h
    · rename_i kk i k a k' b' q c q' d he hi hxs hys
      split at h
      · rename_i hc
        simp only [Bool.and_eq_true, decide_eq_true_eq, Bool.not_eq_true'] at hc
        obtain ⟨h1, rfl, rfl, hgd⟩ := hc
        cases h
        have h1 := Nat.eq_of_beq_eq_true h1
        have ex : xs = #[.int k a, .int k' b'] := by apply Array.ext'; simp [hxs]
        have ey : ys = #[.int k c, .int k' d] := by apply Array.ext'; simp [hys]
        subst ex ey
        refine ⟨?_, hgd, _, _, rfl, rfl⟩
        have hagg : ∀ w, (isAgg e).run P w = .ok false w := fun w => by simp [isAgg, run_underlying' he]
        have heq : ∀ (D : Nat) (κ : IntKind) (u v : Int) (w : World), (Op.equalIn (D + 1) e (.int κ u) (.int κ v)).run P w = .ok (u == v) w := fun D κ u v w => by
          unfold Op.equalIn
          simp [run_underlying' he]
        have hp0 : ∀ (u v : Value) (w : World), (part e #[u, v] 0).run P w = .ok u w := fun u v w => by simp [part, hagg]
        have hp1 : ∀ (u v : Value) (w : World), (part e #[u, v] 1).run P w = .ok v w := fun u v w => by simp [part, hagg]
        have hD : Op.maxDepth = (Op.maxDepth - 2) + 1 + 1 := by decide
        unfold Op.equal
        rw [hD]
        generalize Op.maxDepth - 2 = D
        unfold Op.equalIn
        simp only [Sem.run_bind, run_underlying' hu, Result.andThen_ok, run_sizeOf' hi, h1, Nat.mul_one]
        simp only [Std.Legacy.Range.forIn_eq_forIn_range', Std.Legacy.Range.size]
        rw [show List.range' 0 ((2 - 0 + 1 - 1) / 1) 1 = [0, 1] from rfl]
        simp only [List.forIn_cons, List.forIn_nil, Sem.run_bind, hp0, Result.andThen_ok, heq]
        by_cases h2 : a = c <;> by_cases h3 : b' = d <;> simp [h2, h3, hp1, heq]
      · cases h
    · cases h
  · cases h
theorem fields_run {D : Nat} {X Y : Array Value} {w : World} : ∀ {fs : List Field} {j : Nat} {xs ys : List Value} {b : Bool}, X.toList.drop j = xs → Y.toList.drop j = ys → fieldsTest P j fs xs ys = some b →
    (forIn fs ((none, ()) : Option Bool × Unit) fun f __s =>
            if f.name = "_" then (pure (ForInStep.yield (none, ())) : Sem (ForInStep (Option Bool × Unit)))
            else do
              let __do_lift ← part f.type X f.offset
              let __do_lift_1 ← part f.type Y f.offset
              let __do_lift ← Op.equalIn (D + 1) f.type __do_lift __do_lift_1
              if __do_lift = false then pure (ForInStep.done (some false, ())) else pure (ForInStep.yield (none, ()))).run P w = .ok (if b then (none, ()) else (some false, ())) w
  | [], _, [], [], b, _, _, h => by
    simp only [fieldsTest, Option.some.injEq] at h
    subst h
    simp
  | _ :: _, _, x :: _, [], _, _, _, h => by cases x <;> simp [fieldsTest] at h
  | f :: fs, j, x :: xs, y :: ys, b, hx, hy, h => by
    have hxj : X[j]? = some x := by
      have := congrArg (fun l => l[0]?) hx
      simpa using this
    have hyj : Y[j]? = some y := by
      have := congrArg (fun l => l[0]?) hy
      simpa using this
    have hx' : X.toList.drop (j + 1) = xs := by rw [← List.drop_drop, hx]; rfl
    have hy' : Y.toList.drop (j + 1) = ys := by rw [← List.drop_drop, hy]; rfl
    cases x <;> (try (simp [fieldsTest] at h; done)) <;> cases y <;> (try (simp [fieldsTest] at h; done))
    · rename_i k a q c
      simp only [fieldsTest] at h
      split at h
      · rename_i kk hu
        split at h
        · rename_i hc
          simp only [Bool.and_eq_true, decide_eq_true_eq, Bool.not_eq_true', decide_eq_false_iff_not] at hc
          obtain ⟨h1, rfl, h2⟩ := hc
          have h1 := Nat.eq_of_beq_eq_true h1
          split at h
          · rename_i r hr
            cases h
            have ih := fields_run (D := D) (w := w) hx' hy' hr
            have hagg : ∀ w, (isAgg f.type).run P w = .ok false w := fun w => by simp [isAgg, run_underlying' hu]
            have heq : ∀ (u v : Int) (w : World), (Op.equalIn (D + 1) f.type (.int k u) (.int k v)).run P w = .ok (u == v) w := fun u v w => by
              unfold Op.equalIn
              simp [run_underlying' hu]
            have hpx : ∀ w, (part f.type X f.offset).run P w = .ok (.int k a) w := fun w => by simp [part, hagg, h1, hxj]
            have hpy : ∀ w, (part f.type Y f.offset).run P w = .ok (.int k c) w := fun w => by simp [part, hagg, h1, hyj]
            rw [List.forIn_cons]
            by_cases e : a = c
            · subst e
              simp only [if_neg h2, Sem.run_bind, hpx, hpy, heq, Result.andThen_ok, beq_self_eq_true, Bool.true_and]
              simp only [Bool.true_eq_false, if_false, Sem.run_pure, Result.andThen_ok]
              exact ih
            · have : (a == c) = false := by simpa using e
              simp only [if_neg h2, Sem.run_bind, hpx, hpy, heq, Result.andThen_ok, this, Bool.false_and]
              simp
          · cases h
        · cases h
      · cases h
    · rename_i a c
      simp only [fieldsTest] at h
      split at h
      · rename_i hu
        split at h
        · rename_i hc
          simp only [Bool.and_eq_true, Bool.not_eq_true', decide_eq_false_iff_not] at hc
          obtain ⟨h1, h2⟩ := hc
          have h1 := Nat.eq_of_beq_eq_true h1
          split at h
          · rename_i r hr
            cases h
            have ih := fields_run (D := D) (w := w) hx' hy' hr
            have hagg : ∀ w, (isAgg f.type).run P w = .ok false w := fun w => by simp [isAgg, run_underlying' hu]
            have heq : ∀ (u v : ByteArray) (w : World), (Op.equalIn (D + 1) f.type (.string u) (.string v)).run P w = .ok (u == v) w := fun u v w => by
              unfold Op.equalIn
              simp [run_underlying' hu]
            have hpx : ∀ w, (part f.type X f.offset).run P w = .ok (.string a) w := fun w => by simp [part, hagg, h1, hxj]
            have hpy : ∀ w, (part f.type Y f.offset).run P w = .ok (.string c) w := fun w => by simp [part, hagg, h1, hyj]
            rw [List.forIn_cons]
            cases e : (a == c) with
            | true =>
              simp only [if_neg h2, Sem.run_bind, hpx, hpy, heq, Result.andThen_ok, e, Bool.true_and]
              simp only [Bool.true_eq_false, if_false, Sem.run_pure, Result.andThen_ok]
              exact ih
            | false =>
              simp only [if_neg h2, Sem.run_bind, hpx, hpy, heq, Result.andThen_ok, e, Bool.false_and]
              simp
          · cases h
        · cases h
      · cases h
theorem structTest_sound {t : TypeId} {x y : Value} {b : Bool} (h : structTest P t x y = some b) (w : World) : (Op.equal t x y).run P w = .ok b w ∧ P.eqGuardType P.depth t = false ∧ ∃ xs ys, x = .agg xs ∧ y = .agg ys := by
  unfold structTest at h
  split at h
  · rename_i fs xs ys hu
    split at h
    · rename_i hc
      simp only [Bool.and_eq_true, Bool.not_eq_true'] at hc
      refine ⟨?_, hc.1, _, _, rfl, rfl⟩
      have hD : Op.maxDepth = (Op.maxDepth - 2) + 1 + 1 := by decide
      unfold Op.equal
      rw [hD]
      generalize Op.maxDepth - 2 = D
      unfold Op.equalIn
      simp only [Sem.run_bind, run_underlying' hu, Result.andThen_ok]
      have hr := fields_run (P := P) (D := D) (w := w) (X := xs) (Y := ys) (by simp) (by simp) h
      simp [hc.2]
      rw [← Array.forIn_toList, hr]
      cases b <;> simp
    · cases h
  · cases h
theorem aggTest_sound {t : TypeId} {x y : Value} {b : Bool} (h : aggTest P t x y = some b) (w : World) : (Op.equal t x y).run P w = .ok b w ∧ P.eqGuardType P.depth t = false ∧ ∃ xs ys, x = .agg xs ∧ y = .agg ys := by
  unfold aggTest at h
  split at h
  · rename_i b' hb
    cases h
    exact pairTest_sound hb w
  · exact structTest_sound h w
theorem idxC_out {e : TypeId} {z : Nat} {cs : Array Value} {n : Int} {k : Value → Prop} : ∀ {j m : Nat}, idxC P e z cs n k j m → (j : Int) ≤ n → n < ((j + m : Nat) : Int) → elemA P e z cs n.toNat k
  | j, 0, _, h1, h2 => by omega
  | j, 1, h, h1, h2 => by
    have e : n = (j : Int) := by omega
    have := h e
    rw [e]; exact this
  | j, m + 2, h, h1, h2 => by
    by_cases e : n = (j : Int)
    · have := h.1 e
      rw [e]; exact this
    · exact idxC_out h.2 (by omega) (by omega)
theorem elemA_sound {t e : TypeId} {len : Nat} {i : TypeInfo} {cs : Array Value} {κ : IntKind} {n : Int} {k : Value → Prop} (hu : P.underlying t = some (.array len e)) (hi : P.info? e = some i) (h0 : 0 ≤ n) (h1 : n < (len : Int))
    (h : elemA P e i.size cs n.toNat k) : ∃ v, (∀ w, (Instr.index t (.agg cs) (.int κ n)).run P w = .ok v w) ∧ k v := by
  have go : ∀ {v : Value} {w : World}, (part e cs (n.toNat * i.size)).run P w = .ok v w → (Instr.index t (.agg cs) (.int κ n)).run P w = .ok v w := fun {v w} hp => by
    simp [Instr.index, asIntOf, run_underlying' hu, h0, h1, run_sizeOf' hi, hp]
  unfold elemA at h
  split at h
  · rename_i fs he
    exact ⟨_, fun w => go (by simp [part, isAgg, run_underlying' he, run_sizeOf' hi]), h⟩
  · rename_i l' e' he
    exact ⟨_, fun w => go (by simp [part, isAgg, run_underlying' he, run_sizeOf' hi]), h⟩
  all_goals
    rename_i he
    first
      | exact h.elim
      | (split at h
         · rename_i v hv
           exact ⟨v, fun w => go (by simp [part, isAgg, run_underlying' he, hv]), h⟩
         · exact h.elim)
theorem ruleQ_sound {o : Oper} {ρ : Operand → Value} {k : Value → Prop} (h : ruleQ P o ρ k) : ∃ v, (∀ w, (execOp ρ o).run P w = .ok (.value v) w) ∧ k v := by
  unfold ruleQ at h
  split at h
  · -- nilCheck
    rename_i x ho
    split at h
    · rename_i p hp
      obtain ⟨a, rfl, h⟩ := derefP_out h
      exact ⟨_, fun w => by simp [execOp, ho, hp], h⟩
    · rename_i f first captured hp
      exact ⟨_, fun w => by simp [execOp, ho, hp], h⟩
    · exact h.elim
  · -- fieldAddr
    rename_i t x f ho
    split at h
    · rename_i p hp
      obtain ⟨ad, rfl, h2⟩ := derefP_out h
      clear h
      split at h2
      · rename_i v hv
        exact ⟨v, fun w => by
          have := pv_run hv w
          simp [execOp, ho, hp, this], h2⟩
      · exact h2.elim
    · exact h.elim
  · -- indexAddr
    rename_i t x i ho
    split at h
    · rename_i e a l c kk n hu hx hi
      obtain ⟨ti, hti, ⟨h0, h1⟩, h⟩ := szK_out h
      obtain ⟨ad, rfl, h⟩ := derefP_out h
      exact ⟨_, fun w => by simp [execOp, ho, Instr.indexAt, hx, hi, asIntOf, run_underlying' hu, h0, h1, run_sizeOf' hti, mulN_eq], h⟩
    · rename_i len e ad kk n hu hx hi
      obtain ⟨ti, hti, ⟨h0, h1⟩, h⟩ := szK_out h
      exact ⟨_, fun w => by simp [execOp, ho, Instr.indexAt, hx, hi, asIntOf, run_underlying' hu, h0, h1, run_sizeOf' hti, Instr.sureAddr, mulN_eq], h⟩
    · exact h.elim
  · -- index
    rename_i t x i ho
    split at h
    · rename_i len e cs κ n hu hx hi
      obtain ⟨ti, hti, ⟨h0, h1⟩, h⟩ := szK_out h
      obtain ⟨v, hv, hk⟩ := elemA_sound (κ := κ) hu hti h0 h1 (idxC_out h (by omega) (by omega))
      exact ⟨v, fun w => by simp [execOp, ho, hx, hi, hv], hk⟩
    · rename_i s κ n hu hx hi
      obtain ⟨⟨h0, h1⟩, h⟩ := h
      refine ⟨_, fun w => ?_, h⟩
      have hb : s[n.toNat]? = some (s.data.getD n.toNat 0) := by
        have hlt : n.toNat < s.size := by omega
        rw [getElem?_pos s n.toNat hlt]
        simp [ByteArray.getElem_eq_getElem_data, Array.getD]
        intro q
        omega
      simp [execOp, ho, hx, hi, Instr.index, asIntOf, run_underlying' hu, h0, hb, byteI]
    · exact h.elim
  · -- add
    rename_i t x y yt ho
    split at h
    · rename_i a b hx hy
      obtain ⟨h1, h⟩ := h
      have hm : ¬ IntKind.i64.max < ((a.size + b.size : Nat) : Int) := by
        have : IntKind.i64.max = 9223372036854775807 := by decide
        unfold sumFits at h1
        omega
      exact ⟨_, fun w => by
        simp only [execOp, ho, eqGuard, hx, hy, binOp, Op.stringOp, Sem.run_bind, Sem.run_pure, gt_iff_lt, if_neg hm]
        rfl, h⟩
    · exact ruleQ_pv h
  · -- quo
    rename_i t x y yt ho
    split at h
    · rename_i κ a κ' b hx hy
      split at h
      · rename_i hk
        have hk := of_decide_eq_true hk
        subst hk
        obtain ⟨hb, h⟩ := ifB_F h
        have hb := of_decide_eq_false hb
        exact ⟨_, fun w => by simp [execOp, ho, eqGuard, hx, hy, binOp, Op.intDiv, hb], h⟩
      · exact h.elim
    · exact h.elim
  · -- rem
    rename_i t x y yt ho
    split at h
    · rename_i κ a κ' b hx hy
      split at h
      · rename_i hk
        have hk := of_decide_eq_true hk
        subst hk
        obtain ⟨hb, h⟩ := ifB_F h
        have hb := of_decide_eq_false hb
        exact ⟨_, fun w => by simp [execOp, ho, eqGuard, hx, hy, binOp, Op.intDiv, hb], h⟩
      · exact h.elim
    · exact h.elim
  · -- shl
    rename_i t x y yt ho
    split at h
    · rename_i κ a κ' b hx hy
      obtain ⟨hb, h⟩ := ifB_F h
      have hb' : ¬ b < 0 := of_decide_eq_false hb
      exact ⟨_, fun w => by simp [execOp, ho, eqGuard, hx, hy, binOp, Op.shift, hb'], h⟩
    · exact h.elim
  · -- shr
    rename_i t x y yt ho
    split at h
    · rename_i κ a κ' b hx hy
      obtain ⟨hb, h⟩ := ifB_F h
      have hb' : ¬ b < 0 := of_decide_eq_false hb
      exact ⟨_, fun w => by simp [execOp, ho, eqGuard, hx, hy, binOp, Op.shift, hb'], h⟩
    · exact h.elim
  · -- eql
    rename_i t x y yt ho
    split at h
    · rename_i hf
      obtain ⟨p1, p2, p3, hu⟩ := isFuncT_out hf
      split at h
      · rename_i hy
        have hy := isNilF_out hy
        unfold funcNil at h
        split at h
        · rename_i hx
          exact ⟨_, fun w => by simp [execOp, ho, eqGuard, hx, hy, binOp, funcTest_nil hu w], h⟩
        · rename_i f1 x1 y1 hx
          exact ⟨_, fun w => by simp [execOp, ho, eqGuard, hx, hy, binOp, funcTest_func hu f1 x1 y1 w], h⟩
        · exact h.elim
      · exact h.elim
    · split at h
      · rename_i b hb
        refine ⟨_, fun w => ?_, h⟩
        have hr := nilTest_sound hb w
        rcases nilTest_shape hb with ⟨p, hx, hy⟩ | ⟨a, l, c, l', c', hx, hy⟩ | ⟨m, hx, hy⟩ <;> rw [hx, hy] at hr <;> simp [execOp, ho, eqGuard, hx, hy, binOp, hr]
      · split at h
        · rename_i b hb
          obtain ⟨_, hgd, xs, ys, hx, hy⟩ := aggTest_sound hb default
          refine ⟨_, fun w => ?_, h⟩
          have hr := (aggTest_sound hb w).1
          rw [hx, hy] at hr
          simp [execOp, ho, eqGuard, hx, hy, binOp, hr, hgd]
        · exact ruleQ_pv h
  · -- neq
    rename_i t x y yt ho
    split at h
    · rename_i hf
      obtain ⟨p1, p2, p3, hu⟩ := isFuncT_out hf
      split at h
      · rename_i hy
        have hy := isNilF_out hy
        unfold funcNil at h
        split at h
        · rename_i hx
          exact ⟨_, fun w => by simp [execOp, ho, eqGuard, hx, hy, binOp, funcTest_nil hu w], h⟩
        · rename_i f1 x1 y1 hx
          exact ⟨_, fun w => by simp [execOp, ho, eqGuard, hx, hy, binOp, funcTest_func hu f1 x1 y1 w], h⟩
        · exact h.elim
      · exact h.elim
    · split at h
      · rename_i b hb
        refine ⟨_, fun w => ?_, h⟩
        have hr := nilTest_sound hb w
        rcases nilTest_shape hb with ⟨p, hx, hy⟩ | ⟨a, l, c, l', c', hx, hy⟩ | ⟨m, hx, hy⟩ <;> rw [hx, hy] at hr <;> simp [execOp, ho, eqGuard, hx, hy, binOp, hr]
      · split at h
        · rename_i b hb
          obtain ⟨_, hgd, xs, ys, hx, hy⟩ := aggTest_sound hb default
          refine ⟨_, fun w => ?_, h⟩
          have hr := (aggTest_sound hb w).1
          rw [hx, hy] at hr
          simp [execOp, ho, eqGuard, hx, hy, binOp, hr, hgd]
        · exact ruleQ_pv h
  · -- slice
    rename_i t x lo hi ho
    split at h
    · rename_i e a l c hu hx
      split at h
      · rename_i k1 i k2 j hi1 hj1
        obtain ⟨ti, hti, ⟨h0, h1, h2⟩, h⟩ := szK_out h
        have hj0 : 0 ≤ j := by omega
        refine ⟨_, fun w => ?_, h⟩
        have hl : ∀ w, (Instr.sliceBounds true l c (lo.map ρ) (hi.map ρ) none).run P w = .ok (i.toNat, j.toNat, c) w := by
          intro w
          have hjl : i ≤ (j.toNat : Int) := by omega
          cases lo <;> cases hi <;> simp only [Value.int.injEq] at hi1 hj1 <;> (try obtain ⟨rfl, rfl⟩ := hi1) <;> (try obtain ⟨rfl, rfl⟩ := hj1) <;> simp_all [Instr.sliceBounds, Instr.sliceBound, asIntOf]
        simp [execOp, ho, hx, Instr.sliceAt, Instr.slice, run_underlying' hu, hl, run_sizeOf' hti, mulN_eq]
      · exact h.elim
    · exact h.elim
  · exact ruleQ_pv h

/-! ### Loads and stores -/
theorem kdOf_b {t : TypeId} {k : BK} (h : kdOf P t = some (.b k)) (w : World) : (isAgg t).run P w = .ok false w := by
  have struct : ∀ t, (match cellKs P 8 t with | some ks => (match P.info? t with | some i => (match Nat.beq ks.length i.size with | true => some (Kd.agg ks) | false => none) | none => none) | none => none) ≠ some (.b k) := by
    intro t
    split
    · split
      · split <;> simp
      · simp
    · simp
  cases hu : P.underlying t with
  | none => simp [kdOf, bkOf, hu] at h
  | some d =>
    simp only [isAgg, Sem.run_bind, run_underlying' hu, Result.andThen_ok]
    cases d <;> (first | rfl | (exfalso; unfold kdOf at h; rw [hu] at h; exact struct t h))
theorem kdOf_agg {t : TypeId} {ks : List BK} (h : kdOf P t = some (.agg ks)) (w : World) : (isAgg t).run P w = .ok true w ∧ (sizeOf t).run P w = .ok ks.length w := by
  have flat : ∀ t, (match bkOf P t with | some b => some (Kd.b b) | none => none) ≠ some (.agg ks) := by
    intro t
    split <;> simp
  have sz : ∀ t, (match cellKs P 8 t with | some ks => (match P.info? t with | some i => (match Nat.beq ks.length i.size with | true => some (Kd.agg ks) | false => none) | none => none) | none => none) = some (Kd.agg ks) →
      (sizeOf t).run P w = .ok ks.length w := by
    intro t h
    split at h
    · split at h
      · rename_i i hi
        split at h
        · rename_i hb
          cases h
          rw [run_sizeOf' hi, Nat.eq_of_beq_eq_true hb]
        · simp at h
      · simp at h
    · simp at h
  cases hu : P.underlying t with
  | none => simp [kdOf, bkOf, hu] at h
  | some d =>
    simp only [isAgg, Sem.run_bind, run_underlying' hu, Result.andThen_ok]
    cases d <;> (first | (exfalso; unfold kdOf at h; rw [hu] at h; exact flat t h) | (unfold kdOf at h; rw [hu] at h; exact ⟨rfl, sz t h⟩))
theorem ldCells_out {w : World} {a : Addr} : ∀ {ks : List BK} {i : Nat} {φ : HL ks → Prop}, ldCells w a i ks φ →
    ∃ ts, φ ts ∧ ∀ j v, (HL.cells ks ts)[j]? = some v → w.cell? (a.add (i + j)) = some v
  | [], _, _, h => ⟨(), h, fun _ _ h => by simp [HL.cells] at h⟩
  | b :: r, i, φ, h => by
    obtain ⟨t, h1, h⟩ := h
    obtain ⟨ts, h2, h3⟩ := ldCells_out h
    refine ⟨(t, ts), h2, fun j v hj => ?_⟩
    cases j with
    | zero => simp only [HL.cells, List.getElem?_cons_zero, Option.some.injEq] at hj; subst hj; exact h1
    | succ j =>
      simp only [HL.cells, List.getElem?_cons_succ] at hj
      have := h3 j v hj
      rwa [show i + (j + 1) = i + 1 + j by omega]
theorem run_loadCellsFrom {w : World} {a : Addr} : ∀ (vs : List Value) (i : Nat) (acc : Array Value), (∀ j v, vs[j]? = some v → w.cell? (a.add (i + j)) = some v) →
    (loadCellsFrom a i vs.length acc).run P w = .ok (acc ++ vs.toArray) w
  | [], _, acc, _ => by simp [loadCellsFrom]
  | v :: r, i, acc, h => by
    have h0 := h 0 v rfl
    have h0' : w.cell? (a.add i) = some v := by simpa using h0
    simp only [List.length_cons, loadCellsFrom, Sem.run_bind, run_load, h0', Result.andThen_ok]
    rw [run_loadCellsFrom r (i + 1) _ (fun j u hj => by have := h (j + 1) u hj; rwa [show i + (j + 1) = i + 1 + j by omega] at this)]
    simp
theorem HL.length_cells : ∀ (ks : List BK) (ts : HL ks), (HL.cells ks ts).length = ks.length
  | [], _ => rfl
  | _ :: r, ts => by simp [HL.cells, HL.length_cells r ts.2]
theorem ldK_sound {t : TypeId} {κ : Kd} {w : World} {a : Addr} {φ : κ.T → Prop} (hk : kdOf P t = some κ) (h : ldK w a κ φ) :
    ∃ x, (loadVar t a).run P w = .ok (κ.v x) w ∧ φ x := by
  cases κ with
  | b k =>
    obtain ⟨x, h1, h2⟩ := h
    refine ⟨x, ?_, h2⟩
    simp [loadVar, kdOf_b hk, h1, Kd.v]
  | agg ks =>
    obtain ⟨ts, h1, h2⟩ := ldCells_out h
    refine ⟨ts, ?_, h1⟩
    obtain ⟨h3, h4⟩ := kdOf_agg hk w
    have := run_loadCellsFrom (P := P) (w := w) (a := a) (HL.cells ks ts) 0 #[] h2
    rw [HL.length_cells] at this
    simp [loadVar, h3, h4, loadCells, this, Kd.v]
theorem oneV_out {v : Value} {K : Prop} (h : oneV v K) : v.oneCell' = true ∧ K := by
  cases v <;> first
    | exact h.elim
    | exact ⟨rfl, h⟩
theorem oneV_in {v : Value} {K : Prop} (h1 : v.oneCell' = true) (h : K) : oneV v K := by
  cases v <;> first
    | exact h
    | cases h1
theorem stCells_out (P : Program) {a : Addr} : ∀ {vs : List Value} {i : Nat} {w : World} {k : World → Prop}, stCells a i vs w k →
    ∃ w', (storeCells a vs i).run P w = .ok () w' ∧ k w'
  | [], _, w, _, h => ⟨w, by simp [storeCells], h⟩
  | v :: r, i, w, k, h => by
    obtain ⟨h1, ⟨⟨u, hu⟩, hf⟩, h⟩ := oneV_out h
    obtain ⟨w', h2, h3⟩ := stCells_out P h
    refine ⟨w', ?_, h3⟩
    simp [storeCells, run_store P w (a.add i) v .plain h1, hu, hf, h2]
theorem stA_out {v : Value} {n : Nat} {p : Option Addr} {w : World} {k : World → Prop} (h : stA v n p w k) :
    ∃ a, p = some a ∧ v.cells.size = n ∧ stCells a 0 v.cells.toList w k := by
  unfold stA at h
  split at h
  · rename_i hb
    obtain ⟨ad, rfl, h⟩ := derefP_out h
    exact ⟨ad, rfl, Nat.eq_of_beq_eq_true hb, h⟩
  · exact h.elim
theorem stB_out {v : Value} {n : Nat} {p : Option Addr} {w : World} {k : World → Prop} (h : stB v n p w k) :
    ∃ a, p = some a ∧ 1 = n ∧ stCells a 0 [v] w k := by
  unfold stB at h
  split at h
  · rename_i hb
    obtain ⟨ad, rfl, h⟩ := derefP_out h
    exact ⟨ad, rfl, Nat.eq_of_beq_eq_true hb, h⟩
  · exact h.elim
theorem stW_out {v : Value} {n : Nat} {p : Option Addr} {w : World} {k : World → Prop} (h : stW v n p w k) :
    ∃ a, p = some a ∧ v.cells.size = n ∧ stCells a 0 v.cells.toList w k := by
  cases v <;> first
    | exact stA_out h
    | (obtain ⟨a, h1, h2, h3⟩ := stB_out h
       exact ⟨a, h1, by simp [Value.cells, h2], by simpa [Value.cells] using h3⟩)
theorem stW_one {v : Value} {p : Option Addr} {w : World} {k : World → Prop} (h1 : v.oneCell' = true) (h : derefP p fun a => Wr w (a.add 0) ∧ k (w.setCell (a.add 0) v)) : stW v 1 p w k := by
  have : stB v 1 p w k := by
    cases p with
    | none => exact h.elim
    | some a => exact oneV_in h1 h
  cases v <;> first
    | exact this
    | cases h1

/-! ### The operations that write -/
theorem clear_type (ats : Array TypeId) (t t' : TypeId) (args : Array Value) : Builtin.clear_ ats t args = Builtin.clear_ ats t' args := rfl
theorem copy_type (ats : Array TypeId) (t t' : TypeId) (args : Array Value) : Builtin.copy_ ats t args = Builtin.copy_ ats t' args := rfl
theorem append_type (ats : Array TypeId) (t t' : TypeId) (args : Array Value) : Builtin.append_ ats t args = Builtin.append_ ats t' args := rfl

/-! ### A frame, in a round of a range over a function, or in none -/
/-- No fence; the frame is one of round ro, or of none. -/
abbrev Wf (ro : Option Nat) : Fence := { fn := fun _ => True, depth := none, alive := false, round := ro }
theorem callsW {ro : Option Nat} {n : Nat} {f : FuncId} {args : Array Value} {w : World} {R : Ending → World → Prop} (h : Calls P f args w R) : CallsIn (Wf ro) n P f args w R := (callsIn_wide (n := n)).2 h
theorem semAt_W (ro : Option Nat) {o : Oper} (h : ∀ c, o.op ≠ .defer c) (ρ : Operand → Value) : o.semAt (Wf ro).round ρ = execOp ρ o := by
  cases ro with
  | none => simp [Oper.semAt]
  | some l => exact Oper.semAt_some l _ _ h
theorem nodefer_of_value {o : Oper} {ρ : Operand → Value} {w w' : World} {v : Value} (h : (execOp ρ o).run P w = .ok (.value v) w') : ∀ c, o.op ≠ .defer c := by
  intro c hc
  simp only [execOp, hc, Sem.run_bind] at h
  generalize Sem.run P (resolve ρ c o.type) w = r at h
  cases r <;> simp [Result.andThen, Sem.run_pure] at h
theorem lwOp_nodefer {fs : List Nat} {o : Oper} {e : Env} {w : World} {k : Value → World → Prop} (h : lwOp P fs o e w k) : ∀ c, o.op ≠ .defer c := by
  intro c hc
  unfold lwOp at h
  rw [hc] at h
  simp only [opQuiet] at h
  split at h
  · unfold ruleW at h
    rw [hc] at h
    exact h
  · exact h
theorem noDefer_spec {ops : Array Oper} (h : noDefer ops = true) (j : Nat) (o : Oper) (c : Call) (ho : ops[j]? = some o) : o.op ≠ .defer c := by
  intro hc
  simp only [noDefer, List.all_eq_true] at h
  have := h o (Array.mem_toList_iff.2 (Array.mem_of_getElem? ho))
  rw [hc] at this
  cases this
theorem yieldsIf_wpOpW {ro : Option Nat} {ops : Array Oper} {Q : Exit → Act → World → Prop} {S : World → Prop} {i : Nat} {o : Oper} {v : Value} {a : Act} (hi : ops[i]? = some o) (hy : YieldsIf P ops S o v a)
    {K : Act → World → Prop} {w : World} (hS : S w) (h : K (a.put o.dst v) w) : wpOpIn (Wf ro) 0 P ops Q i K a w := by
  unfold wpOpIn
  simp only [hi]
  rcases hy with ⟨hw, hv⟩ | ⟨hw, rfl⟩
  · simp only [hw, if_true]
    refine ⟨fun _ _ => trivial, ?_⟩
    rw [semAt_W ro (nodefer_of_value (hv w hS)), hv w hS]
    exact h
  · simp only [hw, Bool.false_eq_true, if_false]
    exact ⟨fun _ _ => trivial, h⟩
theorem wpOpW_putIf {ro : Option Nat} {ops : Array Oper} {Q : Exit → Act → World → Prop} {S : World → Prop} {j : Nat} {oi oj : Oper} {v : Value} (hj : ops[j]? = some oj) (hap : oi.apart ops oj = true)
    (hsi : ∀ cs b, oi.op ≠ .select cs b) (hsj : ∀ cs b, oj.op ≠ .select cs b) (hdj : ∀ c, oj.op ≠ .defer c)
    (hQ : ∀ c a w, Q (.panic c) (a.put oi.dst v) w → Q (.panic c) a w) {K : Act → World → Prop} {a : Act} {w : World}
    (hy : YieldsIf P ops S oi v a) (h : wpOpIn (Wf ro) 0 P ops Q j K (a.put oi.dst v) w) :
    wpOpIn (Wf ro) 0 P ops Q j (fun a' w' => YieldsIf P ops S oi v a' ∧ K (a'.put oi.dst v) w') a w := by
  obtain ⟨h1, h2, h3⟩ := Oper.apart_spec hap
  have keep : ∀ (a : Act), YieldsIf P ops S oi v a → ∀ u, YieldsIf P ops S oi v (a.put oj.dst u) := fun a hy u =>
    hy.of_same (execOp_put oi hsi a oj.dst u h3) (wanted_put oi a oj.dst u h3)
  have keepD : ∀ d, YieldsIf P ops S oi v { a with defers := d :: a.defers } := fun d => hy.of_same rfl rfl
  unfold wpOpIn at *
  simp only [hj] at *
  rw [wanted_put oj a oi.dst v h1] at h
  split
  · rename_i hw
    simp only [hw, if_true] at h
    refine ⟨fun _ _ => trivial, ?_⟩
    have h := h.2
    rw [semAt_W ro hdj] at h ⊢
    rw [execOp_put oj hsj a oi.dst v h1] at h
    generalize (execOp a.eval oj).run P w = r at *
    cases r with
    | ok n w' =>
      cases n <;> simp only [Oper.uponIn] at h ⊢
      case value u => exact ⟨keep a hy u, by rw [← Act.put_comm a v u h2]; exact h⟩
      case skip => exact ⟨keep a hy _, by rw [← Act.put_comm a v undef h2]; exact h⟩
      case defer d =>
        refine ⟨keep _ (keepD d) _, ?_⟩
        rw [← Act.put_comm _ v undef h2, ← Act.put_defers]
        exact h
      case enter f args =>
        refine ⟨h.1, CallsIn.mono h.2 fun e w'' he => ?_⟩
        cases e with
        | returned u => exact ⟨keep a hy u, by rw [← Act.put_comm a v u h2]; exact he⟩
        | panicked c => exact hQ _ _ _ he
        | outgrown => exact he
      case row row args => exact ⟨h.1, RowsIn.mono h.2 fun u w'' he => ⟨keep a hy u, by rw [← Act.put_comm a v u h2]; exact he⟩⟩
      case round l f tmps assign body =>
        refine ⟨h.1, RoundIn.mono h.2 fun e w'' he => ?_⟩
        cases e with
        | returned u => exact ⟨keep a hy u, by rw [← Act.put_comm a v u h2]; exact he⟩
        | panicked c => exact hQ _ _ _ he
        | outgrown => exact he
    | halt x w' =>
      cases x <;> simp only [Oper.uponIn] at h ⊢
      case panic u => exact hQ _ _ _ h
  · rename_i hw
    simp only [hw] at h
    exact ⟨fun _ _ => trivial, keep a hy _, by rw [← Act.put_comm a v undef h2]; exact h.2⟩

variable {ro : Option Nat}
theorem ruleW_sound {fs : List Nat} (hfs : AllOK P fs) {o : Oper} {ρ : Operand → Value} {w : World} {k : Value → World → Prop} (h : ruleW P fs o ρ w k)
    (a : Act) (K : Act → World → Prop) (Q : Exit → Act → World → Prop) (hK : ∀ v w', k v w' → K (a.put o.dst v) w') :
    o.uponIn (Wf ro) 0 P a K Q ((execOp ρ o).run P w) := by
  have byRun : (match (execOp ρ o).run P w with | .ok (.value v) w' => k v w' | _ => False) → o.uponIn (Wf ro) 0 P a K Q ((execOp ρ o).run P w) := by
    intro h
    split at h
    · rename_i v w' hr
      rw [hr]
      exact hK _ _ h
    · exact h.elim
  unfold ruleW at h
  split at h
  · -- load
    rename_i t x ho
    split at h
    · rename_i p hp
      split at h
      · rename_i κ hκ
        obtain ⟨ad, rfl, h⟩ := derefP_out h
        obtain ⟨v, h1, h2⟩ := ldK_sound hκ h
        have : (execOp ρ o).run P w = .ok (.value (κ.v v)) w := by simp [execOp, ho, Instr.loadAt, Instr.sureAddr, hp, h1]
        rw [this]
        exact hK _ _ h2
      · exact h.elim
    · exact h.elim
  · -- store
    rename_i t x y ho
    split at h
    · rename_i p hp
      split at h
      · rename_i i hi
        obtain ⟨ad, rfl, hsz, h⟩ := stW_out h
        obtain ⟨w', h1, h2⟩ := stCells_out P h
        have : (execOp ρ o).run P w = .ok .skip w' := by simp [execOp, ho, Instr.storeAt, Instr.sureAddr, hp, storeVar, run_sizeOf' hi, hsz, h1]
        rw [this]
        exact hK _ _ h2
      · exact h.elim
    · exact h.elim
  · -- makeSlice
    rename_i t l c ho
    split at h
    · rename_i e k1 n k2 m hu hl hc
      split at h
      · rename_i i hi
        split at h
        · rename_i z hz
          obtain ⟨⟨h0, h1, h2, h3⟩, h⟩ := h
          have : (execOp ρ o).run P w = .ok (.value (.slice (some ⟨w.heap.size, 0, none⟩) n.toNat m.toNat)) (w.alloc (.cells (madeCells z.cells (m.toNat * i.size)) e)) := by
            simp only [execOp, ho, hl, hc, Sem.run_bind, run_make w t e i z hu hi hz k1 k2 n m h0 h1 h2 h3, Result.andThen_ok, Sem.run_pure]
          rw [this]
          exact hK _ _ h
        · exact h.elim
      · exact h.elim
    · exact h.elim
  · -- a call
    rename_i f args ats ho
    unfold callV at h
    split at h
    · rename_i n first captured hf
      split at h
      · rename_i hn
        have hc := hfs.get hn
        have : (execOp ρ o).run P w = .ok (.enter n (first.toList ++ (args.toList.map ρ ++ captured.toList)).toArray) w := by
          simp only [execOp, ho, resolve, hf, Deferred.ofValue, Sem.run_bind, Sem.run_pure, Result.andThen_ok, invoke]
          rw [hc]
          congr 2
          apply Array.ext'
          simp
        rw [this, Oper.uponIn_enter]
        refine ⟨fun h => (by cases h), CallsIn.mono (callsW (ro := ro) h) fun e w' he => ?_⟩
        cases e with
        | returned v => exact hK _ _ (resK_sound he)
        | panicked c => exact he.elim
        | outgrown => exact he.elim
      · obtain ⟨v, w', hr, h⟩ := h
        have : (execOp ρ o).run P w = .ok (.value v) w' := by
          simp only [execOp, ho, resolve, hf, Deferred.ofValue, Sem.run_bind, Sem.run_pure, Result.andThen_ok, invoke]
          rw [← hr]
          congr 2
          apply Array.ext'
          simp
        rw [this]
        exact hK _ _ (resK_sound h)
    · rename_i l first captured hf
      obtain ⟨r, h1, h2, h3⟩ := h
      have : (execOp ρ o).run P w = .ok (.round l r.fn ((r.params.zip (first.toList ++ args.toList.map ρ).toArray).foldl (fun tmps (t, a) => tmps.setIfInBounds t a) r.tmps) r.assign r.body) w := by
        simp only [execOp, ho, resolve, hf, Deferred.ofValue, Sem.run_bind, Sem.run_pure, Result.andThen_ok, invoke]
        have e1 : first ++ Array.map ρ args = (first.toList ++ args.toList.map ρ).toArray := by apply Array.ext'; simp
        rw [e1]
        generalize (first.toList ++ args.toList.map ρ).toArray = as at h2 ⊢
        unfold Instr.yield
        simp only [Sem.run_bind, run_getLoop h1, Result.andThen]
        rw [if_neg (by simpa using h2)]
        rfl
      rw [this, Oper.uponIn_round]
      refine ⟨fun h => (by cases h), RoundIn.mono (F := Wf ro) (n := 0) h3 fun e w' he => ?_⟩
      cases e with
      | returned v => exact hK _ _ (resK_sound he)
      | panicked c => exact he.elim
      | outgrown => exact he.elim
    · exact h.elim
  · -- append
    rename_i args ats ho
    split at h
    · rename_i s x t t' hargs hats
      split at h
      · rename_i ht
        have ht := Nat.eq_of_beq_eq_true ht
        subst ht
        obtain ⟨r, w', h1, h2⟩ := h
        have e1 : args = #[s, x] := by apply Array.ext'; simp [hargs]
        have e2 : ats = #[t, t] := by apply Array.ext'; simp [hats]
        have : (execOp ρ o).run P w = .ok (.value r.v) w' := by
          simp only [execOp, ho, resolve, Sem.run_bind, Sem.run_pure, Result.andThen_ok, invoke, builtin, e1, e2]
          rw [append_type _ o.type t]
          simp [h1]
        rw [this]
        exact hK _ _ h2
      · exact h.elim
    · exact h.elim
  · -- copy
    rename_i args ats ho
    split at h
    · rename_i d s hargs
      obtain ⟨n, w', h1, h2⟩ := h
      have e1 : args = #[d, s] := by apply Array.ext'; simp [hargs]
      have : (execOp ρ o).run P w = .ok (.value (.int .i64 n)) w' := by
        simp only [execOp, ho, resolve, Sem.run_bind, Sem.run_pure, Result.andThen_ok, invoke, builtin, e1]
        rw [copy_type _ o.type 0]
        simp [h1]
      rw [this]
      exact hK _ _ h2
    · exact h.elim
  · -- clear
    rename_i args ats ho
    split at h
    · rename_i s hargs
      obtain ⟨w', h1, h2⟩ := h
      have e1 : args = #[s] := by apply Array.ext'; simp [hargs]
      have : (execOp ρ o).run P w = .ok (.value (.tuple #[])) w' := by
        simp only [execOp, ho, resolve, Sem.run_bind, Sem.run_pure, Result.andThen_ok, invoke, builtin, e1]
        rw [clear_type _ o.type 0]
        simp [h1]
      rw [this]
      exact hK _ _ h2
    · exact h.elim
  · -- next
    rename_i it b ho
    split at h
    · split at h
      · rename_i r q hp
        obtain ⟨s, pos, hr, hA, hB⟩ := h
        by_cases hlt : pos < s.size
        · have : (execOp ρ o).run P w = .ok (.value (.tuple #[.bool true, .int .i64 (pos : Int), .int .i32 ((Utf8.decode s pos).1 : Int)])) (setIter w r s (pos + (Utf8.decode s pos).2)) := by
            simp [execOp, ho, hp, Instr.next, getObj, setObj, Sem.run, hr, hlt, goInt, setIter, Result.andThen]
          rw [this]
          exact hK _ _ (hA hlt)
        · have : (execOp ρ o).run P w = .ok (.value (.tuple #[.bool false])) w := by
            simp [execOp, ho, hp, Instr.next, getObj, Sem.run, hr, hlt, Result.andThen]
          rw [this]
          exact hK _ _ (hB hlt)
      · exact h.elim
    · rcases h with ⟨x, y, w', h1, h2⟩ | ⟨w', h1, h2⟩
      · have : (execOp ρ o).run P w = .ok (.value (.tuple #[.bool true, x, y])) w' := by
          simp only [execOp, ho, Sem.run_bind, h1, Result.andThen_ok, Sem.run_pure]
        rw [this]
        exact hK _ _ h2
      · have : (execOp ρ o).run P w = .ok (.value (.tuple #[.bool false])) w' := by
          simp only [execOp, ho, Sem.run_bind, h1, Result.andThen_ok, Sem.run_pure]
        rw [this]
        exact hK _ _ h2
  · -- a look into a map
    rename_i t m x ok ho
    split at h
    · split at h
      · split at h
        · rename_i κ _ _
          obtain ⟨v, b, h1, h2⟩ := h
          have : (execOp ρ o).run P w = .ok (.value (.tuple #[κ.v v, .bool b])) w := by
            simp only [execOp, ho, Sem.run_bind, h1, Result.andThen_ok, Sem.run_pure]
          rw [this]
          exact hK _ _ h2
        · rename_i κ _ _
          obtain ⟨v, h1, h2⟩ := h
          have : (execOp ρ o).run P w = .ok (.value (κ.v v)) w := by
            simp only [execOp, ho, Sem.run_bind, h1, Result.andThen_ok, Sem.run_pure]
          rw [this]
          exact hK _ _ h2
      · exact h.elim
    · exact h.elim
  · rename_i t m x y ho
    obtain ⟨w', h1, h2⟩ := h
    have : (execOp ρ o).run P w = .ok .skip w' := by
      simp only [execOp, ho, Sem.run_bind, h1, Result.andThen_ok, Sem.run_pure]
    rw [this]
    exact hK _ _ h2
  · rename_i t m x y ho
    obtain ⟨w', h1, h2⟩ := h
    have : (execOp ρ o).run P w = .ok .skip w' := by
      simp only [execOp, ho, Sem.run_bind, h1, Result.andThen_ok, Sem.run_pure]
    rw [this]
    exact hK _ _ h2
  · rename_i t x ho
    split at h
    · obtain ⟨w', h1, h2⟩ := h
      have : (execOp ρ o).run P w = .ok (.value (.pointer (some ⟨w.heap.size, 0, none⟩))) w' := by
        simp only [execOp, ho, Sem.run_bind, h1, Result.andThen_ok, Sem.run_pure]
      rw [this]
      exact hK _ _ h2
    · exact byRun h
  · exact byRun h
  · exact byRun h
  · exact byRun h
  · exact byRun h
  · exact h.elim

/-! ### One operation over the frame -/
theorem mem_opArgs {op : Op} {x : Operand} (hs : ∀ cs b, op ≠ .select cs b) (h : x ∈ op.operands) : x ∈ opArgs op := by
  cases op <;> simp only [Op.operands, opArgs] at h ⊢ <;> (try (first | (simp at h; done) | (simpa using h)))
  case call c =>
    simp only [Call.operands, Array.mem_append] at h
    simp only [List.mem_append, Array.mem_toList_iff]
    rcases h with h | h
    · refine .inl ?_
      cases hc : c.callee <;> simp [hc] at h ⊢ <;> exact h
    · exact .inr h
theorem opsKnown_ρ {n : Nat} {a : Act} {e : Env} (h : Rep D n a e) {o : Oper} (hs : ∀ cs b, o.op ≠ .select cs b) (hk : opsKnown e (opArgs o.op) = true) : execOp a.eval o = execOp e.ρ o := by
  refine execOp_congr o hs fun x hx => h.ρ ?_
  simp only [opsKnown, List.all_eq_true] at hk
  exact hk x (mem_opArgs hs hx)

theorem lwOp_sound {fs : List Nat} (hfs : AllOK P fs) {o : Oper} {n : Nat} {a : Act} {e : Env} {w : World} {k : Value → World → Prop} (hr : Rep D n a e) (h : lwOp P fs o e w k)
    (K : Act → World → Prop) (Q : Exit → Act → World → Prop) (hK : ∀ v w', k v w' → K (a.put o.dst v) w') : o.wpIn (Wf ro) 0 P a w K Q := by
  refine ⟨fun _ _ => trivial, ?_⟩
  rw [semAt_W ro (lwOp_nodefer h)]
  unfold lwOp at h
  split at h
  · rename_i x ho
    split at h
    · rename_i v hv
      have : (execOp a.eval o).run P w = .ok (.value v) w := by simp [execOp, ho, hr.ev hv]
      rw [this]; exact hK _ _ h
    · exact h.elim
  · rename_i x ho
    split at h
    · rename_i v hv
      have : (execOp a.eval o).run P w = .ok (.value v) w := by simp [execOp, ho, hr.ev hv]
      rw [this]; exact hK _ _ h
    · exact h.elim
  · rename_i c x y ho
    split at h
    · rename_i b hb
      cases b with
      | true =>
        simp only [ifB] at h
        split at h
        · rename_i v hv
          have : (execOp a.eval o).run P w = .ok (.value v) w := by simp [execOp, ho, hr.ev hb, hr.ev hv, asBool]
          rw [this]; exact hK _ _ h
        · exact h.elim
      | false =>
        simp only [ifB] at h
        split at h
        · rename_i v hv
          have : (execOp a.eval o).run P w = .ok (.value v) w := by simp [execOp, ho, hr.ev hb, hr.ev hv, asBool]
          rw [this]; exact hK _ _ h
        · exact h.elim
    · exact h.elim
  · exact h.elim
  · rename_i hm hp hsel
    split at h
    · rename_i hk
      rw [opsKnown_ρ hr (fun cs b => hsel cs b) hk]
      split at h
      · obtain ⟨v, h1, h2⟩ := ruleQ_sound h
        rw [h1 w]
        exact hK _ _ h2
      · exact ruleW_sound hfs h a K Q hK
    · exact h.elim

theorem entKs_op {o : Oper} {r : List Oper} {it : Operand} {κ1 κ2 : BK} (h : entKs P o r = some (it, κ1, κ2)) : o.op = .entry it := by
  unfold entKs at h
  split at h
  · rename_i it' d ho hd
    split at h
    · split at h
      · simp only [Option.some.injEq, Prod.mk.injEq] at h
        rw [ho, h.1]
      · cases h
    · cases h
  · cases h
theorem lenKs_op {o : Oper} {t : TypeId} {x : Operand} (h : lenKs P o = some (t, x)) : ∃ c : Call, o.op = .call c ∧ c.callee = .builtin .len ∧ c.args = #[x] ∧ c.argTypes = #[t] := by
  unfold lenKs at h
  split at h
  · rename_i args ats _ ho
    split at h
    · rename_i x' t' h1 h2
      split at h
      · cases h
        exact ⟨_, ho, rfl, Array.toList_inj.1 h1, Array.toList_inj.1 h2⟩
      · cases h
    · cases h
  · cases h
theorem lwOpE_sound {fs : List Nat} (hfs : AllOK P fs) {o : Oper} {r : List Oper} {n : Nat} {a : Act} {e : Env} {w : World} {k : Value → World → Prop} (hr : Rep D n a e) (h : lwOpE P fs o r e w k)
    (K : Act → World → Prop) (Q : Exit → Act → World → Prop) (hK : ∀ v w', k v w' → K (a.put o.dst v) w') : o.wpIn (Wf ro) 0 P a w K Q := by
  unfold lwOpE at h
  split at h
  · rename_i it κ1 κ2 he
    have ho := entKs_op he
    split at h
    · rename_i v hv
      obtain ⟨x, y, h1, h2⟩ := h
      refine ⟨fun _ _ => trivial, ?_⟩
      rw [semAt_W ro (fun c hc => by rw [ho] at hc; cases hc)]
      have : (execOp a.eval o).run P w = .ok (.value (.tuple #[κ1.v x, κ2.v y])) w := by
        simp only [execOp, ho, hr.ev hv, Sem.run_bind, h1, Result.andThen_ok, Sem.run_pure]
      rw [this]
      exact hK _ _ h2
    · exact h.elim
  · split at h
    · rename_i t x he
      obtain ⟨c, hc, h1, h2, h3⟩ := lenKs_op he
      split at h
      · rename_i v hv
        obtain ⟨n, h4, h5⟩ := h
        refine ⟨fun _ _ => trivial, ?_⟩
        rw [semAt_W ro (fun c' hc' => by rw [hc] at hc'; cases hc')]
        have h4 : (Builtin.len_ c.argTypes o.type #[v]).run P w = .ok (.int .i64 n) w := by rw [h3]; exact h4
        have : (execOp a.eval o).run P w = .ok (.value (.int .i64 n)) w := by
          have hm : (c.args.map a.eval) = #[v] := by rw [h2]; simp [hr.ev hv]
          simp only [execOp, hc, resolve, h1, hm, Sem.run_bind, Sem.run_pure, Result.andThen_ok, invoke, builtin, h4]
        rw [this]
        exact hK _ _ h5
      · exact h.elim
    · exact lwOp_sound hfs hr h K Q hK
/-- The cells as entries, for a single load. -/
def HeldC : HeldL → World → Prop
  | [], _ => True
  | (_, a, v) :: r, w => w.cell? a = some v ∧ HeldC r w
theorem HeldC_cells {n : Nat} {a : Addr} {w : World} : ∀ {vs : List Value} {i : Nat}, HeldC (heldCells n a i vs) w ↔ ∀ j v, vs[j]? = some v → w.cell? (a.add (i + j)) = some v
  | [], i => by simp [heldCells, HeldC]
  | v :: r, i => by
    simp only [heldCells, HeldC, HeldC_cells]
    constructor
    · rintro ⟨h1, h2⟩ j u hj
      cases j with
      | zero => simp at hj; subst hj; exact h1
      | succ j => rw [List.getElem?_cons_succ] at hj; have := h2 j u hj; rwa [show i + (j + 1) = i + 1 + j by omega]
    · intro h
      exact ⟨h 0 v rfl, fun j u hj => by have := h (j + 1) u (by simpa using hj); rwa [show i + (j + 1) = i + 1 + j by omega] at this⟩
theorem heldCells_num {n : Nat} {a : Addr} : ∀ {vs : List Value} {i : Nat}, ∀ x ∈ heldCells n a i vs, x.1 = n
  | [], _, _, h => by cases h
  | _ :: r, i, x, h => by
    simp only [heldCells] at h
    cases h with
    | head => rfl
    | tail _ h => exact heldCells_num (vs := r) x h
theorem heldOf_num {n : Nat} {o : Oper} {e : Env} {v : Value} : ∀ x ∈ heldOf P n o e v, x.1 = n := by
  intro x hx
  unfold heldOf at hx
  split at hx
  · split at hx
    · split at hx
      · exact heldCells_num x hx
      · simp only [List.mem_singleton] at hx; subst hx; rfl
    · cases hx
  · cases hx

theorem lwOp_taken {fs : List Nat} {o : Oper} {m n : Nat} {a : Act} {e : Env} {w : World} {k : Value → World → Prop} (hr : Rep D n a e) (ht : opTaken o.op = true) (h : lwOp P fs o e w k) :
    ∃ v, (∀ w', HeldC (heldOf P m o e v) w' → (execOp a.eval o).run P w' = .ok (.value v) w') ∧ HeldC (heldOf P m o e v) w ∧ k v w := by
  unfold lwOp at h
  split at h
  · rename_i x ho
    split at h
    · rename_i v hv
      exact ⟨v, fun w' _ => by simp [execOp, ho, hr.ev hv], by simp [heldOf, ho, HeldC], h⟩
    · exact h.elim
  · rename_i x ho
    split at h
    · rename_i v hv
      exact ⟨v, fun w' _ => by simp [execOp, ho, hr.ev hv], by simp [heldOf, ho, HeldC], h⟩
    · exact h.elim
  · rename_i c x y ho
    split at h
    · rename_i b hb
      cases b with
      | true =>
        simp only [ifB] at h
        split at h
        · rename_i v hv
          exact ⟨v, fun w' _ => by simp [execOp, ho, hr.ev hb, hr.ev hv, asBool], by simp [heldOf, ho, HeldC], h⟩
        · exact h.elim
      | false =>
        simp only [ifB] at h
        split at h
        · rename_i v hv
          exact ⟨v, fun w' _ => by simp [execOp, ho, hr.ev hb, hr.ev hv, asBool], by simp [heldOf, ho, HeldC], h⟩
        · exact h.elim
    · exact h.elim
  · exact h.elim
  · rename_i hm hp hsel
    split at h
    · rename_i hk
      have he := opsKnown_ρ hr (fun cs b => hsel cs b) hk
      split at h
      · rename_i hq
        obtain ⟨v, h1, h2⟩ := ruleQ_sound h
        refine ⟨v, fun w' _ => by rw [he]; exact h1 w', ?_, h2⟩
        unfold heldOf
        split
        · rename_i ho
          rw [ho] at hq
          cases hq
        · trivial
      · rename_i hq
        unfold opTaken at ht
        split at ht
        · rename_i t x ho
          unfold ruleW at h
          rw [ho] at h
          simp only at h
          split at h
          · rename_i p hpx
            split at h
            · rename_i κ hκ
              obtain ⟨ad, rfl, h⟩ := derefP_out h
              cases κ with
              | b kb =>
                obtain ⟨x', h1, h2⟩ := h
                have hh : heldOf P m o e (kb.v x') = [(m, ad, kb.v x')] := by simp [heldOf, ho, hpx, hκ]
                refine ⟨kb.v x', fun w' hw' => ?_, ?_, h2⟩
                · rw [hh] at hw'
                  rw [he]
                  simp [execOp, ho, Instr.loadAt, Instr.sureAddr, hpx, loadVar, kdOf_b hκ, hw'.1]
                · rw [hh]; exact ⟨h1, trivial⟩
              | agg ks =>
                obtain ⟨ts, h1, h2⟩ := ldCells_out h
                have hh : heldOf P m o e (Kd.v (.agg ks) ts) = heldCells m ad 0 (HL.cells ks ts) := by simp [heldOf, ho, hpx, hκ, Kd.v, Value.cells]
                refine ⟨_, fun w' hw' => ?_, ?_, h1⟩
                · rw [hh, HeldC_cells] at hw'
                  rw [he]
                  have := run_loadCellsFrom (P := P) (w := w') (a := ad) (HL.cells ks ts) 0 #[] hw'
                  rw [HL.length_cells] at this
                  simp [execOp, ho, Instr.loadAt, Instr.sureAddr, hpx, loadVar, (kdOf_agg hκ w').1, (kdOf_agg hκ w').2, loadCells, this, Kd.v]
                · rw [hh, HeldC_cells]; exact h2
            · exact h.elim
          · exact h.elim
        · rename_i c x y ho
          exact absurd ho (hp c x y)
        · rw [ht] at hq; cases hq
    · exact h.elim

/-! ### A region in the text's order -/
/-- What is left of a0 behind a piece that writes the slots ws. -/
def Same (ws : List Nat) (a0 a : Act) : Prop := ∀ t, t ∉ ws → a.tmps.getD t undef = a0.tmps.getD t undef
theorem Same.refl (ws : List Nat) (a : Act) : Same ws a a := fun _ _ => rfl
theorem Same.trans {ws : List Nat} {a b c : Act} (h : Same ws a b) (k : Same ws b c) : Same ws a c := fun t ht => (k t ht).trans (h t ht)
theorem Same.mono {ws ws' : List Nat} {a b : Act} (h : Same ws a b) (hs : ∀ t, t ∈ ws → t ∈ ws') : Same ws' a b := fun t ht => h t (fun hh => ht (hs t hh))
theorem Same.put {ws : List Nat} {a0 a : Act} (h : Same ws a0 a) {d : Option Nat} (hd : ∀ x, d = some x → x ∈ ws) (v : Value) : Same ws a0 (a.put d v) := by
  cases d with
  | none => exact h
  | some d => exact fun t ht => (getD_put_ne (fun e => ht (by rw [e]; exact hd d rfl))).trans (h t ht)

def NQ (D : List Deferred) (n : Nat) (ws : List Nat) (a0 : Act) (k : Env → World → Prop) : Exit → Act → World → Prop
  | .normal, a, w => ∃ e, Rep D n a e ∧ Same ws a0 a ∧ k e w
  | _, _, _ => False

theorem getElem?_of_getD {a : Act} {t : Nat} {b : Bool} (h : a.tmps.getD t undef = .bool b) : a.tmps[t]? = some (.bool b) := by
  by_cases ht : t < a.tmps.size
  · simp [ht] at h ⊢; exact h
  · simp [ht, undef] at h
theorem guardW_sound {ops : Array Oper} {o : Oper} {n : Nat} {a : Act} {e : Env} {run skip : Env → Prop} (hr : Rep D n a e) (h : guardW ops o e run skip) :
    (Region.wanted o (yielded ops a.tmps) = true ∧ ∃ e', Rep D n a e' ∧ run e') ∨ (Region.wanted o (yielded ops a.tmps) = false ∧ ∃ e', Rep D n a e' ∧ skip e') := by
  unfold guardW at h
  split at h
  · rename_i hg
    exact .inl ⟨by simp [Region.wanted, hg], e, hr, h⟩
  · rename_i j want hg
    split at h
    · exact h.elim
    · rename_i t ht
      have hslot : (ops[j]?).bind (·.dst) = some t := by
        unfold guardSlot at ht
        cases ho : ops[j]? with
        | none => simp [ho] at ht
        | some o' => simp [ho] at ht; simp [ht]
      split at h
      · rename_i b hb
        have hy : yielded ops a.tmps j = some b := by
          have := getElem?_of_getD (hr.2.2 t _ hb)
          simp [yielded, hslot, this]
        cases b <;> cases want <;> simp only [ifB] at h
        · exact .inl ⟨by simp [Region.wanted, hg, hy], _, hr.refine hb, h⟩
        · exact .inr ⟨by simp [Region.wanted, hg, hy], _, hr.refine hb, h⟩
        · exact .inr ⟨by simp [Region.wanted, hg, hy], _, hr.refine hb, h⟩
        · exact .inl ⟨by simp [Region.wanted, hg, hy], _, hr.refine hb, h⟩
      · rename_i vs hb
        have hy : yielded ops a.tmps j = none := by
          have := hr.2.2 t _ hb
          simp only [yielded, hslot, Option.bind_some]
          by_cases hlt : t < a.tmps.size
          · simp [hlt] at this; simp [hlt, this]
          · simp [hlt]
        exact .inr ⟨by simp [Region.wanted, hg, hy], e, hr, h⟩
      · exact h.elim

theorem lwOps_sound {fs : List Nat} (hfs : AllOK P fs) {ops : Array Oper} {n : Nat} {ws : List Nat} {a0 : Act} {k : Env → World → Prop} :
    ∀ (l : List Oper) (a : Act) (e : Env) (w : World), (∀ o ∈ l, ∀ d, o.dst = some d → d < n ∧ d ∈ ws) → Rep D n a e → Same ws a0 a → lwOps P fs ops l e w k →
      wpListIn (Wf ro) 0 P ops (NQ D n ws a0 k) l a w
  | [], a, e, w, _, hr, hs, h => ⟨e, hr, hs, h⟩
  | o :: r, a, e, w, hd, hr, hs, h => by
    have hd1 : ∀ d, o.dst = some d → d < n := fun d hh => (hd o (List.mem_cons_self ..) d hh).1
    have hd2 : ∀ d, o.dst = some d → d ∈ ws := fun d hh => (hd o (List.mem_cons_self ..) d hh).2
    have hdr : ∀ o ∈ r, ∀ d, o.dst = some d → d < n ∧ d ∈ ws := fun o ho => hd o (List.mem_cons_of_mem _ ho)
    refine wpListIn_step fun K hK => ?_
    simp only [lwOps] at h
    rcases guardW_sound hr h with ⟨hw, e', hr', h⟩ | ⟨hw, e', hr', h⟩
    · rw [if_pos hw]
      exact lwOpE_sound hfs hr' h K _ fun v w' h' => hK _ _ (lwOps_sound hfs r _ _ _ hdr (hr'.upO hd1 v) (hs.put hd2 v) h')
    · rw [if_neg (by simp [hw])]
      exact ⟨fun _ _ => trivial, hK _ _ (lwOps_sound hfs r _ _ _ hdr (hr'.upO hd1 undef) (hs.put hd2 undef) h)⟩

/-! ### A region that draws its order -/
/-- Whatever order is picked from here on, and S holds behind every operation (S looks at what has been carried out, too). -/
def wpAnyG (ro : Option Nat) (P : Program) (md : Region.Mode) (ops : Array Oper) (Q : Exit → Act → World → Prop) (S : Array Bool → World → Prop) : Nat → Array Bool → Act → World → Prop
  | 0, listed, a, w => Region.ready md ops listed = [] ∧ Q .normal a w
  | fuel + 1, listed, a, w =>
    (Region.ready md ops listed = [] → Q .normal a w) ∧
    ∀ i ∈ Region.ready md ops listed, wpOpIn (Wf ro) 0 P ops Q i (fun a' w' => S (listed.setIfInBounds i true) w' ∧ wpAnyG ro P md ops Q S fuel (listed.setIfInBounds i true) a' w') a w
theorem wpAny_of_G {md : Region.Mode} {ops : Array Oper} {Q : Exit → Act → World → Prop} {S : Array Bool → World → Prop} :
    ∀ (fuel : Nat) (listed : Array Bool) (a : Act) (w : World), wpAnyG ro P md ops Q S fuel listed a w → wpAnyIn (Wf ro) 0 P md ops Q fuel listed a w
  | 0, _, _, _, h => h
  | fuel + 1, _, _, _, h => ⟨h.1, fun i hi => wpOpIn_mono (fun a' w' h' => wpAny_of_G fuel _ a' w' h'.2) (h.2 i hi)⟩
theorem wpAnyG_mono {md : Region.Mode} {ops : Array Oper} {Q : Exit → Act → World → Prop} {S S' : Array Bool → World → Prop} (hS : ∀ l w, S l w → S' l w) :
    ∀ (fuel : Nat) (listed : Array Bool) (a : Act) (w : World), wpAnyG ro P md ops Q S fuel listed a w → wpAnyG ro P md ops Q S' fuel listed a w
  | 0, _, _, _, h => h
  | fuel + 1, _, _, _, h => ⟨h.1, fun i hi => wpOpIn_mono (fun a' w' h' => ⟨hS _ _ h'.1, wpAnyG_mono hS fuel _ a' w' h'.2⟩) (h.2 i hi)⟩
/-- What has been carried out: each behind those that it waits for. -/
def Closed (ops : Array Oper) (listed : Array Bool) : Prop := ∀ j o, ops[j]? = some o → listed.getD j false = true → ∀ e ∈ o.after, Region.binds .any e = true → listed.getD e.on false = true
theorem Closed.ready {ops : Array Oper} {listed : Array Bool} (h : Closed ops listed) {i : Nat} (hi : i ∈ Region.ready .any ops listed) : Closed ops (listed.setIfInBounds i true) := by
  intro j o ho hj e he hb
  obtain ⟨_, oi, hoi, hall⟩ := mem_ready.1 hi
  by_cases hij : i = j
  · subst hij
    rw [hoi] at ho
    cases ho
    exact getD_set_true (hall e he hb)
  · rw [getD_set_ne false hij] at hj
    exact getD_set_true (h j o ho hj e he hb)
theorem wpAnyG_first {ops : Array Oper} {Q : Exit → Act → World → Prop} {S : Array Bool → World → Prop} {C : World → Prop} {i : Nat} {oi : Oper} {v : Value} (hi : ops[i]? = some oi)
    (hsel : ∀ (j : Nat) (o : Oper) cs b, ops[j]? = some o → o.op ≠ .select cs b) (hdef : ∀ (j : Nat) (o : Oper) c, ops[j]? = some o → o.op ≠ .defer c) (hQ : ∀ c a w, Q (.panic c) (a.put oi.dst v) w → Q (.panic c) a w)
    (hC : ∀ l w, Closed ops l → l.getD i true = false → S l w → C w) (hup : ∀ l w, S l w → S (l.setIfInBounds i true) w) (hdn : ∀ l w, S (l.setIfInBounds i true) w → S l w) :
    ∀ (fuel : Nat) (listed : Array Bool) (a : Act) (w : World), Closed ops listed →
      (∀ j oj, ops[j]? = some oj → j ≠ i → listed.getD j true = false → (∀ e ∈ oj.after, Region.binds .any e = true → e.on ≠ i) → oi.apart ops oj = true) →
      i ∈ Region.ready .any ops listed → YieldsIf P ops C oi v a → S listed w →
      wpAnyG ro P .any ops Q S fuel (listed.setIfInBounds i true) (a.put oi.dst v) w → wpAnyG ro P .any ops Q S (fuel + 1) listed a w := by
  intro fuel
  induction fuel with
  | zero =>
    intro listed a w hcl _ hr hy hS H
    refine ⟨fun h => (by rw [h] at hr; cases hr), fun j hj => ?_⟩
    by_cases hji : j = i
    · subst hji
      exact yieldsIf_wpOpW hi hy (hC _ _ hcl (mem_ready.1 hr).1 hS) ⟨hup _ _ hS, H⟩
    · have := ready_mono hj hji
      rw [H.1] at this
      cases this
  | succ fuel ih =>
    intro listed a w hcl hfree hr hy hS H
    refine ⟨fun h => (by rw [h] at hr; cases hr), fun j hj => ?_⟩
    by_cases hji : j = i
    · subst hji
      exact yieldsIf_wpOpW hi hy (hC _ _ hcl (mem_ready.1 hr).1 hS) ⟨hup _ _ hS, H⟩
    · have h1 := H.2 j (ready_mono hj hji)
      obtain ⟨hjun, oj, hoj, hall⟩ := mem_ready.1 hj
      have hnot : ∀ e ∈ oj.after, Region.binds .any e = true → e.on ≠ i := fun e he hb heq => by
        have h1 := hall e he hb
        have h0 := (mem_ready.1 hr).1
        rw [heq] at h1
        rcases Nat.lt_or_ge i listed.size with h' | h'
        · simp [h'] at h0 h1; rw [h0] at h1; cases h1
        · simp [Array.getElem?_eq_none h'] at h1
      have h2 := wpOpW_putIf hoj (hfree j oj hoj hji hjun hnot) (fun cs b => hsel i oi cs b hi) (fun cs b => hsel j oj cs b hoj) (fun c => hdef j oj c hoj) hQ hy h1
      have hfree' : ∀ k ok, ops[k]? = some ok → k ≠ i → (listed.setIfInBounds j true).getD k true = false →
          (∀ e ∈ ok.after, Region.binds .any e = true → e.on ≠ i) → oi.apart ops ok = true := fun k ok hk hki hun hno => by
        refine hfree k ok hk hki ?_ hno
        by_cases hjk : j = k
        · subst hjk; exact hjun
        · rw [getD_set_ne true hjk] at hun; exact hun
      refine wpOpIn_mono (fun a' w' h3 => ?_) h2
      have hS3 : S (listed.setIfInBounds j true) w' := hdn _ _ (by rw [Array.setIfInBounds_comm _ _ hji]; exact h3.2.1)
      refine ⟨hS3, ih (listed.setIfInBounds j true) a' w' (hcl.ready hj) hfree' (ready_mono hr (Ne.symm hji)) h3.1 hS3 ?_⟩
      rw [Array.setIfInBounds_comm _ _ hji]
      exact h3.2.2
theorem wpAnyG_done {ops : Array Oper} {Q : Exit → Act → World → Prop} {S : Array Bool → World → Prop} {listed : Array Bool} {a : Act} {w : World} (hr : Region.ready .any ops listed = []) (h : Q .normal a w) :
    ∀ fuel, wpAnyG ro P .any ops Q S fuel listed a w
  | 0 => ⟨hr, h⟩
  | _ + 1 => ⟨fun _ => h, by rw [hr]; simp⟩

/-! what waits for a load -/
theorem depsGo_spec {ops : Array Oper} {listed : Array Bool} {L : Nat} (hcl : Closed ops listed) : ∀ (l : List Oper) (i : Nat) (acc : List Nat), (∀ j, l[j]? = ops[i + j]?) →
    (∀ d ∈ acc, listed.getD d false = true → listed.getD L false = true) → ∀ d ∈ depsGo i l acc, listed.getD d false = true → listed.getD L false = true
  | [], _, _, _, h, d, hd, hl => h d hd hl
  | o :: r, i, acc, hl0, h, d, hd, hl => by
    have ho : ops[i]? = some o := by have := hl0 0; simpa using this.symm
    have hr : ∀ j, r[j]? = ops[i + 1 + j]? := fun j => by have := hl0 (j + 1); rw [show i + (j + 1) = i + 1 + j by omega] at this; simpa using this
    simp only [depsGo] at hd
    split at hd
    · rename_i hany
      refine depsGo_spec hcl r (i + 1) _ hr (fun d hd hld => ?_) d hd hl
      cases hd with
      | head =>
        simp only [List.any_eq_true, Bool.and_eq_true] at hany
        obtain ⟨e, he, hb, hc⟩ := hany
        exact h e.on (by simpa using hc) (hcl i o ho hld e (by simpa using he) hb)
      | tail _ hd => exact h d hd hld
    · exact depsGo_spec hcl r (i + 1) _ hr h d hd hl
theorem voided_listed {ops : Array Oper} {listed : Array Bool} {L : Nat} (hcl : Closed ops listed) (h : voided ops listed L = true) : listed.getD L false = true := by
  simp only [voided, List.any_eq_true, Bool.and_eq_true] at h
  obtain ⟨j, hj, _, hl⟩ := h
  refine depsGo_spec hcl ops.toList 0 [L] (fun j => by simp) (fun d hd hl => ?_) j hj hl
  simp only [List.mem_singleton] at hd
  subst hd
  exact hl
theorem voided_set {ops : Array Oper} {listed : Array Bool} {i L : Nat} (h : voided ops listed L = true) : voided ops (listed.setIfInBounds i true) L = true := by
  simp only [voided, List.any_eq_true, Bool.and_eq_true] at h ⊢
  obtain ⟨j, hj, h1, h2⟩ := h
  exact ⟨j, hj, h1, getD_set_true h2⟩
theorem voided_taken {ops : Array Oper} {listed : Array Bool} {i L : Nat} (hi : loud ops i = false) (h : voided ops (listed.setIfInBounds i true) L = true) : voided ops listed L = true := by
  simp only [voided, List.any_eq_true, Bool.and_eq_true] at h ⊢
  obtain ⟨j, hj, h1, h2⟩ := h
  refine ⟨j, hj, h1, ?_⟩
  have hne : i ≠ j := fun e => by subst e; rw [hi] at h1; cases h1
  rwa [getD_set_ne false hne] at h2
def HeldP (ops : Array Oper) (listed : Array Bool) (S : HeldL) (w : World) : Prop := ∀ x ∈ S, voided ops listed x.1 = true ∨ w.cell? x.2.1 = some x.2.2
theorem HeldP_iff {ops : Array Oper} {listed : Array Bool} {S : HeldL} {w : World} : HeldP ops listed S w ↔ ∀ x ∈ S, voided ops listed x.1 = true ∨ w.cell? x.2.1 = some x.2.2 := Iff.rfl
theorem HeldG_out {ops : Array Oper} {listed : Array Bool} {k : Prop} : ∀ {S : HeldL} {w : World}, HeldG ops listed S w k → HeldP ops listed S w ∧ k
  | [], _, h => ⟨(fun _ hx => by cases hx), h⟩
  | (L, a, v) :: r, w, h => by
    simp only [HeldG] at h
    split at h
    · rename_i hv
      obtain ⟨h1, h2⟩ := HeldG_out h
      refine ⟨fun x hx => ?_, h2⟩
      cases hx with
      | head => exact .inl hv
      | tail _ hx => exact h1 x hx
    · obtain ⟨h0, h⟩ := h
      obtain ⟨h1, h2⟩ := HeldG_out h
      refine ⟨fun x hx => ?_, h2⟩
      cases hx with
      | head => exact .inr h0
      | tail _ hx => exact h1 x hx
theorem HeldC_iff : ∀ {S : HeldL} {w : World}, HeldC S w ↔ ∀ x ∈ S, w.cell? x.2.1 = some x.2.2
  | [], w => by simp [HeldC]
  | (L, a, v) :: r, w => by simp [HeldC, HeldC_iff]

theorem AllP.get {p : Nat → Prop} : ∀ {l : List Nat}, AllP l p → ∀ i ∈ l, p i
  | [], _, i, h => by cases h
  | [j], h, i, hi => by
    cases hi with
    | head => exact h
    | tail _ hh => cases hh
  | j :: j' :: r, h, i, hi => by
    cases hi with
    | head => exact h.1
    | tail _ hh => exact AllP.get h.2 i hh

theorem NQ_panic {n : Nat} {ws : List Nat} {a0 : Act} {k : Env → World → Prop} (d : Option Tmp) (v : Value) :
    ∀ (c : List PanicEntry) (a : Act) (w : World), NQ D n ws a0 k (.panic c) (a.put d v) w → NQ D n ws a0 k (.panic c) a w := fun _ _ _ h => h.elim

theorem find_takeable {ops : Array Oper} {listed : Array Bool} {l : List Nat} {i : Nat} (h : l.find? (takeable ops listed) = some i) :
    i ∈ l ∧ ∃ o, ops[i]? = some o ∧ opTaken o.op = true ∧ Region.free .any ops listed i = true := by
  have h1 := List.mem_of_find?_eq_some h
  have h2 := List.find?_some h
  refine ⟨h1, ?_⟩
  unfold takeable at h2
  split at h2
  · rename_i o ho
    split at h2
    · rename_i ht
      exact ⟨o, ho, ht, h2⟩
    · cases h2
  · cases h2

theorem lwDraw_sound {fs : List Nat} (hfs : AllOK P fs) {ops : Array Oper} (hsel : Region.noSelect ops = true) (hnd : noDefer ops = true) {n : Nat} {ws : List Nat} {a0 : Act} {k : Env → World → Prop}
    (hd : ∀ o ∈ ops, ∀ d, o.dst = some d → d < n ∧ d ∈ ws) :
    ∀ (fuel : Nat) (listed : Array Bool) (S : HeldL) (a : Act) (e : Env) (w : World), Closed ops listed → Rep D n a e → Same ws a0 a → HeldP ops listed S w → lwDraw P fs ops fuel listed S e w k →
      wpAnyG ro P .any ops (NQ D n ws a0 k) (fun l w => HeldP ops l S w) fuel listed a w
  | 0, listed, S, a, e, w, _, hr, hs, _, h => by
    unfold lwDraw at h
    split at h
    · rename_i hrd; exact ⟨hrd, e, hr, hs, h⟩
    · exact h.elim
  | fuel + 1, listed, S, a, e, w, hcl, hr, hs, hS, h => by
    unfold lwDraw at h
    split at h
    · rename_i hrd
      exact wpAnyG_done hrd ⟨e, hr, hs, h⟩ _
    · rename_i i0 rs hrd
      split at h
      · rename_i i hi
        obtain ⟨hmem, o, ho, htk, hfree⟩ := find_takeable hi
        have hmo : o ∈ ops := Array.mem_of_getElem? ho
        have hd1 : ∀ d, o.dst = some d → d < n := fun d hh => (hd o hmo d hh).1
        have hd2 : ∀ d, o.dst = some d → d ∈ ws := fun d hh => (hd o hmo d hh).2
        have hready : i ∈ Region.ready .any ops listed := by rw [hrd]; exact hmem
        have hquiet : loud ops i = false := by simp [loud, ho, htk]
        have hup : ∀ (S : HeldL) l w, HeldP ops l S w → HeldP ops (l.setIfInBounds i true) S w := fun S l w h => by
          rw [HeldP_iff] at h ⊢
          exact fun x hx => (h x hx).imp voided_set id
        have hdn : ∀ (S : HeldL) l w, HeldP ops (l.setIfInBounds i true) S w → HeldP ops l S w := fun S l w h => by
          rw [HeldP_iff] at h ⊢
          exact fun x hx => (h x hx).imp (voided_taken hquiet) id
        rw [ho] at h
        simp only at h
        rcases guardW_sound hr h with ⟨hw, e', hr', h⟩ | ⟨hw, e', hr', h⟩
        · obtain ⟨v, h1, h2, h3⟩ := lwOp_taken (m := i) hr' htk h
          have hS' : ∀ l w, HeldC (heldOf P i o e' v) w → HeldP ops l S w → HeldP ops l (heldOf P i o e' v ++ S) w := fun l w hc hg => by
            rw [HeldC_iff] at hc
            rw [HeldP_iff] at hg ⊢
            exact fun x hx => (List.mem_append.1 hx).elim (fun hx => .inr (hc x hx)) (hg x)
          have ih := lwDraw_sound hfs hsel hnd hd fuel _ _ _ _ w (hcl.ready hready) (hr'.upO hd1 v) (hs.put hd2 v) (hS' _ _ h2 (hup _ _ _ hS)) h3
          have := wpAnyG_first (S := fun l w => HeldP ops l (heldOf P i o e' v ++ S) w) (C := HeldC (heldOf P i o e' v)) (v := v) ho (Region.noSelect_spec hsel) (noDefer_spec hnd) (NQ_panic o.dst v)
            (fun l w hcl' hun hg => by
              rw [HeldP_iff] at hg
              rw [HeldC_iff]
              intro x hx
              refine (hg x (List.mem_append_left _ hx)).resolve_left fun hv => ?_
              have := voided_listed hcl' hv
              rw [heldOf_num x hx] at this
              rcases Nat.lt_or_ge i l.size with h' | h'
              · simp [h'] at this hun; rw [hun] at this; cases this
              · simp [Array.getElem?_eq_none h'] at this)
            (hup _) (hdn _) fuel listed a w hcl (Region.free_spec ho hfree) hready (Or.inl ⟨hw, fun w' hw' => h1 w' hw'⟩) (hS' _ _ h2 hS) ih
          refine wpAnyG_mono (fun l w' hw' => ?_) _ _ _ _ this
          rw [HeldP_iff] at hw' ⊢
          exact fun x hx => hw' x (List.mem_append_right _ hx)
        · have ih := lwDraw_sound hfs hsel hnd hd fuel _ _ _ _ w (hcl.ready hready) (hr'.upO hd1 undef) (hs.put hd2 undef) (hup _ _ _ hS) h
          exact wpAnyG_first (C := fun _ => True) (v := undef) ho (Region.noSelect_spec hsel) (noDefer_spec hnd) (NQ_panic o.dst undef) (fun _ _ _ _ _ => trivial) (hup _) (hdn _) fuel listed a w hcl
            (Region.free_spec ho hfree) hready (Or.inr ⟨hw, rfl⟩) hS ih
      · refine ⟨fun h0 => (by rw [hrd] at h0; cases h0), fun i hi => ?_⟩
        have hready := hi
        rw [hrd] at hi
        have h' := h.get i hi
        split at h'
        · exact h'.elim
        · rename_i o ho
          have hmo : o ∈ ops := Array.mem_of_getElem? ho
          have hd1 : ∀ d, o.dst = some d → d < n := fun d hh => (hd o hmo d hh).1
          have hd2 : ∀ d, o.dst = some d → d ∈ ws := fun d hh => (hd o hmo d hh).2
          unfold wpOpIn
          rw [ho]
          simp only
          rcases guardW_sound hr h' with ⟨hw, e', hr', h'⟩ | ⟨hw, e', hr', h'⟩
          · rw [if_pos hw]
            refine lwOp_sound hfs hr' h' _ _ fun v w' h3 => ?_
            obtain ⟨h4, h5⟩ := HeldG_out h3
            exact ⟨h4, lwDraw_sound hfs hsel hnd hd fuel _ _ _ _ w' (hcl.ready hready) (hr'.upO hd1 v) (hs.put hd2 v) h4 h5⟩
          · rw [if_neg (by simp [hw])]
            have hS2 : HeldP ops (listed.setIfInBounds i true) S w := by
              rw [HeldP_iff] at hS ⊢
              exact fun x hx => (hS x hx).imp voided_set id
            exact ⟨fun _ _ => trivial, hS2, lwDraw_sound hfs hsel hnd hd fuel _ _ _ _ w (hcl.ready hready) (hr'.upO hd1 undef) (hs.put hd2 undef) hS2 h'⟩
theorem closed_start (ops : Array Oper) (n : Nat) : Closed ops (Array.replicate n false) := by
  intro j o _ hj
  exfalso
  rcases Nat.lt_or_ge j n with h | h
  · simp [h] at hj
  · rw [Array.getD_eq_getD_getElem?, Array.getElem?_eq_none (by simpa using h)] at hj
    cases hj

/-! ### Code -/
def CQ (D : List Deferred) (n : Nat) (ws : List Nat) (a0 : Act) (K : Exit → Env → World → Prop) : Exit → Act → World → Prop :=
  fun x a w => ∃ e, Rep D n a e ∧ Same ws a0 a ∧ K x e w
theorem NQ_CQ {n : Nat} {ws : List Nat} {a0 : Act} {K : Exit → Env → World → Prop} : ∀ (x : Exit) (a : Act) (w : World), NQ D n ws a0 (fun e w => K .normal e w) x a w → CQ D n ws a0 K x a w := by
  intro x a w h
  cases x <;> first | exact h | exact (h : False).elim
theorem keepOk_spec {l ws : List Nat} (h : keepOk l ws = true) {t : Nat} (ht : l.contains t = true) : t ∉ ws := by
  simp only [keepOk, List.all_eq_true, Bool.not_eq_true'] at h
  have := h t (by simpa using ht)
  intro hh
  simp [hh] at this
theorem Rep.keep {n : Nat} {a a' : Act} {e : Env} {ws l : List Nat} (h : Rep D n a e) (hs : Same ws a a') (hz : a'.tmps.size = n) (hd : a'.defers = D) (hk : keepOk l ws = true) : Rep D n a' (keepE l e) := by
  refine ⟨hz, hd, fun t v ht => ?_⟩
  unfold keepE at ht
  split at ht
  · rename_i hc
    rw [hs t (keepOk_spec hk hc)]
    exact h.2.2 t v ht
  · cases ht
theorem getSt_put {n : Nat} {a : Act} {e : Env} (hr : Rep D n a e) : ∀ {sg : List (Nat × Kd)} {s : St sg} {e' : Env}, getSt sg e = some s → Rep D n a e' → Rep D n a (putSt sg s e')
  | [], _, _, _, h => h
  | p :: r, s, e', hg, h => by
    simp only [getSt] at hg
    split at hg
    · cases hg
    · rename_i v hv
      split at hg
      · cases hg
      · rename_i t ht
        split at hg
        · cases hg
        · rename_i ts hts
          cases hg
          have hv' : e p.1 = some (p.2.v t) := by rw [hv, Kd.get_v ht]
          refine getSt_put hr (sg := r) hts ⟨h.1, h.2.1, fun i u hu => ?_⟩
          by_cases hi : i = p.1
          · subst hi
            rw [Env.up_same] at hu
            cases hu
            exact hr.2.2 _ _ hv'
          · rw [Env.up_other _ _ hi] at hu
            exact h.2.2 _ _ hu

/-! A scope whose labels nothing jumps to. -/
def noGo (Q : Exit → Act → World → Prop) : Exit → Act → World → Prop
  | .goto _, _, _ => False
  | x, a, w => Q x a w
theorem stepR_scope {b : Frame} {a : Act} {k : List Item} {cs : List Frame} {w : World} {c : Code} : step P (lone (b.atR a (.code (.scope c) :: k)) cs w) = .next (lone (b.atR a (.code c :: .inScope c :: k)) cs w) :=
  step_lone_go (by simp [stepG, stepG.exec, Frame.atR])
theorem stepR_inScope {b : Frame} {a : Act} {k : List Item} {cs : List Frame} {w : World} {c : Code} : step P (lone (b.atR a (.inScope c :: k)) cs w) = .next (lone (b.atR a k) cs w) :=
  step_lone_go (by simp [stepG, stepG.exec, Frame.atR])
theorem wpIn_scope {F : Fence} {n : Nat} {Q : Exit → Act → World → Prop} {a : Act} {w : World} {c : Code} (h : c.wpIn F n P (noGo Q) a w) : (Code.scope c).wpIn F n P Q a w := by
  intro b k cs hro hb hr
  have h0 : (lone (b.atR a (.code (.scope c) :: k)) cs w).fenced P F := fenced_calm hb hr rfl
  obtain ⟨e, a₁, w₁, hq, harr⟩ := h b (.inScope c :: k) cs hro hb hr
  cases e with
  | normal => exact ⟨.normal, a₁, w₁, hq, .head h0 stepR_scope (StepsIn.trans harr (.one (fenced_calm hb hr rfl) stepR_inScope))⟩
  | exit id =>
    have hx : exitTo id (.inScope c :: k) = exitTo id k := by simp [exitTo]
    exact ⟨.exit id, a₁, w₁, hq, fun k' hk => .head h0 stepR_scope (harr.1 k' (by rw [hx]; exact hk)),
      fun hr' hk => let ⟨k₁, h1, h2⟩ := harr.2 hr' (by rw [hx]; exact hk); ⟨k₁, h1, .head h0 stepR_scope h2⟩⟩
  | goto l => exact hq.elim
  | ret => exact ⟨_, a₁, w₁, hq, .of_steps (.one h0 stepR_scope) harr⟩
  | panic ch => exact ⟨_, a₁, w₁, hq, .of_steps (.one h0 stepR_scope) harr⟩
  | outgrown => exact ⟨_, a₁, w₁, hq, .of_steps (.one h0 stepR_scope) harr⟩

theorem lw_sound {fs : List Nat} (hfs : AllOK P fs) (hm : P.follows .mixedOrders = true) {n : Nat} :
    ∀ (c : Code) (an : Ann) (e : Env) (w : World) (K : Exit → Env → World → Prop) (a : Act), (∀ d, d ∈ wr c → d < n) → Rep D n a e → lw P fs c an e w K → c.wpIn (Wf ro) 0 P (CQ D n (wr c) a K) a w := by
  intro c
  induction c with
  | skip => intro an e w K a _ hr h; exact wpIn_skip ⟨e, hr, Same.refl _ _, h⟩
  | label l => intro an e w K a _ hr h; exact wpIn_label ⟨e, hr, Same.refl _ _, h⟩
  | ret => intro an e w K a _ hr h; exact wpIn_ret ⟨e, hr, Same.refl _ _, h⟩
  | exit id => intro an e w K a _ hr h; exact wpIn_exit ⟨e, hr, Same.refl _ _, h⟩
  | goto l => intro an e w K a _ hr h; exact wpIn_goto ⟨e, hr, Same.refl _ _, h⟩
  | region id ops draw =>
    intro an e w K a hd hr h
    have hdst : ∀ o ∈ ops.toList, ∀ d, o.dst = some d → d ∈ wr (.region id ops draw) := fun o ho d hh => List.mem_filterMap.2 ⟨o, ho, hh⟩
    cases draw with
    | false =>
      have := lwOps_sound (ro := ro) hfs (ops := ops) (ws := wr (.region id ops false)) (a0 := a) ops.toList a e w (fun o ho d hh => ⟨hd _ (hdst o ho d hh), hdst o ho d hh⟩) hr (Same.refl _ _) h
      exact Code.wpIn_mono NQ_CQ (wpIn_region_list this)
    | true =>
      simp only [lw] at h
      split at h
      · rename_i hsel
        have := lwDraw_sound (ro := ro) hfs (by simp only [Bool.and_eq_true] at hsel; exact hsel.1) (by simp only [Bool.and_eq_true] at hsel; exact hsel.2) (ws := wr (.region id ops true)) (a0 := a) (fun o ho d hh => ⟨hd _ (hdst o (by simpa using ho) d hh), hdst o (by simpa using ho) d hh⟩) ops.size _ [] a e w.drew (closed_start _ _) hr (Same.refl _ _) (fun _ hx => by cases hx) h
        exact Code.wpIn_mono NQ_CQ (wpIn_region_any hm (wpAny_of_G _ _ _ _ this))
      · exact h.elim
  | seq x y ihx ihy =>
    intro an e w K a hd hr h
    have hdx : ∀ d, d ∈ wr x → d < n := fun d hh => hd d (List.mem_append_left _ hh)
    have hdy : ∀ d, d ∈ wr y → d < n := fun d hh => hd d (List.mem_append_right _ hh)
    have left : ∀ {a a' : Act}, Same (wr x) a a' → Same (wr (.seq x y)) a a' := fun h => h.mono fun t ht => List.mem_append_left _ ht
    have right : ∀ {a a' : Act}, Same (wr y) a a' → Same (wr (.seq x y)) a a' := fun h => h.mono fun t ht => List.mem_append_right _ ht
    cases an with
    | seq j aa ab =>
      cases j with
      | none =>
        refine wpIn_seq (Code.wpIn_mono ?_ (ihx aa e w _ a hdx hr h))
        rintro z a' w' ⟨e', hr', hs', h'⟩
        cases z with
        | normal =>
          refine Code.wpIn_mono ?_ (ihy ab e' w' _ a' hdy hr' h')
          rintro z a'' w'' ⟨e'', hr'', hs'', h''⟩
          exact ⟨e'', hr'', (left hs').trans (right hs''), h''⟩
        | _ => exact ⟨e', hr', left hs', h'⟩
      | some j =>
        simp only [lw] at h
        split at h
        · rename_i hk
          obtain ⟨M, h1, h2⟩ := h
          refine wpIn_seq (Code.wpIn_mono ?_ (ihx aa e w _ a hdx hr h1))
          rintro z a' w' ⟨e', hr', hs', h'⟩
          cases z with
          | normal =>
            simp only [seqK] at h'
            split at h'
            · rename_i s hg
              have hr2 : Rep D n a' (putSt j.sg s (keepE j.keep e)) := getSt_put hr' hg (hr.keep hs' hr'.1 hr'.2.1 hk)
              refine Code.wpIn_mono ?_ (ihy ab _ w' _ a' hdy hr2 (h2 s w' h'))
              rintro z a'' w'' ⟨e'', hr'', hs'', h''⟩
              exact ⟨e'', hr'', (left hs').trans (right hs''), h''⟩
            · exact h'.elim
          | _ => exact ⟨e', hr', left hs', h'⟩
        · exact h.elim
    | _ => exact h.elim
  | cond c x y ihx ihy =>
    intro an e w K a hd hr h
    have hdx : ∀ d, d ∈ wr x → d < n := fun d hh => hd d (List.mem_append_left _ hh)
    have hdy : ∀ d, d ∈ wr y → d < n := fun d hh => hd d (List.mem_append_right _ hh)
    cases an with
    | cond aa ab =>
      simp only [lw] at h
      split at h
      · rename_i t ht
        refine wpIn_cond_split (hr.ev ht) (fun hb => ?_) (fun hb => ?_)
        · subst hb
          refine Code.wpIn_mono ?_ (ihx aa e w K a hdx hr h)
          rintro z a'' w'' ⟨e'', hr'', hs'', h''⟩
          exact ⟨e'', hr'', hs''.mono fun t ht => List.mem_append_left _ ht, h''⟩
        · subst hb
          refine Code.wpIn_mono ?_ (ihy ab e w K a hdy hr h)
          rintro z a'' w'' ⟨e'', hr'', hs'', h''⟩
          exact ⟨e'', hr'', hs''.mono fun t ht => List.mem_append_right _ ht, h''⟩
      · exact h.elim
    | _ => exact h.elim
  | block id x ih =>
    intro an e w K a hd hr h
    cases an with
    | one aa =>
      refine wpIn_block (Code.wpIn_mono ?_ (ih aa e w _ a hd hr h))
      rintro z a' w' ⟨e', hr', hs', h'⟩
      cases z with
      | exit j =>
        simp only [blockK] at h'
        split at h'
        · rename_i hj
          have hj := Nat.eq_of_beq_eq_true hj
          simp only [Exit.inBlock, hj, if_true]
          exact ⟨e', hr', hs', h'⟩
        · rename_i hj
          have hj : ¬ j = id := fun hh => by subst hh; simp at hj
          simp only [Exit.inBlock, hj, if_false]
          exact ⟨e', hr', hs', h'⟩
      | _ => exact ⟨e', hr', hs', h'⟩
    | _ => exact h.elim
  | scope x ih =>
    intro an e w K a hd hr h
    cases an with
    | one aa =>
      refine wpIn_scope (Code.wpIn_mono ?_ (ih aa e w _ a hd hr h))
      rintro z a' w' ⟨e', hr', hs', h'⟩
      cases z with
      | goto l => exact (h' : False).elim
      | _ => exact ⟨e', hr', hs', h'⟩
    | _ => exact h.elim
  | loop x ih =>
    intro an e w K a hd hr h
    cases an with
    | loop j aa =>
      simp only [lw] at h
      split at h
      · rename_i hk
        split at h
        · rename_i s hg
          obtain ⟨I, μ, h0, hround⟩ := h
          refine wpIn_loop_ghost (fun m a' w' => ∃ s, I s w' ∧ μ s w' = m ∧ Rep D n a' (putSt j.sg s (keepE j.keep e)) ∧ Same (wr x) a a') (μ s w) ⟨s, h0, rfl, getSt_put hr hg (hr.keep (Same.refl _ _) hr.1 hr.2.1 hk), Same.refl _ _⟩ ?_
          rintro m a' w' ⟨s', h1, h2, h3, h4⟩
          refine Code.wpIn_mono ?_ (ih aa _ w' _ a' hd h3 (hround s' w' h1))
          rintro z a'' w'' ⟨e'', hr'', hs'', h''⟩
          cases z with
          | normal =>
            simp only [seqK] at h''
            split at h''
            · rename_i s2 hg2
              refine ⟨μ s2 w'', by omega, s2, h''.1, rfl, ?_, h4.trans hs''⟩
              exact getSt_put hr'' hg2 (hr.keep (h4.trans hs'') hr''.1 hr''.2.1 hk)
            · exact h''.elim
          | _ => exact ⟨e'', hr'', h4.trans hs'', h''⟩
        · exact h.elim
      · exact h.elim
    | _ => exact h.elim
  | _ => intro an e w K a hd hr h; exact h.elim

/-! ### Functions -/
def resStep (tmps : Array Value) : ResultVar → Sem Value
  | .tmp t => pure (tmps.getD t undef)
  | .cell x t => do loadVar t (← asAddr (tmps.getD x undef))
theorem resV_sound {n : Nat} {a : Act} {e : Env} (hr : Rep D n a e) {w : World} : ∀ {rs : List ResultVar} {acc : List Value} {k : List Value → Prop}, resV P e w rs acc k →
    ∃ vs, (rs.mapM (resStep a.tmps)).run P w = .ok vs w ∧ k (acc.reverse ++ vs)
  | [], acc, k, h => ⟨[], by simp, by rw [List.append_nil]; exact h⟩
  | .tmp t :: r, acc, k, h => by
    simp only [resV] at h
    split at h
    · rename_i v hv
      obtain ⟨vs, h1, h2⟩ := resV_sound hr h
      exact ⟨v :: vs, by simp only [List.mapM_cons, Sem.run_bind, Sem.run_pure, Result.andThen_ok, h1, resStep, hr.2.2 t v hv], by simpa using h2⟩
    · exact h.elim
  | .cell t ty :: r, acc, k, h => by
    simp only [resV] at h
    split at h
    · rename_i p hp
      split at h
      · rename_i κ hκ
        obtain ⟨ad, rfl, h⟩ := derefP_out h
        obtain ⟨x, hx, h⟩ := ldK_sound hκ h
        obtain ⟨vs, h1, h2⟩ := resV_sound hr h
        have hs : (resStep a.tmps (.cell t ty)).run P w = .ok (κ.v x) w := by simp [resStep, hr.2.2 t _ hp, asAddr, hx]
        exact ⟨κ.v x :: vs, by simp only [List.mapM_cons, Sem.run_bind, Sem.run_pure, Result.andThen_ok, h1, hs], by simpa using h2⟩
      · exact h.elim
    · exact h.elim
theorem results_eq (fn : Func) (tmps : Array Value) : results fn tmps = (do let vs ← fn.results.mapM (resStep tmps); pure (if h : vs.size = 1 then vs[0] else .tuple vs)) := by
  unfold results
  congr 2
theorem run_results {n : Nat} {a : Act} {e : Env} (hr : Rep D n a e) {w : World} {fn : Func} {R : Value → World → Prop} (h : resV P e w fn.results.toList [] fun l => R (oneOrTuple l) w) :
    ∃ v, (results fn a.tmps).run P w = .ok v w ∧ R v w := by
  obtain ⟨vs, h1, h2⟩ := resV_sound hr h
  refine ⟨oneOrTuple vs, ?_, by simpa using h2⟩
  have e1 : fn.results = fn.results.toList.toArray := by simp
  rw [results_eq, e1, List.mapM_toArray]
  simp only [Sem.run_bind, Sem.run_map, h1, Result.andThen_ok, Sem.run_pure]
  congr 1
  match vs with
  | [] => rfl
  | [v] => rfl
  | _ :: _ :: _ => simp [oneOrTuple]

theorem argsE_spec : ∀ (l : List Value) (i t : Nat) (v : Value), argsE l i t = some v → i ≤ t ∧ l[t - i]? = some v
  | [], _, _, _, h => by simp [argsE] at h
  | u :: r, i, t, v, h => by
    simp only [argsE] at h
    by_cases ht : t = i
    · subst ht
      rw [Env.up_same] at h
      cases h
      exact ⟨Nat.le_refl _, by simp⟩
    · rw [Env.up_other _ _ ht] at h
      obtain ⟨h1, h2⟩ := argsE_spec r (i + 1) t v h
      refine ⟨by omega, ?_⟩
      rw [show t - i = (t - (i + 1)) + 1 by omega, List.getElem?_cons_succ]
      exact h2
def dstsOk (n : Nat) (c : Code) : Bool := (wr c).all fun d => Nat.blt d n
/-- **From what a function's code comes to, to the call.** -/
theorem lw_calls {fs : List Nat} (hfs : AllOK P fs) (hm : P.follows .mixedOrders = true) {f : Nat} {fn : Func} {an : Ann} {args : List Value} {w : World} {R : Value → World → Prop}
    (hf : P.funcs[f]? = some fn) (hn : (match fn.body with | some c => dstsOk fn.ntmps c | none => false) = true) (hz : Nat.ble args.length fn.ntmps = true) (h : lwFn P fs fn an args w R) :
    Calls P f args.toArray w (Ret R) := by
  unfold lwFn at h
  cases hb : fn.body with
  | none => rw [hb] at h; exact h.elim
  | some c =>
    rw [hb] at h hn
    simp only at h hn
    have hz' := Nat.le_of_ble_eq_true hz
    refine calls_of_wp hf hb ?_
    have hr : Rep [] fn.ntmps { tmps := args.toArray ++ Array.replicate (fn.ntmps - args.toArray.size) undef, defers := [] } (argsE args 0) := by
      refine ⟨by simp; omega, rfl, fun t v ht => ?_⟩
      obtain ⟨_, h2⟩ := argsE_spec _ _ _ _ ht
      rw [Nat.sub_zero] at h2
      have hlt : t < args.length := by
        rcases Nat.lt_or_ge t args.length with h | h
        · exact h
        · rw [List.getElem?_eq_none h] at h2; cases h2
      have : args[t] = v := by rw [List.getElem?_eq_getElem hlt] at h2; exact Option.some.inj h2
      have hlt2 : t < args.length + (fn.ntmps - args.length) := by omega
      simp [hlt, hlt2, this]
    refine (wpIn_wide (n := 0)).1 (Code.wpIn_mono (F := Wf none) ?_ (lw_sound (ro := none) hfs hm c an _ w _ _ (fun d hd => by simp only [dstsOk, List.all_eq_true] at hn; exact Nat.le_of_ble_eq_true (hn d hd)) hr h))
    rintro x a w' ⟨e', hr', _, h'⟩
    cases x with
    | normal => exact ⟨hr'.2.1, run_results hr' h'⟩
    | ret => exact ⟨hr'.2.1, run_results hr' h'⟩
    | _ => exact h'.elim

end Go.Gk
