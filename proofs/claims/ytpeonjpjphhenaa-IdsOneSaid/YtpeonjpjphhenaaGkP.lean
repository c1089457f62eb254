/-
  Ranges over functions: what is laid, kept, closed; Maps of numbers in memory.
-/
import Derived.Test.YtpeonjpjphhenaaGkR
import Derived.Test.YtpeonjpjphhenaaGkC
import Derived.MapKept
/-!
  Ranges over functions: what is laid, kept, closed.
-/
namespace Go.Gk
open Go.RowKit
/-- The blocks from B on that wC has are as they were. -/
def Keep (B : Nat) (wC w : World) : Prop := ∀ k, B ≤ k → k < wC.heap.size → w.heap[k]? = wC.heap[k]?
theorem Keep.refl (B : Nat) (w : World) : Keep B w w := fun _ _ _ => rfl
theorem Keep.below {B : Nat} {wC w w' : World} (h : Keep B wC w) (hs : wC.heap.size ≤ w.heap.size) (hb : Below w.heap.size w w') : Keep B wC w' := fun k h1 h2 => (hb.block k (by omega)).trans (h k h1 h2)
theorem Keep.belowC {B C : Nat} {wC w w' : World} (h : Keep B wC w) (hs : wC.heap.size ≤ C) (hb : Below C w w') : Keep B wC w' := fun k h1 h2 => (hb.block k (by omega)).trans (h k h1 h2)
theorem Keep.set {B : Nat} {wC w : World} (h : Keep B wC w) {b : Nat} (hb : b < B ∨ wC.heap.size ≤ b) (n : Nat) (v : Value) : Keep B wC (w.setCell ((blk b).add n) v) :=
  fun k h1 h2 => (Below.heap_setCell _ _ _ _ (by rw [add_block]; show k ≠ b; omega)).trans (h k h1 h2)
theorem Keep.put {B : Nat} {wC w : World} (h : Keep B wC w) {b : Nat} (hb : b < B ∨ wC.heap.size ≤ b) (o : Obj) : Keep B wC (w.putObj b o) :=
  fun k h1 h2 => (World.putObj_heap_other (by omega)).trans (h k h1 h2)
theorem Keep.alloc {B : Nat} {wC w : World} (h : Keep B wC w) (hs : wC.heap.size ≤ w.heap.size) (o : Obj) : Keep B wC (w.alloc o) := fun k h1 h2 => (alloc_old w o (by omega)).trans (h k h1 h2)
theorem Blk.put {w : World} {b : Nat} {T : TypeId} {cs : List Value} (h : Blk w b T cs) {l : Nat} (hl : b ≠ l) (o : Obj) : Blk (w.putObj l o) b T cs := h.of_block (World.putObj_heap_other hl)
theorem _root_.Go.RowKit.Below.putObj {B : Nat} {w w' : World} (h : Below B w w') {b : Nat} (hb : B ≤ b) (o : Obj) : Below B w (w'.putObj b o) :=
  ⟨h.os, h.tape, h.output, by simpa using h.size, fun k hk => (World.putObj_heap_other (by omega)).trans (h.block k hk)⟩
theorem heap_set_other {w : World} {b k : Nat} (h : k ≠ b) (n : Nat) (v : Value) : (w.setCell ((blk b).add n) v).heap[k]? = w.heap[k]? := Below.heap_setCell _ _ _ _ (by rw [add_block]; exact h)
/-- The two blocks that a range lays. -/
theorem laid_below (w : World) (o o' : Obj) : Below w.heap.size w ((w.alloc o).alloc o') := (((Below.refl _ _).alloc (Nat.le_refl _) o).alloc (by simp) o')
theorem laid_size (w : World) (o o' : Obj) : ((w.alloc o).alloc o').heap.size = w.heap.size + 2 := by simp
theorem laid_d (w : World) (o o' : Obj) : ((w.alloc o).alloc o').heap[w.heap.size]? = some o := (alloc_old (w.alloc o) o' (by simp)).trans (World.alloc_heap_new w o)
theorem laid_l (w : World) (o o' : Obj) : ((w.alloc o).alloc o').heap[w.heap.size + 1]? = some o' := by
  have := World.alloc_heap_new (w.alloc o) o'
  simpa using this
theorem funcNil_func {f : Fn} {a b : Array Value} {k : Bool → Prop} (h : k false) : funcNil (.func f a b) k := h
theorem closeM_one {d : Nat} {w : World} {k : World → Prop} (h : w.heap[d]? = some (.deferred (some []))) (hk : k (w.putObj d (.deferred none))) : closeM [d] w k := ⟨h, hk⟩
theorem callV.mono {P : Program} {fs : List Nat} {f : Value} {args : List Value} {w : World} {S T : Value → World → Prop} (h : callV P fs f args w S) (hk : ∀ v w', S v w' → T v w') : callV P fs f args w T := by
  revert h
  unfold callV
  split
  · split
    · exact fun h => callR.mono h hk
    · rintro ⟨v, w', h1, h2⟩
      exact ⟨v, w', h1, hk _ _ h2⟩
  · rintro ⟨r, h1, h2, h3⟩
    exact ⟨r, h1, h2, RoundIn.mono h3 fun e w' he => by cases e <;> first | exact hk _ _ he | exact he.elim⟩
  · exact id
end Go.Gk

/-!
  Maps of numbers in memory.
-/
namespace Go.Gk
open Go.RowKit Go.MapKept
variable {P : Program}

/-- What is at a key, and a key set. -/
def lookL : List (Int × Int) → Int → Option Int
  | [], _ => none
  | p :: r, k => if k = p.1 then some p.2 else lookL r k
def setL : List (Int × Int) → Int → Int → List (Int × Int)
  | [], k, v => [(k, v)]
  | p :: r, k, v => if k = p.1 then (k, v) :: r else p :: setL r k v
theorem lookL_set (k v k' : Int) : ∀ L, lookL (setL L k v) k' = if k' = k then some v else lookL L k'
  | [] => by simp only [setL, lookL]
  | p :: r => by
    have ih := lookL_set k v k' r
    simp only [setL]
    split
    · rename_i e
      simp only [lookL]
      split
      · rfl
      · rename_i e'
        rw [if_neg (by rw [← e]; exact e')]
    · rename_i e
      simp only [lookL]
      split
      · rename_i e'
        rw [if_neg (by rw [e']; exact fun h => e h.symm)]
      · exact ih
/-- The map at block r has the entries L, in this order. -/
def IsMp (w : World) (r : Nat) (κ : IntKind) (L : List (Int × Int)) : Prop :=
  ∃ es clock, w.heap[r]? = some (.map es clock) ∧ es.toList.map (fun e => (e.key, e.val)) = (L.map fun p => (Value.int .u32 p.1, Value.int κ p.2)) ∧ (∀ x ∈ es.toList, x.born < clock) ∧ (es.toList.map (·.born)).Nodup
theorem IsMp.lt {w : World} {r : Nat} {κ : IntKind} {L : List (Int × Int)} (h : IsMp w r κ L) : r < w.heap.size := by
  obtain ⟨es, c, h, _⟩ := h
  exact (Array.getElem?_eq_some_iff.1 h).1
theorem IsMp.of_block {w w' : World} {r : Nat} {κ : IntKind} {L : List (Int × Int)} (h : IsMp w r κ L) (hb : w'.heap[r]? = w.heap[r]?) : IsMp w' r κ L := by
  obtain ⟨es, c, h, h2⟩ := h
  exact ⟨es, c, hb.trans h, h2⟩
theorem IsMp.below {w w' : World} {r : Nat} {κ : IntKind} {L : List (Int × Int)} (h : IsMp w r κ L) (hb : Below w.heap.size w w') : IsMp w' r κ L := h.of_block (hb.block r h.lt)
theorem IsMp.drew {w : World} {r : Nat} {κ : IntKind} {L : List (Int × Int)} (h : IsMp w r κ L) : IsMp w.drew r κ L := h
theorem IsMp.new (w : World) (κ : IntKind) : IsMp (w.alloc (.map #[] 0)) w.heap.size κ [] := ⟨#[], 0, by show (w.heap.push _)[w.heap.size]? = _; simp, rfl, (by simp), by simp⟩
theorem IsMp.notBlk {w : World} {r b : Nat} {κ : IntKind} {L : List (Int × Int)} (h : IsMp w r κ L) {T : TypeId} {cs : List Value} (hB : Blk w b T cs) : r ≠ b := by
  rintro rfl
  obtain ⟨es, c, h, _⟩ := h
  have := (show w.heap[r]? = _ from hB).symm.trans h
  simp at this
theorem findNow_of (κ : IntKind) (k : Int) : ∀ (es : List MapEntry) (L : List (Int × Int)) (i : Nat), es.map (fun e => (e.key, e.val)) = (L.map fun p => (Value.int .u32 p.1, Value.int κ p.2)) →
    ∃ o, Instr.findNow (.int .u32) (.int .u32 k) es i = some o ∧ (match o with
      | none => lookL L k = none
      | some (j, v) => ∃ m x, j = i + m ∧ m < es.length ∧ v = .int κ x ∧ lookL L k = some x ∧ ∃ e, es[m]? = some e ∧ e.key = .int .u32 k ∧ ∀ v', (es.modify m fun e => { e with key := .int .u32 k, val := .int κ v' }).map (fun e => (e.key, e.val)) = (setL L k v').map fun p => (Value.int .u32 p.1, Value.int κ p.2))
  | [], [], i, _ => ⟨none, rfl, rfl⟩
  | [], _ :: _, _, h => by simp at h
  | _ :: _, [], _, h => by simp at h
  | e :: es, p :: L, i, h => by
    simp only [List.map_cons, List.cons.injEq, Prod.mk.injEq] at h
    obtain ⟨⟨h1, h2⟩, h3⟩ := h
    unfold Instr.findNow
    rw [h1]
    simp only [Instr.sameNow, if_true]
    by_cases hk : k = p.1
    · rw [show (k == p.1) = true from beq_iff_eq.2 hk]
      refine ⟨some (i, e.val), rfl, 0, p.2, rfl, by simp, h2, by simp [lookL, hk], e, rfl, by rw [h1, hk], fun v' => ?_⟩
      simp [setL, hk, h3]
    · rw [show (k == p.1) = false from beq_eq_false_iff_ne.2 hk]
      obtain ⟨o, ho, hm⟩ := findNow_of κ k es L (i + 1) h3
      refine ⟨o, ho, ?_⟩
      cases o with
      | none => simpa [lookL, hk] using hm
      | some q =>
        obtain ⟨j, v⟩ := q
        obtain ⟨m, x, g1, g2, g3, g4, e', g5, g6, g7⟩ := hm
        refine ⟨m + 1, x, by omega, by simp; omega, g3, by simpa [lookL, hk] using g4, e', by simpa using g5, g6, fun v' => ?_⟩
        have := g7 v'
        simp [setL, hk, h1, h2, this]

theorem run_lookNow {t kt et : TypeId} (ht : P.underlying t = some (.map kt et)) (hk : P.underlying kt = some (.int .u32)) {κ : IntKind} (hz : ∃ i, P.info? et = some i ∧ i.zero = some (.int κ 0)) {w : World} {r : Nat} {L : List (Int × Int)} (h : IsMp w r κ L) (k : Int) (ok : Bool) :
    (Instr.lookup t (.map (some r)) (.int .u32 k) ok).run P w = .ok (if ok then .tuple #[.int κ ((lookL L k).getD 0), .bool (lookL L k).isSome] else .int κ ((lookL L k).getD 0)) w := by
  obtain ⟨es, c, hb, hes, _⟩ := h
  obtain ⟨i, hi, hzi⟩ := hz
  obtain ⟨o, ho, hm⟩ := findNow_of κ k es.toList L 0 hes
  unfold Instr.lookup
  have hck : ∀ e, (Instr.checkKey e 10000 kt (.int .u32 k)).run P w = .ok () w := fun e => run_checkKey (d := .int .u32) hk (by simp [IsKey]) e 9999
  have hg : (getObj r).run P w = .ok (.map es c) w := Go.MapKept.run_getObj_map hb
  simp only [Sem.run_bind, run_underlying ht, Result.andThen_ok, hg, Sem.run_pure, hck, run_findKey hk ho]
  cases o with
  | none =>
    have hzr : (zeroValue et).run P w = .ok (.int κ 0) w := by simp [zeroValue, typeInfo, hi, hzi, Result.andThen]
    have hm : lookL L k = none := hm
    simp only [Sem.run_bind, hzr, Result.andThen_ok, Sem.run_pure, hm, Option.getD_none, Option.isSome_none]
  | some q =>
    obtain ⟨j, v⟩ := q
    obtain ⟨m, x, g1, g2, g3, g4, _⟩ := hm
    simp only [Sem.run_bind, Sem.run_pure, Result.andThen_ok, g3, g4, Option.getD_some, Option.isSome_some]
theorem lookOk_of {t kt et : TypeId} (ht : P.underlying t = some (.map kt et)) (hk : P.underlying kt = some (.int .u32)) {κ : IntKind} (hz : ∃ i, P.info? et = some i ∧ i.zero = some (.int κ 0)) {w : World} {r : Nat} {L : List (Int × Int)} (h : IsMp w r κ L) {k : Int} {φ : Int → Bool → Prop}
    (hφ : φ ((lookL L k).getD 0) (lookL L k).isSome) : lookOk P t (.map (some r)) (.int .u32 k) (BK.int κ) w φ := ⟨(lookL L k).getD 0, (lookL L k).isSome, run_lookNow ht hk hz h k true, hφ⟩
theorem lookV_of {t kt et : TypeId} (ht : P.underlying t = some (.map kt et)) (hk : P.underlying kt = some (.int .u32)) {κ : IntKind} (hz : ∃ i, P.info? et = some i ∧ i.zero = some (.int κ 0)) {w : World} {r : Nat} {L : List (Int × Int)} (h : IsMp w r κ L) {k : Int} {φ : Int → Prop}
    (hφ : φ ((lookL L k).getD 0)) : lookV P t (.map (some r)) (.int .u32 k) (BK.int κ) w φ := ⟨(lookL L k).getD 0, run_lookNow ht hk hz h k false, hφ⟩
theorem updW_of {t kt et : TypeId} (ht : P.underlying t = some (.map kt et)) (hk : P.underlying kt = some (.int .u32)) {κ : IntKind} {w : World} {r : Nat} {L : List (Int × Int)} (h : IsMp w r κ L) {k v : Int} {K : World → Prop}
    (hK : ∀ w', IsMp w' r κ (setL L k v) → Go.Proofs.Chg r w w' → K w') : updW P t (.map (some r)) (.int .u32 k) (.int κ v) w K := by
  have hlt := h.lt
  obtain ⟨es, c, hb, hes, hstamp, hnd⟩ := h
  obtain ⟨o, ho, hm⟩ := findNow_of κ k es.toList L 0 hes
  have hck : ∀ e, (Instr.checkKey e 10000 kt (.int .u32 k)).run P w = .ok () w := fun e => run_checkKey (d := .int .u32) hk (by simp [IsKey]) e 9999
  have hg : (getObj r).run P w = .ok (.map es c) w := Go.MapKept.run_getObj_map hb
  have chg : ∀ ob : Obj, Go.Proofs.Chg r w { w with heap := w.heap.setIfInBounds r ob } := fun ob => ⟨rfl, rfl, rfl, by simp, fun i hi => by simp [Array.getElem?_setIfInBounds_ne (Ne.symm hi)]⟩
  unfold updW Instr.mapUpdate
  simp only [Sem.run_bind, run_underlying ht, Result.andThen_ok, hg, Sem.run_pure, hck, run_findKey hk ho]
  cases o with
  | none =>
    simp only [run_setObj_map _ hb]
    refine ⟨_, rfl, hK _ ⟨_, _, (heap_set hb).1, ?_, fun x hx => ?_, ?_⟩ (chg _)⟩
    rotate_left
    · rw [Array.toList_push] at hx
      rcases List.mem_append.1 hx with hx | hx
      · exact Nat.lt_succ_of_lt (hstamp x hx)
      · rw [List.mem_singleton.1 hx]
        exact Nat.lt_succ_self c
    · rw [Array.toList_push, List.map_append]
      refine List.nodup_append.2 ⟨hnd, by simp, ?_⟩
      intro a ha b hb e
      obtain ⟨x, hx, rfl⟩ := List.mem_map.1 ha
      simp only [List.map_cons, List.map_nil, List.mem_singleton] at hb
      have := hstamp x hx
      omega
    simp only [Array.toList_push, List.map_append, hes, List.map_cons, List.map_nil]
    have : ∀ L : List (Int × Int), lookL L k = none → setL L k v = L ++ [(k, v)] := by
      intro L
      induction L with
      | nil => intro _; rfl
      | cons p r ih =>
        intro hn
        simp only [lookL] at hn
        split at hn
        · cases hn
        · rename_i e
          simp only [setL]
          rw [if_neg e, ih hn]
          rfl
    rw [this L hm]
    simp
  | some q =>
    obtain ⟨j, v0⟩ := q
    obtain ⟨m, x, g1, g2, g3, g4, e, g5, g6, g7⟩ := hm
    have hj : j = m := by omega
    subst hj
    have hst : (Instr.keyThatStays (((es[j]?).map (·.key)).getD (.int .u32 k)) (.int .u32 k)).run P w = .ok (.int .u32 k) w := by
      have : ((es[j]?).map (·.key)).getD (.int .u32 k) = .int .u32 k := by
        rw [← Array.getElem?_toList, g5]
        exact g6
      rw [this]
      unfold Instr.keyThatStays
      rw [if_pos (by simp [Instr.sameBits])]
      rfl
    simp only [Sem.run_bind, hst, Result.andThen_ok, run_setObj_map _ hb]
    have hbn : (es.modify j fun e => { e with key := .int .u32 k, val := .int κ v }).toList.map (·.born) = es.toList.map (·.born) := by
      rw [Array.toList_modify]
      apply List.ext_getElem
      · simp
      · intro n q1 q2
        simp only [List.getElem_map, List.getElem_modify]
        split <;> rfl
    refine ⟨_, rfl, hK _ ⟨_, _, (heap_set hb).1, ?_, fun x hx => ?_, by rw [hbn]; exact hnd⟩ (chg _)⟩
    rotate_left
    · have : x.born ∈ es.toList.map (·.born) := by rw [← hbn]; exact List.mem_map.2 ⟨x, hx, rfl⟩
      obtain ⟨y, hy, e⟩ := List.mem_map.1 this
      rw [← e]
      exact hstamp y hy
    have := g7 v
    rw [← this]
    congr 1
    rw [Array.toList_modify]

end Go.Gk
