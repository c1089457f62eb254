/-
  From a law's walk to the given row: what the rows' forms ask around it.
-/
import Derived.Test.YtpeonjpjphhenaaRows
import Derived.Test.YtpeonjpjphhenaaGkM
import Derived.Below
import Derived.Carry
import Derived.SizedLaws
import Derived.JoinedOf
import Derived.OpenShut
import Derived.Deep.Matrix
namespace Go.Proofs
open Go.Gk Go.RowKit Go.ChangeShapes Go.WideShapes Go.Deep

namespace Jn
theorem own : ownKnob Try.prog.godebug = none := by kernel_rfl
theorem laidOut : laidOutB Try.prog = true := by kernel_rfl
/-! The row's closed facts that ask the program's head: word by word (in one piece they want more memory than there is). -/
theorem words_word : ∀ (w : List Nat), w.all (fun n => Char.ofNat n != Char.ofNat 32) = true → ∀ r : List Char, wordsSigns (w.map Char.ofNat ++ (Char.ofNat 32 :: r)) = w.map Char.ofNat :: wordsSigns r
  | [], _, _ => rfl
  | n :: w, h, r => by
    simp only [List.all_cons, Bool.and_eq_true, bne_iff_ne, ne_eq] at h
    have ih := words_word w (by simpa using h.2) r
    rw [List.map_cons, List.cons_append]
    have : wordsSigns (Char.ofNat n :: (w.map Char.ofNat ++ (Char.ofNat 32 :: r))) = (match wordsSigns (w.map Char.ofNat ++ (Char.ofNat 32 :: r)) with
      | w :: ws => (Char.ofNat n :: w) :: ws
      | [] => [[Char.ofNat n]]) := by
      rw [wordsSigns] <;> first | rfl | exact h.1
    rw [this, ih]
def n1 : List Nat := [104, 97, 114, 110, 101, 115, 115]
def n2 : List Nat := [54, 51, 54, 97, 49, 102, 53, 100, 98, 51, 51, 57, 50, 57, 48, 56, 56, 49, 50, 102, 98, 98, 51, 102, 52, 100, 48, 101, 49, 98, 51, 55, 98, 99, 48, 48, 48, 97, 99, 101, 49, 54, 101, 100, 49, 100, 51, 102, 53, 53, 48, 48, 54, 53, 51, 51, 50, 55, 56, 101, 54, 54, 51, 56]
def n3 : List Nat := [99, 117, 116]
def n4 : List Nat := [97, 116, 32, 105, 110, 116, 97, 103, 108, 105, 111, 47, 105, 110, 116, 97, 103, 108, 105, 111, 108, 97, 119, 48, 57, 46, 73, 100, 115, 67, 104, 101, 99, 107, 115, 32, 105, 110, 116, 97, 103, 108, 105, 111, 47, 105, 110, 116, 97, 103, 108, 105, 111, 108, 97, 119, 48, 57, 46, 73, 100, 115, 82, 101, 110, 117, 109, 98, 101, 114, 115, 32, 105, 110, 116, 97, 103, 108, 105, 111, 47, 105, 110, 116, 97, 103, 108, 105, 111, 108, 97, 119, 48, 57, 46, 73, 100, 115, 82, 101, 110, 97, 109, 101, 115, 32, 105, 110, 116, 97, 103, 108, 105, 111, 47, 105, 110, 116, 97, 103, 108, 105, 111, 108, 97, 119, 48, 57, 46, 73, 100, 115, 66, 97, 99, 107, 32, 105, 110, 116, 97, 103, 108, 105, 111, 47, 105, 110, 116, 97, 103, 108, 105, 111, 108, 97, 119, 48, 57, 46, 73, 100, 115, 79, 110, 101, 32, 105, 110, 116, 97, 103, 108, 105, 111, 47, 105, 110, 116, 97, 103, 108, 105, 111, 108, 97, 119, 49, 52, 46, 71, 114, 97, 112, 104, 66, 108, 111, 99, 107, 115, 32, 105, 110, 116, 97, 103, 108, 105, 111, 47, 105, 110, 116, 97, 103, 108, 105, 111, 108, 97, 119, 49, 52, 46, 71, 114, 97, 112, 104, 82, 101, 110, 97, 109, 101, 100]
theorem ini : Try.prog.initOrder.toList = n1.map Char.ofNat ++ (Char.ofNat 32 :: (n2.map Char.ofNat ++ (Char.ofNat 32 :: (n3.map Char.ofNat ++ (Char.ofNat 32 :: n4.map Char.ofNat))))) := by
  have h : Try.prog.initOrder = String.ofList (n1.map Char.ofNat ++ (Char.ofNat 32 :: (n2.map Char.ofNat ++ (Char.ofNat 32 :: (n3.map Char.ofNat ++ (Char.ofNat 32 :: n4.map Char.ofNat)))))) := by kernel_rfl
  rw [h, String.toList_ofList]
theorem words : behindMainWord (wordsSigns Try.prog.initOrder.toList) = n3.map Char.ofNat :: wordsSigns (n4.map Char.ofNat) := by
  rw [ini, words_word n1 (by decide +kernel), words_word n2 (by decide +kernel), words_word n3 (by decide +kernel)]
  unfold behindMainWord
  exact if_pos (by kernel_rfl)
theorem make_of {P : Program} {c : List Char} {rest : List (List Char)} (h : behindMainWord (wordsSigns P.initOrder.toList) = c :: rest) (h1 : (c == "gc".toList || c == "spec".toList) = false) (h2 : (c == "cut".toList) = true) : P.make = some .cut := by
  unfold Program.make
  rw [h]
  simp only [h1, h2, Bool.true_or, if_true, Bool.false_eq_true, if_false]
theorem lifts_of {P : Program} {c : List Char} {rest : List (List Char)} (h : behindMainWord (wordsSigns P.initOrder.toList) = c :: rest) (h1 : (c == "carried".toList) = false) (h3 : stripLifts liftWords (c :: rest) = ([], c :: rest)) : P.liftsFinal = false := by
  unfold Program.liftsFinal Program.headLifts
  rw [h]
  simp only [h3, List.head?_cons]
  have : (some c == some "carried".toList) = false := h1
  rw [this, Bool.false_and, Bool.false_or]
  split <;> rfl
theorem may_of {P : Program} {c : List Char} {rest : List (List Char)} (h : behindMainWord (wordsSigns P.initOrder.toList) = c :: rest) (h2 : (c == "cut".toList) = true) (h3 : stripLifts liftWords (c :: rest) = ([], c :: rest))
    (h4 : P.laysLater = false) (h5 : P.bearsReflect = false) (h6 : P.doorFits [] = true) : P.mayEnter = true := by
  unfold Program.mayEnter
  rw [h]
  have : (some c == some "cut".toList) = true := h2
  simp only [h3, h4, h5, h6, List.head?_cons, this, Bool.not_false, Bool.or_true, Bool.and_true, List.contains_nil, Bool.not_false]
theorem c1 : (n3.map Char.ofNat == "gc".toList || n3.map Char.ofNat == "spec".toList) = false := by kernel_rfl
theorem c2 : (n3.map Char.ofNat == "cut".toList) = true := by kernel_rfl
theorem c3 : (n3.map Char.ofNat == "carried".toList) = false := by kernel_rfl
theorem c4 (rest : List (List Char)) : stripLifts liftWords (n3.map Char.ofNat :: rest) = ([], n3.map Char.ofNat :: rest) := by kernel_rfl
theorem makeE : Try.prog.make = some .cut := make_of words c1 c2
theorem liftsE : Try.prog.liftsFinal = false := lifts_of words c3 (c4 _)
theorem c5 : Try.prog.laysLater = false := by kernel_rfl
theorem c6 : Try.prog.bearsReflect = false := by kernel_rfl
theorem c7 : Try.prog.doorFits [] = true := by kernel_rfl
theorem mayEnterE : Try.prog.mayEnter = true := may_of words c2 (c4 _) c5 c6 c7

theorem facts {f : FuncId} {fn : Func} {s : ChangeSpec} {c : OpenClaim} (h : (joinedFacts Try.prog f fn s c && true) = true) : joinedFacts Try.prog f fn s c = true := by rw [Bool.and_true] at h; exact h
section
variable {H : Type} {enc : TypeId × Value → H}

/-- Arguments read behind the call as they did. -/
theorem all_stay {W W' : World} (hb : Below W.heap.size W W') : ∀ {ts : List TypeId} {vs : List Value} {ds : List (DataW H)} {ps : List MemPlace}, (∀ t ∈ ts, Try.prog.readableRec t = true ∧ t < Try.prog.types.size) → (∀ x ∈ ps, x.block < W.heap.size) →
    DataW.TrodAll enc Try.prog W 0 (fun _ => true) true ts vs ds ps → DataW.TrodAll enc Try.prog W' 0 (fun b => decide (b < W.heap.size)) true ts vs ds ps := by
  intro ts
  induction ts with
  | nil =>
    intro vs ds ps _ _ h
    obtain ⟨rfl, rfl, rfl⟩ := trodAll_nil h
    exact trodAll_mk0
  | cons t ts ih =>
    intro vs ds ps ht hlt h
    obtain ⟨v, vs', d, ds', p, q, rfl, rfl, rfl, h1, h2⟩ := trodAll_cons h
    refine trodAll_cons_mk (Below.trod laidOut (ht t (by simp)).1 (ht t (by simp)).2 h1 hb (fun x hx => hlt x (by simp [hx]))) (ih (fun t ht' => ht t (by simp [ht'])) (fun x hx => hlt x (by simp [hx])) h2)

/-- What a law that says true and lays only new memory leaves. -/
theorem post_true {fn : Func} {s : ChangeSpec} {W W' : World} {args : Array Value} {ds gs : List (DataW H)} {before : List MemPlace} (hres : fn.resultTypes = #[4])
    (hread : ∀ t ∈ fn.params.toList, Try.prog.readableRec t = true ∧ t < Try.prog.types.size) (hv : s.vars = []) (hfn : s.fn H ds = { results := [.lit (.bool true)], args := ds })
    (hW : DataW.Whole enc Try.prog fn.params.toList s.vars false W args.toList ds gs before) (hb : Below W.heap.size W W') :
    s.post enc Try.prog fn false true false false W args (.bool true) W' := by
  have hW' := hW
  obtain ⟨p, q, hA, hV, rfl, hfz, hnd⟩ := hW
  rw [hv] at hV
  obtain ⟨rfl, rfl⟩ := trodVars_none hV
  have hlt := hW'.lt
  refine ⟨ds, [], p ++ [], [], p, [], hW', ?_, ?_, ?_, hb.frame _, fun h => by cases h⟩
  · rw [List.append_nil, hfn, hres]
    exact trodAll_mk1 (shut_bool Try.underlying4 _)
  · rw [List.append_nil, hfn]
    exact all_stay hb hread (fun x hx => hlt x (by simp [hx])) hA
  · rw [List.append_nil, hfn, hv]
    exact rfl

theorem weights_all {P : Program} {e : TypeId} {d : DataW H} {n : Nat} (hn : n ∈ d.weights P e) : ∀ {l : List (DataW H)}, d ∈ l → n ∈ DataW.weightsAll P e l
  | x :: r, h => by
    simp only [DataW.weightsAll, List.mem_append]
    rcases List.mem_cons.1 h with rfl | h
    · exact .inl hn
    · exact .inr (weights_all hn h)

set_option maxRecDepth 20000 in
/-- A [][]int that is handed in. -/
theorem open_rows {W : World} {base : Nat} {v : Value} {d : DataW H} {p : List MemPlace} (hv : Value.okWide Try.prog W .any base 105 v) (h0 : DataW.Trod enc Try.prog W 0 (fun _ => true) true 105 v d p)
    (hz : ∀ n ∈ d.weights Try.prog 105, n ≤ reachBytes) :
    ∃ s hs ll, v = .slice s.a s.l s.c ∧ IsII W s hs ll ∧ 24 * ll.length ≤ 281474976710656 ∧ ∀ l ∈ ll, 8 * l.length ≤ 281474976710656 := by
  obtain ⟨a0, len, cap, rfl⟩ := okWide_slice Try.underlying105 hv
  obtain ⟨fuel0, hf⟩ := h0
  have b24 : Try.prog.bytesOf 46 = 24 := by kernel_rfl
  have b8 : Try.prog.bytesOf 3 = 8 := by kernel_rfl
  have hr : reachBytes = 140737488351232 := by decide +kernel
  have hm63 : maxLen = 9223372036854775807 := by decide +kernel
  rcases open_int_rows Try.underlying105 Try.underlying46 Try.underlying3 (by kernel_rfl) (by kernel_rfl) hf with ⟨hcs0, hx⟩ | ⟨a, len', cap', A, L, C, Z, hcs0, _, hl, hm, hx, hrows⟩
  · simp [Value.cells] at hcs0
    obtain ⟨rfl, rfl, rfl⟩ := hcs0
    exact ⟨⟨none, 0, 0⟩, [], [], rfl, ⟨⟨rfl, Nat.le_refl _, Nat.zero_le _, fun _ => rfl, fun a ha => by cases ha⟩, rfl, fun i hi => by cases hi⟩, by simp, by simp⟩
  · simp [Value.cells] at hcs0
    obtain ⟨rfl, rfl, rfl⟩ := hcs0
    simp only [Prod.mk.injEq] at hx
    obtain ⟨rfl, _⟩ := hx
    have each : ∀ r, r < cap → IsI W ⟨A r, L r, C r⟩ ((Z r).take (L r)) := by
      intro r hr'
      obtain ⟨_, h1, h2, h3, _, h5, h6⟩ := hrows r hr'
      refine ⟨by rw [List.length_take]; show L r = _; omega, h1, by rw [← hm63]; exact h2, h5, fun a' ha i hi => ?_⟩
      have hi' : i < L r := by rw [List.length_take] at hi; omega
      have := (h6 a' ha).2 i (by omega)
      rw [this]
      simp [List.getD, show i < (Z r).length by omega]
    refine ⟨⟨some a, len, cap⟩, (List.range len).map fun r => ⟨A r, L r, C r⟩, (List.range len).map fun r => (Z r).take (L r), rfl, ⟨⟨by simp, hl, by rw [← hm63]; exact hm, (fun h => by cases h), ?_⟩, by simp, ?_⟩, ?_, ?_⟩
    · intro a' ha i hi
      cases ha
      have hi' : i < len := by simpa using hi
      rw [(hrows i (by omega)).1]
      simp [Sl.val]
    · intro i hi hi'
      have hi'' : i < len := by simpa using hi
      simp only [List.getElem_map, List.getElem_range]
      exact each i (by omega)
    · have := hz (((List.range len).map fun r => intRow (H := H) .i64 (A r) (L r) (Z r)).length * 24 + ((List.range (cap - len)).map fun j => intRow (H := H) .i64 (A (len + j)) (L (len + j)) (Z (len + j))).length * 24)
        (by simp only [DataW.weights, Try.underlying105, b24, ← Nat.add_mul]; exact List.mem_cons_self)
      simp only [List.length_map, List.length_range] at this ⊢
      omega
    · intro l hl'
      obtain ⟨r, hr', rfl⟩ := List.mem_map.1 hl'
      have hr' := List.mem_range.1 hr'
      rw [List.length_take]
      obtain ⟨_, h1, h2, h3, _, h5, h6⟩ := hrows r (by omega)
      cases hA : A r with
      | none => have := h5 hA; omega
      | some a' =>
        have hmem : intRow (H := H) .i64 (A r) (L r) (Z r) ∈ (List.range len).map fun r => intRow (H := H) .i64 (A r) (L r) (Z r) := List.mem_map.2 ⟨r, List.mem_range.2 hr', rfl⟩
        have hn : ((lits (H := H) .i64 ((Z r).take (L r))).length + (lits (H := H) .i64 ((Z r).drop (L r))).length) * 8 ∈ (intRow (H := H) .i64 (A r) (L r) (Z r)).weights Try.prog 46 := by
          rw [hA]
          simp only [intRow, DataW.weights, Try.underlying46, b8]
          exact List.mem_cons_self
        have := hz _ (by
          simp only [DataW.weights, Try.underlying105]
          exact List.mem_cons_of_mem _ (List.mem_append.2 (.inl (weights_all hn hmem))))
        simp only [lits, List.length_map, List.length_take, List.length_drop] at this
        omega
end
end Jn
end Go.Proofs
