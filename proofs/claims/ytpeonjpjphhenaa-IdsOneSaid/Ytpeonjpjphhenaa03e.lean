/-
  The program's enumerants, and the document's.
-/
import Derived.Test.Ytpeonjpjphhenaa03r
import Derived.Test.YtpeonjpjphhenaaGkP
namespace Go.Gm
open Go.Gk
/-- A number of digits, as the code reckons it. -/
def numS (n : Int) (c : UInt8) : Int := IntKind.u32.wrap (IntKind.u32.wrap (10 * n) + IntKind.u32.wrap (IntKind.i32.wrap ((c.toNat : Int) - 48)))
def numP (s : Bs) : Int := s.foldl numS 0
/-- Names and numbers, taken apart: the number, the word, whether it is the name's turn; what was found. -/
abbrev EnS := Int × Bs × Bool × List (Int × Bs)
def enS (st : EnS) (c : UInt8) : EnS :=
  if c = 32 then (if st.2.2.1 = true then (st.1, [], false, st.2.2.2 ++ [(st.1, st.2.1)]) else (numP st.2.1, [], true, st.2.2.2)) else (st.1, st.2.1 ++ [c], st.2.2.1, st.2.2.2)
def enG (s : Bs) : EnS := s.foldl enS (0, [], false, [])
def enL (c : Int) : List (Int × Bs) := (enG ((Gm.look tabN c).getD [])).2.2.2
theorem enG_snoc (s : Bs) (c : UInt8) : enG (s ++ [c]) = enS (enG s) c := by simp [enG, List.foldl_append]
theorem enS_pre (st : EnS) (c : UInt8) : st.2.2.2 <+: (enS st c).2.2.2 := by
  unfold enS
  split
  · split
    · exact List.prefix_append _ _
    · exact List.prefix_refl _
  · exact List.prefix_refl _
theorem foldl_pre (l : Bs) : ∀ st : EnS, st.2.2.2 <+: (l.foldl enS st).2.2.2 := by
  induction l with
  | nil => intro st; exact List.prefix_refl _
  | cons c l ih => intro st; exact (enS_pre st c).trans (ih _)
theorem enG_pre (s : Bs) (k : Nat) : (enG (s.take k)).2.2.2 <+: (enG s).2.2.2 := by
  have : enG s = (s.drop k).foldl enS (enG (s.take k)) := by
    unfold enG
    rw [← List.foldl_append, List.take_append_drop]
  rw [this]
  exact foldl_pre _ _
theorem enG_word (s : Bs) : (enG s).2.1.length ≤ s.length := by
  suffices h : ∀ (l : Bs) (st : EnS), (l.foldl enS st).2.1.length ≤ st.2.1.length + l.length by
    have := h s (0, [], false, [])
    unfold enG
    simpa using this
  intro l
  induction l with
  | nil => intro st; simp
  | cons c l ih =>
    intro st
    have h1 := ih (enS st c)
    have h2 : (enS st c).2.1.length ≤ st.2.1.length + 1 := by
      unfold enS
      split
      · split <;> simp
      · simp
    simp only [List.foldl_cons, List.length_cons]
    omega
theorem enG_ascii {s : Bs} (h : ∀ c ∈ s, c < 128) : ∀ c ∈ (enG s).2.1, c < 128 := by
  suffices g : ∀ (l : Bs) (st : EnS), (∀ c ∈ l, c < 128) → (∀ c ∈ st.2.1, c < 128) → ∀ c ∈ (l.foldl enS st).2.1, c < 128 from g s (0, [], false, []) h (by simp)
  intro l
  induction l with
  | nil => intro st _ h; exact h
  | cons c l ih =>
    intro st hl hs
    refine ih (enS st c) (fun d hd => hl d (List.mem_cons_of_mem _ hd)) ?_
    unfold enS
    split
    · split <;> simp
    · intro d hd
      rcases List.mem_append.1 hd with h | h
      · exact hs d h
      · rw [List.mem_singleton.1 h]; exact hl c List.mem_cons_self
theorem names_ascii : tabN.all (fun p => p.2.all (· < 128) && decide (p.2.length ≤ 200)) = true := by decide +kernel
theorem names_list : tabN.all (fun p => decide ((enG p.2).2.2.2 = (tabM.filter fun q => decide (q.1 = p.1)).map (·.2))) = true := by decide +kernel
/-- Is n an enumerant of the letter? -/
def enumP (c n : Int) : Bool := tabM.any fun q => decide (q.1 = c) && decide (q.2.1 = n)
theorem row_ascii (c : Int) : (∀ b ∈ (Gm.look tabN c).getD [], b < 128) ∧ ((Gm.look tabN c).getD []).length ≤ 200 := by
  cases h : Gm.look tabN c with
  | none => simp
  | some s =>
    have := List.all_eq_true.1 names_ascii _ (look_mem h)
    simp only [Bool.and_eq_true, List.all_eq_true, decide_eq_true_eq] at this
    exact this
theorem enum_iff (c n : Int) : enumP c n = true ↔ ∃ x ∈ enL c, x.1 = n := by
  unfold enumP enL
  rw [List.any_eq_true]
  cases h : Gm.look tabN c with
  | none =>
    constructor
    · rintro ⟨q, hq, e⟩
      rw [Bool.and_eq_true, decide_eq_true_eq] at e
      have := List.all_eq_true.1 names_there _ hq
      rw [e.1, h] at this
      cases this
    · rintro ⟨x, hx, _⟩
      cases hx
  | some s =>
    have := of_decide_eq_true (List.all_eq_true.1 names_list _ (look_mem h))
    simp only [Option.getD_some] at this ⊢
    rw [this]
    constructor
    · rintro ⟨q, hq, e⟩
      rw [Bool.and_eq_true, decide_eq_true_eq, decide_eq_true_eq] at e
      exact ⟨q.2, List.mem_map.2 ⟨q, List.mem_filter.2 ⟨hq, decide_eq_true e.1⟩, rfl⟩, e.2⟩
    · rintro ⟨x, hx, e⟩
      obtain ⟨q, hq, rfl⟩ := List.mem_map.1 hx
      obtain ⟨h1, h2⟩ := List.mem_filter.1 hq
      refine ⟨q, h1, ?_⟩
      rw [Bool.and_eq_true, decide_eq_true_eq]
      exact ⟨of_decide_eq_true h2, decide_eq_true e⟩
end Go.Gm
namespace Go.Proofs
open Go.Gk Go.RowKit Go.Gm

theorem put_self {w : World} {l : Nat} (h : l < w.heap.size) (o : Obj) : (w.putObj l o).heap[l]? = some o := by simp [World.putObj, h]
theorem number_spec {s : Bs} (h128 : ∀ c ∈ s, c < 128) {w : World} {R : Value → World → Prop} (hR : ∀ w', Below w.heap.size w w' → R (.int .u32 (numP s)) w') : callR Try.prog 167 #[.string (bs s)] w R := by
  refine callR.of (grammar_number_calls (bs s) R w ?_) fun _ _ h => h
  refine Nw.gen fun w1 e1 => ?_
  have hI1 : w1.heap[w.heap.size]? = some (.stringIter (bs s) 0) := by
    rw [e1]
    show (w.heap.push _)[w.heap.size]? = _
    simp
  have z1 : w1.heap.size = w.heap.size + 1 := by rw [e1]; simp
  have b1 : Below w.heap.size w w1 := by rw [e1]; exact (Below.refl _ _).alloc (Nat.le_refl _) _
  clear e1
  refine LoopW.ghost (fun j st w' => ∃ k, k ≤ s.length ∧ j = s.length - k ∧ st = (numP (s.take k), ()) ∧ w'.heap.size = w.heap.size + 1 ∧ Below w.heap.size w w' ∧ w'.heap[w.heap.size]? = some (.stringIter (bs s) k)) s.length ⟨0, Nat.zero_le _, rfl, rfl, z1, b1, hI1⟩ ?_
  rintro _ _ w2 ⟨k, hk, rfl, rfl, hz, hb, hI⟩ next hnext
  refine ⟨bs s, k, hI, fun hlt => ?_, fun hge => ?_⟩
  · rw [bs_size] at hlt
    rw [decode_ascii hlt (h128 _ (List.getElem_mem hlt))]
    dsimp only
    have hc := Chg.iter w.heap.size w2 (bs s) (k + 1)
    refine hnext (s.length - (k + 1)) _ _ (by omega) ⟨k + 1, hlt, rfl, ?_, hc.size.trans hz, hc.below hb (Nat.le_refl _), getElem_iter (by omega)⟩
    rw [List.take_succ_eq_append_getElem hlt]
    unfold numP
    rw [List.foldl_append]
    rfl
  · rw [bs_size] at hge
    have hk : k = s.length := by omega
    subst hk
    rw [List.take_length]
    exact hR w2 hb

/-- The walk over a letter's enumerants, with whatever yield. -/
theorem Enums1_spec {y : Value} {c : Int} {pb : Nat} {w : World} (hp : w.cell? (blk pb) = some (.int .u8 c)) (Inv : Nat → World → Prop) (S : World → Prop) (h0 : Inv 0 w) (hkeep : ∀ j w' w'', Inv j w' → w.heap.size ≤ w'.heap.size → Below w.heap.size w' w'' → Inv j w'')
    (hround : ∀ j (hj : j < (enL c).length) w', Inv j w' → callV Try.prog Try.fs y [.int .u32 (enL c)[j].1, .string (bs (enL c)[j].2)] w' fun v w'' => ((v = .bool true ∧ Inv (j + 1) w'') ∨ (v = .bool false ∧ S w'')) ∧ w''.heap.size = w'.heap.size ∧ ∀ b, w.heap.size ≤ b → w''.heap[b]? = w'.heap[b]?)
    (hend : ∀ w', Inv (enL c).length w' → S w') : Calls Try.prog 166 #[y, .pointer (some (blk pb))] w (Ret fun _ w' => S w') := by
  refine grammar_Enums_1_calls y (blk pb) _ w ⟨c, hp, ?_⟩
  refine callR.of (grammar_names_calls c _ w ?_) fun _ _ h => h
  rw [names_E]
  have hrow := row_ascii c
  have hL : enL c = (enG ((Gm.look tabN c).getD [])).2.2.2 := rfl
  suffices go : ∀ s : Bs, s = (Gm.look tabN c).getD [] → (∃ x : ByteArray, Value.string (bs s) = .string x ∧ _) from chain_of (fun x hx => go x (by rw [hx]; rfl)) (fun hx => go [] (by rw [hx]; rfl))
  intro s hs
  rw [← hs] at hrow hL
  obtain ⟨h128, hlen⟩ := hrow
  refine ⟨bs s, rfl, ?_⟩
  refine Nw.gen fun w1 e1 => ?_
  have hI1 : w1.heap[w.heap.size]? = some (.stringIter (bs s) 0) := by
    rw [e1]
    show (w.heap.push _)[w.heap.size]? = _
    simp
  have z1 : w1.heap.size = w.heap.size + 1 := by rw [e1]; simp
  have b1 : Below w.heap.size w w1 := by rw [e1]; exact (Below.refl _ _).alloc (Nat.le_refl _) _
  clear e1
  refine LoopW.ghost (fun j st w' => ∃ k, k ≤ s.length ∧ j = s.length - k ∧ st = ((enG (s.take k)).1, bs (enG (s.take k)).2.1, (enG (s.take k)).2.2.1, ()) ∧ w.heap.size < w'.heap.size ∧ Inv (enG (s.take k)).2.2.2.length w' ∧ w'.heap[w.heap.size]? = some (.stringIter (bs s) k))
    s.length ⟨0, Nat.zero_le _, rfl, rfl, by omega, hkeep 0 w w1 h0 (Nat.le_refl _) b1, hI1⟩ ?_
  rintro _ _ w2 ⟨k, hk, rfl, rfl, hz, hIn, hI⟩ next hnext
  refine ⟨bs s, k, hI, fun hlt => ?_, fun hge => ?_⟩
  · rw [bs_size] at hlt
    have hc128 := h128 _ (List.getElem_mem hlt)
    rw [decode_ascii hlt hc128]
    dsimp only
    have hc := Chg.iter w.heap.size w2 (bs s) (k + 1)
    have hI3 := getElem_iter (w := w2) (s := bs s) (p := k + 1) (r := w.heap.size) (by omega)
    generalize setIter w2 w.heap.size (bs s) (k + 1) = w3 at hc hI3
    have hIn3 := hkeep _ w2 w3 hIn (by omega) (hc.below (Below.refl _ _) (Nat.le_refl _))
    have hz3 := hc.size
    have htk : s.take (k + 1) = s.take k ++ [s[k]] := List.take_succ_eq_append_getElem hlt
    have hst : enG (s.take (k + 1)) = enS (enG (s.take k)) s[k] := by rw [htk, enG_snoc]
    have hpre := enG_pre s (k + 1)
    have hwl := enG_word (s.take k)
    rw [List.length_take] at hwl
    have hwa := enG_ascii (s := s.take k) (fun c hc => h128 c (List.mem_of_mem_take hc))
    rw [hst] at hpre
    have hnx : ∀ w', w.heap.size < w'.heap.size → Inv (enG (s.take (k + 1))).2.2.2.length w' → w'.heap[w.heap.size]? = some (.stringIter (bs s) (k + 1)) → next ((enG (s.take (k + 1))).1, bs (enG (s.take (k + 1))).2.1, (enG (s.take (k + 1))).2.2.1, ()) w' :=
      fun w' h1 h2 h3 => hnext (s.length - (k + 1)) _ _ (by omega) ⟨k + 1, hlt, rfl, rfl, h1, h2, h3⟩
    rw [hst] at hnx
    clear hnext
    generalize enG (s.take k) = st at hnx hpre hwl hwa hIn3 ⊢
    obtain ⟨n, word, nb, out⟩ := st
    dsimp only at hwl hwa hIn3 ⊢
    by_cases e : s[k] = 32
    · have e32 : ((s[k].toNat : Nat) : Int) = 32 := by rw [e]; rfl
      cases nb with
      | false =>
        have hS : enS (n, word, false, out) s[k] = (numP word, [], true, out) := by unfold enS; rw [if_pos e, if_neg (by simp)]
        rw [hS] at hnx
        refine JoinW.cut (fun st w' => st = (numP word, ()) ∧ w.heap.size < w'.heap.size ∧ Inv out.length w' ∧ w'.heap[w.heap.size]? = some (.stringIter (bs s) (k + 1))) ?_ ?_
        · refine ifB_bne (fun h => absurd e32 h) (fun _ => ifB_bool (fun _ => ?_) (fun h => by cases h))
          refine number_spec hwa fun w4 b4 => ⟨_, rfl, rfl, ?_, ?_, ?_⟩
          · have := b4.size
            omega
          · exact hkeep _ w3 w4 hIn3 (by omega) (b4.mono (by omega))
          · rw [b4.block _ (by omega)]; exact hI3
        · rintro ⟨m, _⟩ w' ⟨h1, h2, h3, h4⟩
          cases h1
          exact hnx w' h2 h3 h4
      | true =>
        have hS : enS (n, word, true, out) s[k] = (n, [], false, out ++ [(n, word)]) := by unfold enS; rw [if_pos e, if_pos rfl]
        rw [hS] at hnx hpre
        dsimp only at hpre hnx
        rw [← hL] at hpre
        have hj : out.length < (enL c).length := by
          have := hpre.length_le
          rw [List.length_append, List.length_singleton] at this
          omega
        have hjv : (enL c)[out.length] = (n, word) := by
          obtain ⟨t, ht⟩ := hpre
          have : (enL c)[out.length]? = some (n, word) := by
            rw [← ht]
            simp
          rw [List.getElem?_eq_getElem hj] at this
          exact Option.some.inj this
        refine JoinW.cut (fun st w' => st = (n, ()) ∧ w.heap.size < w'.heap.size ∧ Inv (out ++ [(n, word)]).length w' ∧ w'.heap[w.heap.size]? = some (.stringIter (bs s) (k + 1))) ?_ ?_
        · refine ifB_bne (fun h => absurd e32 h) (fun _ => ifB_bool (fun h => by cases h) (fun _ => ?_))
          have hr := hround out.length hj w3 hIn3
          rw [hjv] at hr
          refine callV.mono hr fun v w4 hv => ?_
          obtain ⟨hv, hsz, hold⟩ := hv
          rcases hv with ⟨rfl, hv⟩ | ⟨rfl, hv⟩
          · refine ⟨true, rfl, ifB_false rfl ⟨rfl, by omega, ?_, ?_⟩⟩
            · rw [List.length_append]; exact hv
            · rw [hold _ (Nat.le_refl _)]; exact hI3
          · exact ⟨false, rfl, ifB_true rfl hv⟩
        · rintro ⟨m, _⟩ w' ⟨h1, h2, h3, h4⟩
          cases h1
          exact hnx w' h2 h3 h4
    · have hS : enS (n, word, nb, out) s[k] = (n, word ++ [s[k]], nb, out) := by unfold enS; rw [if_neg e]
      rw [hS] at hnx
      refine JoinW.cut (fun _ _ => False) ?_ (fun _ _ h => h.elim)
      refine ifB_bne (fun _ => ?_) (fun h => absurd (UInt8.toNat.inj (b := 32) (by have : ((s[k].toNat : Nat) : Int) = 32 := h; show s[k].toNat = 32; omega)) e)
      rw [encode_ascii hc128, bs_append]
      refine ⟨?_, hnx w3 (by omega) hIn3 hI3⟩
      unfold sumFits
      rw [bs_size, bs_size, List.length_singleton]
      omega
  · rw [bs_size] at hge
    have hk : k = s.length := by omega
    subst hk
    rw [List.take_length, ← hL] at hIn
    exact hend w2 hIn

theorem Enum_spec {c n : Int} {w : World} {R : Value → World → Prop} (hR : ∀ s w', Below w.heap.size w w' → R (.tuple #[.string s, .bool (enumP c n)]) w') : callR Try.prog 161 #[.int .u8 c, .int .u32 n] w R := by
  refine callR.of (grammar_Enum_calls c n R w ?_) fun _ _ h => h
  refine lay_of fun w1 hN1 b1 z1 => ?_
  refine lay_of fun w2 hS2 b2 z2 => ?_
  refine lay_of fun w3 hO3 b3 z3 => ?_
  have hN3 := (hN1.below b2).below b3
  have hS3 := hS2.below b3
  have hb3 := (b1.on b2).on b3
  refine callR.of (grammar_Enums_calls c _ w3 ?_) fun _ _ h => h
  refine lay_of fun w4 hC4 b4 z4 => ⟨_, rfl, ?_⟩
  have hN4 : Blk w4 w.heap.size 22 [.int .u32 n] := hN3.below b4
  have hS4 : Blk w4 w1.heap.size 9 [.string (bs [])] := hS3.below b4
  have hO4 : Blk w4 w2.heap.size 4 [.bool false] := hO3.below b4
  have hb4 := hb3.on b4
  intro mk hy
  have hcf : Try.fs.contains 166 = true := by kernel_rfl
  unfold callF
  simp only [hcf]
  generalize hw5 : ((w4.alloc (.deferred (some []))).alloc (mk .ready none)) = w5
  have b5 : Below w4.heap.size w4 w5 := by rw [← hw5]; exact laid_below w4 _ _
  have z5 : w5.heap.size = w4.heap.size + 2 := by rw [← hw5]; exact laid_size w4 _ _
  have hd5 : w5.heap[w4.heap.size]? = some (.deferred (some [])) := by rw [← hw5]; exact laid_d w4 _ _
  have hl5 : w5.heap[w4.heap.size + 1]? = some (mk .ready none) := by rw [← hw5]; exact laid_l w4 _ _
  clear hw5
  have fin0 : ∀ (b : Bool) (s : ByteArray) w', Below w.heap.size w w' → Blk w' w1.heap.size 9 [.string s] → Blk w' w2.heap.size 4 [.bool b] → b = enumP c n → w'.heap[w4.heap.size]? = some (.deferred (some [])) →
      closeM [w4.heap.size] w' fun w13 => ldStr w13 (blk w1.heap.size) fun x9 => ldB w13 (blk w2.heap.size) fun x10 => R (.tuple #[(.string x9), (.bool x10)]) w13 := by
    intro b s w' h1 h2 h3 h4 h5
    refine closeM_one h5 ?_
    refine ⟨s, (h2.put (by omega) _).cell0 rfl, b, (h3.put (by omega) _).cell0 rfl, ?_⟩
    rw [h4]
    exact hR s _ (h1.putObj (by have := hb4.size; omega) _)
  refine Enums1_spec (y := .func (.yield (w4.heap.size + 1)) #[] #[]) ((hC4.below b5).cell0 rfl)
    (fun j w' => w'.heap[w4.heap.size + 1]? = some (mk .ready none) ∧ w'.heap[w4.heap.size]? = some (.deferred (some [])) ∧ Blk w' w.heap.size 22 [.int .u32 n] ∧ Blk w' w1.heap.size 9 [.string (bs [])] ∧ Blk w' w2.heap.size 4 [.bool false] ∧
      Below w.heap.size w w' ∧ ∀ i (hi : i < (enL c).length), i < j → (enL c)[i].1 ≠ n) _
    ⟨hl5, hd5, hN4.below b5, hS4.below b5, hO4.below b5, hb4.on b5, fun i hi h => by omega⟩ ?_ ?_ ?_
  · rintro j w' w'' ⟨h1, h2, h3, h4, h5, h6, h7⟩ hsz hbb
    refine ⟨(hbb.block _ (by omega)).trans h1, (hbb.block _ (by omega)).trans h2, h3.of_block (hbb.block _ (by omega)), h4.of_block (hbb.block _ (by omega)), h5.of_block (hbb.block _ (by omega)), h6.trans (hbb.mono (by omega)), h7⟩
  · rintro j hj w' ⟨h1, h2, h3, h4, h5, h6, h7⟩
    refine hy ((enL c)[j].1, bs (enL c)[j].2, ()) w' _ h1 ⟨h1, Nw.gen fun w6 e6 => ?_⟩
    have ho6 : ∀ b, b ≠ w4.heap.size + 1 → w6.heap[b]? = w'.heap[b]? := fun b hb => by rw [e6]; exact World.putObj_heap_other hb
    have z6 : w6.heap.size = w'.heap.size := by rw [e6]; simp
    have hlt' : w4.heap.size + 1 < w'.heap.size := (Array.getElem?_eq_some_iff.1 h1).1
    have hl6 : w6.heap[w4.heap.size + 1]? = some (mk .busy none) := by rw [e6]; simp [World.putObj, hlt']
    have h66 : Below w.heap.size w w6 := by rw [e6]; exact h6.putObj (by have := hb4.size; omega) _
    clear e6
    refine ⟨n, (h3.of_block (ho6 _ (by omega))).cell0 rfl, ?_⟩
    refine ifB_beq (fun e => ?_) (fun e => ?_)
    · have k4 := h4.of_block (ho6 _ (by omega))
      have k5 := h5.of_block (ho6 _ (by omega))
      refine ⟨k4.wr0 (by simp), Nw.gen fun w7 e7 => ?_⟩
      have c7 : Chg w1.heap.size w6 w7 := by rw [e7]; exact Chg.set w1.heap.size 0 w6 _
      have k4' : Blk w7 w1.heap.size 9 [.string (bs (enL c)[j].2)] := by rw [e7]; exact k4.set0 _
      clear e7
      have k5' := c7.blk k5 (by omega)
      refine ⟨k5'.wr0 (by simp), Nw.gen fun w8 e8 => ?_⟩
      have c8 : Chg w2.heap.size w7 w8 := by rw [e8]; exact Chg.set w2.heap.size 0 w7 _
      have k5'' : Blk w8 w2.heap.size 4 [.bool true] := by rw [e8]; exact k5'.set0 _
      clear e8
      have k4'' := c8.blk k4' (by omega)
      have hl8 : w8.heap[w4.heap.size + 1]? = some (mk .busy none) := by rw [c8.block _ (by omega), c7.block _ (by omega)]; exact hl6
      have b8 := c8.below (c7.below h66 (by have := b1.size; omega)) (by have := b1.size; have := b2.size; omega)
      refine ⟨hl8, .inr ⟨rfl, ?_⟩, ?_, ?_⟩
      · refine .inr ⟨?_, ?_⟩
        · exact put_self (by have := c8.size; have := c7.size; omega) _
        · refine fin0 true (bs (enL c)[j].2) _ ?_ ?_ ?_ ?_ ?_
          · exact (b8.putObj (by have := hb4.size; omega) _).putObj (by have := hb4.size; omega) _
          · exact (k4''.put (by omega) _).put (by omega) _
          · exact (k5''.put (by omega) _).put (by omega) _
          · exact ((enum_iff c n).2 ⟨_, List.getElem_mem hj, e⟩).symm
          · rw [World.putObj_heap_other (by omega), World.putObj_heap_other (by omega), c8.block _ (by omega), c7.block _ (by omega), ho6 _ (by omega)]
            exact h2
      · have := c8.size; have := c7.size
        simp [World.putObj]
        omega
      · intro b hb
        rw [World.putObj_heap_other (by omega), c8.block _ (by omega), c7.block _ (by omega), ho6 _ (by omega)]
    · refine ⟨hl6, .inl ⟨rfl, ?_, ?_, ?_, ?_, ?_, ?_, ?_⟩, ?_, ?_⟩
      · exact put_self (by omega) _
      · rw [World.putObj_heap_other (by omega), ho6 _ (by omega)]; exact h2
      · exact (h3.of_block (ho6 _ (by omega))).put (by omega) _
      · exact (h4.of_block (ho6 _ (by omega))).put (by omega) _
      · exact (h5.of_block (ho6 _ (by omega))).put (by omega) _
      · exact h66.putObj (by have := hb4.size; omega) _
      · intro i hi hij
        by_cases e' : i = j
        · subst e'; exact e
        · exact h7 i hi (by omega)
      · simp [World.putObj]; omega
      · intro b hb
        rw [World.putObj_heap_other (by omega), ho6 _ (by omega)]
  · rintro w' ⟨h1, h2, h3, h4, h5, h6, h7⟩
    have hlt' : w4.heap.size + 1 < w'.heap.size := (Array.getElem?_eq_some_iff.1 h1).1
    refine .inl ⟨h1, ?_⟩
    have k4 := h4.put (l := w4.heap.size + 1) (by omega) (mk .exhausted none)
    have k5 := h5.put (l := w4.heap.size + 1) (by omega) (mk .exhausted none)
    refine ⟨k4.wr0 (by simp), Nw.gen fun w7 e7 => ?_⟩
    have c7 : Chg w1.heap.size (w'.putObj (w4.heap.size + 1) (mk .exhausted none)) w7 := by rw [e7]; exact Chg.set w1.heap.size 0 _ _
    have k4' : Blk w7 w1.heap.size 9 [.string (bs [])] := by rw [e7]; exact k4.set0 _
    clear e7
    have k5' := c7.blk k5 (by omega)
    refine ⟨k5'.wr0 (by simp), Nw.gen fun w8 e8 => ?_⟩
    have c8 : Chg w2.heap.size w7 w8 := by rw [e8]; exact Chg.set w2.heap.size 0 w7 _
    have k5'' : Blk w8 w2.heap.size 4 [.bool false] := by rw [e8]; exact k5'.set0 _
    clear e8
    refine fin0 false (bs []) w8 ?_ (c8.blk k4' (by omega)) k5'' ?_ ?_
    · exact c8.below (c7.below (h6.putObj (by have := hb4.size; omega) _) (by have := b1.size; omega)) (by have := b1.size; have := b2.size; omega)
    · symm
      rw [Bool.eq_false_iff]
      intro h
      obtain ⟨x, hx, e⟩ := (enum_iff c n).1 h
      obtain ⟨i, hi, rfl⟩ := List.mem_iff_getElem.1 hx
      exact h7 i hi hi e
    · rw [c8.block _ (by omega), c7.block _ (by omega), World.putObj_heap_other (by omega)]
      exact h2

theorem rEnum_spec {c n : Int} {w : World} {R : Value → World → Prop} (hR : ∀ s w', Below w.heap.size w w' → R (.tuple #[.string s, .bool (enumP c n)]) w') : callR Try.prog 122 #[.int .u8 c, .int .u32 n] w R := by
  refine callR.of (intaglioref03_Enum_calls c n R w ?_) fun _ _ h => h
  refine Names_spec fun s w1 hs b1 => ⟨s, rfl, ?_⟩
  have hlen := hs.len
  have hmax := hs.bound
  refine LoopW.count s.l (by omega) (fun k w' => w' = w1 ∧ ∀ j (hj : j < tabM.length), j < k → ¬ (tabM[j].1 = c ∧ tabM[j].2.1 = n)) ⟨rfl, fun j hj h => by omega⟩ ?_
  rintro k _ hk ⟨rfl, hj⟩ next hnext
  refine ifB_dec (fun h => ?_) (fun h => ?_)
  · have hlt : k < tabM.length := by dsimp only at h; omega
    obtain ⟨a, ha⟩ := hs.base hlt
    have hcell := hs.cell a ha k hlt
    rename_i wk
    refine JoinW.cut (fun _ w' => w' = wk ∧ ¬ (tabM[k].1 = c ∧ tabM[k].2.1 = n)) ?_ ?_
    · refine ⟨⟨by omega, by omega⟩, derefP_some ha ⟨_, hcell 0 (by omega), ?_⟩⟩
      refine ifB_beq (fun e1 => ?_) (fun e1 => ⟨rfl, fun h => e1 h.1⟩)
      refine ⟨⟨by omega, by omega⟩, derefP_some ha ⟨_, by rw [add_add']; exact hcell 1 (by omega), ?_⟩⟩
      refine ifB_beq (fun e2 => ?_) (fun e2 => ⟨rfl, fun h => e2 h.2⟩)
      refine ⟨⟨by omega, by omega⟩, derefP_some ha ⟨_, by rw [add_add']; exact hcell 2 (by omega), ?_⟩⟩
      have := hR (bs tabM[k].2.2) _ b1
      have ht : enumP c n = true := by
        unfold enumP
        rw [List.any_eq_true]
        exact ⟨_, List.getElem_mem hlt, by rw [Bool.and_eq_true, decide_eq_true_eq, decide_eq_true_eq]; exact ⟨e1, e2⟩⟩
      rwa [ht] at this
    · rintro _ w' ⟨rfl, hno⟩
      refine hnext _ (by omega) ⟨rfl, fun j hj' hjk => ?_⟩
      by_cases e' : j = k
      · subst e'; exact hno
      · exact hj j hj' (by omega)
  · have hk : k = tabM.length := by dsimp only at h; omega
    have := hR (bs []) _ b1
    have hf : enumP c n = false := by
      rw [Bool.eq_false_iff]
      intro h
      unfold enumP at h
      rw [List.any_eq_true] at h
      obtain ⟨p, hp, e⟩ := h
      obtain ⟨i, hi, e'⟩ := List.mem_iff_getElem.1 hp
      rw [Bool.and_eq_true, decide_eq_true_eq, decide_eq_true_eq] at e
      exact hj i hi (by omega) (by rw [e']; exact e)
    rwa [hf] at this

end Go.Proofs
