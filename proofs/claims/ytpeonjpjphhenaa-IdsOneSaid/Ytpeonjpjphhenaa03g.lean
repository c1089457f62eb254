/-
  The program's grammar: rows taken apart, forms.
-/
import Derived.Test.YtpeonjpjphhenaaL03
import Derived.Test.Ytpeonjpjphhenaa03p
import Derived.Test.YtpeonjpjphhenaaGkC
namespace Go.Proofs
open Go.Gk Go.RowKit Go.Gm

theorem decode_ascii {s : Bs} {k : Nat} (hk : k < s.length) (h : s[k] < 128) : Utf8.decode (bs s) k = (s[k].toNat, 1) := by
  have e : ((bs s).get! (k + 0)).toNat = s[k].toNat := by
    have : (bs s).get! (k + 0) = s[k] := by
      show (s.toArray)[k + 0]! = s[k]
      simp [hk]
    rw [this]
  have h' : s[k].toNat < 128 := h
  unfold Utf8.decode
  simp only [e]
  rw [if_pos h']
theorem encode_ascii {c : UInt8} (h : c < 128) : Utf8.encode (c.toNat : Int) = bs [c] := by
  have h' : c.toNat < 128 := h
  have hv : Utf8.valid (c.toNat : Int) = true := by
    unfold Utf8.valid
    have : (decide (0 ≤ (c.toNat : Int)) && decide ((c.toNat : Int) < 0xD800)) = true := by simp; omega
    rw [this]; rfl
  unfold Utf8.encode
  simp only [hv, if_true, Int.toNat_natCast]
  rw [if_pos (by omega)]
  show _ = bs [c]
  unfold bs
  simp
theorem getElem_iter {w : World} {r : Nat} {s : ByteArray} {p : Nat} (h : r < w.heap.size) : (setIter w r s p).heap[r]? = some (.stringIter s p) := by
  simp [setIter, h]
theorem map_modify {α β : Type} (f : α → β) (g : α → α) (l : List α) {i : Nat} (h : i < l.length) : (l.map f).set i (f (g l[i])) = (l.modify i g).map f := by
  apply List.ext_getElem
  · simp
  · intro j h1 h2
    simp only [List.getElem_set, List.getElem_map, List.getElem_modify]
    split
    · rename_i e; subst e; rfl
    · rfl

abbrev six (l : List Bs) : List Value := l.map fun x => .string (bs x)
theorem okRow_of {s : Bs} (h : okRow s = true) : (∀ c ∈ s, c < 128) ∧ (∀ c ∈ fld s 1, c < 128) ∧ s.count 32 ≤ 5 ∧ s.length ≤ 100 ∧ s ≠ [] ∧ (∃ c r, fld s 5 = c :: r ∧ 48 ≤ c.toNat) ∧ (∀ c r, fld s 4 = c :: r → 48 ≤ c.toNat) := by
  unfold okRow at h
  simp only [Bool.and_eq_true, decide_eq_true_eq, List.all_eq_true, Bool.not_eq_true', List.isEmpty_eq_false_iff] at h
  obtain ⟨⟨⟨⟨⟨⟨h1, h1'⟩, h2⟩, h3⟩, h4⟩, h5⟩, h6⟩ := h
  refine ⟨h1, h1', h2, h3, h4, ?_, ?_⟩
  · cases e : fld s 5 with
    | nil => rw [e] at h5; cases h5
    | cons c r => rw [e] at h5; exact ⟨c, r, rfl, of_decide_eq_true h5⟩
  · intro c r e
    rw [e] at h6
    exact of_decide_eq_true h6
theorem fields_spec {s : Bs} (hs : okRow s = true) {w : World} {R : Value → World → Prop}
    (hR : ∀ w', Below w.heap.size w w' → R (.agg #[.string (bs (fld s 0)), .string (bs (fld s 1)), .string (bs (fld s 2)), .string (bs (fld s 3)), .string (bs (fld s 4)), .string (bs (fld s 5))]) w') :
    callR Try.prog 116 #[.string (bs s)] w R := by
  obtain ⟨h128, -, h5, hlen, -⟩ := okRow_of hs
  refine callR.of (grammar_fields_calls (bs s) R w ?_) fun _ _ h => h
  refine Nw.gen fun w1 e1 => Nw.gen fun w2 e2 => Nw.gen fun w3 e3 => ?_
  have hA1 : Blk w1 w.heap.size 179 (six [[], [], [], [], [], []]) := by rw [e1]; exact Blk.new w _ _
  have z1 : w1.heap.size = w.heap.size + 1 := by rw [e1]; simp
  have b1 : Below w.heap.size w w1 := by rw [e1]; exact (Below.refl _ _).alloc (Nat.le_refl _) _
  have hA2 : Blk w2 w.heap.size 179 (six [[], [], [], [], [], []]) := by rw [e2]; exact hA1.alloc _
  have hB2 : Blk w2 w1.heap.size 179 (six [[], [], [], [], [], []]) := by rw [e2]; exact Blk.new w1 _ _
  have z2 : w2.heap.size = w.heap.size + 2 := by rw [e2]; simp [z1]
  have b2 : Below w.heap.size w w2 := by rw [e2]; exact b1.alloc (by omega) _
  have hA3 : Blk w3 w.heap.size 179 (six [[], [], [], [], [], []]) := by rw [e3]; exact hA2.alloc _
  have hB3 : Blk w3 w1.heap.size 179 (six [[], [], [], [], [], []]) := by rw [e3]; exact hB2.alloc _
  have hI3 : w3.heap[w2.heap.size]? = some (.stringIter (bs s) 0) := by
    rw [e3]
    show (w2.heap.push _)[w2.heap.size]? = _
    simp
  have z3 : w3.heap.size = w.heap.size + 3 := by rw [e3]; simp [z2]
  have b3 : Below w.heap.size w w3 := by rw [e3]; exact b2.alloc (by omega) _
  clear e1 e2 e3 hA1 hA2 hB2
  refine LoopW.ghost (fun j st w' => ∃ k, k ≤ s.length ∧ j = s.length - k ∧ st = (((fldG (s.take k)).1 : Int), ()) ∧ w'.heap.size = w.heap.size + 3 ∧ Below w.heap.size w w' ∧ w'.heap[w2.heap.size]? = some (.stringIter (bs s) k) ∧
    Blk w' w.heap.size 179 (six [[], [], [], [], [], []]) ∧ Blk w' w1.heap.size 179 (six (fldG (s.take k)).2)) s.length ⟨0, Nat.zero_le _, rfl, rfl, z3, b3, hI3, hA3, hB3⟩ ?_
  rintro _ _ w4 ⟨k, hk, rfl, rfl, hz, hb, hI, hA, hB⟩ next hnext
  have hat : (fldG (s.take k)).1 ≤ 5 := by
    rw [fldG_at]
    exact Nat.le_trans ((List.take_sublist k s).count_le _) h5
  refine ⟨bs s, k, hI, fun hlt => ?_, fun hge => ?_⟩
  · rw [bs_size] at hlt
    have hc128 := h128 _ (List.getElem_mem hlt)
    rw [decode_ascii hlt hc128]
    dsimp only
    have hc := Chg.iter w2.heap.size w4 (bs s) (k + 1)
    have hI5 := getElem_iter (w := w4) (s := bs s) (p := k + 1) (r := w2.heap.size) (by omega)
    generalize setIter w4 w2.heap.size (bs s) (k + 1) = w5 at hc hI5
    have hA5 := hc.blk hA (by omega)
    have hB5 := hc.blk hB (by omega)
    have hb5 := hc.below hb (by omega)
    have hz5 := hc.size.trans hz
    have htk : s.take (k + 1) = s.take k ++ [s[k]] := List.take_succ_eq_append_getElem hlt
    refine ifB_beq (fun e => ?_) (fun e => ?_)
    · have e : s[k] = 32 := by
        apply UInt8.toNat.inj
        have : (s[k].toNat : Int) = 32 := e
        show s[k].toNat = 32
        omega
      rw [wrap64_succ (by omega)]
      refine hnext (s.length - (k + 1)) _ _ (by omega) ⟨k + 1, hlt, rfl, ?_, hz5, hb5, hI5, hA5, ?_⟩
      · rw [htk, fldG_snoc, fldS, if_pos e]
      · rw [htk, fldG_snoc, fldS, if_pos e]; exact hB5
    · have e : s[k] ≠ 32 := by
        intro h
        apply e
        rw [h]
        rfl
      have h6 := fldG_len (s.take k)
      have hlt6 : (fldG (s.take k)).1 < (fldG (s.take k)).2.length := by omega
      refine ⟨⟨by omega, by omega⟩, ?_⟩
      rw [Int.toNat_natCast]
      refine hB5.rT (x := bs (fldG (s.take k)).2[(fldG (s.take k)).1]) (by simp [six, hlt6]) ⟨?_, ⟨by omega, by omega⟩, hB5.wr (by simpa [six] using hlt6), ?_⟩
      · rw [encode_ascii hc128]
        unfold sumFits
        rw [bs_size, bs_size]
        have := fldG_size (s.take k) _ (List.getElem_mem hlt6)
        rw [List.length_take] at this
        simp only [List.length_singleton]
        omega
      · rw [encode_ascii hc128, bs_append]
        refine hnext (s.length - (k + 1)) _ _ (by omega) ⟨k + 1, hlt, rfl, ?_, ?_, ?_, ?_, ?_, ?_⟩
        · rw [htk, fldG_snoc, fldS, if_neg e]
        · simpa [World.setCell] using hz5
        · exact (Chg.set _ _ _ _).below hb5 (by omega)
        · rw [(Chg.set _ _ _ _).block _ (by omega)]; exact hI5
        · exact (Chg.set _ _ _ _).blk hA5 (by omega)
        · have := hB5.set (fldG (s.take k)).1 (.string (bs ((fldG (s.take k)).2[(fldG (s.take k)).1] ++ [s[k]])))
          rw [htk, fldG_snoc, fldS, if_neg e]
          have e3 := map_modify (fun x => Value.string (bs x)) (· ++ [s[k]]) (fldG (s.take k)).2 hlt6
          show Blk _ _ _ (((fldG (s.take k)).2.modify (fldG (s.take k)).1 (· ++ [s[k]])).map fun x => Value.string (bs x))
          rw [← e3]
          exact this
  · rw [bs_size] at hge
    have : k = s.length := by omega
    subst this
    rw [List.take_length] at hB
    have hR' : ∀ w', Below w.heap.size w w' → R (.agg #[.string (bs ((fldG s).2.getD 0 [])), .string (bs ((fldG s).2.getD 1 [])), .string (bs ((fldG s).2.getD 2 [])), .string (bs ((fldG s).2.getD 3 [])), .string (bs ((fldG s).2.getD 4 [])), .string (bs ((fldG s).2.getD 5 []))]) w' := hR
    have h6 := fldG_len s
    generalize (fldG s).2 = l at hB h6 hR'
    match l, h6 with
    | [a0, a1, a2, a3, a4, a5], _ =>
      refine hB.rT (n := 0) rfl (hB.rT (n := 1) rfl (hB.rT (n := 2) rfl (hB.rT (n := 3) rfl (hB.rT (n := 4) rfl (hB.rT (n := 5) rfl ?_)))))
      refine stC_all (vs := six [a0, a1, a2, a3, a4, a5]) hA rfl fun w' h1 h2 => ?_
      refine h1.rT (n := 0) rfl (h1.rT (n := 1) rfl (h1.rT (n := 2) rfl (h1.rT (n := 3) rfl (h1.rT (n := 4) rfl (h1.rT (n := 5) rfl ?_)))))
      exact hR' w' (h2.below hb (Nat.le_refl _))

/-! ### Rows -/
abbrev rowT (op : Int) : Bs := (rowP op).getD []
theorem first_E (op : Int) (R : Value → World → Prop) (w : World) : L_grammar_first op R w = chain tabA op (fun s => R (.string (bs s)) w) (R (.string (bs [])) w) := by kernel_rfl
theorem second_E (op : Int) (R : Value → World → Prop) (w : World) : L_grammar_second op R w = chain tabB op (fun s => R (.string (bs s)) w) (R (.string (bs [])) w) := by kernel_rfl
theorem third_E (op : Int) (R : Value → World → Prop) (w : World) : L_grammar_third op R w = chain tabC op (fun s => R (.string (bs s)) w) (R (.string (bs [])) w) := by kernel_rfl
theorem row_spec {op : Int} {w : World} {R : Value → World → Prop} (hR : R (.string (bs (rowT op))) w) : callR Try.prog 115 #[.int .u16 op] w R := by
  refine callR.of (grammar_row_calls op R w ?_) fun _ _ h => h
  unfold rowT at hR
  refine ifB_dec (fun h => ?_) (fun h => ifB_dec (fun h' => ?_) (fun h' => ?_))
  · rw [← rowP_A h] at hR
    refine callR.of (grammar_first_calls op _ w ?_) fun _ _ h => h
    rw [first_E]
    exact chain_of (fun x hx => ⟨_, rfl, by rw [hx] at hR; exact hR⟩) (fun hx => ⟨_, rfl, by rw [hx] at hR; exact hR⟩)
  · rw [← rowP_B h h'] at hR
    refine callR.of (grammar_second_calls op _ w ?_) fun _ _ h => h
    rw [second_E]
    exact chain_of (fun x hx => ⟨_, rfl, by rw [hx] at hR; exact hR⟩) (fun hx => ⟨_, rfl, by rw [hx] at hR; exact hR⟩)
  · rw [← rowP_C h h'] at hR
    refine callR.of (grammar_third_calls op _ w ?_) fun _ _ h => h
    rw [third_E]
    exact chain_of (fun x hx => ⟨_, rfl, by rw [hx] at hR; exact hR⟩) (fun hx => ⟨_, rfl, by rw [hx] at hR; exact hR⟩)

/-! ### Forms -/
abbrev Fm := Int × ByteArray × Bool × Bool × ByteArray × ByteArray × Int × Int × Unit
abbrev fmV (f : Fm) : List Value := [.int .u16 f.1, .string f.2.1, .bool f.2.2.1, .bool f.2.2.2.1, .string f.2.2.2.2.1, .string f.2.2.2.2.2.1, .int .i64 f.2.2.2.2.2.2.1, .int .u8 f.2.2.2.2.2.2.2.1]
abbrev fmA (f : Fm) : Value := .agg #[.int .u16 f.1, .string f.2.1, .bool f.2.2.1, .bool f.2.2.2.1, .string f.2.2.2.2.1, .string f.2.2.2.2.2.1, .int .i64 f.2.2.2.2.2.2.1, .int .u8 f.2.2.2.2.2.2.2.1]
def fmO (op : Int) : Option Fl → Fm
  | none => (0, bs [], false, false, bs [], bs [], 0, 0, ())
  | some f => (op, bs f.1, f.2.1, f.2.2.1, bs f.fixed, bs f.rest, (f.most : Int), (f.2.2.2.2.2.2 : Int), ())
theorem Fm.load {w : World} {b : Nat} {T : TypeId} {f : Fm} (h : Blk w b T (fmV f)) {φ : Int → ByteArray → Bool → Bool → ByteArray → ByteArray → Int → Int → Prop}
    (hφ : φ f.1 f.2.1 f.2.2.1 f.2.2.2.1 f.2.2.2.2.1 f.2.2.2.2.2.1 f.2.2.2.2.2.2.1 f.2.2.2.2.2.2.2.1) :
    ldI w ((blk b).add 0) .u16 fun x1 => ldStr w ((blk b).add 1) fun x2 => ldB w ((blk b).add 2) fun x3 => ldB w ((blk b).add 3) fun x4 => ldStr w ((blk b).add 4) fun x5 => ldStr w ((blk b).add 5) fun x6 =>
      ldI w ((blk b).add 6) .i64 fun x7 => ldI w ((blk b).add 7) .u8 fun x8 => φ x1 x2 x3 x4 x5 x6 x7 x8 :=
  h.rI (n := 0) rfl (h.rT (n := 1) rfl (h.rB (n := 2) rfl (h.rB (n := 3) rfl (h.rT (n := 4) rfl (h.rT (n := 5) rfl (h.rI (n := 6) rfl (h.rI (n := 7) rfl hφ)))))))
theorem byte_sub {c : UInt8} {r : Bs} (h : 48 ≤ c.toNat) : IntKind.u8.wrap (byteI (bs (c :: r)) 0 - 48) = ((c.toNat - 48 : Nat) : Int) := by
  have e : byteI (bs (c :: r)) 0 = (c.toNat : Int) := bs_byte (c :: r) 0
  have := c.toNat_lt
  rw [e, IntKind.wrap_u8]
  omega

theorem gOf_spec {op : Int} {w : World} {R : Value → World → Prop} (hR : ∀ w', Below w.heap.size w w' → R (.tuple #[fmA (fmO op (frm op)), .bool (frm op).isSome]) w') :
    callR Try.prog 90 #[.int .u16 op] w R := by
  refine callR.of (grammar_Of_calls op R w ?_) fun _ _ h => h
  refine Nw.gen fun w1 e1 => ?_
  have hA1 : Blk w1 w.heap.size 133 (fmV (fmO op none)) := by rw [e1]; exact Blk.new w _ _
  have z1 : w1.heap.size = w.heap.size + 1 := by rw [e1]; simp
  have b1 : Below w.heap.size w w1 := by rw [e1]; exact (Below.refl _ _).alloc (Nat.le_refl _) _
  clear e1
  refine row_spec ⟨_, rfl, ?_⟩
  rw [toList_nil]
  rw [frm_row] at hR
  cases hrow : rowP op with
  | none =>
    rw [hrow] at hR
    refine ifB_true (by unfold rowT; rw [hrow]; rfl) ?_
    refine stC_all (vs := fmV (fmO op none)) hA1 rfl fun w2 h1 h2 => ?_
    exact Fm.load h1 (hR w2 (h2.below b1 (Nat.le_refl _)))
  | some s =>
    rw [hrow] at hR
    have hok := rowP_ok hrow
    obtain ⟨h128, h128', h5, hlen, hne, ⟨c5, r5, e5, g5⟩, g4⟩ := okRow_of hok
    have ert : rowT op = s := by unfold rowT; rw [hrow]; rfl
    rw [ert]
    refine ifB_false (by simpa using hne) ?_
    refine fields_spec hok fun w2 b2 => ?_
    have hA2 := hA1.below b2
    have b2' : Below w.heap.size w w2 := b1.trans (b2.mono (by omega))
    have z2 : w.heap.size < w2.heap.size := by have := b2.size; omega
    refine ⟨(bs (fld s 0), bs (fld s 1), bs (fld s 2), bs (fld s 3), bs (fld s 4), bs (fld s 5), ()), rfl, ?_⟩
    refine box_of (T := 179) (vs := six [fld s 0, fld s 1, fld s 2, fld s 3, fld s 4, fld s 5]) rfl fun w3 hB b3 z3 => ?_
    have hA3 := hA2.below b3
    have b3' : Below w.heap.size w w3 := b2'.trans (b3.mono (by omega))
    refine ⟨⟨by decide, by decide⟩, hB.drew.rT (n := 0) rfl ⟨⟨by decide, by decide⟩, hB.drew.rT (n := 2) rfl ⟨⟨by decide, by decide⟩, hB.drew.rT (n := 3) rfl ⟨⟨by decide, by decide⟩, hB.drew.rT (n := 5) rfl ⟨⟨by decide, ?_⟩, ?_⟩⟩⟩⟩⟩
    · rw [bs_size, e5]; simp
    refine Nw.gen fun w4 e4 => ?_
    have hC4 : Blk w4 w3.drew.heap.size 133 (fmV (fmO op none)) := by rw [e4]; exact Blk.new w3.drew _ _
    have hB4 : Blk w4 w2.heap.size 179 (six [fld s 0, fld s 1, fld s 2, fld s 3, fld s 4, fld s 5]) := by rw [e4]; exact hB.drew.alloc _
    have hA4 : Blk w4 w.heap.size 133 (fmV (fmO op none)) := by rw [e4]; exact hA3.drew.alloc _
    have b4 : Below w.heap.size w w4 := by rw [e4]; exact b3'.drew.alloc (by show w.heap.size ≤ w3.heap.size; omega) _
    have z4 : w4.heap.size = w3.heap.size + 1 := by rw [e4]; simp
    clear e4
    refine ⟨hB4.cell (n := 5) rfl, hB4.cell (n := 3) rfl, hB4.cell (n := 2) rfl, hB4.cell (n := 0) rfl, ?_⟩
    have zd : w3.drew.heap.size = w3.heap.size := rfl
    generalize w3.drew.heap.size = n4 at zd hC4
    rw [e5, byte_sub g5]
    refine stC_all (vs := [.int .u16 op, .string (bs (fld s 0)), .bool false, .bool false, .string (bs (fld s 2)), .string (bs (fld s 3)), .int .i64 0, .int .u8 ((c5.toNat - 48 : Nat) : Int)]) hC4 rfl fun w5 hC5 c5' => ?_
    have hB5 := c5'.blk hB4 (by omega)
    have hA5 := c5'.blk hA4 (by omega)
    have b5 := c5'.below b4 (by omega)
    have z5 := c5'.size
    refine ⟨⟨by decide, by decide⟩, hB5.rT (n := 1) rfl ?_⟩
    refine Nw.gen fun w6 e6 => ?_
    have hI6 : w6.heap[w5.heap.size]? = some (.stringIter (bs (fld s 1)) 0) := by
      rw [e6]
      show (w5.heap.push _)[w5.heap.size]? = _
      simp
    have hC6 := hC5.alloc (.stringIter (bs (fld s 1)) 0)
    have hB6 := hB5.alloc (.stringIter (bs (fld s 1)) 0)
    have hA6 := hA5.alloc (.stringIter (bs (fld s 1)) 0)
    have z6 : w6.heap.size = w5.heap.size + 1 := by rw [e6]; simp
    have b6 : Below w.heap.size w w6 := by rw [e6]; exact b5.alloc (by omega) _
    rw [← e6] at hC6 hB6 hA6
    clear e6
    refine LoopW.ghost (fun j (_ : Unit) w' => ∃ k, k ≤ (fld s 1).length ∧ j = (fld s 1).length - k ∧ w'.heap.size = w6.heap.size ∧ Below w.heap.size w w' ∧ w'.heap[w5.heap.size]? = some (.stringIter (bs (fld s 1)) k) ∧
      Blk w' w.heap.size 133 (fmV (fmO op none)) ∧ Blk w' w2.heap.size 179 (six [fld s 0, fld s 1, fld s 2, fld s 3, fld s 4, fld s 5]) ∧
      Blk w' n4 133 [.int .u16 op, .string (bs (fld s 0)), .bool (((fld s 1).take k).contains 84), .bool (((fld s 1).take k).contains 82), .string (bs (fld s 2)), .string (bs (fld s 3)), .int .i64 0, .int .u8 ((c5.toNat - 48 : Nat) : Int)])
      (fld s 1).length ⟨0, Nat.zero_le _, rfl, rfl, b6, hI6, hA6, hB6, hC6⟩ ?_
    rintro _ _ w7 ⟨k, hk, rfl, hz, hb, hI, hA, hB', hC⟩ next hnext
    refine ⟨bs (fld s 1), k, hI, fun hlt => ?_, fun hge => ?_⟩
    · rw [bs_size] at hlt
      have hc128 := h128' _ (List.getElem_mem hlt)
      rw [decode_ascii hlt hc128]
      dsimp only
      have hc := Chg.iter w5.heap.size w7 (bs (fld s 1)) (k + 1)
      have hI8 := getElem_iter (w := w7) (s := bs (fld s 1)) (p := k + 1) (r := w5.heap.size) (by omega)
      generalize setIter w7 w5.heap.size (bs (fld s 1)) (k + 1) = w8 at hc hI8
      have hA8 := hc.blk hA (by omega)
      have hB8 := hc.blk hB' (by omega)
      have hC8 := hc.blk hC (by omega)
      have hb8 := hc.below hb (by omega)
      have hz8 := hc.size.trans hz
      have htk : (fld s 1).take (k + 1) = (fld s 1).take k ++ [(fld s 1)[k]] := List.take_succ_eq_append_getElem hlt
      have hcon : ∀ (d : UInt8), ((fld s 1).take (k + 1)).contains d = (((fld s 1).take k).contains d || (((fld s 1)[k].toNat : Int) == ((d.toNat : Nat) : Int))) := by
        intro d
        rw [htk, List.contains_append]
        congr 1
        simp only [List.contains_cons, List.contains_nil, Bool.or_false]
        by_cases e : (fld s 1)[k] = d
        · rw [e]; simp
        · have e1 : (d == (fld s 1)[k]) = false := beq_eq_false_iff_ne.2 fun h => e h.symm
          have e2 : (((fld s 1)[k].toNat : Int) == ((d.toNat : Nat) : Int)) = false := beq_eq_false_iff_ne.2 fun h => e (UInt8.toNat.inj (by omega))
          rw [e1, e2]
      refine JoinW.cut (fun _ w9 => Chg n4 w8 w9 ∧ Blk w9 n4 133 [.int .u16 op, .string (bs (fld s 0)), .bool (((fld s 1).take (k + 1)).contains 84), .bool (((fld s 1).take k).contains 82), .string (bs (fld s 2)), .string (bs (fld s 3)), .int .i64 0, .int .u8 ((c5.toNat - 48 : Nat) : Int)]) ?_ ?_
      · refine hC8.rB (n := 2) rfl (ifB_bool (fun ht => ?_) (fun ht => ?_))
        · refine ⟨hC8.wr (n := 2) (by simp), Chg.set _ _ _ _, ?_⟩
          have := hC8.set 2 (.bool true)
          rw [hcon 84, ht]
          exact this
        · refine ⟨hC8.wr (n := 2) (by simp), Chg.set _ _ _ _, ?_⟩
          have := hC8.set 2 (.bool (((fld s 1)[k].toNat : Int) == 84))
          rw [hcon 84, ht, Bool.false_or]
          exact this
      · rintro _ w9 ⟨c9, hC9⟩
        have fin : ∀ w10, Chg n4 w9 w10 → Blk w10 n4 133 [.int .u16 op, .string (bs (fld s 0)), .bool (((fld s 1).take (k + 1)).contains 84), .bool (((fld s 1).take (k + 1)).contains 82), .string (bs (fld s 2)), .string (bs (fld s 3)), .int .i64 0, .int .u8 ((c5.toNat - 48 : Nat) : Int)] → next () w10 := by
          intro w10 c10 hC10
          have cc := c9.trans c10
          refine hnext ((fld s 1).length - (k + 1)) _ _ (by omega) ⟨k + 1, hlt, rfl, cc.size.trans hz8, cc.below hb8 (by omega), ?_, cc.blk hA8 (by omega), cc.blk hB8 (by omega), hC10⟩
          rw [cc.block _ (by omega)]
          exact hI8
        refine hC9.rB (n := 3) rfl (ifB_bool (fun ht => ?_) (fun ht => ?_))
        · refine ⟨hC9.wr (n := 3) (by simp), fin _ (Chg.set _ _ _ _) ?_⟩
          have := hC9.set 3 (.bool true)
          rw [hcon 82, ht]
          exact this
        · refine ⟨hC9.wr (n := 3) (by simp), fin _ (Chg.set _ _ _ _) ?_⟩
          have := hC9.set 3 (.bool (((fld s 1)[k].toNat : Int) == 82))
          rw [hcon 82, ht, Bool.false_or]
          exact this
    · rw [bs_size] at hge
      have hk : k = (fld s 1).length := by omega
      subst hk
      rw [List.take_length] at hC
      refine JoinW.cut (fun _ w9 => Chg n4 w7 w9 ∧ Blk w9 n4 133 (fmV (fmO op (some (parse s))))) ?_ ?_
      · refine ⟨⟨by decide, by decide⟩, hB'.rT (n := 4) rfl ?_⟩
        rw [toList_nil]
        cases e4 : fld s 4 with
        | nil =>
          refine ifB_false rfl ⟨Chg.refl _ _, ?_⟩
          have ep : parse s = (fld s 0, (fld s 1).contains 84, (fld s 1).contains 82, fld s 2, fld s 3, 0, c5.toNat - 48) := by
            unfold parse
            rw [e4, e5]
          rw [ep]
          exact hC
        | cons c4 r4 =>
          have g := g4 _ _ e4
          refine ifB_true rfl ⟨⟨by decide, by decide⟩, ?_⟩
          rw [e4] at hB'
          refine hB'.rT (n := 4) rfl ⟨⟨by decide, by rw [bs_size]; simp⟩, hC.wr (n := 6) (by simp), Chg.set _ _ _ _, ?_⟩
          rw [byte_sub g, wrap64_in (by omega) (by have := c4.toNat_lt; omega)]
          have ep : parse s = (fld s 0, (fld s 1).contains 84, (fld s 1).contains 82, fld s 2, fld s 3, c4.toNat - 48, c5.toNat - 48) := by
            unfold parse
            rw [e4, e5]
          rw [ep]
          exact hC.set 6 (.int .i64 ((c4.toNat - 48 : Nat) : Int))
      · rintro _ w9 ⟨c9, hC9⟩
        refine Fm.load hC9 ?_
        refine stC_all (vs := fmV (fmO op (some (parse s)))) (c9.blk hA (by omega)) rfl fun w10 h1 h2 => ?_
        exact Fm.load h1 (hR w10 (h2.below (c9.below hb (by omega)) (Nat.le_refl _)))

end Go.Proofs
