/-
  Part 2 of what CallsRenamed is proved by: functions walked, and what they come to.
-/
import Derived.Test.YtogccbelnfgfhaaGreatProg
import Derived.ScopeJumps
import Derived.Laws.Strings
import Derived.MapKept
import Derived.Test.YtogccbelnfgfhaaGreatPCallsRenamed1
namespace Go.Proofs
open Go.Gk
set_option linter.unusedVariables false
set_option maxRecDepth 100000

/-- intaglio.intagliolaw17.CallsRenamed -/
def a_intagliolaw17_CallsRenamed : Ann := (.seq none .nil (.seq none .nil (.seq none .nil (.seq none .nil (.seq (some ⟨[2, 5, 6, 9], []⟩) (.seq none .nil (.cond (.seq none .nil .nil) .nil)) (.seq none (.seq none .nil (.cond (.seq none .nil .nil) .nil)) (.seq none .nil (.seq none .nil (.seq none (.seq none .nil (.cond (.seq none .nil .nil) .nil)) (.seq none (.seq none .nil (.one (.loop ⟨[8, 10], [(12, (.b (.int .i64)))]⟩ (.seq none (.seq none .nil (.cond .nil .nil)) (.seq (some ⟨[8, 10, 12], []⟩) (.one (.seq none .nil (.cond (.seq none .nil .nil) .nil))) .nil))))) (.seq none .nil .nil)))))))))))
def L_intagliolaw17_CallsRenamed (p0 : (Int × Int × Sl × Unit)) (p1 : Sl) (R : Value → World → Prop) (w : World) : Prop :=
 Nw (w.alloc (.cells #[(.int .u32 p0.1), (.int .u32 p0.2.1), (.slice p0.2.2.1.a p0.2.2.1.l p0.2.2.1.c)] 25)) fun w1 =>
 ldI w1 ((blk w.heap.size).add 0) .u32 fun x1 =>
 ldI w1 ((blk w.heap.size).add 1) .u32 fun x2 =>
 ldS w1 ((blk w.heap.size).add 2) fun x3 =>
 callR Tryz.prog 11 #[(.agg #[(.int .u32 x1), (.int .u32 x2), (.slice x3.a x3.l x3.c)])] w1 fun v4 w2 =>
 ∃ x5 : (Int × Int × Sl × Unit), v4 = (.agg #[(.int .u32 x5.1), (.int .u32 x5.2.1), (.slice x5.2.2.1.a x5.2.2.1.l x5.2.2.1.c)]) ∧
 callR Tryz.prog 23 #[(.slice p1.a p1.l p1.c)] w2 fun v6 w3 =>
 ∃ x7 : Sl, v6 = (.slice x7.a x7.l x7.c) ∧
 callR Tryz.prog 22 #[(.agg #[(.int .u32 x5.1), (.int .u32 x5.2.1), (.slice x5.2.2.1.a x5.2.2.1.l x5.2.2.1.c)]), (.slice x7.a x7.l x7.c)] w3 fun v8 w4 =>
 ∃ x9 : (Int × Int × Sl × Unit), ∃ x10 : (Int × Int × Unit), v8 = (.tuple #[(.agg #[(.int .u32 x9.1), (.int .u32 x9.2.1), (.slice x9.2.2.1.a x9.2.2.1.l x9.2.2.1.c)]), (.agg #[(.int .i64 x10.1), (.int .i64 x10.2.1)])]) ∧
 Nw (w4.alloc (.cells #[(.int .u32 (0 : Int)), (.int .u32 (0 : Int)), (.slice none 0 0)] 25)) fun w5 =>
 Nw (w5.alloc (.cells #[(.int .i64 (0 : Int)), (.int .i64 (0 : Int))] 33)) fun w6 =>
 Wr w6 (blk w4.heap.size) ∧
 Nw (w6.setCell (blk w4.heap.size) (.int .u32 x9.1)) fun w7 =>
 Wr w7 ((blk w4.heap.size).add 1) ∧
 Nw (w7.setCell ((blk w4.heap.size).add 1) (.int .u32 x9.2.1)) fun w8 =>
 Wr w8 ((blk w4.heap.size).add 2) ∧
 Nw (w8.setCell ((blk w4.heap.size).add 2) (.slice x9.2.2.1.a x9.2.2.1.l x9.2.2.1.c)) fun w9 =>
 Wr w9 (blk w5.heap.size) ∧
 Nw (w9.setCell (blk w5.heap.size) (.int .i64 x10.1)) fun w10 =>
 Wr w10 ((blk w5.heap.size).add 1) ∧
 Nw (w10.setCell ((blk w5.heap.size).add 1) (.int .i64 x10.2.1)) fun w11 =>
 callR Tryz.prog 24 #[(.int .u32 (0 : Int))] w11 fun v11 w12 =>
 ∃ x12 : (Int × Int × ByteArray × Unit), v11 = (.agg #[(.int .u8 x12.1), (.int .u32 x12.2.1), (.string x12.2.2.1)]) ∧
 callR Tryz.prog 24 #[(.int .u32 (0 : Int))] w12 fun v13 w13 =>
 ∃ x14 : (Int × Int × ByteArray × Unit), v13 = (.agg #[(.int .u8 x14.1), (.int .u32 x14.2.1), (.string x14.2.2.1)]) ∧
 Nw (w13.alloc (.cells #[(.int .u8 x12.1), (.int .u32 x12.2.1), (.string x12.2.2.1), (.int .u8 x14.1), (.int .u32 x14.2.1), (.string x14.2.2.1)] 61)) fun w14 =>
 Nw (w14.alloc (.cells #[(.int .u16 (14 : Int)), (.int .u32 (0 : Int)), (.int .u32 (0 : Int)), (.slice (some (blk w13.heap.size)) 2 2)] 41)) fun w15 =>
 Nw (w15.alloc (.cells #[(.int .u32 (0 : Int)), (.int .u32 (0 : Int)), (.slice none 0 0)] 25)) fun w16 =>
 Wr w16 (blk w15.heap.size) ∧
 Nw (w16.setCell (blk w15.heap.size) (.int .u32 (0 : Int))) fun w17 =>
 Wr w17 ((blk w15.heap.size).add 1) ∧
 Nw (w17.setCell ((blk w15.heap.size).add 1) (.int .u32 (1 : Int))) fun w18 =>
 Wr w18 ((blk w15.heap.size).add 2) ∧
 Nw (w18.setCell ((blk w15.heap.size).add 2) (.slice (some (blk w14.heap.size)) 1 1)) fun w19 =>
 ldI w19 ((blk w15.heap.size).add 0) .u32 fun x15 =>
 ldI w19 ((blk w15.heap.size).add 1) .u32 fun x16 =>
 ldS w19 ((blk w15.heap.size).add 2) fun x17 =>
 callR Tryz.prog 19 #[(.agg #[(.int .u32 x15), (.int .u32 x16), (.slice x17.a x17.l x17.c)])] w19 fun v18 w20 =>
 ∃ x19 : Option Addr, ∃ x20 : (Int × Int × Unit), v18 = (.tuple #[(.pointer x19), (.agg #[(.int .i64 x20.1), (.int .i64 x20.2.1)])]) ∧
 Nw (w20.alloc (.cells #[(.int .i64 (0 : Int)), (.int .i64 (0 : Int))] 33)) fun w21 =>
 Wr w21 (blk w20.heap.size) ∧
 Nw (w21.setCell (blk w20.heap.size) (.int .i64 x20.1)) fun w22 =>
 Wr w22 ((blk w20.heap.size).add 1) ∧
 Nw (w22.setCell ((blk w20.heap.size).add 1) (.int .i64 x20.2.1)) fun w23 =>
 JoinW (S := Unit) (fun m21 =>
 ldI w23 (blk w20.heap.size) .i64 fun x23 =>
 ifB (x23 != (0 : Int))
 (R (.bool false) w23)
 (ifB (Option.isNone x19)
 (R (.bool false) w23)
 (callR Tryz.prog 25 #[(.pointer x19)] w23 fun v24 w24 =>
 ∃ x25 : Int, v24 = (.int .i64 x25) ∧
 ifB (x25 != (0 : Int))
 (R (.bool false) w24)
 (m21 (()) w24))))
 (fun s22 w25 =>
 ldI w25 (blk w5.heap.size) .i64 fun x26 =>
 ifB (x26 != (0 : Int))
 (R (.bool true) w25)
 (ldI w25 ((blk w.heap.size).add 0) .u32 fun x27 =>
 ldI w25 ((blk w.heap.size).add 1) .u32 fun x28 =>
 ldS w25 ((blk w.heap.size).add 2) fun x29 =>
 callR Tryz.prog 11 #[(.agg #[(.int .u32 x27), (.int .u32 x28), (.slice x29.a x29.l x29.c)])] w25 fun v30 w26 =>
 ∃ x31 : (Int × Int × Sl × Unit), v30 = (.agg #[(.int .u32 x31.1), (.int .u32 x31.2.1), (.slice x31.2.2.1.a x31.2.2.1.l x31.2.2.1.c)]) ∧
 callR Tryz.prog 19 #[(.agg #[(.int .u32 x31.1), (.int .u32 x31.2.1), (.slice x31.2.2.1.a x31.2.2.1.l x31.2.2.1.c)])] w26 fun v32 w27 =>
 ∃ x33 : Option Addr, ∃ x34 : (Int × Int × Unit), v32 = (.tuple #[(.pointer x33), (.agg #[(.int .i64 x34.1), (.int .i64 x34.2.1)])]) ∧
 Wr w27 (blk w20.heap.size) ∧
 Nw (w27.setCell (blk w20.heap.size) (.int .i64 x34.1)) fun w28 =>
 Wr w28 ((blk w20.heap.size).add 1) ∧
 Nw (w28.setCell ((blk w20.heap.size).add 1) (.int .i64 x34.2.1)) fun w29 =>
 ldI w29 ((blk w4.heap.size).add 0) .u32 fun x35 =>
 ldI w29 ((blk w4.heap.size).add 1) .u32 fun x36 =>
 ldS w29 ((blk w4.heap.size).add 2) fun x37 =>
 callR Tryz.prog 19 #[(.agg #[(.int .u32 x35), (.int .u32 x36), (.slice x37.a x37.l x37.c)])] w29 fun v38 w30 =>
 ∃ x39 : Option Addr, ∃ x40 : (Int × Int × Unit), v38 = (.tuple #[(.pointer x39), (.agg #[(.int .i64 x40.1), (.int .i64 x40.2.1)])]) ∧
 Nw (w30.alloc (.cells #[(.int .i64 (0 : Int)), (.int .i64 (0 : Int))] 33)) fun w31 =>
 Wr w31 (blk w30.heap.size) ∧
 Nw (w31.setCell (blk w30.heap.size) (.int .i64 x40.1)) fun w32 =>
 Wr w32 ((blk w30.heap.size).add 1) ∧
 Nw (w32.setCell ((blk w30.heap.size).add 1) (.int .i64 x40.2.1)) fun w33 =>
 ldI w33 ((blk w20.heap.size).add 0) .i64 fun x41 =>
 ldI w33 ((blk w20.heap.size).add 1) .i64 fun x42 =>
 ldI w33 ((blk w30.heap.size).add 0) .i64 fun x43 =>
 ldI w33 ((blk w30.heap.size).add 1) .i64 fun x44 =>
 ifB (!(x41 == x43 && (x42 == x44 && true)))
 (R (.bool false) w33)
 (LoopW (S := Int × Unit) (fun s45 w34 n46 =>
 callR Tryz.prog 25 #[(.pointer x33)] w34 fun v47 w35 =>
 ∃ x48 : Int, v47 = (.int .i64 x48) ∧
 ifB (decide (s45.1 < x48))
 (JoinW (S := Unit) (fun m49 =>
 callR Tryz.prog 27 #[(.pointer x33), (.int .i64 s45.1)] w35 fun v51 w36 =>
 ∃ x52 : Sl, v51 = (.slice x52.a x52.l x52.c) ∧
 callR Tryz.prog 27 #[(.pointer x39), (.int .i64 s45.1)] w36 fun v53 w37 =>
 ∃ x54 : Sl, v53 = (.slice x54.a x54.l x54.c) ∧
 callR Tryz.prog 26 #[(.slice x52.a x52.l x52.c), (.slice x54.a x54.l x54.c)] w37 fun v55 w38 =>
 ∃ x56 : Bool, v55 = (.bool x56) ∧
 ifB (!x56)
 (R (.bool false) w38)
 (callR Tryz.prog 28 #[(.pointer x33), (.int .i64 s45.1)] w38 fun v57 w39 =>
 ∃ x58 : Sl, v57 = (.slice x58.a x58.l x58.c) ∧
 callR Tryz.prog 28 #[(.pointer x39), (.int .i64 s45.1)] w39 fun v59 w40 =>
 ∃ x60 : Sl, v59 = (.slice x60.a x60.l x60.c) ∧
 callR Tryz.prog 26 #[(.slice x58.a x58.l x58.c), (.slice x60.a x60.l x60.c)] w40 fun v61 w41 =>
 ∃ x62 : Bool, v61 = (.bool x62) ∧
 ifB (!x62)
 (R (.bool false) w41)
 (m49 (()) w41)))
 (fun s50 w42 =>
 n46 ((IntKind.i64.wrap (s45.1 + (1 : Int))), ()) w42))
 (callR Tryz.prog 25 #[(.pointer x33)] w35 fun v63 w43 =>
 ∃ x64 : Int, v63 = (.int .i64 x64) ∧
 callR Tryz.prog 25 #[(.pointer x39)] w43 fun v65 w44 =>
 ∃ x66 : Int, v65 = (.int .i64 x66) ∧
 ifB (x64 == x66)
 (callR Tryz.prog 29 #[(.pointer x33)] w44 fun v67 w45 =>
 ∃ x68 : Sl, v67 = (.slice x68.a x68.l x68.c) ∧
 callR Tryz.prog 29 #[(.pointer x39)] w45 fun v69 w46 =>
 ∃ x70 : Sl, v69 = (.slice x70.a x70.l x70.c) ∧
 callR Tryz.prog 26 #[(.slice x68.a x68.l x68.c), (.slice x70.a x70.l x70.c)] w46 fun v71 w47 =>
 ∃ x72 : Bool, v71 = (.bool x72) ∧
 R (.bool x72) w47)
 (R (.bool false) w44)))
 ((0 : Int), ()) w33)))
theorem intagliolaw17_CallsRenamed_calls (p0 : (Int × Int × Sl × Unit)) (p1 : Sl) (R : Value → World → Prop) (w : World) (h : L_intagliolaw17_CallsRenamed p0 p1 R w) : Calls Tryz.prog 7 #[(.agg #[(.int .u32 p0.1), (.int .u32 p0.2.1), (.slice p0.2.2.1.a p0.2.2.1.l p0.2.2.1.c)]), (.slice p1.a p1.l p1.c)] w (Ret R) :=
 lw_calls (fs := Tryz.fs) (an := a_intagliolaw17_CallsRenamed) (args := [(.agg #[(.int .u32 p0.1), (.int .u32 p0.2.1), (.slice p0.2.2.1.a p0.2.2.1.l p0.2.2.1.c)]), (.slice p1.a p1.l p1.c)]) Tryz.fsOK Tryz.mixed Tryz.func7 (by kernel_rfl) (by kernel_rfl)
 (Eq.mpr (by kernel_rfl : lwFn Tryz.prog Tryz.fs Tryz.f7 a_intagliolaw17_CallsRenamed [(.agg #[(.int .u32 p0.1), (.int .u32 p0.2.1), (.slice p0.2.2.1.a p0.2.2.1.l p0.2.2.1.c)]), (.slice p1.a p1.l p1.c)] w R = L_intagliolaw17_CallsRenamed p0 p1 R w) h)

end Go.Proofs
namespace Go.Proofs
open Go.Gk
set_option linter.unusedVariables false
set_option maxRecDepth 100000

/-- intaglio.intagliokit.Enum -/
def a_intagliokit_Enum : Ann := (.seq none .nil (.seq none .nil .nil))
def L_intagliokit_Enum (p0 : Int) (R : Value → World → Prop) (w : World) : Prop :=
 Nw (w.alloc (.cells #[(.int .u8 (0 : Int)), (.int .u32 (0 : Int)), (.string (ByteArray.mk #[]))] 61)) fun w1 =>
 Wr w1 (blk w.heap.size) ∧
 Nw (w1.setCell (blk w.heap.size) (.int .u8 (4 : Int))) fun w2 =>
 Wr w2 ((blk w.heap.size).add 1) ∧
 Nw (w2.setCell ((blk w.heap.size).add 1) (.int .u32 p0)) fun w3 =>
 Wr w3 ((blk w.heap.size).add 2) ∧
 Nw (w3.setCell ((blk w.heap.size).add 2) (.string (ByteArray.mk #[]))) fun w4 =>
 ldI w4 ((blk w.heap.size).add 0) .u8 fun x1 =>
 ldI w4 ((blk w.heap.size).add 1) .u32 fun x2 =>
 ldStr w4 ((blk w.heap.size).add 2) fun x3 =>
 R (.agg #[(.int .u8 x1), (.int .u32 x2), (.string x3)]) w4
theorem intagliokit_Enum_calls (p0 : Int) (R : Value → World → Prop) (w : World) (h : L_intagliokit_Enum p0 R w) : Calls Tryz.prog 24 #[(.int .u32 p0)] w (Ret R) :=
 lw_calls (fs := Tryz.fs) (an := a_intagliokit_Enum) (args := [(.int .u32 p0)]) Tryz.fsOK Tryz.mixed Tryz.func24 (by kernel_rfl) (by kernel_rfl)
 (Eq.mpr (by kernel_rfl : lwFn Tryz.prog Tryz.fs Tryz.f24 a_intagliokit_Enum [(.int .u32 p0)] w R = L_intagliokit_Enum p0 R w) h)

end Go.Proofs
namespace Go.Proofs
open Go.Gk
set_option linter.unusedVariables false
set_option maxRecDepth 100000

end Go.Proofs
namespace Go.Proofs
open Go.Gk
set_option linter.unusedVariables false
set_option maxRecDepth 100000

end Go.Proofs
namespace Go.Gk
open Go

def isLabel (l : Nat) : Code → Bool
  | .label l' => Nat.beq l' l
  | _ => false
/-- What stands behind the label. -/
def spineB (l : Nat) : Code → Option Code
  | .seq a b => match isLabel l a with
    | true => some b
    | false => match findLabel a l with
      | none => spineB l b
      | some _ => none
  | _ => none
theorem isLabel_spec {l : Nat} {a : Code} (h : isLabel l a = true) : a = .label l := by
  cases a <;> simp only [isLabel] at h <;> first | cases h | skip
  rename_i l'
  have := Nat.eq_of_beq_eq_true h
  rw [this]
theorem spineB_find {l : Nat} : ∀ {c B : Code}, spineB l c = some B → findLabel c l = some (.seq .skip B)
  | .seq a b, B, h => by
    simp only [spineB] at h
    split at h
    · rename_i hl
      cases h
      rw [isLabel_spec hl]
      simp [findLabel]
    · split at h
      · rename_i hf
        simp only [findLabel, hf]
        exact spineB_find h
      · cases h
  | .skip, _, h | .label _, _, h | .ret, _, h | .exit _, _, h | .goto _, _, h => by cases h
  | .region .., _, h | .cond .., _, h | .block .., _, h | .loop .., _, h | .scope .., _, h => by cases h
  | .rangeFunc .., _, h => by cases h

def jumpK (l : Nat) (next : Env → World → Prop) (K : Exit → Env → World → Prop) : Exit → Env → World → Prop
  | .goto l', e, w => match Nat.beq l' l with
    | true => next e w
    | false => False
  | x, e, w => K x e w
def lwA (P : Program) (fs : List Nat) (l : Nat) : Code → Ann → Env → World → (Exit → Env → World → Prop) → Prop
  | .seq a b, .seq none aa ab, e, w, K => match isLabel l a with
    | true => False
    | false => lw P fs a aa e w (seqK (fun e w => lwA P fs l b ab e w K) K)
  | .seq a b, .seq (some j) aa ab, e, w, K => match isLabel l a with
    | true => False
    | false => match keepOk j.keep (wr a) with
      | true => JoinW (fun M => lw P fs a aa e w (seqK (fun e w => match getSt j.sg e with | some s => M s w | none => False) K))
          (fun s w => lwA P fs l b ab (putSt j.sg s (keepE j.keep e)) w K)
      | false => False
  | .seq a b, .loop j ab, e, w, K => match isLabel l a with
    | true => match keepOk j.keep (wr b) with
      | true => match getSt j.sg e with
        | some s => LoopW (fun s w next => lw P fs b ab (putSt j.sg s (keepE j.keep e)) w (jumpK l (fun e w => match getSt j.sg e with | some s => next s w | none => False) K)) s w
        | none => False
      | false => False
    | false => False
  | _, _, _, _, _ => False
def lwJFn (P : Program) (fs : List Nat) (l : Nat) (fn : Func) (an : Ann) (args : List Value) (w : World) (R : Value → World → Prop) : Prop :=
  match fn.body with
  | some (.seq r (.scope c)) => match an with
    | .seq none ar (.one ac) => match spineB l c with
      | some _ => lw P fs r ar (argsE args 0) w (seqK (fun e w => lwA P fs l c ac e w (scopeK (retK P fn.results.toList R))) (scopeK (retK P fn.results.toList R)))
      | none => False
    | _ => False
  | _ => False

section
variable {P : Program}
/-- With fewer than n jumps. -/
def JB (P : Program) (l : Nat) (B : Code) (Q : Exit → Act → World → Prop) : Nat → Act → World → Prop
  | 0, _, _ => False
  | n + 1, a, w => (Code.seq .skip B).wp P (Exit.jump l (JB P l B Q n) Q) a w
theorem least {p : Nat → Prop} : ∀ n, p n → ∃ n, p n ∧ ∀ m, p m → n ≤ m := by
  intro n
  induction n using Nat.strongRecOn with
  | _ n ih =>
    intro h
    by_cases hm : ∃ m, m < n ∧ p m
    · obtain ⟨m, h1, h2⟩ := hm
      exact ih m h1 h2
    · exact ⟨n, h, fun m hp => Nat.le_of_not_lt fun hlt => hm ⟨m, hlt, hp⟩⟩
theorem jump_mono {l : Nat} {J J' : Act → World → Prop} {Q Q' : Exit → Act → World → Prop} (hJ : ∀ a w, J a w → J' a w) (hQ : ∀ x a w, Q x a w → Q' x a w) : ∀ x a w, Exit.jump l J Q x a w → Exit.jump l J' Q' x a w := by
  intro x a w h
  cases x with
  | goto l' => exact ⟨h.1, hJ _ _ h.2⟩
  | _ => exact hQ _ _ _ h
theorem wp_scope_JB {c B : Code} {l : Nat} {Q : Exit → Act → World → Prop} {a : Act} {w : World} (hf : findLabel c l = some (.seq .skip B))
    (first : c.wp P (Exit.jump l (fun a w => ∃ n, JB P l B Q n a w) Q) a w) : (Code.scope c).wp P Q a w := by
  have hl : ∀ (a : Act) (w : World), (∃ n, JB P l B Q n a w) → ∃ n, JB P l B Q n a w ∧ ∀ m, JB P l B Q m a w → n ≤ m := fun a w ⟨n, h⟩ => least n h
  classical
  refine wp_scope_jumps l (fun a w => ∃ n, JB P l B Q n a w) (fun a w => if h : ∃ n, JB P l B Q n a w then Classical.choose (hl a w h) else 0) hf first ?_
  intro a w hJ
  have hs := Classical.choose_spec (hl a w hJ)
  simp only [dif_pos hJ]
  generalize Classical.choose (hl a w hJ) = n at hs
  cases n with
  | zero => exact hs.1.elim
  | succ k =>
    refine Code.wp_mono (jump_mono ?_ fun _ _ _ h => h) hs.1
    intro a' w' h'
    have hJ' : ∃ n, JB P l B Q n a' w' := ⟨k, h'⟩
    refine ⟨hJ', ?_⟩
    rw [dif_pos hJ']
    have := (Classical.choose_spec (hl a' w' hJ')).2 k h'
    omega
theorem lw_wp {fs : List Nat} (hfs : AllOK P fs) (hm : P.follows .mixedOrders = true) {n : Nat} {c : Code} {an : Ann} {e : Env} {w : World} {K : Exit → Env → World → Prop} {a : Act}
    (hd : ∀ d, d ∈ wr c → d < n) (hr : Rep [] n a e) (h : lw P fs c an e w K) : c.wp P (CQ [] n (wr c) a K) a w :=
  (wpIn_wide (n := 0)).1 (Code.wpIn_mono (F := Wf none) (fun _ _ _ h => h) (lw_sound (ro := none) hfs hm c an e w K a hd hr h))
theorem lwA_sound {fs : List Nat} (hfs : AllOK P fs) (hm : P.follows .mixedOrders = true) {n l : Nat} {ws : List Nat} {a0 : Act} {K : Exit → Env → World → Prop} {B : Code} (hK : ∀ l e w, ¬ K (.goto l) e w) :
    ∀ (c : Code) (an : Ann) (e : Env) (w : World) (a : Act), spineB l c = some B → (∀ d, d ∈ wr c → d < n) → (∀ d, d ∈ wr c → d ∈ ws) → Rep [] n a e → Same ws a0 a → lwA P fs l c an e w K →
      c.wp P (Exit.jump l (fun a w => ∃ k, JB P l B (CQ [] n ws a0 K) k a w) (CQ [] n ws a0 K)) a w := by
  intro c
  induction c with
  | seq x y ihx ihy =>
    intro an e w a hB hd hw hr hs h
    have hdx : ∀ d, d ∈ wr x → d < n := fun d hh => hd d (List.mem_append_left _ hh)
    have hdy : ∀ d, d ∈ wr y → d < n := fun d hh => hd d (List.mem_append_right _ hh)
    have hwx : ∀ d, d ∈ wr x → d ∈ ws := fun d hh => hw d (List.mem_append_left _ hh)
    have hwy : ∀ d, d ∈ wr y → d ∈ ws := fun d hh => hw d (List.mem_append_right _ hh)
    cases an with
    | seq j aa ab =>
      have hnl : isLabel l x = false → spineB l y = some B := by
        intro hx
        simp only [spineB, hx] at hB
        split at hB
        · exact hB
        · cases hB
      have hB' : spineB l y = some B := by
        refine hnl ?_
        cases hx : isLabel l x with
        | false => rfl
        | true =>
          exfalso
          cases j <;> simp only [lwA, hx] at h
      cases j with
      | none =>
        simp only [lwA] at h
        split at h
        · exact h.elim
        refine wp_seq (Code.wp_mono ?_ (lw_wp hfs hm hdx hr h))
        rintro z a' w' ⟨e', hr', hs', h'⟩
        have hs2 := hs.trans (hs'.mono hwx)
        cases z with
        | normal => exact ihy ab e' w' a' hB' hdy hwy hr' hs2 h'
        | goto l' => exact (hK _ _ _ h').elim
        | _ => exact ⟨e', hr', hs2, h'⟩
      | some j =>
        simp only [lwA] at h
        split at h
        · exact h.elim
        split at h
        · rename_i hk
          obtain ⟨M, h1, h2⟩ := h
          refine wp_seq (Code.wp_mono ?_ (lw_wp hfs hm hdx hr h1))
          rintro z a' w' ⟨e', hr', hs', h'⟩
          have hs2 := hs.trans (hs'.mono hwx)
          cases z with
          | normal =>
            simp only [seqK] at h'
            split at h'
            · rename_i s hg
              exact ihy ab _ w' a' hB' hdy hwy (getSt_put hr' hg (hr.keep hs' hr'.1 hr'.2.1 hk)) hs2 (h2 s w' h')
            · exact h'.elim
          | goto l' => exact (hK _ _ _ h').elim
          | _ => exact ⟨e', hr', hs2, h'⟩
        · exact h.elim
    | loop j ab =>
      simp only [lwA] at h
      split at h
      · rename_i hx
        have hB' : y = B := by
          simp only [spineB, hx] at hB
          exact Option.some.inj hB
        subst hB'
        split at h
        · rename_i hk
          split at h
          · rename_i s hg
            obtain ⟨I, μ, h0, hround⟩ := h
            rw [isLabel_spec hx]
            have pass : ∀ (J : Act → World → Prop) s w' a', I s w' → Rep [] n a' (putSt j.sg s (keepE j.keep e)) → Same ws a0 a' → Same (wr y) a a' →
                (∀ s2 w2 a2, I s2 w2 → μ s2 w2 < μ s w' → Rep [] n a2 (putSt j.sg s2 (keepE j.keep e)) → Same ws a0 a2 → Same (wr y) a a2 → J a2 w2) → y.wp P (Exit.jump l J (CQ [] n ws a0 K)) a' w' := by
              intro J s w' a' hI hr' hs' hsy hJ
              refine Code.wp_mono ?_ (lw_wp hfs hm hdy hr' (hround s w' hI))
              rintro z a2 w2 ⟨e2, hr2, hs2, h2⟩
              have hs3 := hs'.trans (hs2.mono hwy)
              cases z with
              | goto l' =>
                simp only [jumpK] at h2
                split at h2
                · rename_i hl
                  split at h2
                  · rename_i s2 hg2
                    exact ⟨Nat.eq_of_beq_eq_true hl, hJ s2 w2 a2 h2.1 h2.2 (getSt_put hr2 hg2 (hr.keep (hsy.trans hs2) hr2.1 hr2.2.1 hk)) hs3 (hsy.trans hs2)⟩
                  · exact h2.elim
                · exact h2.elim
              | _ => exact ⟨e2, hr2, hs3, h2⟩
            have key : ∀ k s w' a', μ s w' < k → I s w' → Rep [] n a' (putSt j.sg s (keepE j.keep e)) → Same ws a0 a' → Same (wr y) a a' → JB P l y (CQ [] n ws a0 K) k a' w' := by
              intro k
              induction k with
              | zero => intro s w' a' hlt; omega
              | succ k ih =>
                intro s w' a' hlt hI hr' hs' hsy
                refine wp_seq (wp_skip ?_)
                exact pass _ s w' a' hI hr' hs' hsy fun s2 w2 a2 i1 i2 i3 i4 i5 => ih s2 w2 a2 (by omega) i1 i3 i4 i5
            refine wp_seq (wp_label ?_)
            exact pass _ s w a h0 (getSt_put hr hg (hr.keep (Same.refl _ _) hr.1 hr.2.1 hk)) hs (Same.refl _ _) fun s2 w2 a2 i1 i2 i3 i4 i5 => ⟨_, key (μ s2 w2 + 1) s2 w2 a2 (by omega) i1 i3 i4 i5⟩
          · exact h.elim
        · exact h.elim
      · exact h.elim
    | _ => exact h.elim
  | _ => intro an e w a hB; cases hB
/-- **From what a function's code comes to, to the call.** -/
theorem lwJ_calls {l : Nat} {fs : List Nat} (hfs : AllOK P fs) (hm : P.follows .mixedOrders = true) {f : Nat} {fn : Func} {an : Ann} {args : List Value} {w : World} {R : Value → World → Prop}
    (hf : P.funcs[f]? = some fn) (hn : (match fn.body with | some c => dstsOk fn.ntmps c | none => false) = true) (hz : Nat.ble args.length fn.ntmps = true) (h : lwJFn P fs l fn an args w R) :
    Calls P f args.toArray w (Ret R) := by
  unfold lwJFn at h
  split at h
  · rename_i r c hb
    split at h
    · rename_i ar ac
      split at h
      · rename_i B hB
        rw [hb] at hn
        simp only at hn
        have hz' := Nat.le_of_ble_eq_true hz
        have hdst : ∀ d, d ∈ wr (.seq r (.scope c)) → d < fn.ntmps := fun d hd => by simp only [dstsOk, List.all_eq_true] at hn; exact Nat.le_of_ble_eq_true (hn d hd)
        refine calls_of_wp hf hb ?_
        have hr : Rep [] fn.ntmps { tmps := args.toArray ++ Array.replicate (fn.ntmps - args.toArray.size) undef, defers := [] } (argsE args 0) := by
          refine ⟨by simp; omega, rfl, fun t v ht => ?_⟩
          obtain ⟨_, h2⟩ := argsE_spec _ _ _ _ ht
          rw [Nat.sub_zero] at h2
          have hlt : t < args.length := by
            rcases Nat.lt_or_ge t args.length with h | h
            · exact h
            · rw [List.getElem?_eq_none h] at h2; cases h2
          have : args[t] = v := by rw [List.getElem?_eq_getElem hlt] at h2; exact Option.some.inj h2
          have hlt2 : t < args.length + (fn.ntmps - args.length) := by omega
          simp [hlt, hlt2, this]
        have fin : ∀ x a w' e', Rep [] fn.ntmps a e' → scopeK (retK P fn.results.toList R) x e' w' → retK P fn.results.toList R x e' w' := by
          intro x a w' e' _ h
          cases x with
          | goto => exact h.elim
          | _ => exact h
        refine wp_seq (Code.wp_mono ?_ (lw_wp hfs hm (fun d hd => hdst d (List.mem_append_left _ hd)) hr h))
        rintro x a w' ⟨e', hr', _, h'⟩
        cases x with
        | normal =>
          refine Code.wp_mono ?_ (wp_scope_JB (spineB_find hB) (lwA_sound hfs hm (ws := wr c) (a0 := a) (K := scopeK (retK P fn.results.toList R)) (fun _ _ _ h => h) c ac e' w' a hB (fun d hd => hdst d (List.mem_append_right _ hd)) (fun _ hd => hd) hr' (Same.refl _ _) h'))
          rintro x a w' ⟨e', hr', _, h'⟩
          have h' := fin _ _ _ _ hr' h'
          cases x with
          | normal => exact ⟨hr'.2.1, run_results hr' h'⟩
          | ret => exact ⟨hr'.2.1, run_results hr' h'⟩
          | _ => exact h'.elim
        | ret => exact ⟨hr'.2.1, run_results hr' h'⟩
        | _ => exact h'.elim
      · exact h.elim
    · exact h.elim
  · exact h.elim
end
end Go.Gk
namespace Go.Proofs
open Go.Gk
set_option linter.unusedVariables false
set_option maxRecDepth 100000

/-- intaglio.layout.Cut -/
def a_layout_Cut : Ann := (.seq none .nil (.seq none .nil (.seq none (.seq none .nil (.cond (.seq none .nil .nil) .nil)) (.seq none .nil .nil))))
def L_layout_Cut (p0 : (Int × Int × Sl × Unit)) (R : Value → World → Prop) (w : World) : Prop :=
 Nw (w.alloc (.cells #[(.int .u32 p0.1), (.int .u32 p0.2.1), (.slice p0.2.2.1.a p0.2.2.1.l p0.2.2.1.c)] 25)) fun w1 =>
 Nw (w1.alloc (.cells #[(.int .i64 (0 : Int)), (.int .i64 (0 : Int))] 33)) fun w2 =>
 ldI w2 ((blk w.heap.size).add 0) .u32 fun x1 =>
 ldI w2 ((blk w.heap.size).add 1) .u32 fun x2 =>
 ldS w2 ((blk w.heap.size).add 2) fun x3 =>
 callR Tryz.prog 103 #[(.agg #[(.int .u32 x1), (.int .u32 x2), (.slice x3.a x3.l x3.c)])] w2 fun v4 w3 =>
 ∃ x5 : Option Addr, ∃ x6 : (Int × Int × Unit), v4 = (.tuple #[(.pointer x5), (.agg #[(.int .i64 x6.1), (.int .i64 x6.2.1)])]) ∧
 Nw (w3.alloc (.cells #[(.int .i64 (0 : Int)), (.int .i64 (0 : Int))] 33)) fun w4 =>
 Wr w4 (blk w3.heap.size) ∧
 Nw (w4.setCell (blk w3.heap.size) (.int .i64 x6.1)) fun w5 =>
 Wr w5 ((blk w3.heap.size).add 1) ∧
 Nw (w5.setCell ((blk w3.heap.size).add 1) (.int .i64 x6.2.1)) fun w6 =>
 ifB (Option.isNone x5)
 (ldI w6.drew ((blk w3.heap.size).add 0) .i64 fun x7 =>
 ldI w6.drew ((blk w3.heap.size).add 1) .i64 fun x8 =>
 Wr w6.drew (blk w1.heap.size) ∧
 Nw (w6.drew.setCell (blk w1.heap.size) (.int .i64 x7)) fun w7 =>
 Wr w7 ((blk w1.heap.size).add 1) ∧
 Nw (w7.setCell ((blk w1.heap.size).add 1) (.int .i64 x8)) fun w8 =>
 ldI w8 ((blk w1.heap.size).add 0) .i64 fun x9 =>
 ldI w8 ((blk w1.heap.size).add 1) .i64 fun x10 =>
 R (.tuple #[(.slice none 0 0), (.agg #[(.int .i64 x9), (.int .i64 x10)])]) w8)
 (derefP x5 fun a11 =>
 ldS w6.drew (a11.add 22) fun x12 =>
 ldI w6.drew ((blk w3.heap.size).add 0) .i64 fun x13 =>
 ldI w6.drew ((blk w3.heap.size).add 1) .i64 fun x14 =>
 Wr w6.drew (blk w1.heap.size) ∧
 Nw (w6.drew.setCell (blk w1.heap.size) (.int .i64 x13)) fun w9 =>
 Wr w9 ((blk w1.heap.size).add 1) ∧
 Nw (w9.setCell ((blk w1.heap.size).add 1) (.int .i64 x14)) fun w10 =>
 ldI w10 ((blk w1.heap.size).add 0) .i64 fun x15 =>
 ldI w10 ((blk w1.heap.size).add 1) .i64 fun x16 =>
 R (.tuple #[(.slice x12.a x12.l x12.c), (.agg #[(.int .i64 x15), (.int .i64 x16)])]) w10)
theorem layout_Cut_calls (p0 : (Int × Int × Sl × Unit)) (R : Value → World → Prop) (w : World) (h : L_layout_Cut p0 R w) : Calls Tryz.prog 45 #[(.agg #[(.int .u32 p0.1), (.int .u32 p0.2.1), (.slice p0.2.2.1.a p0.2.2.1.l p0.2.2.1.c)])] w (Ret R) :=
 lw_calls (fs := Tryz.fs) (an := a_layout_Cut) (args := [(.agg #[(.int .u32 p0.1), (.int .u32 p0.2.1), (.slice p0.2.2.1.a p0.2.2.1.l p0.2.2.1.c)])]) Tryz.fsOK Tryz.mixed Tryz.func45 (by kernel_rfl) (by kernel_rfl)
 (Eq.mpr (by kernel_rfl : lwFn Tryz.prog Tryz.fs Tryz.f45 a_layout_Cut [(.agg #[(.int .u32 p0.1), (.int .u32 p0.2.1), (.slice p0.2.2.1.a p0.2.2.1.l p0.2.2.1.c)])] w R = L_layout_Cut p0 R w) h)

/-- intaglio.layout.Parts -/
def a_layout_Parts : Ann := (.seq none .nil (.seq none .nil (.seq none (.seq none .nil (.cond (.seq none .nil .nil) .nil)) (.seq none .nil .nil))))
def L_layout_Parts (p0 : (Int × Int × Sl × Unit)) (R : Value → World → Prop) (w : World) : Prop :=
 Nw (w.alloc (.cells #[(.int .u32 p0.1), (.int .u32 p0.2.1), (.slice p0.2.2.1.a p0.2.2.1.l p0.2.2.1.c)] 25)) fun w1 =>
 Nw (w1.alloc (.cells (List.toArray (List.replicate 20 (.int .i64 (0 : Int)))) 143)) fun w2 =>
 Nw (w2.alloc (.cells #[(.int .i64 (0 : Int)), (.int .i64 (0 : Int))] 33)) fun w3 =>
 ldI w3 ((blk w.heap.size).add 0) .u32 fun x1 =>
 ldI w3 ((blk w.heap.size).add 1) .u32 fun x2 =>
 ldS w3 ((blk w.heap.size).add 2) fun x3 =>
 callR Tryz.prog 103 #[(.agg #[(.int .u32 x1), (.int .u32 x2), (.slice x3.a x3.l x3.c)])] w3 fun v4 w4 =>
 ∃ x5 : Option Addr, ∃ x6 : (Int × Int × Unit), v4 = (.tuple #[(.pointer x5), (.agg #[(.int .i64 x6.1), (.int .i64 x6.2.1)])]) ∧
 Nw (w4.alloc (.cells #[(.int .i64 (0 : Int)), (.int .i64 (0 : Int))] 33)) fun w5 =>
 Wr w5 (blk w4.heap.size) ∧
 Nw (w5.setCell (blk w4.heap.size) (.int .i64 x6.1)) fun w6 =>
 Wr w6 ((blk w4.heap.size).add 1) ∧
 Nw (w6.setCell ((blk w4.heap.size).add 1) (.int .i64 x6.2.1)) fun w7 =>
 ifB (Option.isNone x5)
 (ldI w7.drew ((blk w4.heap.size).add 0) .i64 fun x7 =>
 ldI w7.drew ((blk w4.heap.size).add 1) .i64 fun x8 =>
 Wr w7.drew (blk w1.heap.size) ∧
 Nw (w7.drew.setCell (blk w1.heap.size) (.int .i64 (0 : Int))) fun w8 =>
 Wr w8 ((blk w1.heap.size).add 1) ∧
 Nw (w8.setCell ((blk w1.heap.size).add 1) (.int .i64 (0 : Int))) fun w9 =>
 Wr w9 ((blk w1.heap.size).add 2) ∧
 Nw (w9.setCell ((blk w1.heap.size).add 2) (.int .i64 (0 : Int))) fun w10 =>
 Wr w10 ((blk w1.heap.size).add 3) ∧
 Nw (w10.setCell ((blk w1.heap.size).add 3) (.int .i64 (0 : Int))) fun w11 =>
 Wr w11 ((blk w1.heap.size).add 4) ∧
 Nw (w11.setCell ((blk w1.heap.size).add 4) (.int .i64 (0 : Int))) fun w12 =>
 Wr w12 ((blk w1.heap.size).add 5) ∧
 Nw (w12.setCell ((blk w1.heap.size).add 5) (.int .i64 (0 : Int))) fun w13 =>
 Wr w13 ((blk w1.heap.size).add 6) ∧
 Nw (w13.setCell ((blk w1.heap.size).add 6) (.int .i64 (0 : Int))) fun w14 =>
 Wr w14 ((blk w1.heap.size).add 7) ∧
 Nw (w14.setCell ((blk w1.heap.size).add 7) (.int .i64 (0 : Int))) fun w15 =>
 Wr w15 ((blk w1.heap.size).add 8) ∧
 Nw (w15.setCell ((blk w1.heap.size).add 8) (.int .i64 (0 : Int))) fun w16 =>
 Wr w16 ((blk w1.heap.size).add 9) ∧
 Nw (w16.setCell ((blk w1.heap.size).add 9) (.int .i64 (0 : Int))) fun w17 =>
 Wr w17 ((blk w1.heap.size).add 10) ∧
 Nw (w17.setCell ((blk w1.heap.size).add 10) (.int .i64 (0 : Int))) fun w18 =>
 Wr w18 ((blk w1.heap.size).add 11) ∧
 Nw (w18.setCell ((blk w1.heap.size).add 11) (.int .i64 (0 : Int))) fun w19 =>
 Wr w19 ((blk w1.heap.size).add 12) ∧
 Nw (w19.setCell ((blk w1.heap.size).add 12) (.int .i64 (0 : Int))) fun w20 =>
 Wr w20 ((blk w1.heap.size).add 13) ∧
 Nw (w20.setCell ((blk w1.heap.size).add 13) (.int .i64 (0 : Int))) fun w21 =>
 Wr w21 ((blk w1.heap.size).add 14) ∧
 Nw (w21.setCell ((blk w1.heap.size).add 14) (.int .i64 (0 : Int))) fun w22 =>
 Wr w22 ((blk w1.heap.size).add 15) ∧
 Nw (w22.setCell ((blk w1.heap.size).add 15) (.int .i64 (0 : Int))) fun w23 =>
 Wr w23 ((blk w1.heap.size).add 16) ∧
 Nw (w23.setCell ((blk w1.heap.size).add 16) (.int .i64 (0 : Int))) fun w24 =>
 Wr w24 ((blk w1.heap.size).add 17) ∧
 Nw (w24.setCell ((blk w1.heap.size).add 17) (.int .i64 (0 : Int))) fun w25 =>
 Wr w25 ((blk w1.heap.size).add 18) ∧
 Nw (w25.setCell ((blk w1.heap.size).add 18) (.int .i64 (0 : Int))) fun w26 =>
 Wr w26 ((blk w1.heap.size).add 19) ∧
 Nw (w26.setCell ((blk w1.heap.size).add 19) (.int .i64 (0 : Int))) fun w27 =>
 w27.cell? ((blk w4.heap.size).add 0) = some (.int .i64 x7) ∧
 w27.cell? ((blk w4.heap.size).add 1) = some (.int .i64 x8) ∧
 Wr w27 (blk w2.heap.size) ∧
 Nw (w27.setCell (blk w2.heap.size) (.int .i64 x7)) fun w28 =>
 Wr w28 ((blk w2.heap.size).add 1) ∧
 Nw (w28.setCell ((blk w2.heap.size).add 1) (.int .i64 x8)) fun w29 =>
 ldI w29 ((blk w1.heap.size).add 0) .i64 fun x9 =>
 ldI w29 ((blk w1.heap.size).add 1) .i64 fun x10 =>
 ldI w29 ((blk w1.heap.size).add 2) .i64 fun x11 =>
 ldI w29 ((blk w1.heap.size).add 3) .i64 fun x12 =>
 ldI w29 ((blk w1.heap.size).add 4) .i64 fun x13 =>
 ldI w29 ((blk w1.heap.size).add 5) .i64 fun x14 =>
 ldI w29 ((blk w1.heap.size).add 6) .i64 fun x15 =>
 ldI w29 ((blk w1.heap.size).add 7) .i64 fun x16 =>
 ldI w29 ((blk w1.heap.size).add 8) .i64 fun x17 =>
 ldI w29 ((blk w1.heap.size).add 9) .i64 fun x18 =>
 ldI w29 ((blk w1.heap.size).add 10) .i64 fun x19 =>
 ldI w29 ((blk w1.heap.size).add 11) .i64 fun x20 =>
 ldI w29 ((blk w1.heap.size).add 12) .i64 fun x21 =>
 ldI w29 ((blk w1.heap.size).add 13) .i64 fun x22 =>
 ldI w29 ((blk w1.heap.size).add 14) .i64 fun x23 =>
 ldI w29 ((blk w1.heap.size).add 15) .i64 fun x24 =>
 ldI w29 ((blk w1.heap.size).add 16) .i64 fun x25 =>
 ldI w29 ((blk w1.heap.size).add 17) .i64 fun x26 =>
 ldI w29 ((blk w1.heap.size).add 18) .i64 fun x27 =>
 ldI w29 ((blk w1.heap.size).add 19) .i64 fun x28 =>
 ldI w29 ((blk w2.heap.size).add 0) .i64 fun x29 =>
 ldI w29 ((blk w2.heap.size).add 1) .i64 fun x30 =>
 R (.tuple #[(.agg #[(.int .i64 x9), (.int .i64 x10), (.int .i64 x11), (.int .i64 x12), (.int .i64 x13), (.int .i64 x14), (.int .i64 x15), (.int .i64 x16), (.int .i64 x17), (.int .i64 x18), (.int .i64 x19), (.int .i64 x20), (.int .i64 x21), (.int .i64 x22), (.int .i64 x23), (.int .i64 x24), (.int .i64 x25), (.int .i64 x26), (.int .i64 x27), (.int .i64 x28)]), (.agg #[(.int .i64 x29), (.int .i64 x30)])]) w29)
 (derefP x5 fun a31 =>
 ldI w7.drew ((a31.add 2).add 0) .i64 fun x32 =>
 ldI w7.drew ((a31.add 2).add 1) .i64 fun x33 =>
 ldI w7.drew ((a31.add 2).add 2) .i64 fun x34 =>
 ldI w7.drew ((a31.add 2).add 3) .i64 fun x35 =>
 ldI w7.drew ((a31.add 2).add 4) .i64 fun x36 =>
 ldI w7.drew ((a31.add 2).add 5) .i64 fun x37 =>
 ldI w7.drew ((a31.add 2).add 6) .i64 fun x38 =>
 ldI w7.drew ((a31.add 2).add 7) .i64 fun x39 =>
 ldI w7.drew ((a31.add 2).add 8) .i64 fun x40 =>
 ldI w7.drew ((a31.add 2).add 9) .i64 fun x41 =>
 ldI w7.drew ((a31.add 2).add 10) .i64 fun x42 =>
 ldI w7.drew ((a31.add 2).add 11) .i64 fun x43 =>
 ldI w7.drew ((a31.add 2).add 12) .i64 fun x44 =>
 ldI w7.drew ((a31.add 2).add 13) .i64 fun x45 =>
 ldI w7.drew ((a31.add 2).add 14) .i64 fun x46 =>
 ldI w7.drew ((a31.add 2).add 15) .i64 fun x47 =>
 ldI w7.drew ((a31.add 2).add 16) .i64 fun x48 =>
 ldI w7.drew ((a31.add 2).add 17) .i64 fun x49 =>
 ldI w7.drew ((a31.add 2).add 18) .i64 fun x50 =>
 ldI w7.drew ((a31.add 2).add 19) .i64 fun x51 =>
 ldI w7.drew ((blk w4.heap.size).add 0) .i64 fun x52 =>
 ldI w7.drew ((blk w4.heap.size).add 1) .i64 fun x53 =>
 Wr w7.drew (blk w1.heap.size) ∧
 Nw (w7.drew.setCell (blk w1.heap.size) (.int .i64 x32)) fun w30 =>
 Wr w30 ((blk w1.heap.size).add 1) ∧
 Nw (w30.setCell ((blk w1.heap.size).add 1) (.int .i64 x33)) fun w31 =>
 Wr w31 ((blk w1.heap.size).add 2) ∧
 Nw (w31.setCell ((blk w1.heap.size).add 2) (.int .i64 x34)) fun w32 =>
 Wr w32 ((blk w1.heap.size).add 3) ∧
 Nw (w32.setCell ((blk w1.heap.size).add 3) (.int .i64 x35)) fun w33 =>
 Wr w33 ((blk w1.heap.size).add 4) ∧
 Nw (w33.setCell ((blk w1.heap.size).add 4) (.int .i64 x36)) fun w34 =>
 Wr w34 ((blk w1.heap.size).add 5) ∧
 Nw (w34.setCell ((blk w1.heap.size).add 5) (.int .i64 x37)) fun w35 =>
 Wr w35 ((blk w1.heap.size).add 6) ∧
 Nw (w35.setCell ((blk w1.heap.size).add 6) (.int .i64 x38)) fun w36 =>
 Wr w36 ((blk w1.heap.size).add 7) ∧
 Nw (w36.setCell ((blk w1.heap.size).add 7) (.int .i64 x39)) fun w37 =>
 Wr w37 ((blk w1.heap.size).add 8) ∧
 Nw (w37.setCell ((blk w1.heap.size).add 8) (.int .i64 x40)) fun w38 =>
 Wr w38 ((blk w1.heap.size).add 9) ∧
 Nw (w38.setCell ((blk w1.heap.size).add 9) (.int .i64 x41)) fun w39 =>
 Wr w39 ((blk w1.heap.size).add 10) ∧
 Nw (w39.setCell ((blk w1.heap.size).add 10) (.int .i64 x42)) fun w40 =>
 Wr w40 ((blk w1.heap.size).add 11) ∧
 Nw (w40.setCell ((blk w1.heap.size).add 11) (.int .i64 x43)) fun w41 =>
 Wr w41 ((blk w1.heap.size).add 12) ∧
 Nw (w41.setCell ((blk w1.heap.size).add 12) (.int .i64 x44)) fun w42 =>
 Wr w42 ((blk w1.heap.size).add 13) ∧
 Nw (w42.setCell ((blk w1.heap.size).add 13) (.int .i64 x45)) fun w43 =>
 Wr w43 ((blk w1.heap.size).add 14) ∧
 Nw (w43.setCell ((blk w1.heap.size).add 14) (.int .i64 x46)) fun w44 =>
 Wr w44 ((blk w1.heap.size).add 15) ∧
 Nw (w44.setCell ((blk w1.heap.size).add 15) (.int .i64 x47)) fun w45 =>
 Wr w45 ((blk w1.heap.size).add 16) ∧
 Nw (w45.setCell ((blk w1.heap.size).add 16) (.int .i64 x48)) fun w46 =>
 Wr w46 ((blk w1.heap.size).add 17) ∧
 Nw (w46.setCell ((blk w1.heap.size).add 17) (.int .i64 x49)) fun w47 =>
 Wr w47 ((blk w1.heap.size).add 18) ∧
 Nw (w47.setCell ((blk w1.heap.size).add 18) (.int .i64 x50)) fun w48 =>
 Wr w48 ((blk w1.heap.size).add 19) ∧
 Nw (w48.setCell ((blk w1.heap.size).add 19) (.int .i64 x51)) fun w49 =>
 w49.cell? ((blk w4.heap.size).add 0) = some (.int .i64 x52) ∧
 w49.cell? ((blk w4.heap.size).add 1) = some (.int .i64 x53) ∧
 Wr w49 (blk w2.heap.size) ∧
 Nw (w49.setCell (blk w2.heap.size) (.int .i64 x52)) fun w50 =>
 Wr w50 ((blk w2.heap.size).add 1) ∧
 Nw (w50.setCell ((blk w2.heap.size).add 1) (.int .i64 x53)) fun w51 =>
 ldI w51 ((blk w1.heap.size).add 0) .i64 fun x54 =>
 ldI w51 ((blk w1.heap.size).add 1) .i64 fun x55 =>
 ldI w51 ((blk w1.heap.size).add 2) .i64 fun x56 =>
 ldI w51 ((blk w1.heap.size).add 3) .i64 fun x57 =>
 ldI w51 ((blk w1.heap.size).add 4) .i64 fun x58 =>
 ldI w51 ((blk w1.heap.size).add 5) .i64 fun x59 =>
 ldI w51 ((blk w1.heap.size).add 6) .i64 fun x60 =>
 ldI w51 ((blk w1.heap.size).add 7) .i64 fun x61 =>
 ldI w51 ((blk w1.heap.size).add 8) .i64 fun x62 =>
 ldI w51 ((blk w1.heap.size).add 9) .i64 fun x63 =>
 ldI w51 ((blk w1.heap.size).add 10) .i64 fun x64 =>
 ldI w51 ((blk w1.heap.size).add 11) .i64 fun x65 =>
 ldI w51 ((blk w1.heap.size).add 12) .i64 fun x66 =>
 ldI w51 ((blk w1.heap.size).add 13) .i64 fun x67 =>
 ldI w51 ((blk w1.heap.size).add 14) .i64 fun x68 =>
 ldI w51 ((blk w1.heap.size).add 15) .i64 fun x69 =>
 ldI w51 ((blk w1.heap.size).add 16) .i64 fun x70 =>
 ldI w51 ((blk w1.heap.size).add 17) .i64 fun x71 =>
 ldI w51 ((blk w1.heap.size).add 18) .i64 fun x72 =>
 ldI w51 ((blk w1.heap.size).add 19) .i64 fun x73 =>
 ldI w51 ((blk w2.heap.size).add 0) .i64 fun x74 =>
 ldI w51 ((blk w2.heap.size).add 1) .i64 fun x75 =>
 R (.tuple #[(.agg #[(.int .i64 x54), (.int .i64 x55), (.int .i64 x56), (.int .i64 x57), (.int .i64 x58), (.int .i64 x59), (.int .i64 x60), (.int .i64 x61), (.int .i64 x62), (.int .i64 x63), (.int .i64 x64), (.int .i64 x65), (.int .i64 x66), (.int .i64 x67), (.int .i64 x68), (.int .i64 x69), (.int .i64 x70), (.int .i64 x71), (.int .i64 x72), (.int .i64 x73)]), (.agg #[(.int .i64 x74), (.int .i64 x75)])]) w51)
theorem layout_Parts_calls (p0 : (Int × Int × Sl × Unit)) (R : Value → World → Prop) (w : World) (h : L_layout_Parts p0 R w) : Calls Tryz.prog 100 #[(.agg #[(.int .u32 p0.1), (.int .u32 p0.2.1), (.slice p0.2.2.1.a p0.2.2.1.l p0.2.2.1.c)])] w (Ret R) :=
 lw_calls (fs := Tryz.fs) (an := a_layout_Parts) (args := [(.agg #[(.int .u32 p0.1), (.int .u32 p0.2.1), (.slice p0.2.2.1.a p0.2.2.1.l p0.2.2.1.c)])]) Tryz.fsOK Tryz.mixed Tryz.func100 (by kernel_rfl) (by kernel_rfl)
 (Eq.mpr (by kernel_rfl : lwFn Tryz.prog Tryz.fs Tryz.f100 a_layout_Parts [(.agg #[(.int .u32 p0.1), (.int .u32 p0.2.1), (.slice p0.2.2.1.a p0.2.2.1.l p0.2.2.1.c)])] w R = L_layout_Parts p0 R w) h)

/-- intaglio.layout.read -/
def a_layout_read : Ann := (.seq none .nil (.seq none (.seq none .nil (.seq none .nil (.cond (.seq none .nil .nil) .nil))) (.seq none .nil (.seq none (.one (.seq none .nil (.cond (.seq none .nil .nil) (.seq none .nil (.cond (.seq none .nil .nil) .nil))))) (.seq none .nil .nil)))))
def L_layout_read (p0 : (Int × Int × Sl × Unit)) (R : Value → World → Prop) (w : World) : Prop :=
 Nw (w.alloc (.cells #[(.int .u32 p0.1), (.int .u32 p0.2.1), (.slice p0.2.2.1.a p0.2.2.1.l p0.2.2.1.c)] 25)) fun w1 =>
 Nw (w1.alloc (.cells #[(.int .i64 (0 : Int)), (.int .i64 (0 : Int))] 33)) fun w2 =>
 ldI w2 ((blk w.heap.size).add 0) .u32 fun x1 =>
 ldI w2 ((blk w.heap.size).add 1) .u32 fun x2 =>
 ldS w2 ((blk w.heap.size).add 2) fun x3 =>
 callR Tryz.prog 69 #[(.agg #[(.int .u32 x1), (.int .u32 x2), (.slice x3.a x3.l x3.c)])] w2 fun v4 w3 =>
 ∃ x5 : (Int × Int × Unit), v4 = (.agg #[(.int .i64 x5.1), (.int .i64 x5.2.1)]) ∧
 Nw (w3.alloc (.cells #[(.int .i64 (0 : Int)), (.int .i64 (0 : Int))] 33)) fun w4 =>
 Wr w4 (blk w3.heap.size) ∧
 Nw (w4.setCell (blk w3.heap.size) (.int .i64 x5.1)) fun w5 =>
 Wr w5 ((blk w3.heap.size).add 1) ∧
 Nw (w5.setCell ((blk w3.heap.size).add 1) (.int .i64 x5.2.1)) fun w6 =>
 ldI w6 (blk w3.heap.size) .i64 fun x6 =>
 ifB (x6 != (0 : Int))
 (ldI w6.drew ((blk w3.heap.size).add 0) .i64 fun x7 =>
 ldI w6.drew ((blk w3.heap.size).add 1) .i64 fun x8 =>
 Wr w6.drew (blk w1.heap.size) ∧
 Nw (w6.drew.setCell (blk w1.heap.size) (.int .i64 x7)) fun w7 =>
 Wr w7 ((blk w1.heap.size).add 1) ∧
 Nw (w7.setCell ((blk w1.heap.size).add 1) (.int .i64 x8)) fun w8 =>
 ldI w8 ((blk w1.heap.size).add 0) .i64 fun x9 =>
 ldI w8 ((blk w1.heap.size).add 1) .i64 fun x10 =>
 R (.tuple #[(.pointer none), (.agg #[(.int .i64 x9), (.int .i64 x10)])]) w8)
 (ldS w6 ((blk w.heap.size).add 2) fun x11 =>
 Nw (w6.alloc (.cells (List.toArray ([(.slice x11.a x11.l x11.c)] ++ List.replicate 21 (.int .i64 (0 : Int)) ++ [(.slice none 0 0)])) 151)) fun w9 =>
 callR Tryz.prog 140 #[(.pointer (some (blk w6.heap.size)))] w9 fun v12 w10 =>
 ∃ x13 : Bool, v12 = (.bool x13) ∧
 ifB x13
 (Wr w10 (blk w1.heap.size) ∧
 Nw (w10.setCell (blk w1.heap.size) (.int .i64 (0 : Int))) fun w11 =>
 Wr w11 ((blk w1.heap.size).add 1) ∧
 Nw (w11.setCell ((blk w1.heap.size).add 1) (.int .i64 (0 : Int))) fun w12 =>
 ldI w12 ((blk w1.heap.size).add 0) .i64 fun x14 =>
 ldI w12 ((blk w1.heap.size).add 1) .i64 fun x15 =>
 R (.tuple #[(.pointer (some (blk w6.heap.size))), (.agg #[(.int .i64 x14), (.int .i64 x15)])]) w12)
 (ldI w10.drew ((blk w6.heap.size).add 1) .i64 fun x16 =>
 ldS w10.drew ((blk w.heap.size).add 2) fun x17 =>
 ifB (decide (x16 < (x17.l : Int)))
 (ldI w10.drew.drew ((blk w6.heap.size).add 1) .i64 fun x18 =>
 Wr w10.drew.drew (blk w1.heap.size) ∧
 Nw (w10.drew.drew.setCell (blk w1.heap.size) (.int .i64 (50 : Int))) fun w13 =>
 Wr w13 ((blk w1.heap.size).add 1) ∧
 Nw (w13.setCell ((blk w1.heap.size).add 1) (.int .i64 x18)) fun w14 =>
 ldI w14 ((blk w1.heap.size).add 0) .i64 fun x19 =>
 ldI w14 ((blk w1.heap.size).add 1) .i64 fun x20 =>
 R (.tuple #[(.pointer none), (.agg #[(.int .i64 x19), (.int .i64 x20)])]) w14)
 (ldI w10.drew.drew ((blk w6.heap.size).add 1) .i64 fun x21 =>
 Wr w10.drew.drew (blk w1.heap.size) ∧
 Nw (w10.drew.drew.setCell (blk w1.heap.size) (.int .i64 (51 : Int))) fun w15 =>
 Wr w15 ((blk w1.heap.size).add 1) ∧
 Nw (w15.setCell ((blk w1.heap.size).add 1) (.int .i64 x21)) fun w16 =>
 ldI w16 ((blk w1.heap.size).add 0) .i64 fun x22 =>
 ldI w16 ((blk w1.heap.size).add 1) .i64 fun x23 =>
 R (.tuple #[(.pointer none), (.agg #[(.int .i64 x22), (.int .i64 x23)])]) w16)))
theorem layout_read_calls (p0 : (Int × Int × Sl × Unit)) (R : Value → World → Prop) (w : World) (h : L_layout_read p0 R w) : Calls Tryz.prog 103 #[(.agg #[(.int .u32 p0.1), (.int .u32 p0.2.1), (.slice p0.2.2.1.a p0.2.2.1.l p0.2.2.1.c)])] w (Ret R) :=
 lw_calls (fs := Tryz.fs) (an := a_layout_read) (args := [(.agg #[(.int .u32 p0.1), (.int .u32 p0.2.1), (.slice p0.2.2.1.a p0.2.2.1.l p0.2.2.1.c)])]) Tryz.fsOK Tryz.mixed Tryz.func103 (by kernel_rfl) (by kernel_rfl)
 (Eq.mpr (by kernel_rfl : lwFn Tryz.prog Tryz.fs Tryz.f103 a_layout_read [(.agg #[(.int .u32 p0.1), (.int .u32 p0.2.1), (.slice p0.2.2.1.a p0.2.2.1.l p0.2.2.1.c)])] w R = L_layout_read p0 R w) h)

/-- (*intaglio.layout.cutter).cut -/
def a_layout_cutter_cut : Ann := (.seq none .nil (.one (.seq none (.seq none .nil (.cond (.seq none .nil .nil) .nil)) (.seq none .nil (.seq none .nil (.loop ⟨[0], []⟩ (.seq none (.seq none .nil (.cond (.seq none .nil .nil) .nil)) (.seq none (.seq none .nil (.cond (.seq none .nil .nil) .nil)) (.seq none .nil (.seq none .nil (.seq none .nil (.seq none .nil (.seq none (.one (.loop ⟨[0, 3], []⟩ (.seq none (.seq none .nil (.cond .nil .nil)) (.one (.seq none (.seq none .nil (.cond (.seq none .nil .nil) .nil)) .nil))))) (.seq (some ⟨[0, 3], []⟩) (.seq none .nil (.cond (.seq none .nil .nil) .nil)) (.seq none .nil (.seq none .nil (.seq none .nil .nil)))))))))))))))))
def L_layout_cutter_cut (p0 : Option Addr) (R : Value → World → Prop) (w : World) : Prop :=
 callR Tryz.prog 172 #[(.pointer p0)] w fun v1 w1 =>
 ∃ x2 : Bool, v1 = (.bool x2) ∧
 ifB (!x2)
 (R (.bool false) w1)
 (derefP p0 fun a3 =>
 ldI w1.drew (a3.add 1) .i64 fun x4 =>
 derefP p0 fun a5 =>
 ldS w1.drew a5 fun x6 =>
 derefP p0 fun a7 =>
 (0 ≤ (8 : Int) ∧ (8 : Int) < (10 : Int)) ∧
 Wr w1.drew ((a7.add 2).add (8 * 2)) ∧
 Nw (w1.drew.setCell ((a7.add 2).add (8 * 2)) (.int .i64 x4)) fun w2 =>
 Wr w2 (((a7.add 2).add (8 * 2)).add 1) ∧
 Nw (w2.setCell (((a7.add 2).add (8 * 2)).add 1) (.int .i64 (x6.l : Int))) fun w3 =>
 derefP p0 fun a8 =>
 ldS w3.drew a8 fun x9 =>
 derefP p0 fun a10 =>
 ldS w3.drew a10 fun x11 =>
 derefP p0 fun a12 =>
 (0 ≤ (9 : Int) ∧ (9 : Int) < (10 : Int)) ∧
 Wr w3.drew ((a12.add 2).add (9 * 2)) ∧
 Nw (w3.drew.setCell ((a12.add 2).add (9 * 2)) (.int .i64 (x9.l : Int))) fun w4 =>
 Wr w4 (((a12.add 2).add (9 * 2)).add 1) ∧
 Nw (w4.setCell (((a12.add 2).add (9 * 2)).add 1) (.int .i64 (x11.l : Int))) fun w5 =>
 LoopW (S := Unit) (fun s13 w6 n14 =>
 callR Tryz.prog 173 #[(.pointer p0)] w6 fun v15 w7 =>
 ∃ x16 : Int, v15 = (.int .i64 x16) ∧
 ifB (decide (x16 < (0 : Int)))
 (R (.bool true) w7)
 (callR Tryz.prog 173 #[(.pointer p0)] w7 fun v17 w8 =>
 ∃ x18 : Int, v17 = (.int .i64 x18) ∧
 ifB (x18 != (1 : Int))
 (R (.bool false) w8)
 (derefP p0 fun a19 =>
 ldS w8.drew a19 fun x20 =>
 derefP p0 fun a21 =>
 ldI w8.drew (a21.add 1) .i64 fun x22 =>
 (0 ≤ x22 ∧ x22 < (x20.l : Int)) ∧
 derefP x20.a fun a23 =>
 ldI w8.drew ((a23.add ((Int.toNat x22) * 4)).add 2) .u32 fun x24 =>
 derefP p0 fun a25 =>
 ldI w8.drew (a25.add 1) .i64 fun x26 =>
 Nw (w8.drew.alloc (.cells #[(.int .u32 (0 : Int)), (.int .i64 (0 : Int)), (.slice none 0 0), (.slice none 0 0), (.int .i64 (0 : Int))] 29)) fun w9 =>
 w9.cell? (a25.add 1) = some (.int .i64 x26) ∧
 w9.cell? ((a23.add ((Int.toNat x22) * 4)).add 2) = some (.int .u32 x24) ∧
 w9.cell? (a21.add 1) = some (.int .i64 x22) ∧
 w9.cell? a19 = some (.slice x20.a x20.l x20.c) ∧
 Wr w9 (blk w8.drew.heap.size) ∧
 Nw (w9.setCell (blk w8.drew.heap.size) (.int .u32 x24)) fun w10 =>
 Wr w10 ((blk w8.drew.heap.size).add 1) ∧
 Nw (w10.setCell ((blk w8.drew.heap.size).add 1) (.int .i64 x26)) fun w11 =>
 Wr w11 ((blk w8.drew.heap.size).add 2) ∧
 Nw (w11.setCell ((blk w8.drew.heap.size).add 2) (.slice none 0 0)) fun w12 =>
 Wr w12 ((blk w8.drew.heap.size).add 3) ∧
 Nw (w12.setCell ((blk w8.drew.heap.size).add 3) (.slice none 0 0)) fun w13 =>
 Wr w13 ((blk w8.drew.heap.size).add 4) ∧
 Nw (w13.setCell ((blk w8.drew.heap.size).add 4) (.int .i64 (0 : Int))) fun w14 =>
 derefP p0 fun a27 =>
 ldI w14 (a27.add 1) .i64 fun x28 =>
 derefP p0 fun a29 =>
 Wr w14 (a29.add 1) ∧
 Nw (w14.setCell (a29.add 1) (.int .i64 (IntKind.i64.wrap (x28 + (1 : Int))))) fun w15 =>
 callR Tryz.prog 174 #[(.pointer p0), (.int .i64 (2 : Int))] w15 fun v30 w16 =>
 ∃ x31 : Sl, v30 = (.slice x31.a x31.l x31.c) ∧
 Wr w16 ((blk w8.drew.heap.size).add 2) ∧
 Nw (w16.setCell ((blk w8.drew.heap.size).add 2) (.slice x31.a x31.l x31.c)) fun w17 =>
 LoopW (S := Unit) (fun s32 w18 n33 =>
 callR Tryz.prog 173 #[(.pointer p0)] w18 fun v34 w19 =>
 ∃ x35 : Int, v34 = (.int .i64 x35) ∧
 ifB (x35 == (3 : Int))
 (callR Tryz.prog 175 #[(.pointer p0), (.pointer (some (blk w8.drew.heap.size)))] w19 fun v36 w20 =>
 ∃ x37 : Bool, v36 = (.bool x37) ∧
 ifB (!x37)
 (R (.bool false) w20)
 (n33 (()) w20))
 (JoinW (S := Unit) (fun m38 =>
 ldS w19 ((blk w8.drew.heap.size).add 3) fun x40 =>
 ifB ((x40.l : Int) == (0 : Int))
 (R (.bool false) w19)
 (callR Tryz.prog 173 #[(.pointer p0)] w19 fun v41 w21 =>
 ∃ x42 : Int, v41 = (.int .i64 x42) ∧
 ifB (x42 != (8 : Int))
 (R (.bool false) w21)
 (m38 (()) w21)))
 (fun s39 w22 =>
 derefP p0 fun a43 =>
 ldI w22 (a43.add 1) .i64 fun x44 =>
 Wr w22 ((blk w8.drew.heap.size).add 4) ∧
 Nw (w22.setCell ((blk w8.drew.heap.size).add 4) (.int .i64 x44)) fun w23 =>
 derefP p0 fun a45 =>
 ldI w23 (a45.add 1) .i64 fun x46 =>
 derefP p0 fun a47 =>
 Wr w23 (a47.add 1) ∧
 Nw (w23.setCell (a47.add 1) (.int .i64 (IntKind.i64.wrap (x46 + (1 : Int))))) fun w24 =>
 derefP p0 fun a48 =>
 ldS w24.drew (a48.add 22) fun x49 =>
 ldI w24.drew ((blk w8.drew.heap.size).add 0) .u32 fun x50 =>
 ldI w24.drew ((blk w8.drew.heap.size).add 1) .i64 fun x51 =>
 ldS w24.drew ((blk w8.drew.heap.size).add 2) fun x52 =>
 ldS w24.drew ((blk w8.drew.heap.size).add 3) fun x53 =>
 ldI w24.drew ((blk w8.drew.heap.size).add 4) .i64 fun x54 =>
 Nw (w24.drew.alloc (.cells #[(.int .u32 x50), (.int .i64 x51), (.slice x52.a x52.l x52.c), (.slice x53.a x53.l x53.c), (.int .i64 x54)] 29)) fun w25 =>
 w25.cell? (a48.add 22) = some (.slice x49.a x49.l x49.c) ∧
 appendS Tryz.prog 30 (.slice x49.a x49.l x49.c) (.slice (some (blk w24.drew.heap.size)) 1 1) w25 fun r55 w26 =>
 derefP p0 fun a56 =>
 Wr w26 (a56.add 22) ∧
 Nw (w26.setCell (a56.add 22) (.slice r55.a r55.l r55.c)) fun w27 =>
 n14 (()) w27)))
 (()) w17)))
 (()) w5)
theorem layout_cutter_cut_calls (p0 : Option Addr) (R : Value → World → Prop) (w : World) (h : L_layout_cutter_cut p0 R w) : Calls Tryz.prog 140 #[(.pointer p0)] w (Ret R) :=
 lwJ_calls (l := 0) (fs := Tryz.fs) (an := a_layout_cutter_cut) (args := [(.pointer p0)]) Tryz.fsOK Tryz.mixed Tryz.func140 (by kernel_rfl) (by kernel_rfl)
 (Eq.mpr (by kernel_rfl : lwJFn Tryz.prog Tryz.fs 0 Tryz.f140 a_layout_cutter_cut [(.pointer p0)] w R = L_layout_cutter_cut p0 R w) h)

/-- (*intaglio.layout.cutter).top -/
def a_layout_cutter_top : Ann := (.seq none .nil (.seq none (.seq none .nil (.one (.loop ⟨[0], [(5, (.b (.int .u8)))]⟩ (.seq none .nil (.seq none (.cond .nil .nil) (.seq (some ⟨[0, 5], []⟩) (.one (.seq none .nil (.seq none .nil (.seq (some ⟨[0, 3, 4, 5], []⟩) (.one (.loop ⟨[0, 3, 4, 5], []⟩ (.seq (some ⟨[0, 3, 4, 5], []⟩) (.seq none .nil (.cond .nil .nil)) (.one (.seq none .nil (.seq none .nil (.cond .nil .nil))))))) (.seq none .nil (.seq none .nil (.cond (.seq none .nil .nil) .nil))))))) .nil)))))) (.seq none .nil .nil)))
def L_layout_cutter_top (p0 : Option Addr) (R : Value → World → Prop) (w : World) : Prop :=
 LoopW (S := Int × Unit) (fun s1 w1 n2 =>
 ifB (decide (s1.1 < (8 : Int)))
 (JoinW (S := Unit) (fun m3 =>
 derefP p0 fun a5 =>
 ldI w1 (a5.add 1) .i64 fun x6 =>
 JoinW (S := Unit) (fun m7 =>
 LoopW (S := Unit) (fun s9 w2 n10 =>
 JoinW (S := Unit) (fun m11 =>
 callR Tryz.prog 173 #[(.pointer p0)] w2.drew fun v13 w3 =>
 ∃ x14 : Int, v13 = (.int .i64 x14) ∧
 ifB (x14 == (9 : Int))
 (derefP p0 fun a15 =>
 ldS w3 a15 fun x16 =>
 derefP p0 fun a17 =>
 ldI w3 (a17.add 1) .i64 fun x18 =>
 (0 ≤ x18 ∧ x18 < (x16.l : Int)) ∧
 derefP x16.a fun a19 =>
 ldI w3 ((a19.add ((Int.toNat x18) * 4)).add 0) .u16 fun x20 =>
 ldI w3 ((a19.add ((Int.toNat x18) * 4)).add 1) .u32 fun x21 =>
 ldI w3 ((a19.add ((Int.toNat x18) * 4)).add 2) .u32 fun x22 =>
 ldS w3 ((a19.add ((Int.toNat x18) * 4)).add 3) fun x23 =>
 callR Tryz.prog 226 #[(.agg #[(.int .u16 x20), (.int .u32 x21), (.int .u32 x22), (.slice x23.a x23.l x23.c)])] w3 fun v24 w4 =>
 ∃ x25 : Int, v24 = (.int .u8 x25) ∧
 ifB (x25 == s1.1)
 (m11 (()) w4)
 (m7 (()) w4))
 (m7 (()) w3))
 (fun s12 w5 =>
 derefP p0 fun a26 =>
 ldI w5 (a26.add 1) .i64 fun x27 =>
 derefP p0 fun a28 =>
 Wr w5 (a28.add 1) ∧
 Nw (w5.setCell (a28.add 1) (.int .i64 (IntKind.i64.wrap (x27 + (1 : Int))))) fun w6 =>
 ifB (s1.1 == (1 : Int))
 (m7 (()) w6)
 (n10 (()) w6)))
 (()) w1)
 (fun s8 w7 =>
 derefP p0 fun a29 =>
 ldI w7.drew (a29.add 1) .i64 fun x30 =>
 derefP p0 fun a31 =>
 (0 ≤ s1.1 ∧ s1.1 < (10 : Int)) ∧
 Wr w7.drew ((a31.add 2).add ((Int.toNat s1.1) * 2)) ∧
 Nw (w7.drew.setCell ((a31.add 2).add ((Int.toNat s1.1) * 2)) (.int .i64 x6)) fun w8 =>
 Wr w8 (((a31.add 2).add ((Int.toNat s1.1) * 2)).add 1) ∧
 Nw (w8.setCell (((a31.add 2).add ((Int.toNat s1.1) * 2)).add 1) (.int .i64 x30)) fun w9 =>
 ifB (s1.1 == (1 : Int))
 (derefP p0 fun a32 =>
 ldI w9 (a32.add 1) .i64 fun x33 =>
 ifB (x33 == x6)
 (R (.bool false) w9)
 (m3 (()) w9))
 (m3 (()) w9)))
 (fun s4 w10 =>
 n2 ((IntKind.u8.wrap (s1.1 + (1 : Int))), ()) w10))
 (R (.bool true) w1))
 ((0 : Int), ()) w
theorem layout_cutter_top_calls (p0 : Option Addr) (R : Value → World → Prop) (w : World) (h : L_layout_cutter_top p0 R w) : Calls Tryz.prog 172 #[(.pointer p0)] w (Ret R) :=
 lw_calls (fs := Tryz.fs) (an := a_layout_cutter_top) (args := [(.pointer p0)]) Tryz.fsOK Tryz.mixed Tryz.func172 (by kernel_rfl) (by kernel_rfl)
 (Eq.mpr (by kernel_rfl : lwFn Tryz.prog Tryz.fs Tryz.f172 a_layout_cutter_top [(.pointer p0)] w R = L_layout_cutter_top p0 R w) h)

/-- (*intaglio.layout.cutter).next -/
def a_layout_cutter_next : Ann := (.seq none .nil (.seq none (.seq none .nil (.cond (.seq none .nil .nil) .nil)) (.seq none .nil .nil)))
def L_layout_cutter_next (p0 : Option Addr) (R : Value → World → Prop) (w : World) : Prop :=
 derefP p0 fun a1 =>
 ldI w.drew (a1.add 1) .i64 fun x2 =>
 derefP p0 fun a3 =>
 ldS w.drew a3 fun x4 =>
 ifB (x2 == (x4.l : Int))
 (R (.int .i64 (-1 : Int)) w.drew)
 (derefP p0 fun a5 =>
 ldS w.drew.drew a5 fun x6 =>
 derefP p0 fun a7 =>
 ldI w.drew.drew (a7.add 1) .i64 fun x8 =>
 (0 ≤ x8 ∧ x8 < (x6.l : Int)) ∧
 derefP x6.a fun a9 =>
 ldI w.drew.drew ((a9.add ((Int.toNat x8) * 4)).add 0) .u16 fun x10 =>
 ldI w.drew.drew ((a9.add ((Int.toNat x8) * 4)).add 1) .u32 fun x11 =>
 ldI w.drew.drew ((a9.add ((Int.toNat x8) * 4)).add 2) .u32 fun x12 =>
 ldS w.drew.drew ((a9.add ((Int.toNat x8) * 4)).add 3) fun x13 =>
 callR Tryz.prog 227 #[(.agg #[(.int .u16 x10), (.int .u32 x11), (.int .u32 x12), (.slice x13.a x13.l x13.c)])] w.drew.drew fun v14 w1 =>
 ∃ x15 : Int, v14 = (.int .i64 x15) ∧
 R (.int .i64 x15) w1)
theorem layout_cutter_next_calls (p0 : Option Addr) (R : Value → World → Prop) (w : World) (h : L_layout_cutter_next p0 R w) : Calls Tryz.prog 173 #[(.pointer p0)] w (Ret R) :=
 lw_calls (fs := Tryz.fs) (an := a_layout_cutter_next) (args := [(.pointer p0)]) Tryz.fsOK Tryz.mixed Tryz.func173 (by kernel_rfl) (by kernel_rfl)
 (Eq.mpr (by kernel_rfl : lwFn Tryz.prog Tryz.fs Tryz.f173 a_layout_cutter_next [(.pointer p0)] w R = L_layout_cutter_next p0 R w) h)

/-- (*intaglio.layout.cutter).row -/
def a_layout_cutter_row : Ann := (.seq none .nil (.seq none .nil (.seq none (.one (.loop ⟨[0, 1], [(5, (.b .slice))]⟩ (.seq none (.seq none .nil (.cond .nil .nil)) (.one (.seq none .nil .nil))))) (.seq none .nil .nil))))
def L_layout_cutter_row (p0 : Option Addr) (p1 : Int) (R : Value → World → Prop) (w : World) : Prop :=
 LoopW (S := Sl × Unit) (fun s1 w1 n2 =>
 callR Tryz.prog 173 #[(.pointer p0)] w1 fun v3 w2 =>
 ∃ x4 : Int, v3 = (.int .i64 x4) ∧
 ifB (x4 == p1)
 (derefP p0 fun a5 =>
 ldI w2 (a5.add 1) .i64 fun x6 =>
 Nw (w2.alloc (.cells #[(.int .i64 x6)] 3)) fun w3 =>
 appendS Tryz.prog 26 (.slice s1.1.a s1.1.l s1.1.c) (.slice (some (blk w2.heap.size)) 1 1) w3 fun r7 w4 =>
 derefP p0 fun a8 =>
 ldI w4 (a8.add 1) .i64 fun x9 =>
 derefP p0 fun a10 =>
 Wr w4 (a10.add 1) ∧
 Nw (w4.setCell (a10.add 1) (.int .i64 (IntKind.i64.wrap (x9 + (1 : Int))))) fun w5 =>
 n2 (r7, ()) w5)
 (R (.slice s1.1.a s1.1.l s1.1.c) w2))
 ((Sl.mk none 0 0), ()) w
theorem layout_cutter_row_calls (p0 : Option Addr) (p1 : Int) (R : Value → World → Prop) (w : World) (h : L_layout_cutter_row p0 p1 R w) : Calls Tryz.prog 174 #[(.pointer p0), (.int .i64 p1)] w (Ret R) :=
 lw_calls (fs := Tryz.fs) (an := a_layout_cutter_row) (args := [(.pointer p0), (.int .i64 p1)]) Tryz.fsOK Tryz.mixed Tryz.func174 (by kernel_rfl) (by kernel_rfl)
 (Eq.mpr (by kernel_rfl : lwFn Tryz.prog Tryz.fs Tryz.f174 a_layout_cutter_row [(.pointer p0), (.int .i64 p1)] w R = L_layout_cutter_row p0 p1 R w) h)

/-- (*intaglio.layout.cutter).block -/
def a_layout_cutter_block : Ann := (.seq none .nil (.seq none .nil (.seq none .nil (.seq (some ⟨[0, 1, 5], []⟩) (.seq none .nil (.cond .nil .nil)) (.seq none .nil (.seq none (.seq none .nil (.one (.seq (some ⟨[0, 1, 5], []⟩) (.one (.seq none (.one (.seq none (.seq none (.seq none .nil (.cond .nil .nil)) (.seq none .nil (.cond .nil .nil))) .nil)) (.seq none .nil (.seq none .nil (.cond (.seq none .nil .nil) .nil))))) (.seq none (.seq none .nil (.seq none .nil (.seq none .nil (.seq none .nil .nil)))) .nil)))) (.seq none .nil .nil)))))))
def L_layout_cutter_block (p0 : Option Addr) (p1 : Option Addr) (R : Value → World → Prop) (w : World) : Prop :=
 derefP p0 fun a1 =>
 ldS w.drew a1 fun x2 =>
 derefP p0 fun a3 =>
 ldI w.drew (a3.add 1) .i64 fun x4 =>
 (0 ≤ x4 ∧ x4 < (x2.l : Int)) ∧
 derefP x2.a fun a5 =>
 ldI w.drew ((a5.add ((Int.toNat x4) * 4)).add 2) .u32 fun x6 =>
 derefP p0 fun a7 =>
 ldI w.drew (a7.add 1) .i64 fun x8 =>
 Nw (w.drew.alloc (.cells #[(.int .u32 (0 : Int)), (.int .i64 (0 : Int)), (.int .i64 (0 : Int))] 69)) fun w1 =>
 w1.cell? (a7.add 1) = some (.int .i64 x8) ∧
 w1.cell? ((a5.add ((Int.toNat x4) * 4)).add 2) = some (.int .u32 x6) ∧
 w1.cell? (a3.add 1) = some (.int .i64 x4) ∧
 w1.cell? a1 = some (.slice x2.a x2.l x2.c) ∧
 Wr w1 (blk w.drew.heap.size) ∧
 Nw (w1.setCell (blk w.drew.heap.size) (.int .u32 x6)) fun w2 =>
 Wr w2 ((blk w.drew.heap.size).add 1) ∧
 Nw (w2.setCell ((blk w.drew.heap.size).add 1) (.int .i64 x8)) fun w3 =>
 Wr w3 ((blk w.drew.heap.size).add 2) ∧
 Nw (w3.setCell ((blk w.drew.heap.size).add 2) (.int .i64 (0 : Int))) fun w4 =>
 derefP p0 fun a9 =>
 ldI w4 (a9.add 1) .i64 fun x10 =>
 derefP p0 fun a11 =>
 Wr w4 (a11.add 1) ∧
 Nw (w4.setCell (a11.add 1) (.int .i64 (IntKind.i64.wrap (x10 + (1 : Int))))) fun w5 =>
 JoinW (S := Unit) (fun m12 =>
 derefP p1 fun a14 =>
 ldS w5 (a14.add 3) fun x15 =>
 ifB ((x15.l : Int) == (0 : Int))
 (callR Tryz.prog 174 #[(.pointer p0), (.int .i64 (5 : Int))] w5 fun v16 w6 =>
 ∃ x17 : Sl, v16 = (.slice x17.a x17.l x17.c) ∧
 m12 (()) w6)
 (callR Tryz.prog 174 #[(.pointer p0), (.int .i64 (4 : Int))] w5 fun v18 w7 =>
 ∃ x19 : Sl, v18 = (.slice x19.a x19.l x19.c) ∧
 m12 (()) w7))
 (fun s13 w8 =>
 callR Tryz.prog 174 #[(.pointer p0), (.int .i64 (0 : Int))] w8 fun v20 w9 =>
 ∃ x21 : Sl, v20 = (.slice x21.a x21.l x21.c) ∧
 callR Tryz.prog 173 #[(.pointer p0)] w9 fun v22 w10 =>
 ∃ x23 : Int, v22 = (.int .i64 x23) ∧
 JoinW (S := Unit) (fun m24 =>
 ifB (x23 == (6 : Int))
 (derefP p0 fun a26 =>
 ldI w10 (a26.add 1) .i64 fun x27 =>
 derefP p0 fun a28 =>
 Wr w10 (a28.add 1) ∧
 Nw (w10.setCell (a28.add 1) (.int .i64 (IntKind.i64.wrap (x27 + (1 : Int))))) fun w11 =>
 callR Tryz.prog 173 #[(.pointer p0)] w11.drew fun v29 w12 =>
 ∃ x30 : Int, v29 = (.int .i64 x30) ∧
 ifB (x30 != (7 : Int))
 (R (.bool false) w12)
 (derefP p0 fun a31 =>
 ldS w12 a31 fun x32 =>
 derefP p0 fun a33 =>
 ldI w12 (a33.add 1) .i64 fun x34 =>
 (0 ≤ (IntKind.i64.wrap (x34 - (1 : Int))) ∧ (IntKind.i64.wrap (x34 - (1 : Int))) < (x32.l : Int)) ∧
 derefP x32.a fun a35 =>
 ldI w12 (a35.add ((Int.toNat (IntKind.i64.wrap (x34 - (1 : Int)))) * 4)) .u16 fun x36 =>
 derefP p0 fun a37 =>
 ldS w12 a37 fun x38 =>
 derefP p0 fun a39 =>
 ldI w12 (a39.add 1) .i64 fun x40 =>
 (0 ≤ x40 ∧ x40 < (x38.l : Int)) ∧
 derefP x38.a fun a41 =>
 ldI w12 (a41.add ((Int.toNat x40) * 4)) .u16 fun x42 =>
 callR Tryz.prog 228 #[(.int .u16 x36), (.int .u16 x42)] w12 fun v43 w13 =>
 ∃ x44 : Bool, v43 = (.bool x44) ∧
 ifB (!x44)
 (R (.bool false) w13)
 (m24 (()) w13)))
 (ifB (x23 == (7 : Int))
 (m24 (()) w10)
 (R (.bool false) w10)))
 (fun s25 w14 =>
 derefP p0 fun a45 =>
 ldI w14 (a45.add 1) .i64 fun x46 =>
 derefP p0 fun a47 =>
 Wr w14 (a47.add 1) ∧
 Nw (w14.setCell (a47.add 1) (.int .i64 (IntKind.i64.wrap (x46 + (1 : Int))))) fun w15 =>
 derefP p0 fun a48 =>
 ldI w15 (a48.add 1) .i64 fun x49 =>
 Wr w15 ((blk w.drew.heap.size).add 2) ∧
 Nw (w15.setCell ((blk w.drew.heap.size).add 2) (.int .i64 x49)) fun w16 =>
 derefP p1 fun a50 =>
 ldS w16.drew (a50.add 3) fun x51 =>
 ldI w16.drew ((blk w.drew.heap.size).add 0) .u32 fun x52 =>
 ldI w16.drew ((blk w.drew.heap.size).add 1) .i64 fun x53 =>
 ldI w16.drew ((blk w.drew.heap.size).add 2) .i64 fun x54 =>
 Nw (w16.drew.alloc (.cells #[(.int .u32 x52), (.int .i64 x53), (.int .i64 x54)] 69)) fun w17 =>
 w17.cell? (a50.add 3) = some (.slice x51.a x51.l x51.c) ∧
 appendS Tryz.prog 27 (.slice x51.a x51.l x51.c) (.slice (some (blk w16.drew.heap.size)) 1 1) w17 fun r55 w18 =>
 derefP p1 fun a56 =>
 Wr w18 (a56.add 3) ∧
 Nw (w18.setCell (a56.add 3) (.slice r55.a r55.l r55.c)) fun w19 =>
 R (.bool true) w19))
theorem layout_cutter_block_calls (p0 : Option Addr) (p1 : Option Addr) (R : Value → World → Prop) (w : World) (h : L_layout_cutter_block p0 p1 R w) : Calls Tryz.prog 175 #[(.pointer p0), (.pointer p1)] w (Ret R) :=
 lw_calls (fs := Tryz.fs) (an := a_layout_cutter_block) (args := [(.pointer p0), (.pointer p1)]) Tryz.fsOK Tryz.mixed Tryz.func175 (by kernel_rfl) (by kernel_rfl)
 (Eq.mpr (by kernel_rfl : lwFn Tryz.prog Tryz.fs Tryz.f175 a_layout_cutter_block [(.pointer p0), (.pointer p1)] w R = L_layout_cutter_block p0 p1 R w) h)

/-- intaglio.layout.part -/
def a_layout_part : Ann := (.seq none .nil (.seq none (.seq none .nil (.cond (.seq none .nil .nil) .nil)) (.seq none .nil (.seq none .nil .nil))))
def L_layout_part (p0 : (Int × Int × Int × Sl × Unit)) (R : Value → World → Prop) (w : World) : Prop :=
 Nw (w.alloc (.cells #[(.int .u16 p0.1), (.int .u32 p0.2.1), (.int .u32 p0.2.2.1), (.slice p0.2.2.2.1.a p0.2.2.2.1.l p0.2.2.2.1.c)] 41)) fun w1 =>
 ldI w1 ((blk w.heap.size).add 0) .u16 fun x1 =>
 ldI w1 ((blk w.heap.size).add 1) .u32 fun x2 =>
 ldI w1 ((blk w.heap.size).add 2) .u32 fun x3 =>
 ldS w1 ((blk w.heap.size).add 3) fun x4 =>
 callR Tryz.prog 257 #[(.agg #[(.int .u16 x1), (.int .u32 x2), (.int .u32 x3), (.slice x4.a x4.l x4.c)])] w1 fun v5 w2 =>
 ∃ x6 : Bool, v5 = (.bool x6) ∧
 ifB x6
 (R (.int .u8 (8 : Int)) w2)
 (ldI w2 (blk w.heap.size) .u16 fun x7 =>
 callR Tryz.prog 168 #[(.int .u16 x7)] w2 fun v8 w3 =>
 ∃ x9 : (Int × ByteArray × Bool × Bool × ByteArray × ByteArray × Int × Int × Unit), ∃ x10 : Bool, v8 = (.tuple #[(.agg #[(.int .u16 x9.1), (.string x9.2.1), (.bool x9.2.2.1), (.bool x9.2.2.2.1), (.string x9.2.2.2.2.1), (.string x9.2.2.2.2.2.1), (.int .i64 x9.2.2.2.2.2.2.1), (.int .u8 x9.2.2.2.2.2.2.2.1)]), (.bool x10)]) ∧
 Nw (w3.alloc (.cells #[(.int .u16 (0 : Int)), (.string (ByteArray.mk #[])), (.bool false), (.bool false), (.string (ByteArray.mk #[])), (.string (ByteArray.mk #[])), (.int .i64 (0 : Int)), (.int .u8 (0 : Int))] 178)) fun w4 =>
 Wr w4 (blk w3.heap.size) ∧
 Nw (w4.setCell (blk w3.heap.size) (.int .u16 x9.1)) fun w5 =>
 Wr w5 ((blk w3.heap.size).add 1) ∧
 Nw (w5.setCell ((blk w3.heap.size).add 1) (.string x9.2.1)) fun w6 =>
 Wr w6 ((blk w3.heap.size).add 2) ∧
 Nw (w6.setCell ((blk w3.heap.size).add 2) (.bool x9.2.2.1)) fun w7 =>
 Wr w7 ((blk w3.heap.size).add 3) ∧
 Nw (w7.setCell ((blk w3.heap.size).add 3) (.bool x9.2.2.2.1)) fun w8 =>
 Wr w8 ((blk w3.heap.size).add 4) ∧
 Nw (w8.setCell ((blk w3.heap.size).add 4) (.string x9.2.2.2.2.1)) fun w9 =>
 Wr w9 ((blk w3.heap.size).add 5) ∧
 Nw (w9.setCell ((blk w3.heap.size).add 5) (.string x9.2.2.2.2.2.1)) fun w10 =>
 Wr w10 ((blk w3.heap.size).add 6) ∧
 Nw (w10.setCell ((blk w3.heap.size).add 6) (.int .i64 x9.2.2.2.2.2.2.1)) fun w11 =>
 Wr w11 ((blk w3.heap.size).add 7) ∧
 Nw (w11.setCell ((blk w3.heap.size).add 7) (.int .u8 x9.2.2.2.2.2.2.2.1)) fun w12 =>
 ldI w12 ((blk w3.heap.size).add 7) .u8 fun x11 =>
 R (.int .u8 x11) w12)
theorem layout_part_calls (p0 : (Int × Int × Int × Sl × Unit)) (R : Value → World → Prop) (w : World) (h : L_layout_part p0 R w) : Calls Tryz.prog 226 #[(.agg #[(.int .u16 p0.1), (.int .u32 p0.2.1), (.int .u32 p0.2.2.1), (.slice p0.2.2.2.1.a p0.2.2.2.1.l p0.2.2.2.1.c)])] w (Ret R) :=
 lw_calls (fs := Tryz.fs) (an := a_layout_part) (args := [(.agg #[(.int .u16 p0.1), (.int .u32 p0.2.1), (.int .u32 p0.2.2.1), (.slice p0.2.2.2.1.a p0.2.2.2.1.l p0.2.2.2.1.c)])]) Tryz.fsOK Tryz.mixed Tryz.func226 (by kernel_rfl) (by kernel_rfl)
 (Eq.mpr (by kernel_rfl : lwFn Tryz.prog Tryz.fs Tryz.f226 a_layout_part [(.agg #[(.int .u16 p0.1), (.int .u32 p0.2.1), (.int .u32 p0.2.2.1), (.slice p0.2.2.2.1.a p0.2.2.2.1.l p0.2.2.2.1.c)])] w R = L_layout_part p0 R w) h)

/-- intaglio.layout.kind -/
def a_layout_kind : Ann := (.seq none .nil (.seq none (.seq none .nil (.cond (.seq none .nil .nil) .nil)) (.seq none (.seq none .nil (.one (.seq none (.one (.one (.seq none (.one (.seq none (.one (.seq none (.one (.seq none (.one (.seq none (.one (.seq none (.one (.seq none (.seq none (.seq none .nil (.cond .nil .nil)) (.seq none (.seq none .nil (.cond .nil .nil)) (.seq none (.seq none .nil (.cond .nil .nil)) (.seq none (.seq none .nil (.cond .nil .nil)) (.seq none (.seq none .nil (.cond .nil .nil)) (.seq none (.seq none .nil (.cond .nil .nil)) (.seq none (.seq none .nil (.cond .nil .nil)) (.seq none .nil (.cond .nil .nil))))))))) .nil)) (.seq none (.seq none .nil .nil) .nil))) (.seq none (.seq none .nil .nil) .nil))) (.seq none (.seq none .nil .nil) .nil))) (.seq none (.seq none .nil .nil) .nil))) (.seq none (.seq none .nil .nil) .nil))) (.seq none (.seq none .nil .nil) .nil)))) (.seq none (.seq none .nil .nil) .nil)))) (.seq none (.seq none .nil (.cond (.seq none .nil .nil) .nil)) (.seq none .nil .nil)))))
def L_layout_kind (p0 : (Int × Int × Int × Sl × Unit)) (R : Value → World → Prop) (w : World) : Prop :=
 Nw (w.alloc (.cells #[(.int .u16 p0.1), (.int .u32 p0.2.1), (.int .u32 p0.2.2.1), (.slice p0.2.2.2.1.a p0.2.2.2.1.l p0.2.2.2.1.c)] 41)) fun w1 =>
 ldI w1 ((blk w.heap.size).add 0) .u16 fun x1 =>
 ldI w1 ((blk w.heap.size).add 1) .u32 fun x2 =>
 ldI w1 ((blk w.heap.size).add 2) .u32 fun x3 =>
 ldS w1 ((blk w.heap.size).add 3) fun x4 =>
 callR Tryz.prog 226 #[(.agg #[(.int .u16 x1), (.int .u32 x2), (.int .u32 x3), (.slice x4.a x4.l x4.c)])] w1 fun v5 w2 =>
 ∃ x6 : Int, v5 = (.int .u8 x6) ∧
 ifB (x6 != (8 : Int))
 (R (.int .i64 (9 : Int)) w2)
 (ldI w2 (blk w.heap.size) .u16 fun x7 =>
 ifB (x7 == (54 : Int))
 (R (.int .i64 (1 : Int)) w2)
 (ifB (x7 == (55 : Int))
 (R (.int .i64 (2 : Int)) w2)
 (ifB (x7 == (56 : Int))
 (R (.int .i64 (8 : Int)) w2)
 (ifB (x7 == (248 : Int))
 (R (.int .i64 (3 : Int)) w2)
 (ifB (x7 == (245 : Int))
 (R (.int .i64 (4 : Int)) w2)
 (ifB (x7 == (59 : Int))
 (R (.int .i64 (5 : Int)) w2)
 (ifB (x7 == (246 : Int))
 (R (.int .i64 (6 : Int)) w2)
 (ifB (x7 == (247 : Int))
 (R (.int .i64 (6 : Int)) w2)
 (ldI w2 (blk w.heap.size) .u16 fun x8 =>
 callR Tryz.prog 258 #[(.int .u16 x8)] w2 fun v9 w3 =>
 ∃ x10 : Bool, v9 = (.bool x10) ∧
 ifB x10
 (R (.int .i64 (7 : Int)) w3)
 (R (.int .i64 (0 : Int)) w3))))))))))
theorem layout_kind_calls (p0 : (Int × Int × Int × Sl × Unit)) (R : Value → World → Prop) (w : World) (h : L_layout_kind p0 R w) : Calls Tryz.prog 227 #[(.agg #[(.int .u16 p0.1), (.int .u32 p0.2.1), (.int .u32 p0.2.2.1), (.slice p0.2.2.2.1.a p0.2.2.2.1.l p0.2.2.2.1.c)])] w (Ret R) :=
 lw_calls (fs := Tryz.fs) (an := a_layout_kind) (args := [(.agg #[(.int .u16 p0.1), (.int .u32 p0.2.1), (.int .u32 p0.2.2.1), (.slice p0.2.2.2.1.a p0.2.2.2.1.l p0.2.2.2.1.c)])]) Tryz.fsOK Tryz.mixed Tryz.func227 (by kernel_rfl) (by kernel_rfl)
 (Eq.mpr (by kernel_rfl : lwFn Tryz.prog Tryz.fs Tryz.f227 a_layout_kind [(.agg #[(.int .u16 p0.1), (.int .u32 p0.2.1), (.int .u32 p0.2.2.1), (.slice p0.2.2.2.1.a p0.2.2.2.1.l p0.2.2.2.1.c)])] w R = L_layout_kind p0 R w) h)

/-- intaglio.layout.may -/
def a_layout_may : Ann := (.seq none .nil (.seq none (.seq none .nil (.one (.seq none .nil (.cond (.seq none .nil .nil) (.seq none .nil (.cond (.seq none .nil .nil) (.seq none .nil (.cond (.seq none .nil .nil) .nil)))))))) (.seq none .nil .nil)))
def L_layout_may (p0 : Int) (p1 : Int) (R : Value → World → Prop) (w : World) : Prop :=
 ifB (p1 == (251 : Int))
 (R (.bool (p0 == (247 : Int))) w)
 (ifB (p1 == (249 : Int))
 (R (.bool (p0 == (246 : Int))) w)
 (ifB (p1 == (250 : Int))
 (R (.bool true) w)
 (R (.bool false) w)))
theorem layout_may_calls (p0 : Int) (p1 : Int) (R : Value → World → Prop) (w : World) (h : L_layout_may p0 p1 R w) : Calls Tryz.prog 228 #[(.int .u16 p0), (.int .u16 p1)] w (Ret R) :=
 lw_calls (fs := Tryz.fs) (an := a_layout_may) (args := [(.int .u16 p0), (.int .u16 p1)]) Tryz.fsOK Tryz.mixed Tryz.func228 (by kernel_rfl) (by kernel_rfl)
 (Eq.mpr (by kernel_rfl : lwFn Tryz.prog Tryz.fs Tryz.f228 a_layout_may [(.int .u16 p0), (.int .u16 p1)] w R = L_layout_may p0 p1 R w) h)

/-- intaglio.layout.variable -/
def a_layout_variable : Ann := (.seq none .nil (.seq none .nil .nil))
def L_layout_variable (p0 : (Int × Int × Int × Sl × Unit)) (R : Value → World → Prop) (w : World) : Prop :=
 Nw (w.alloc (.cells #[(.int .u16 p0.1), (.int .u32 p0.2.1), (.int .u32 p0.2.2.1), (.slice p0.2.2.2.1.a p0.2.2.2.1.l p0.2.2.2.1.c)] 41)) fun w1 =>
 ldI w1 (blk w.heap.size) .u16 fun x1 =>
 ifB (x1 == (59 : Int))
 (ldS w1 ((blk w.heap.size).add 3) fun x2 =>
 ifB (decide ((x2.l : Int) > (0 : Int)))
 (ldS w1 ((blk w.heap.size).add 3) fun x3 =>
 (0 ≤ (0 : Int) ∧ (0 : Int) < (x3.l : Int)) ∧
 derefP x3.a fun a4 =>
 ldI w1 ((a4.add (0 * 3)).add 1) .u32 fun x5 =>
 R (.bool (x5 == (7 : Int))) w1)
 (R (.bool false) w1))
 (R (.bool false) w1)
theorem layout_variable_calls (p0 : (Int × Int × Int × Sl × Unit)) (R : Value → World → Prop) (w : World) (h : L_layout_variable p0 R w) : Calls Tryz.prog 257 #[(.agg #[(.int .u16 p0.1), (.int .u32 p0.2.1), (.int .u32 p0.2.2.1), (.slice p0.2.2.2.1.a p0.2.2.2.1.l p0.2.2.2.1.c)])] w (Ret R) :=
 lw_calls (fs := Tryz.fs) (an := a_layout_variable) (args := [(.agg #[(.int .u16 p0.1), (.int .u32 p0.2.1), (.int .u32 p0.2.2.1), (.slice p0.2.2.2.1.a p0.2.2.2.1.l p0.2.2.2.1.c)])]) Tryz.fsOK Tryz.mixed Tryz.func257 (by kernel_rfl) (by kernel_rfl)
 (Eq.mpr (by kernel_rfl : lwFn Tryz.prog Tryz.fs Tryz.f257 a_layout_variable [(.agg #[(.int .u16 p0.1), (.int .u32 p0.2.1), (.int .u32 p0.2.2.1), (.slice p0.2.2.2.1.a p0.2.2.2.1.l p0.2.2.2.1.c)])] w R = L_layout_variable p0 R w) h)

/-- intaglio.layout.Ends -/
def a_layout_Ends : Ann := (.seq none .nil (.seq none .nil .nil))
def L_layout_Ends (p0 : Int) (R : Value → World → Prop) (w : World) : Prop :=
 ifB (decide (p0 ≥ (249 : Int)))
 (R (.bool (decide (p0 ≤ (255 : Int)))) w)
 (R (.bool false) w)
theorem layout_Ends_calls (p0 : Int) (R : Value → World → Prop) (w : World) (h : L_layout_Ends p0 R w) : Calls Tryz.prog 258 #[(.int .u16 p0)] w (Ret R) :=
 lw_calls (fs := Tryz.fs) (an := a_layout_Ends) (args := [(.int .u16 p0)]) Tryz.fsOK Tryz.mixed Tryz.func258 (by kernel_rfl) (by kernel_rfl)
 (Eq.mpr (by kernel_rfl : lwFn Tryz.prog Tryz.fs Tryz.f258 a_layout_Ends [(.int .u16 p0)] w R = L_layout_Ends p0 R w) h)

end Go.Proofs
namespace Go.Proofs
open Go.Gk
set_option linter.unusedVariables false
set_option maxRecDepth 100000

end Go.Proofs
namespace Go.Proofs
open Go.Gk
set_option linter.unusedVariables false
set_option maxRecDepth 100000

/-- intaglio.grammar.Fits -/
def a_grammar_Fits : Ann := (.seq none .nil (.seq none .nil (.seq none (.seq none .nil (.cond (.seq none .nil .nil) .nil)) (.seq none .nil (.seq none (.seq none .nil (.one (.loop ⟨[1, 8, 21, 22], [(23, (.b (.int .i64)))]⟩ (.seq none .nil (.seq none (.cond .nil .nil) (.seq (some ⟨[1, 8, 21, 22, 23], []⟩) (.one (.seq none .nil (.seq none .nil (.cond (.seq none .nil .nil) .nil)))) .nil)))))) (.seq none .nil (.seq none (.seq none .nil (.cond (.seq none .nil .nil) .nil)) (.seq none .nil .nil))))))))
def L_grammar_Fits (p0 : Int) (p1 : Sl) (R : Value → World → Prop) (w : World) : Prop :=
 callR Tryz.prog 168 #[(.int .u16 p0)] w fun v1 w1 =>
 ∃ x2 : (Int × ByteArray × Bool × Bool × ByteArray × ByteArray × Int × Int × Unit), ∃ x3 : Bool, v1 = (.tuple #[(.agg #[(.int .u16 x2.1), (.string x2.2.1), (.bool x2.2.2.1), (.bool x2.2.2.2.1), (.string x2.2.2.2.2.1), (.string x2.2.2.2.2.2.1), (.int .i64 x2.2.2.2.2.2.2.1), (.int .u8 x2.2.2.2.2.2.2.2.1)]), (.bool x3)]) ∧
 Nw (w1.alloc (.cells #[(.int .u16 (0 : Int)), (.string (ByteArray.mk #[])), (.bool false), (.bool false), (.string (ByteArray.mk #[])), (.string (ByteArray.mk #[])), (.int .i64 (0 : Int)), (.int .u8 (0 : Int))] 178)) fun w2 =>
 Wr w2 (blk w1.heap.size) ∧
 Nw (w2.setCell (blk w1.heap.size) (.int .u16 x2.1)) fun w3 =>
 Wr w3 ((blk w1.heap.size).add 1) ∧
 Nw (w3.setCell ((blk w1.heap.size).add 1) (.string x2.2.1)) fun w4 =>
 Wr w4 ((blk w1.heap.size).add 2) ∧
 Nw (w4.setCell ((blk w1.heap.size).add 2) (.bool x2.2.2.1)) fun w5 =>
 Wr w5 ((blk w1.heap.size).add 3) ∧
 Nw (w5.setCell ((blk w1.heap.size).add 3) (.bool x2.2.2.2.1)) fun w6 =>
 Wr w6 ((blk w1.heap.size).add 4) ∧
 Nw (w6.setCell ((blk w1.heap.size).add 4) (.string x2.2.2.2.2.1)) fun w7 =>
 Wr w7 ((blk w1.heap.size).add 5) ∧
 Nw (w7.setCell ((blk w1.heap.size).add 5) (.string x2.2.2.2.2.2.1)) fun w8 =>
 Wr w8 ((blk w1.heap.size).add 6) ∧
 Nw (w8.setCell ((blk w1.heap.size).add 6) (.int .i64 x2.2.2.2.2.2.2.1)) fun w9 =>
 Wr w9 ((blk w1.heap.size).add 7) ∧
 Nw (w9.setCell ((blk w1.heap.size).add 7) (.int .u8 x2.2.2.2.2.2.2.2.1)) fun w10 =>
 ifB (!x3)
 (R (.tuple #[(.int .i64 (0 : Int)), (.bool false)]) w10)
 (ldI w10 ((blk w1.heap.size).add 0) .u16 fun x4 =>
 ldStr w10 ((blk w1.heap.size).add 1) fun x5 =>
 ldB w10 ((blk w1.heap.size).add 2) fun x6 =>
 ldB w10 ((blk w1.heap.size).add 3) fun x7 =>
 ldStr w10 ((blk w1.heap.size).add 4) fun x8 =>
 ldStr w10 ((blk w1.heap.size).add 5) fun x9 =>
 ldI w10 ((blk w1.heap.size).add 6) .i64 fun x10 =>
 ldI w10 ((blk w1.heap.size).add 7) .u8 fun x11 =>
 Nw (w10.alloc (.cells #[(.int .u16 (0 : Int)), (.string (ByteArray.mk #[])), (.bool false), (.bool false), (.string (ByteArray.mk #[])), (.string (ByteArray.mk #[])), (.int .i64 (0 : Int)), (.int .u8 (0 : Int))] 230)) fun w11 =>
 Wr w11 (blk w10.heap.size) ∧
 Nw (w11.setCell (blk w10.heap.size) (.int .u16 x4)) fun w12 =>
 Wr w12 ((blk w10.heap.size).add 1) ∧
 Nw (w12.setCell ((blk w10.heap.size).add 1) (.string x5)) fun w13 =>
 Wr w13 ((blk w10.heap.size).add 2) ∧
 Nw (w13.setCell ((blk w10.heap.size).add 2) (.bool x6)) fun w14 =>
 Wr w14 ((blk w10.heap.size).add 3) ∧
 Nw (w14.setCell ((blk w10.heap.size).add 3) (.bool x7)) fun w15 =>
 Wr w15 ((blk w10.heap.size).add 4) ∧
 Nw (w15.setCell ((blk w10.heap.size).add 4) (.string x8)) fun w16 =>
 Wr w16 ((blk w10.heap.size).add 5) ∧
 Nw (w16.setCell ((blk w10.heap.size).add 5) (.string x9)) fun w17 =>
 Wr w17 ((blk w10.heap.size).add 6) ∧
 Nw (w17.setCell ((blk w10.heap.size).add 6) (.int .i64 x10)) fun w18 =>
 Wr w18 ((blk w10.heap.size).add 7) ∧
 Nw (w18.setCell ((blk w10.heap.size).add 7) (.int .u8 x11)) fun w19 =>
 LoopW (S := Int × Unit) (fun s12 w20 n13 =>
 ifB (decide (s12.1 < (p1.l : Int)))
 (JoinW (S := Unit) (fun m14 =>
 (0 ≤ s12.1 ∧ s12.1 < (p1.l : Int)) ∧
 derefP p1.a fun a16 =>
 ldI w20 (a16.add (Int.toNat s12.1)) .u8 fun x17 =>
 ifB (x17 == (0 : Int))
 (R (.tuple #[(.int .i64 s12.1), (.bool false)]) w20)
 (ldI w20 ((blk w10.heap.size).add 0) .u16 fun x18 =>
 ldStr w20 ((blk w10.heap.size).add 1) fun x19 =>
 ldB w20 ((blk w10.heap.size).add 2) fun x20 =>
 ldB w20 ((blk w10.heap.size).add 3) fun x21 =>
 ldStr w20 ((blk w10.heap.size).add 4) fun x22 =>
 ldStr w20 ((blk w10.heap.size).add 5) fun x23 =>
 ldI w20 ((blk w10.heap.size).add 6) .i64 fun x24 =>
 ldI w20 ((blk w10.heap.size).add 7) .u8 fun x25 =>
 callR Tryz.prog 170 #[(.agg #[(.int .u16 x18), (.string x19), (.bool x20), (.bool x21), (.string x22), (.string x23), (.int .i64 x24), (.int .u8 x25)]), (.int .i64 s12.1)] w20 fun v26 w21 =>
 ∃ x27 : Int, v26 = (.int .u8 x27) ∧
 callR Tryz.prog 169 #[(.int .u8 x27)] w21 fun v28 w22 =>
 ∃ x29 : Int, v28 = (.int .u8 x29) ∧
 ifB (x29 != x17)
 (R (.tuple #[(.int .i64 s12.1), (.bool false)]) w22)
 (m14 (()) w22)))
 (fun s15 w23 =>
 n13 ((IntKind.i64.wrap (s12.1 + (1 : Int))), ()) w23))
 (ldStr w20 ((blk w10.heap.size).add 4) fun x30 =>
 ifB (decide ((IntKind.i64.wrap ((p1.l : Int) - (x30.size : Int))) < (0 : Int)))
 (R (.tuple #[(.int .i64 (p1.l : Int)), (.bool false)]) w20)
 (ldStr w20 ((blk w10.heap.size).add 5) fun x31 =>
 ifB (!(x31.toList == (ByteArray.mk #[]).toList))
 (ldStr w20 ((blk w10.heap.size).add 5) fun x32 =>
 ifB (decide ((x32.size : Int) = 0))
 (False)
 (ifB ((Int.tmod (IntKind.i64.wrap ((p1.l : Int) - (x30.size : Int))) (x32.size : Int)) != (0 : Int))
 (R (.tuple #[(.int .i64 (p1.l : Int)), (.bool false)]) w20)
 (R (.tuple #[(.int .i64 (0 : Int)), (.bool true)]) w20)))
 (R (.tuple #[(.int .i64 (0 : Int)), (.bool true)]) w20))))
 ((0 : Int), ()) w19)
theorem grammar_Fits_calls (p0 : Int) (p1 : Sl) (R : Value → World → Prop) (w : World) (h : L_grammar_Fits p0 p1 R w) : Calls Tryz.prog 134 #[(.int .u16 p0), (.slice p1.a p1.l p1.c)] w (Ret R) :=
 lw_calls (fs := Tryz.fs) (an := a_grammar_Fits) (args := [(.int .u16 p0), (.slice p1.a p1.l p1.c)]) Tryz.fsOK Tryz.mixed Tryz.func134 (by kernel_rfl) (by kernel_rfl)
 (Eq.mpr (by kernel_rfl : lwFn Tryz.prog Tryz.fs Tryz.f134 a_grammar_Fits [(.int .u16 p0), (.slice p1.a p1.l p1.c)] w R = L_grammar_Fits p0 p1 R w) h)

/-- intaglio.grammar.Of -/
def a_grammar_Of : Ann := (.seq none .nil (.seq none .nil (.seq none (.seq none .nil (.cond (.seq none .nil .nil) .nil)) (.seq none .nil (.seq none .nil (.seq none (.seq none .nil (.one (.loop ⟨[2, 5, 6, 30], []⟩ (.seq none .nil (.seq none (.cond .nil .nil) (.one (.seq none .nil (.seq (some ⟨[2, 5, 6, 8, 30], []⟩) .nil .nil)))))))) (.seq (some ⟨[2, 6], []⟩) (.seq none .nil (.cond .nil .nil)) (.seq none .nil .nil))))))))
def L_grammar_Of (p0 : Int) (R : Value → World → Prop) (w : World) : Prop :=
 Nw (w.alloc (.cells #[(.int .u16 (0 : Int)), (.string (ByteArray.mk #[])), (.bool false), (.bool false), (.string (ByteArray.mk #[])), (.string (ByteArray.mk #[])), (.int .i64 (0 : Int)), (.int .u8 (0 : Int))] 178)) fun w1 =>
 callR Tryz.prog 221 #[(.int .u16 p0)] w1 fun v1 w2 =>
 ∃ x2 : ByteArray, v1 = (.string x2) ∧
 ifB (x2.toList == (ByteArray.mk #[]).toList)
 (Wr w2 (blk w.heap.size) ∧
 Nw (w2.setCell (blk w.heap.size) (.int .u16 (0 : Int))) fun w3 =>
 Wr w3 ((blk w.heap.size).add 1) ∧
 Nw (w3.setCell ((blk w.heap.size).add 1) (.string (ByteArray.mk #[]))) fun w4 =>
 Wr w4 ((blk w.heap.size).add 2) ∧
 Nw (w4.setCell ((blk w.heap.size).add 2) (.bool false)) fun w5 =>
 Wr w5 ((blk w.heap.size).add 3) ∧
 Nw (w5.setCell ((blk w.heap.size).add 3) (.bool false)) fun w6 =>
 Wr w6 ((blk w.heap.size).add 4) ∧
 Nw (w6.setCell ((blk w.heap.size).add 4) (.string (ByteArray.mk #[]))) fun w7 =>
 Wr w7 ((blk w.heap.size).add 5) ∧
 Nw (w7.setCell ((blk w.heap.size).add 5) (.string (ByteArray.mk #[]))) fun w8 =>
 Wr w8 ((blk w.heap.size).add 6) ∧
 Nw (w8.setCell ((blk w.heap.size).add 6) (.int .i64 (0 : Int))) fun w9 =>
 Wr w9 ((blk w.heap.size).add 7) ∧
 Nw (w9.setCell ((blk w.heap.size).add 7) (.int .u8 (0 : Int))) fun w10 =>
 ldI w10 ((blk w.heap.size).add 0) .u16 fun x3 =>
 ldStr w10 ((blk w.heap.size).add 1) fun x4 =>
 ldB w10 ((blk w.heap.size).add 2) fun x5 =>
 ldB w10 ((blk w.heap.size).add 3) fun x6 =>
 ldStr w10 ((blk w.heap.size).add 4) fun x7 =>
 ldStr w10 ((blk w.heap.size).add 5) fun x8 =>
 ldI w10 ((blk w.heap.size).add 6) .i64 fun x9 =>
 ldI w10 ((blk w.heap.size).add 7) .u8 fun x10 =>
 R (.tuple #[(.agg #[(.int .u16 x3), (.string x4), (.bool x5), (.bool x6), (.string x7), (.string x8), (.int .i64 x9), (.int .u8 x10)]), (.bool false)]) w10)
 (callR Tryz.prog 222 #[(.string x2)] w2 fun v11 w11 =>
 ∃ x12 : (ByteArray × ByteArray × ByteArray × ByteArray × ByteArray × ByteArray × Unit), v11 = (.agg #[(.string x12.1), (.string x12.2.1), (.string x12.2.2.1), (.string x12.2.2.2.1), (.string x12.2.2.2.2.1), (.string x12.2.2.2.2.2.1)]) ∧
 Nw (w11.alloc (.cells #[(.string (ByteArray.mk #[])), (.string (ByteArray.mk #[])), (.string (ByteArray.mk #[])), (.string (ByteArray.mk #[])), (.string (ByteArray.mk #[])), (.string (ByteArray.mk #[]))] 283)) fun w12 =>
 Wr w12 (blk w11.heap.size) ∧
 Nw (w12.setCell (blk w11.heap.size) (.string x12.1)) fun w13 =>
 Wr w13 ((blk w11.heap.size).add 1) ∧
 Nw (w13.setCell ((blk w11.heap.size).add 1) (.string x12.2.1)) fun w14 =>
 Wr w14 ((blk w11.heap.size).add 2) ∧
 Nw (w14.setCell ((blk w11.heap.size).add 2) (.string x12.2.2.1)) fun w15 =>
 Wr w15 ((blk w11.heap.size).add 3) ∧
 Nw (w15.setCell ((blk w11.heap.size).add 3) (.string x12.2.2.2.1)) fun w16 =>
 Wr w16 ((blk w11.heap.size).add 4) ∧
 Nw (w16.setCell ((blk w11.heap.size).add 4) (.string x12.2.2.2.2.1)) fun w17 =>
 Wr w17 ((blk w11.heap.size).add 5) ∧
 Nw (w17.setCell ((blk w11.heap.size).add 5) (.string x12.2.2.2.2.2.1)) fun w18 =>
 (0 ≤ (0 : Int) ∧ (0 : Int) < (6 : Int)) ∧
 ldStr w18.drew ((blk w11.heap.size).add 0) fun x13 =>
 (0 ≤ (2 : Int) ∧ (2 : Int) < (6 : Int)) ∧
 ldStr w18.drew ((blk w11.heap.size).add 2) fun x14 =>
 (0 ≤ (3 : Int) ∧ (3 : Int) < (6 : Int)) ∧
 ldStr w18.drew ((blk w11.heap.size).add 3) fun x15 =>
 (0 ≤ (5 : Int) ∧ (5 : Int) < (6 : Int)) ∧
 ldStr w18.drew ((blk w11.heap.size).add 5) fun x16 =>
 (0 ≤ (0 : Int) ∧ (0 : Int) < (x16.size : Int)) ∧
 Nw (w18.drew.alloc (.cells #[(.int .u16 (0 : Int)), (.string (ByteArray.mk #[])), (.bool false), (.bool false), (.string (ByteArray.mk #[])), (.string (ByteArray.mk #[])), (.int .i64 (0 : Int)), (.int .u8 (0 : Int))] 178)) fun w19 =>
 w19.cell? ((blk w11.heap.size).add 5) = some (.string x16) ∧
 w19.cell? ((blk w11.heap.size).add 3) = some (.string x15) ∧
 w19.cell? ((blk w11.heap.size).add 2) = some (.string x14) ∧
 w19.cell? ((blk w11.heap.size).add 0) = some (.string x13) ∧
 Wr w19 (blk w18.drew.heap.size) ∧
 Nw (w19.setCell (blk w18.drew.heap.size) (.int .u16 p0)) fun w20 =>
 Wr w20 ((blk w18.drew.heap.size).add 1) ∧
 Nw (w20.setCell ((blk w18.drew.heap.size).add 1) (.string x13)) fun w21 =>
 Wr w21 ((blk w18.drew.heap.size).add 2) ∧
 Nw (w21.setCell ((blk w18.drew.heap.size).add 2) (.bool false)) fun w22 =>
 Wr w22 ((blk w18.drew.heap.size).add 3) ∧
 Nw (w22.setCell ((blk w18.drew.heap.size).add 3) (.bool false)) fun w23 =>
 Wr w23 ((blk w18.drew.heap.size).add 4) ∧
 Nw (w23.setCell ((blk w18.drew.heap.size).add 4) (.string x14)) fun w24 =>
 Wr w24 ((blk w18.drew.heap.size).add 5) ∧
 Nw (w24.setCell ((blk w18.drew.heap.size).add 5) (.string x15)) fun w25 =>
 Wr w25 ((blk w18.drew.heap.size).add 6) ∧
 Nw (w25.setCell ((blk w18.drew.heap.size).add 6) (.int .i64 (0 : Int))) fun w26 =>
 Wr w26 ((blk w18.drew.heap.size).add 7) ∧
 Nw (w26.setCell ((blk w18.drew.heap.size).add 7) (.int .u8 (IntKind.u8.wrap ((byteI x16 (0 : Int)) - (48 : Int))))) fun w27 =>
 (0 ≤ (1 : Int) ∧ (1 : Int) < (6 : Int)) ∧
 ldStr w27 ((blk w11.heap.size).add 1) fun x17 =>
 Nw (w27.alloc (.stringIter x17 0)) fun w28 =>
 LoopW (S := Unit) (fun s18 w29 n19 =>
 nextW w27.heap.size w29 (fun i20 c21 w30 =>
 JoinW (S := Unit) (fun m22 =>
 ldB w30 ((blk w18.drew.heap.size).add 2) fun x24 =>
 ifB x24
 (Wr w30 ((blk w18.drew.heap.size).add 2) ∧
 Nw (w30.setCell ((blk w18.drew.heap.size).add 2) (.bool true)) fun w31 =>
 m22 (()) w31)
 (Wr w30 ((blk w18.drew.heap.size).add 2) ∧
 Nw (w30.setCell ((blk w18.drew.heap.size).add 2) (.bool (c21 == (84 : Int)))) fun w32 =>
 m22 (()) w32))
 (fun s23 w33 =>
 ldB w33 ((blk w18.drew.heap.size).add 3) fun x25 =>
 ifB x25
 (Wr w33 ((blk w18.drew.heap.size).add 3) ∧
 Nw (w33.setCell ((blk w18.drew.heap.size).add 3) (.bool true)) fun w34 =>
 n19 (()) w34)
 (Wr w33 ((blk w18.drew.heap.size).add 3) ∧
 Nw (w33.setCell ((blk w18.drew.heap.size).add 3) (.bool (c21 == (82 : Int)))) fun w35 =>
 n19 (()) w35)))
 (JoinW (S := Unit) (fun m26 =>
 (0 ≤ (4 : Int) ∧ (4 : Int) < (6 : Int)) ∧
 ldStr w29 ((blk w11.heap.size).add 4) fun x28 =>
 ifB (!(x28.toList == (ByteArray.mk #[]).toList))
 ((0 ≤ (4 : Int) ∧ (4 : Int) < (6 : Int)) ∧
 ldStr w29 ((blk w11.heap.size).add 4) fun x29 =>
 (0 ≤ (0 : Int) ∧ (0 : Int) < (x29.size : Int)) ∧
 Wr w29 ((blk w18.drew.heap.size).add 6) ∧
 Nw (w29.setCell ((blk w18.drew.heap.size).add 6) (.int .i64 (IntKind.i64.wrap (IntKind.u8.wrap ((byteI x29 (0 : Int)) - (48 : Int)))))) fun w36 =>
 m26 (()) w36)
 (m26 (()) w29))
 (fun s27 w37 =>
 ldI w37 ((blk w18.drew.heap.size).add 0) .u16 fun x30 =>
 ldStr w37 ((blk w18.drew.heap.size).add 1) fun x31 =>
 ldB w37 ((blk w18.drew.heap.size).add 2) fun x32 =>
 ldB w37 ((blk w18.drew.heap.size).add 3) fun x33 =>
 ldStr w37 ((blk w18.drew.heap.size).add 4) fun x34 =>
 ldStr w37 ((blk w18.drew.heap.size).add 5) fun x35 =>
 ldI w37 ((blk w18.drew.heap.size).add 6) .i64 fun x36 =>
 ldI w37 ((blk w18.drew.heap.size).add 7) .u8 fun x37 =>
 Wr w37 (blk w.heap.size) ∧
 Nw (w37.setCell (blk w.heap.size) (.int .u16 x30)) fun w38 =>
 Wr w38 ((blk w.heap.size).add 1) ∧
 Nw (w38.setCell ((blk w.heap.size).add 1) (.string x31)) fun w39 =>
 Wr w39 ((blk w.heap.size).add 2) ∧
 Nw (w39.setCell ((blk w.heap.size).add 2) (.bool x32)) fun w40 =>
 Wr w40 ((blk w.heap.size).add 3) ∧
 Nw (w40.setCell ((blk w.heap.size).add 3) (.bool x33)) fun w41 =>
 Wr w41 ((blk w.heap.size).add 4) ∧
 Nw (w41.setCell ((blk w.heap.size).add 4) (.string x34)) fun w42 =>
 Wr w42 ((blk w.heap.size).add 5) ∧
 Nw (w42.setCell ((blk w.heap.size).add 5) (.string x35)) fun w43 =>
 Wr w43 ((blk w.heap.size).add 6) ∧
 Nw (w43.setCell ((blk w.heap.size).add 6) (.int .i64 x36)) fun w44 =>
 Wr w44 ((blk w.heap.size).add 7) ∧
 Nw (w44.setCell ((blk w.heap.size).add 7) (.int .u8 x37)) fun w45 =>
 ldI w45 ((blk w.heap.size).add 0) .u16 fun x38 =>
 ldStr w45 ((blk w.heap.size).add 1) fun x39 =>
 ldB w45 ((blk w.heap.size).add 2) fun x40 =>
 ldB w45 ((blk w.heap.size).add 3) fun x41 =>
 ldStr w45 ((blk w.heap.size).add 4) fun x42 =>
 ldStr w45 ((blk w.heap.size).add 5) fun x43 =>
 ldI w45 ((blk w.heap.size).add 6) .i64 fun x44 =>
 ldI w45 ((blk w.heap.size).add 7) .u8 fun x45 =>
 R (.tuple #[(.agg #[(.int .u16 x38), (.string x39), (.bool x40), (.bool x41), (.string x42), (.string x43), (.int .i64 x44), (.int .u8 x45)]), (.bool true)]) w45)))
 (()) w28)
theorem grammar_Of_calls (p0 : Int) (R : Value → World → Prop) (w : World) (h : L_grammar_Of p0 R w) : Calls Tryz.prog 168 #[(.int .u16 p0)] w (Ret R) :=
 lw_calls (fs := Tryz.fs) (an := a_grammar_Of) (args := [(.int .u16 p0)]) Tryz.fsOK Tryz.mixed Tryz.func168 (by kernel_rfl) (by kernel_rfl)
 (Eq.mpr (by kernel_rfl : lwFn Tryz.prog Tryz.fs Tryz.f168 a_grammar_Of [(.int .u16 p0)] w R = L_grammar_Of p0 R w) h)

/-- intaglio.grammar.Kind -/
def a_grammar_Kind : Ann := (.seq none .nil (.seq none (.seq none .nil (.one (.seq none .nil (.cond (.seq none .nil .nil) (.seq none .nil (.cond (.seq none .nil .nil) (.seq none .nil (.cond (.seq none .nil .nil) .nil)))))))) (.seq none (.seq none .nil (.cond (.seq none .nil .nil) .nil)) (.seq none .nil .nil))))
def L_grammar_Kind (p0 : Int) (R : Value → World → Prop) (w : World) : Prop :=
 ifB (p0 == (105 : Int))
 (R (.int .u8 (1 : Int)) w)
 (ifB (p0 == (110 : Int))
 (R (.int .u8 (2 : Int)) w)
 (ifB (p0 == (115 : Int))
 (R (.int .u8 (3 : Int)) w)
 (callR Tryz.prog 223 #[(.int .u8 p0)] w fun v1 w1 =>
 ∃ x2 : ByteArray, v1 = (.string x2) ∧
 ifB (!(x2.toList == (ByteArray.mk #[]).toList))
 (R (.int .u8 (4 : Int)) w1)
 (R (.int .u8 (0 : Int)) w1))))
theorem grammar_Kind_calls (p0 : Int) (R : Value → World → Prop) (w : World) (h : L_grammar_Kind p0 R w) : Calls Tryz.prog 169 #[(.int .u8 p0)] w (Ret R) :=
 lw_calls (fs := Tryz.fs) (an := a_grammar_Kind) (args := [(.int .u8 p0)]) Tryz.fsOK Tryz.mixed Tryz.func169 (by kernel_rfl) (by kernel_rfl)
 (Eq.mpr (by kernel_rfl : lwFn Tryz.prog Tryz.fs Tryz.f169 a_grammar_Kind [(.int .u8 p0)] w R = L_grammar_Kind p0 R w) h)

/-- (intaglio.grammar.form).letter -/
def a_grammar_form_letter : Ann := (.seq none .nil (.seq none (.seq none .nil (.cond (.seq none .nil .nil) .nil)) (.seq none (.seq none .nil (.one (.loop ⟨[1, 14, 15], [(16, (.b (.int .i64)))]⟩ (.seq none .nil (.seq none (.cond .nil .nil) (.seq none (.one (.seq none .nil (.seq none .nil (.seq none .nil (.cond (.seq none .nil .nil) .nil))))) .nil)))))) (.seq none .nil .nil))))
def L_grammar_form_letter (p0 : (Int × ByteArray × Bool × Bool × ByteArray × ByteArray × Int × Int × Unit)) (p1 : Int) (R : Value → World → Prop) (w : World) : Prop :=
 Nw (w.alloc (.cells #[(.int .u16 p0.1), (.string p0.2.1), (.bool p0.2.2.1), (.bool p0.2.2.2.1), (.string p0.2.2.2.2.1), (.string p0.2.2.2.2.2.1), (.int .i64 p0.2.2.2.2.2.2.1), (.int .u8 p0.2.2.2.2.2.2.2.1)] 230)) fun w1 =>
 ifB (decide (p1 < (0 : Int)))
 (R (.int .u8 (0 : Int)) w1)
 (ldI w1 ((blk w.heap.size).add 0) .u16 fun x1 =>
 ldStr w1 ((blk w.heap.size).add 1) fun x2 =>
 ldB w1 ((blk w.heap.size).add 2) fun x3 =>
 ldB w1 ((blk w.heap.size).add 3) fun x4 =>
 ldStr w1 ((blk w.heap.size).add 4) fun x5 =>
 ldStr w1 ((blk w.heap.size).add 5) fun x6 =>
 ldI w1 ((blk w.heap.size).add 6) .i64 fun x7 =>
 ldI w1 ((blk w.heap.size).add 7) .u8 fun x8 =>
 ldI w1 ((blk w.heap.size).add 0) .u16 fun x9 =>
 ldStr w1 ((blk w.heap.size).add 1) fun x10 =>
 ldB w1 ((blk w.heap.size).add 2) fun x11 =>
 ldB w1 ((blk w.heap.size).add 3) fun x12 =>
 ldStr w1 ((blk w.heap.size).add 4) fun x13 =>
 ldStr w1 ((blk w.heap.size).add 5) fun x14 =>
 ldI w1 ((blk w.heap.size).add 6) .i64 fun x15 =>
 ldI w1 ((blk w.heap.size).add 7) .u8 fun x16 =>
 Nw (w1.alloc (.cells #[(.func (.func 224) #[(.agg #[(.int .u16 x1), (.string x2), (.bool x3), (.bool x4), (.string x5), (.string x6), (.int .i64 x7), (.int .u8 x8)])] #[]), (.func (.func 225) #[(.agg #[(.int .u16 x9), (.string x10), (.bool x11), (.bool x12), (.string x13), (.string x14), (.int .i64 x15), (.int .u8 x16)])] #[])] 231)) fun w2 =>
 LoopW (S := Int × Unit) (fun s17 w3 n18 =>
 ifB (decide (s17.1 < (2 : Int)))
 ((0 ≤ s17.1 ∧ s17.1 < (2 : Int)) ∧
 ldR w3 ((blk w1.heap.size).add (Int.toNat s17.1)) fun x19 =>
 callV Tryz.prog Tryz.fs x19 [(.int .i64 p1)] w3 fun v20 w4 =>
 ∃ x21 : Int, v20 = (.int .u8 x21) ∧
 ifB (x21 != (0 : Int))
 (R (.int .u8 x21) w4)
 (n18 ((IntKind.i64.wrap (s17.1 + (1 : Int))), ()) w4))
 (R (.int .u8 (0 : Int)) w3))
 ((0 : Int), ()) w2)
theorem grammar_form_letter_calls (p0 : (Int × ByteArray × Bool × Bool × ByteArray × ByteArray × Int × Int × Unit)) (p1 : Int) (R : Value → World → Prop) (w : World) (h : L_grammar_form_letter p0 p1 R w) : Calls Tryz.prog 170 #[(.agg #[(.int .u16 p0.1), (.string p0.2.1), (.bool p0.2.2.1), (.bool p0.2.2.2.1), (.string p0.2.2.2.2.1), (.string p0.2.2.2.2.2.1), (.int .i64 p0.2.2.2.2.2.2.1), (.int .u8 p0.2.2.2.2.2.2.2.1)]), (.int .i64 p1)] w (Ret R) :=
 lw_calls (fs := Tryz.fs) (an := a_grammar_form_letter) (args := [(.agg #[(.int .u16 p0.1), (.string p0.2.1), (.bool p0.2.2.1), (.bool p0.2.2.2.1), (.string p0.2.2.2.2.1), (.string p0.2.2.2.2.2.1), (.int .i64 p0.2.2.2.2.2.2.1), (.int .u8 p0.2.2.2.2.2.2.2.1)]), (.int .i64 p1)]) Tryz.fsOK Tryz.mixed Tryz.func170 (by kernel_rfl) (by kernel_rfl)
 (Eq.mpr (by kernel_rfl : lwFn Tryz.prog Tryz.fs Tryz.f170 a_grammar_form_letter [(.agg #[(.int .u16 p0.1), (.string p0.2.1), (.bool p0.2.2.1), (.bool p0.2.2.2.1), (.string p0.2.2.2.2.1), (.string p0.2.2.2.2.2.1), (.int .i64 p0.2.2.2.2.2.2.1), (.int .u8 p0.2.2.2.2.2.2.2.1)]), (.int .i64 p1)] w R = L_grammar_form_letter p0 p1 R w) h)

/-- intaglio.grammar.row -/
def a_grammar_row : Ann := (.seq none .nil (.seq none (.one (.seq none .nil (.cond (.seq none .nil .nil) (.seq none .nil (.cond (.seq none .nil .nil) .nil))))) (.seq none .nil .nil)))
def L_grammar_row (p0 : Int) (R : Value → World → Prop) (w : World) : Prop :=
 ifB (decide (p0 ≤ (71 : Int)))
 (callR Tryz.prog 254 #[(.int .u16 p0)] w fun v1 w1 =>
 ∃ x2 : ByteArray, v1 = (.string x2) ∧
 R (.string x2) w1)
 (ifB (decide (p0 ≤ (171 : Int)))
 (callR Tryz.prog 255 #[(.int .u16 p0)] w fun v3 w2 =>
 ∃ x4 : ByteArray, v3 = (.string x4) ∧
 R (.string x4) w2)
 (callR Tryz.prog 256 #[(.int .u16 p0)] w fun v5 w3 =>
 ∃ x6 : ByteArray, v5 = (.string x6) ∧
 R (.string x6) w3))
theorem grammar_row_calls (p0 : Int) (R : Value → World → Prop) (w : World) (h : L_grammar_row p0 R w) : Calls Tryz.prog 221 #[(.int .u16 p0)] w (Ret R) :=
 lw_calls (fs := Tryz.fs) (an := a_grammar_row) (args := [(.int .u16 p0)]) Tryz.fsOK Tryz.mixed Tryz.func221 (by kernel_rfl) (by kernel_rfl)
 (Eq.mpr (by kernel_rfl : lwFn Tryz.prog Tryz.fs Tryz.f221 a_grammar_row [(.int .u16 p0)] w R = L_grammar_row p0 R w) h)

/-- intaglio.grammar.fields -/
def a_grammar_fields : Ann := (.seq none .nil (.seq none .nil (.seq none .nil (.seq none (.seq none .nil (.one (.loop ⟨[2, 3, 8], [(4, (.b (.int .i64)))]⟩ (.seq none .nil (.seq none (.cond .nil .nil) (.one (.seq none .nil (.seq none .nil (.cond .nil .nil))))))))) (.seq none .nil .nil)))))
def L_grammar_fields (p0 : ByteArray) (R : Value → World → Prop) (w : World) : Prop :=
 Nw (w.alloc (.cells #[(.string (ByteArray.mk #[])), (.string (ByteArray.mk #[])), (.string (ByteArray.mk #[])), (.string (ByteArray.mk #[])), (.string (ByteArray.mk #[])), (.string (ByteArray.mk #[]))] 283)) fun w1 =>
 Nw (w1.alloc (.cells #[(.string (ByteArray.mk #[])), (.string (ByteArray.mk #[])), (.string (ByteArray.mk #[])), (.string (ByteArray.mk #[])), (.string (ByteArray.mk #[])), (.string (ByteArray.mk #[]))] 283)) fun w2 =>
 Nw (w2.alloc (.stringIter p0 0)) fun w3 =>
 LoopW (S := Int × Unit) (fun s1 w4 n2 =>
 nextW w2.heap.size w4 (fun i3 c4 w5 =>
 ifB (c4 == (32 : Int))
 (n2 ((IntKind.i64.wrap (s1.1 + (1 : Int))), ()) w5)
 ((0 ≤ s1.1 ∧ s1.1 < (6 : Int)) ∧
 ldStr w5 ((blk w1.heap.size).add (Int.toNat s1.1)) fun x5 =>
 sumFits x5 (Utf8.encode c4) ∧
 (0 ≤ s1.1 ∧ s1.1 < (6 : Int)) ∧
 Wr w5 ((blk w1.heap.size).add (Int.toNat s1.1)) ∧
 Nw (w5.setCell ((blk w1.heap.size).add (Int.toNat s1.1)) (.string (x5 ++ (Utf8.encode c4)))) fun w6 =>
 n2 (s1.1, ()) w6))
 (ldStr w4 ((blk w1.heap.size).add 0) fun x6 =>
 ldStr w4 ((blk w1.heap.size).add 1) fun x7 =>
 ldStr w4 ((blk w1.heap.size).add 2) fun x8 =>
 ldStr w4 ((blk w1.heap.size).add 3) fun x9 =>
 ldStr w4 ((blk w1.heap.size).add 4) fun x10 =>
 ldStr w4 ((blk w1.heap.size).add 5) fun x11 =>
 Wr w4 (blk w.heap.size) ∧
 Nw (w4.setCell (blk w.heap.size) (.string x6)) fun w7 =>
 Wr w7 ((blk w.heap.size).add 1) ∧
 Nw (w7.setCell ((blk w.heap.size).add 1) (.string x7)) fun w8 =>
 Wr w8 ((blk w.heap.size).add 2) ∧
 Nw (w8.setCell ((blk w.heap.size).add 2) (.string x8)) fun w9 =>
 Wr w9 ((blk w.heap.size).add 3) ∧
 Nw (w9.setCell ((blk w.heap.size).add 3) (.string x9)) fun w10 =>
 Wr w10 ((blk w.heap.size).add 4) ∧
 Nw (w10.setCell ((blk w.heap.size).add 4) (.string x10)) fun w11 =>
 Wr w11 ((blk w.heap.size).add 5) ∧
 Nw (w11.setCell ((blk w.heap.size).add 5) (.string x11)) fun w12 =>
 ldStr w12 ((blk w.heap.size).add 0) fun x12 =>
 ldStr w12 ((blk w.heap.size).add 1) fun x13 =>
 ldStr w12 ((blk w.heap.size).add 2) fun x14 =>
 ldStr w12 ((blk w.heap.size).add 3) fun x15 =>
 ldStr w12 ((blk w.heap.size).add 4) fun x16 =>
 ldStr w12 ((blk w.heap.size).add 5) fun x17 =>
 R (.agg #[(.string x12), (.string x13), (.string x14), (.string x15), (.string x16), (.string x17)]) w12))
 ((0 : Int), ()) w3
theorem grammar_fields_calls (p0 : ByteArray) (R : Value → World → Prop) (w : World) (h : L_grammar_fields p0 R w) : Calls Tryz.prog 222 #[(.string p0)] w (Ret R) :=
 lw_calls (fs := Tryz.fs) (an := a_grammar_fields) (args := [(.string p0)]) Tryz.fsOK Tryz.mixed Tryz.func222 (by kernel_rfl) (by kernel_rfl)
 (Eq.mpr (by kernel_rfl : lwFn Tryz.prog Tryz.fs Tryz.f222 a_grammar_fields [(.string p0)] w R = L_grammar_fields p0 R w) h)

/-- intaglio.grammar.names -/
def a_grammar_names : Ann := (.seq none .nil (.seq none (.seq none .nil (.one (.seq none .nil (.cond (.seq none .nil .nil) (.seq none .nil (.cond (.seq none .nil .nil) (.seq none .nil (.cond (.seq none .nil .nil) (.seq none .nil (.cond (.seq none .nil .nil) (.seq none .nil (.cond (.seq none .nil .nil) (.seq none .nil (.cond (.seq none .nil .nil) (.seq none .nil (.cond (.seq none .nil .nil) (.seq none .nil (.cond (.seq none .nil .nil) (.seq none .nil (.cond (.seq none .nil .nil) (.seq none .nil (.cond (.seq none .nil .nil) (.seq none .nil (.cond (.seq none .nil .nil) .nil)))))))))))))))))))))))) (.seq none .nil .nil)))
def L_grammar_names (p0 : Int) (R : Value → World → Prop) (w : World) : Prop :=
 ifB (p0 == (107 : Int))
 (R (.string (ByteArray.mk #[48, 32, 77, 97, 116, 114, 105, 120, 32, 49, 32, 83, 104, 97, 100, 101, 114, 32])) w)
 (ifB (p0 == (97 : Int))
 (R (.string (ByteArray.mk #[48, 32, 76, 111, 103, 105, 99, 97, 108, 32])) w)
 (ifB (p0 == (109 : Int))
 (R (.string (ByteArray.mk #[48, 32, 83, 105, 109, 112, 108, 101, 32, 49, 32, 71, 76, 83, 76, 52, 53, 48, 32])) w)
 (ifB (p0 == (101 : Int))
 (R (.string (ByteArray.mk #[48, 32, 86, 101, 114, 116, 101, 120, 32, 52, 32, 70, 114, 97, 103, 109, 101, 110, 116, 32])) w)
 (ifB (p0 == (120 : Int))
 (R (.string (ByteArray.mk #[55, 32, 79, 114, 105, 103, 105, 110, 85, 112, 112, 101, 114, 76, 101, 102, 116, 32])) w)
 (ifB (p0 == (108 : Int))
 (R (.string (ByteArray.mk #[48, 32, 85, 110, 107, 110, 111, 119, 110, 32, 49, 32, 69, 83, 83, 76, 32, 50, 32, 71, 76, 83, 76, 32])) w)
 (ifB (p0 == (99 : Int))
 (R (.string (ByteArray.mk #[49, 32, 73, 110, 112, 117, 116, 32, 51, 32, 79, 117, 116, 112, 117, 116, 32, 54, 32, 80, 114, 105, 118, 97, 116, 101, 32, 55, 32, 70, 117, 110, 99, 116, 105, 111, 110, 32])) w)
 (ifB (p0 == (100 : Int))
 (R (.string (ByteArray.mk #[48, 32, 82, 101, 108, 97, 120, 101, 100, 80, 114, 101, 99, 105, 115, 105, 111, 110, 32, 49, 49, 32, 66, 117, 105, 108, 116, 73, 110, 32, 49, 52, 32, 70, 108, 97, 116, 32, 51, 48, 32, 76, 111, 99, 97, 116, 105, 111, 110, 32])) w)
 (ifB (p0 == (102 : Int))
 (R (.string (ByteArray.mk #[48, 32, 78, 111, 110, 101, 32, 49, 32, 73, 110, 108, 105, 110, 101, 32, 50, 32, 68, 111, 110, 116, 73, 110, 108, 105, 110, 101, 32, 52, 32, 80, 117, 114, 101, 32, 56, 32, 67, 111, 110, 115, 116, 32])) w)
 (ifB (p0 == (104 : Int))
 (R (.string (ByteArray.mk #[48, 32, 78, 111, 110, 101, 32, 49, 32, 70, 108, 97, 116, 116, 101, 110, 32, 50, 32, 68, 111, 110, 116, 70, 108, 97, 116, 116, 101, 110, 32])) w)
 (ifB (p0 == (103 : Int))
 (R (.string (ByteArray.mk #[48, 32, 78, 111, 110, 101, 32, 49, 32, 85, 110, 114, 111, 108, 108, 32, 50, 32, 68, 111, 110, 116, 85, 110, 114, 111, 108, 108, 32])) w)
 (R (.string (ByteArray.mk #[])) w)))))))))))
theorem grammar_names_calls (p0 : Int) (R : Value → World → Prop) (w : World) (h : L_grammar_names p0 R w) : Calls Tryz.prog 223 #[(.int .u8 p0)] w (Ret R) :=
 lw_calls (fs := Tryz.fs) (an := a_grammar_names) (args := [(.int .u8 p0)]) Tryz.fsOK Tryz.mixed Tryz.func223 (by kernel_rfl) (by kernel_rfl)
 (Eq.mpr (by kernel_rfl : lwFn Tryz.prog Tryz.fs Tryz.f223 a_grammar_names [(.int .u8 p0)] w R = L_grammar_names p0 R w) h)

/-- (intaglio.grammar.form).fixed -/
def a_grammar_form_fixed : Ann := (.seq none .nil (.seq (some ⟨[1, 2], []⟩) (.seq none .nil (.cond (.seq none .nil .nil) .nil)) (.seq none .nil .nil)))
def L_grammar_form_fixed (p0 : (Int × ByteArray × Bool × Bool × ByteArray × ByteArray × Int × Int × Unit)) (p1 : Int) (R : Value → World → Prop) (w : World) : Prop :=
 Nw (w.alloc (.cells #[(.int .u16 p0.1), (.string p0.2.1), (.bool p0.2.2.1), (.bool p0.2.2.2.1), (.string p0.2.2.2.2.1), (.string p0.2.2.2.2.2.1), (.int .i64 p0.2.2.2.2.2.2.1), (.int .u8 p0.2.2.2.2.2.2.2.1)] 230)) fun w1 =>
 JoinW (S := Unit) (fun m1 =>
 ifB (decide (p1 < (0 : Int)))
 (R (.int .u8 (0 : Int)) w1)
 (ldStr w1 ((blk w.heap.size).add 4) fun x3 =>
 ifB (decide (p1 ≥ (x3.size : Int)))
 (R (.int .u8 (0 : Int)) w1)
 (m1 (()) w1)))
 (fun s2 w2 =>
 ldStr w2 ((blk w.heap.size).add 4) fun x4 =>
 (0 ≤ p1 ∧ p1 < (x4.size : Int)) ∧
 R (.int .u8 (byteI x4 p1)) w2)
theorem grammar_form_fixed_calls (p0 : (Int × ByteArray × Bool × Bool × ByteArray × ByteArray × Int × Int × Unit)) (p1 : Int) (R : Value → World → Prop) (w : World) (h : L_grammar_form_fixed p0 p1 R w) : Calls Tryz.prog 224 #[(.agg #[(.int .u16 p0.1), (.string p0.2.1), (.bool p0.2.2.1), (.bool p0.2.2.2.1), (.string p0.2.2.2.2.1), (.string p0.2.2.2.2.2.1), (.int .i64 p0.2.2.2.2.2.2.1), (.int .u8 p0.2.2.2.2.2.2.2.1)]), (.int .i64 p1)] w (Ret R) :=
 lw_calls (fs := Tryz.fs) (an := a_grammar_form_fixed) (args := [(.agg #[(.int .u16 p0.1), (.string p0.2.1), (.bool p0.2.2.1), (.bool p0.2.2.2.1), (.string p0.2.2.2.2.1), (.string p0.2.2.2.2.2.1), (.int .i64 p0.2.2.2.2.2.2.1), (.int .u8 p0.2.2.2.2.2.2.2.1)]), (.int .i64 p1)]) Tryz.fsOK Tryz.mixed Tryz.func224 (by kernel_rfl) (by kernel_rfl)
 (Eq.mpr (by kernel_rfl : lwFn Tryz.prog Tryz.fs Tryz.f224 a_grammar_form_fixed [(.agg #[(.int .u16 p0.1), (.string p0.2.1), (.bool p0.2.2.1), (.bool p0.2.2.2.1), (.string p0.2.2.2.2.1), (.string p0.2.2.2.2.2.1), (.int .i64 p0.2.2.2.2.2.2.1), (.int .u8 p0.2.2.2.2.2.2.2.1)]), (.int .i64 p1)] w R = L_grammar_form_fixed p0 p1 R w) h)

/-- (intaglio.grammar.form).rest -/
def a_grammar_form_rest : Ann := (.seq none .nil (.seq none .nil (.seq (some ⟨[1, 2], []⟩) (.seq none .nil (.cond (.seq none .nil .nil) .nil)) (.seq none .nil .nil))))
def L_grammar_form_rest (p0 : (Int × ByteArray × Bool × Bool × ByteArray × ByteArray × Int × Int × Unit)) (p1 : Int) (R : Value → World → Prop) (w : World) : Prop :=
 Nw (w.alloc (.cells #[(.int .u16 p0.1), (.string p0.2.1), (.bool p0.2.2.1), (.bool p0.2.2.2.1), (.string p0.2.2.2.2.1), (.string p0.2.2.2.2.2.1), (.int .i64 p0.2.2.2.2.2.2.1), (.int .u8 p0.2.2.2.2.2.2.2.1)] 230)) fun w1 =>
 ldStr w1 ((blk w.heap.size).add 4) fun x1 =>
 JoinW (S := Unit) (fun m2 =>
 ifB (decide ((IntKind.i64.wrap (p1 - (x1.size : Int))) < (0 : Int)))
 (R (.int .u8 (0 : Int)) w1)
 (ldStr w1 ((blk w.heap.size).add 5) fun x4 =>
 ifB (x4.toList == (ByteArray.mk #[]).toList)
 (R (.int .u8 (0 : Int)) w1)
 (ldI w1 ((blk w.heap.size).add 6) .i64 fun x5 =>
 ifB (decide (x5 > (0 : Int)))
 (ldI w1 ((blk w.heap.size).add 6) .i64 fun x6 =>
 ldStr w1 ((blk w.heap.size).add 5) fun x7 =>
 ifB (decide ((IntKind.i64.wrap (p1 - (x1.size : Int))) ≥ (IntKind.i64.wrap (x6 * (x7.size : Int)))))
 (R (.int .u8 (0 : Int)) w1)
 (m2 (()) w1))
 (m2 (()) w1))))
 (fun s3 w2 =>
 ldStr w2.drew ((blk w.heap.size).add 5) fun x8 =>
 ldStr w2.drew ((blk w.heap.size).add 5) fun x9 =>
 ifB (decide ((x9.size : Int) = 0))
 (False)
 ((0 ≤ (Int.tmod (IntKind.i64.wrap (p1 - (x1.size : Int))) (x9.size : Int)) ∧ (Int.tmod (IntKind.i64.wrap (p1 - (x1.size : Int))) (x9.size : Int)) < (x8.size : Int)) ∧
 R (.int .u8 (byteI x8 (Int.tmod (IntKind.i64.wrap (p1 - (x1.size : Int))) (x9.size : Int)))) w2.drew))
theorem grammar_form_rest_calls (p0 : (Int × ByteArray × Bool × Bool × ByteArray × ByteArray × Int × Int × Unit)) (p1 : Int) (R : Value → World → Prop) (w : World) (h : L_grammar_form_rest p0 p1 R w) : Calls Tryz.prog 225 #[(.agg #[(.int .u16 p0.1), (.string p0.2.1), (.bool p0.2.2.1), (.bool p0.2.2.2.1), (.string p0.2.2.2.2.1), (.string p0.2.2.2.2.2.1), (.int .i64 p0.2.2.2.2.2.2.1), (.int .u8 p0.2.2.2.2.2.2.2.1)]), (.int .i64 p1)] w (Ret R) :=
 lw_calls (fs := Tryz.fs) (an := a_grammar_form_rest) (args := [(.agg #[(.int .u16 p0.1), (.string p0.2.1), (.bool p0.2.2.1), (.bool p0.2.2.2.1), (.string p0.2.2.2.2.1), (.string p0.2.2.2.2.2.1), (.int .i64 p0.2.2.2.2.2.2.1), (.int .u8 p0.2.2.2.2.2.2.2.1)]), (.int .i64 p1)]) Tryz.fsOK Tryz.mixed Tryz.func225 (by kernel_rfl) (by kernel_rfl)
 (Eq.mpr (by kernel_rfl : lwFn Tryz.prog Tryz.fs Tryz.f225 a_grammar_form_rest [(.agg #[(.int .u16 p0.1), (.string p0.2.1), (.bool p0.2.2.1), (.bool p0.2.2.2.1), (.string p0.2.2.2.2.1), (.string p0.2.2.2.2.2.1), (.int .i64 p0.2.2.2.2.2.2.1), (.int .u8 p0.2.2.2.2.2.2.2.1)]), (.int .i64 p1)] w R = L_grammar_form_rest p0 p1 R w) h)

/-- intaglio.grammar.Letter -/
def a_grammar_Letter : Ann := (.seq none .nil (.seq none .nil (.seq none .nil .nil)))
def L_grammar_Letter (p0 : Int) (p1 : Int) (R : Value → World → Prop) (w : World) : Prop :=
 callR Tryz.prog 168 #[(.int .u16 p0)] w fun v1 w1 =>
 ∃ x2 : (Int × ByteArray × Bool × Bool × ByteArray × ByteArray × Int × Int × Unit), ∃ x3 : Bool, v1 = (.tuple #[(.agg #[(.int .u16 x2.1), (.string x2.2.1), (.bool x2.2.2.1), (.bool x2.2.2.2.1), (.string x2.2.2.2.2.1), (.string x2.2.2.2.2.2.1), (.int .i64 x2.2.2.2.2.2.2.1), (.int .u8 x2.2.2.2.2.2.2.2.1)]), (.bool x3)]) ∧
 Nw (w1.alloc (.cells #[(.int .u16 (0 : Int)), (.string (ByteArray.mk #[])), (.bool false), (.bool false), (.string (ByteArray.mk #[])), (.string (ByteArray.mk #[])), (.int .i64 (0 : Int)), (.int .u8 (0 : Int))] 178)) fun w2 =>
 Wr w2 (blk w1.heap.size) ∧
 Nw (w2.setCell (blk w1.heap.size) (.int .u16 x2.1)) fun w3 =>
 Wr w3 ((blk w1.heap.size).add 1) ∧
 Nw (w3.setCell ((blk w1.heap.size).add 1) (.string x2.2.1)) fun w4 =>
 Wr w4 ((blk w1.heap.size).add 2) ∧
 Nw (w4.setCell ((blk w1.heap.size).add 2) (.bool x2.2.2.1)) fun w5 =>
 Wr w5 ((blk w1.heap.size).add 3) ∧
 Nw (w5.setCell ((blk w1.heap.size).add 3) (.bool x2.2.2.2.1)) fun w6 =>
 Wr w6 ((blk w1.heap.size).add 4) ∧
 Nw (w6.setCell ((blk w1.heap.size).add 4) (.string x2.2.2.2.2.1)) fun w7 =>
 Wr w7 ((blk w1.heap.size).add 5) ∧
 Nw (w7.setCell ((blk w1.heap.size).add 5) (.string x2.2.2.2.2.2.1)) fun w8 =>
 Wr w8 ((blk w1.heap.size).add 6) ∧
 Nw (w8.setCell ((blk w1.heap.size).add 6) (.int .i64 x2.2.2.2.2.2.2.1)) fun w9 =>
 Wr w9 ((blk w1.heap.size).add 7) ∧
 Nw (w9.setCell ((blk w1.heap.size).add 7) (.int .u8 x2.2.2.2.2.2.2.2.1)) fun w10 =>
 ldI w10 ((blk w1.heap.size).add 0) .u16 fun x4 =>
 ldStr w10 ((blk w1.heap.size).add 1) fun x5 =>
 ldB w10 ((blk w1.heap.size).add 2) fun x6 =>
 ldB w10 ((blk w1.heap.size).add 3) fun x7 =>
 ldStr w10 ((blk w1.heap.size).add 4) fun x8 =>
 ldStr w10 ((blk w1.heap.size).add 5) fun x9 =>
 ldI w10 ((blk w1.heap.size).add 6) .i64 fun x10 =>
 ldI w10 ((blk w1.heap.size).add 7) .u8 fun x11 =>
 callR Tryz.prog 170 #[(.agg #[(.int .u16 x4), (.string x5), (.bool x6), (.bool x7), (.string x8), (.string x9), (.int .i64 x10), (.int .u8 x11)]), (.int .i64 p1)] w10 fun v12 w11 =>
 ∃ x13 : Int, v12 = (.int .u8 x13) ∧
 R (.int .u8 x13) w11
theorem grammar_Letter_calls (p0 : Int) (p1 : Int) (R : Value → World → Prop) (w : World) (h : L_grammar_Letter p0 p1 R w) : Calls Tryz.prog 246 #[(.int .u16 p0), (.int .i64 p1)] w (Ret R) :=
 lw_calls (fs := Tryz.fs) (an := a_grammar_Letter) (args := [(.int .u16 p0), (.int .i64 p1)]) Tryz.fsOK Tryz.mixed Tryz.func246 (by kernel_rfl) (by kernel_rfl)
 (Eq.mpr (by kernel_rfl : lwFn Tryz.prog Tryz.fs Tryz.f246 a_grammar_Letter [(.int .u16 p0), (.int .i64 p1)] w R = L_grammar_Letter p0 p1 R w) h)

/-- intaglio.grammar.first -/
def a_grammar_first : Ann := (.seq none .nil (.seq none (.seq none .nil (.one (.seq none .nil (.cond (.seq none .nil .nil) (.seq none .nil (.cond (.seq none .nil .nil) (.seq none .nil (.cond (.seq none .nil .nil) (.seq none .nil (.cond (.seq none .nil .nil) (.seq none .nil (.cond (.seq none .nil .nil) (.seq none .nil (.cond (.seq none .nil .nil) (.seq none .nil (.cond (.seq none .nil .nil) (.seq none .nil (.cond (.seq none .nil .nil) (.seq none .nil (.cond (.seq none .nil .nil) (.seq none .nil (.cond (.seq none .nil .nil) (.seq none .nil (.cond (.seq none .nil .nil) (.seq none .nil (.cond (.seq none .nil .nil) (.seq none .nil (.cond (.seq none .nil .nil) (.seq none .nil (.cond (.seq none .nil .nil) (.seq none .nil (.cond (.seq none .nil .nil) (.seq none .nil (.cond (.seq none .nil .nil) (.seq none .nil (.cond (.seq none .nil .nil) (.seq none .nil (.cond (.seq none .nil .nil) (.seq none .nil (.cond (.seq none .nil .nil) (.seq none .nil (.cond (.seq none .nil .nil) (.seq none .nil (.cond (.seq none .nil .nil) (.seq none .nil (.cond (.seq none .nil .nil) (.seq none .nil (.cond (.seq none .nil .nil) (.seq none .nil (.cond (.seq none .nil .nil) (.seq none .nil (.cond (.seq none .nil .nil) (.seq none .nil (.cond (.seq none .nil .nil) (.seq none .nil (.cond (.seq none .nil .nil) (.seq none .nil (.cond (.seq none .nil .nil) (.seq none .nil (.cond (.seq none .nil .nil) (.seq none .nil (.cond (.seq none .nil .nil) (.seq none .nil (.cond (.seq none .nil .nil) .nil)))))))))))))))))))))))))))))))))))))))))))))))))))))))))))))))) (.seq none .nil .nil)))
def L_grammar_first (p0 : Int) (R : Value → World → Prop) (w : World) : Prop :=
 ifB (p0 == (1 : Int))
 (R (.string (ByteArray.mk #[79, 112, 85, 110, 100, 101, 102, 32, 84, 82, 32, 32, 32, 32, 55])) w)
 (ifB (p0 == (3 : Int))
 (R (.string (ByteArray.mk #[79, 112, 83, 111, 117, 114, 99, 101, 32, 32, 108, 110, 32, 32, 32, 52])) w)
 (ifB (p0 == (5 : Int))
 (R (.string (ByteArray.mk #[79, 112, 78, 97, 109, 101, 32, 32, 105, 115, 32, 32, 32, 53])) w)
 (ifB (p0 == (6 : Int))
 (R (.string (ByteArray.mk #[79, 112, 77, 101, 109, 98, 101, 114, 78, 97, 109, 101, 32, 32, 105, 110, 115, 32, 32, 32, 53])) w)
 (ifB (p0 == (7 : Int))
 (R (.string (ByteArray.mk #[79, 112, 83, 116, 114, 105, 110, 103, 32, 82, 32, 115, 32, 32, 32, 52])) w)
 (ifB (p0 == (14 : Int))
 (R (.string (ByteArray.mk #[79, 112, 77, 101, 109, 111, 114, 121, 77, 111, 100, 101, 108, 32, 32, 97, 109, 32, 32, 32, 49])) w)
 (ifB (p0 == (15 : Int))
 (R (.string (ByteArray.mk #[79, 112, 69, 110, 116, 114, 121, 80, 111, 105, 110, 116, 32, 32, 101, 105, 115, 32, 105, 32, 32, 50])) w)
 (ifB (p0 == (16 : Int))
 (R (.string (ByteArray.mk #[79, 112, 69, 120, 101, 99, 117, 116, 105, 111, 110, 77, 111, 100, 101, 32, 32, 105, 120, 32, 32, 32, 51])) w)
 (ifB (p0 == (17 : Int))
 (R (.string (ByteArray.mk #[79, 112, 67, 97, 112, 97, 98, 105, 108, 105, 116, 121, 32, 32, 107, 32, 32, 32, 48])) w)
 (ifB (p0 == (19 : Int))
 (R (.string (ByteArray.mk #[79, 112, 84, 121, 112, 101, 86, 111, 105, 100, 32, 82, 32, 32, 32, 32, 55])) w)
 (ifB (p0 == (20 : Int))
 (R (.string (ByteArray.mk #[79, 112, 84, 121, 112, 101, 66, 111, 111, 108, 32, 82, 32, 32, 32, 32, 55])) w)
 (ifB (p0 == (21 : Int))
 (R (.string (ByteArray.mk #[79, 112, 84, 121, 112, 101, 73, 110, 116, 32, 82, 32, 110, 110, 32, 32, 32, 55])) w)
 (ifB (p0 == (23 : Int))
 (R (.string (ByteArray.mk #[79, 112, 84, 121, 112, 101, 86, 101, 99, 116, 111, 114, 32, 82, 32, 105, 110, 32, 32, 32, 55])) w)
 (ifB (p0 == (28 : Int))
 (R (.string (ByteArray.mk #[79, 112, 84, 121, 112, 101, 65, 114, 114, 97, 121, 32, 82, 32, 105, 105, 32, 32, 32, 55])) w)
 (ifB (p0 == (30 : Int))
 (R (.string (ByteArray.mk #[79, 112, 84, 121, 112, 101, 83, 116, 114, 117, 99, 116, 32, 82, 32, 32, 105, 32, 32, 55])) w)
 (ifB (p0 == (32 : Int))
 (R (.string (ByteArray.mk #[79, 112, 84, 121, 112, 101, 80, 111, 105, 110, 116, 101, 114, 32, 82, 32, 99, 105, 32, 32, 32, 55])) w)
 (ifB (p0 == (33 : Int))
 (R (.string (ByteArray.mk #[79, 112, 84, 121, 112, 101, 70, 117, 110, 99, 116, 105, 111, 110, 32, 82, 32, 105, 32, 105, 32, 32, 55])) w)
 (ifB (p0 == (41 : Int))
 (R (.string (ByteArray.mk #[79, 112, 67, 111, 110, 115, 116, 97, 110, 116, 84, 114, 117, 101, 32, 84, 82, 32, 32, 32, 32, 55])) w)
 (ifB (p0 == (42 : Int))
 (R (.string (ByteArray.mk #[79, 112, 67, 111, 110, 115, 116, 97, 110, 116, 70, 97, 108, 115, 101, 32, 84, 82, 32, 32, 32, 32, 55])) w)
 (ifB (p0 == (43 : Int))
 (R (.string (ByteArray.mk #[79, 112, 67, 111, 110, 115, 116, 97, 110, 116, 32, 84, 82, 32, 110, 32, 32, 32, 55])) w)
 (ifB (p0 == (44 : Int))
 (R (.string (ByteArray.mk #[79, 112, 67, 111, 110, 115, 116, 97, 110, 116, 67, 111, 109, 112, 111, 115, 105, 116, 101, 32, 84, 82, 32, 32, 105, 32, 32, 55])) w)
 (ifB (p0 == (46 : Int))
 (R (.string (ByteArray.mk #[79, 112, 67, 111, 110, 115, 116, 97, 110, 116, 78, 117, 108, 108, 32, 84, 82, 32, 32, 32, 32, 55])) w)
 (ifB (p0 == (54 : Int))
 (R (.string (ByteArray.mk #[79, 112, 70, 117, 110, 99, 116, 105, 111, 110, 32, 84, 82, 32, 102, 105, 32, 32, 32, 56])) w)
 (ifB (p0 == (55 : Int))
 (R (.string (ByteArray.mk #[79, 112, 70, 117, 110, 99, 116, 105, 111, 110, 80, 97, 114, 97, 109, 101, 116, 101, 114, 32, 84, 82, 32, 32, 32, 32, 56])) w)
 (ifB (p0 == (56 : Int))
 (R (.string (ByteArray.mk #[79, 112, 70, 117, 110, 99, 116, 105, 111, 110, 69, 110, 100, 32, 32, 32, 32, 32, 56])) w)
 (ifB (p0 == (57 : Int))
 (R (.string (ByteArray.mk #[79, 112, 70, 117, 110, 99, 116, 105, 111, 110, 67, 97, 108, 108, 32, 84, 82, 32, 105, 32, 105, 32, 32, 56])) w)
 (ifB (p0 == (59 : Int))
 (R (.string (ByteArray.mk #[79, 112, 86, 97, 114, 105, 97, 98, 108, 101, 32, 84, 82, 32, 99, 32, 105, 32, 49, 32, 55])) w)
 (ifB (p0 == (61 : Int))
 (R (.string (ByteArray.mk #[79, 112, 76, 111, 97, 100, 32, 84, 82, 32, 105, 32, 32, 32, 56])) w)
 (ifB (p0 == (62 : Int))
 (R (.string (ByteArray.mk #[79, 112, 83, 116, 111, 114, 101, 32, 32, 105, 105, 32, 32, 32, 56])) w)
 (ifB (p0 == (65 : Int))
 (R (.string (ByteArray.mk #[79, 112, 65, 99, 99, 101, 115, 115, 67, 104, 97, 105, 110, 32, 84, 82, 32, 105, 32, 105, 32, 32, 56])) w)
 (ifB (p0 == (71 : Int))
 (R (.string (ByteArray.mk #[79, 112, 68, 101, 99, 111, 114, 97, 116, 101, 32, 32, 105, 100, 32, 110, 32, 32, 54])) w)
 (R (.string (ByteArray.mk #[])) w)))))))))))))))))))))))))))))))
theorem grammar_first_calls (p0 : Int) (R : Value → World → Prop) (w : World) (h : L_grammar_first p0 R w) : Calls Tryz.prog 254 #[(.int .u16 p0)] w (Ret R) :=
 lw_calls (fs := Tryz.fs) (an := a_grammar_first) (args := [(.int .u16 p0)]) Tryz.fsOK Tryz.mixed Tryz.func254 (by kernel_rfl) (by kernel_rfl)
 (Eq.mpr (by kernel_rfl : lwFn Tryz.prog Tryz.fs Tryz.f254 a_grammar_first [(.int .u16 p0)] w R = L_grammar_first p0 R w) h)

/-- intaglio.grammar.second -/
def a_grammar_second : Ann := (.seq none .nil (.seq none (.seq none .nil (.one (.seq none .nil (.cond (.seq none .nil .nil) (.seq none .nil (.cond (.seq none .nil .nil) (.seq none .nil (.cond (.seq none .nil .nil) (.seq none .nil (.cond (.seq none .nil .nil) (.seq none .nil (.cond (.seq none .nil .nil) (.seq none .nil (.cond (.seq none .nil .nil) (.seq none .nil (.cond (.seq none .nil .nil) (.seq none .nil (.cond (.seq none .nil .nil) (.seq none .nil (.cond (.seq none .nil .nil) (.seq none .nil (.cond (.seq none .nil .nil) (.seq none .nil (.cond (.seq none .nil .nil) (.seq none .nil (.cond (.seq none .nil .nil) (.seq none .nil (.cond (.seq none .nil .nil) (.seq none .nil (.cond (.seq none .nil .nil) (.seq none .nil (.cond (.seq none .nil .nil) (.seq none .nil (.cond (.seq none .nil .nil) (.seq none .nil (.cond (.seq none .nil .nil) (.seq none .nil (.cond (.seq none .nil .nil) (.seq none .nil (.cond (.seq none .nil .nil) (.seq none .nil (.cond (.seq none .nil .nil) (.seq none .nil (.cond (.seq none .nil .nil) (.seq none .nil (.cond (.seq none .nil .nil) (.seq none .nil (.cond (.seq none .nil .nil) (.seq none .nil (.cond (.seq none .nil .nil) (.seq none .nil (.cond (.seq none .nil .nil) (.seq none .nil (.cond (.seq none .nil .nil) (.seq none .nil (.cond (.seq none .nil .nil) (.seq none .nil (.cond (.seq none .nil .nil) (.seq none .nil (.cond (.seq none .nil .nil) (.seq none .nil (.cond (.seq none .nil .nil) (.seq none .nil (.cond (.seq none .nil .nil) .nil)))))))))))))))))))))))))))))))))))))))))))))))))))))))))))))))) (.seq none .nil .nil)))
def L_grammar_second (p0 : Int) (R : Value → World → Prop) (w : World) : Prop :=
 ifB (p0 == (77 : Int))
 (R (.string (ByteArray.mk #[79, 112, 86, 101, 99, 116, 111, 114, 69, 120, 116, 114, 97, 99, 116, 68, 121, 110, 97, 109, 105, 99, 32, 84, 82, 32, 105, 105, 32, 32, 32, 56])) w)
 (ifB (p0 == (78 : Int))
 (R (.string (ByteArray.mk #[79, 112, 86, 101, 99, 116, 111, 114, 73, 110, 115, 101, 114, 116, 68, 121, 110, 97, 109, 105, 99, 32, 84, 82, 32, 105, 105, 105, 32, 32, 32, 56])) w)
 (ifB (p0 == (79 : Int))
 (R (.string (ByteArray.mk #[79, 112, 86, 101, 99, 116, 111, 114, 83, 104, 117, 102, 102, 108, 101, 32, 84, 82, 32, 105, 105, 32, 110, 32, 32, 56])) w)
 (ifB (p0 == (80 : Int))
 (R (.string (ByteArray.mk #[79, 112, 67, 111, 109, 112, 111, 115, 105, 116, 101, 67, 111, 110, 115, 116, 114, 117, 99, 116, 32, 84, 82, 32, 32, 105, 32, 32, 56])) w)
 (ifB (p0 == (81 : Int))
 (R (.string (ByteArray.mk #[79, 112, 67, 111, 109, 112, 111, 115, 105, 116, 101, 69, 120, 116, 114, 97, 99, 116, 32, 84, 82, 32, 105, 32, 110, 32, 32, 56])) w)
 (ifB (p0 == (82 : Int))
 (R (.string (ByteArray.mk #[79, 112, 67, 111, 109, 112, 111, 115, 105, 116, 101, 73, 110, 115, 101, 114, 116, 32, 84, 82, 32, 105, 105, 32, 110, 32, 32, 56])) w)
 (ifB (p0 == (83 : Int))
 (R (.string (ByteArray.mk #[79, 112, 67, 111, 112, 121, 79, 98, 106, 101, 99, 116, 32, 84, 82, 32, 105, 32, 32, 32, 56])) w)
 (ifB (p0 == (124 : Int))
 (R (.string (ByteArray.mk #[79, 112, 66, 105, 116, 99, 97, 115, 116, 32, 84, 82, 32, 105, 32, 32, 32, 56])) w)
 (ifB (p0 == (126 : Int))
 (R (.string (ByteArray.mk #[79, 112, 83, 78, 101, 103, 97, 116, 101, 32, 84, 82, 32, 105, 32, 32, 32, 56])) w)
 (ifB (p0 == (128 : Int))
 (R (.string (ByteArray.mk #[79, 112, 73, 65, 100, 100, 32, 84, 82, 32, 105, 105, 32, 32, 32, 56])) w)
 (ifB (p0 == (130 : Int))
 (R (.string (ByteArray.mk #[79, 112, 73, 83, 117, 98, 32, 84, 82, 32, 105, 105, 32, 32, 32, 56])) w)
 (ifB (p0 == (132 : Int))
 (R (.string (ByteArray.mk #[79, 112, 73, 77, 117, 108, 32, 84, 82, 32, 105, 105, 32, 32, 32, 56])) w)
 (ifB (p0 == (134 : Int))
 (R (.string (ByteArray.mk #[79, 112, 85, 68, 105, 118, 32, 84, 82, 32, 105, 105, 32, 32, 32, 56])) w)
 (ifB (p0 == (135 : Int))
 (R (.string (ByteArray.mk #[79, 112, 83, 68, 105, 118, 32, 84, 82, 32, 105, 105, 32, 32, 32, 56])) w)
 (ifB (p0 == (137 : Int))
 (R (.string (ByteArray.mk #[79, 112, 85, 77, 111, 100, 32, 84, 82, 32, 105, 105, 32, 32, 32, 56])) w)
 (ifB (p0 == (138 : Int))
 (R (.string (ByteArray.mk #[79, 112, 83, 82, 101, 109, 32, 84, 82, 32, 105, 105, 32, 32, 32, 56])) w)
 (ifB (p0 == (139 : Int))
 (R (.string (ByteArray.mk #[79, 112, 83, 77, 111, 100, 32, 84, 82, 32, 105, 105, 32, 32, 32, 56])) w)
 (ifB (p0 == (149 : Int))
 (R (.string (ByteArray.mk #[79, 112, 73, 65, 100, 100, 67, 97, 114, 114, 121, 32, 84, 82, 32, 105, 105, 32, 32, 32, 56])) w)
 (ifB (p0 == (150 : Int))
 (R (.string (ByteArray.mk #[79, 112, 73, 83, 117, 98, 66, 111, 114, 114, 111, 119, 32, 84, 82, 32, 105, 105, 32, 32, 32, 56])) w)
 (ifB (p0 == (151 : Int))
 (R (.string (ByteArray.mk #[79, 112, 85, 77, 117, 108, 69, 120, 116, 101, 110, 100, 101, 100, 32, 84, 82, 32, 105, 105, 32, 32, 32, 56])) w)
 (ifB (p0 == (152 : Int))
 (R (.string (ByteArray.mk #[79, 112, 83, 77, 117, 108, 69, 120, 116, 101, 110, 100, 101, 100, 32, 84, 82, 32, 105, 105, 32, 32, 32, 56])) w)
 (ifB (p0 == (154 : Int))
 (R (.string (ByteArray.mk #[79, 112, 65, 110, 121, 32, 84, 82, 32, 105, 32, 32, 32, 56])) w)
 (ifB (p0 == (155 : Int))
 (R (.string (ByteArray.mk #[79, 112, 65, 108, 108, 32, 84, 82, 32, 105, 32, 32, 32, 56])) w)
 (ifB (p0 == (164 : Int))
 (R (.string (ByteArray.mk #[79, 112, 76, 111, 103, 105, 99, 97, 108, 69, 113, 117, 97, 108, 32, 84, 82, 32, 105, 105, 32, 32, 32, 56])) w)
 (ifB (p0 == (165 : Int))
 (R (.string (ByteArray.mk #[79, 112, 76, 111, 103, 105, 99, 97, 108, 78, 111, 116, 69, 113, 117, 97, 108, 32, 84, 82, 32, 105, 105, 32, 32, 32, 56])) w)
 (ifB (p0 == (166 : Int))
 (R (.string (ByteArray.mk #[79, 112, 76, 111, 103, 105, 99, 97, 108, 79, 114, 32, 84, 82, 32, 105, 105, 32, 32, 32, 56])) w)
 (ifB (p0 == (167 : Int))
 (R (.string (ByteArray.mk #[79, 112, 76, 111, 103, 105, 99, 97, 108, 65, 110, 100, 32, 84, 82, 32, 105, 105, 32, 32, 32, 56])) w)
 (ifB (p0 == (168 : Int))
 (R (.string (ByteArray.mk #[79, 112, 76, 111, 103, 105, 99, 97, 108, 78, 111, 116, 32, 84, 82, 32, 105, 32, 32, 32, 56])) w)
 (ifB (p0 == (169 : Int))
 (R (.string (ByteArray.mk #[79, 112, 83, 101, 108, 101, 99, 116, 32, 84, 82, 32, 105, 105, 105, 32, 32, 32, 56])) w)
 (ifB (p0 == (170 : Int))
 (R (.string (ByteArray.mk #[79, 112, 73, 69, 113, 117, 97, 108, 32, 84, 82, 32, 105, 105, 32, 32, 32, 56])) w)
 (ifB (p0 == (171 : Int))
 (R (.string (ByteArray.mk #[79, 112, 73, 78, 111, 116, 69, 113, 117, 97, 108, 32, 84, 82, 32, 105, 105, 32, 32, 32, 56])) w)
 (R (.string (ByteArray.mk #[])) w)))))))))))))))))))))))))))))))
theorem grammar_second_calls (p0 : Int) (R : Value → World → Prop) (w : World) (h : L_grammar_second p0 R w) : Calls Tryz.prog 255 #[(.int .u16 p0)] w (Ret R) :=
 lw_calls (fs := Tryz.fs) (an := a_grammar_second) (args := [(.int .u16 p0)]) Tryz.fsOK Tryz.mixed Tryz.func255 (by kernel_rfl) (by kernel_rfl)
 (Eq.mpr (by kernel_rfl : lwFn Tryz.prog Tryz.fs Tryz.f255 a_grammar_second [(.int .u16 p0)] w R = L_grammar_second p0 R w) h)

/-- intaglio.grammar.third -/
def a_grammar_third : Ann := (.seq none .nil (.seq none (.seq none .nil (.one (.seq none .nil (.cond (.seq none .nil .nil) (.seq none .nil (.cond (.seq none .nil .nil) (.seq none .nil (.cond (.seq none .nil .nil) (.seq none .nil (.cond (.seq none .nil .nil) (.seq none .nil (.cond (.seq none .nil .nil) (.seq none .nil (.cond (.seq none .nil .nil) (.seq none .nil (.cond (.seq none .nil .nil) (.seq none .nil (.cond (.seq none .nil .nil) (.seq none .nil (.cond (.seq none .nil .nil) (.seq none .nil (.cond (.seq none .nil .nil) (.seq none .nil (.cond (.seq none .nil .nil) (.seq none .nil (.cond (.seq none .nil .nil) (.seq none .nil (.cond (.seq none .nil .nil) (.seq none .nil (.cond (.seq none .nil .nil) (.seq none .nil (.cond (.seq none .nil .nil) (.seq none .nil (.cond (.seq none .nil .nil) (.seq none .nil (.cond (.seq none .nil .nil) (.seq none .nil (.cond (.seq none .nil .nil) (.seq none .nil (.cond (.seq none .nil .nil) (.seq none .nil (.cond (.seq none .nil .nil) (.seq none .nil (.cond (.seq none .nil .nil) (.seq none .nil (.cond (.seq none .nil .nil) (.seq none .nil (.cond (.seq none .nil .nil) (.seq none .nil (.cond (.seq none .nil .nil) (.seq none .nil (.cond (.seq none .nil .nil) (.seq none .nil (.cond (.seq none .nil .nil) (.seq none .nil (.cond (.seq none .nil .nil) (.seq none .nil (.cond (.seq none .nil .nil) (.seq none .nil (.cond (.seq none .nil .nil) (.seq none .nil (.cond (.seq none .nil .nil) (.seq none .nil (.cond (.seq none .nil .nil) .nil)))))))))))))))))))))))))))))))))))))))))))))))))))))))))))))))) (.seq none .nil .nil)))
def L_grammar_third (p0 : Int) (R : Value → World → Prop) (w : World) : Prop :=
 ifB (p0 == (172 : Int))
 (R (.string (ByteArray.mk #[79, 112, 85, 71, 114, 101, 97, 116, 101, 114, 84, 104, 97, 110, 32, 84, 82, 32, 105, 105, 32, 32, 32, 56])) w)
 (ifB (p0 == (173 : Int))
 (R (.string (ByteArray.mk #[79, 112, 83, 71, 114, 101, 97, 116, 101, 114, 84, 104, 97, 110, 32, 84, 82, 32, 105, 105, 32, 32, 32, 56])) w)
 (ifB (p0 == (174 : Int))
 (R (.string (ByteArray.mk #[79, 112, 85, 71, 114, 101, 97, 116, 101, 114, 84, 104, 97, 110, 69, 113, 117, 97, 108, 32, 84, 82, 32, 105, 105, 32, 32, 32, 56])) w)
 (ifB (p0 == (175 : Int))
 (R (.string (ByteArray.mk #[79, 112, 83, 71, 114, 101, 97, 116, 101, 114, 84, 104, 97, 110, 69, 113, 117, 97, 108, 32, 84, 82, 32, 105, 105, 32, 32, 32, 56])) w)
 (ifB (p0 == (176 : Int))
 (R (.string (ByteArray.mk #[79, 112, 85, 76, 101, 115, 115, 84, 104, 97, 110, 32, 84, 82, 32, 105, 105, 32, 32, 32, 56])) w)
 (ifB (p0 == (177 : Int))
 (R (.string (ByteArray.mk #[79, 112, 83, 76, 101, 115, 115, 84, 104, 97, 110, 32, 84, 82, 32, 105, 105, 32, 32, 32, 56])) w)
 (ifB (p0 == (178 : Int))
 (R (.string (ByteArray.mk #[79, 112, 85, 76, 101, 115, 115, 84, 104, 97, 110, 69, 113, 117, 97, 108, 32, 84, 82, 32, 105, 105, 32, 32, 32, 56])) w)
 (ifB (p0 == (179 : Int))
 (R (.string (ByteArray.mk #[79, 112, 83, 76, 101, 115, 115, 84, 104, 97, 110, 69, 113, 117, 97, 108, 32, 84, 82, 32, 105, 105, 32, 32, 32, 56])) w)
 (ifB (p0 == (194 : Int))
 (R (.string (ByteArray.mk #[79, 112, 83, 104, 105, 102, 116, 82, 105, 103, 104, 116, 76, 111, 103, 105, 99, 97, 108, 32, 84, 82, 32, 105, 105, 32, 32, 32, 56])) w)
 (ifB (p0 == (195 : Int))
 (R (.string (ByteArray.mk #[79, 112, 83, 104, 105, 102, 116, 82, 105, 103, 104, 116, 65, 114, 105, 116, 104, 109, 101, 116, 105, 99, 32, 84, 82, 32, 105, 105, 32, 32, 32, 56])) w)
 (ifB (p0 == (196 : Int))
 (R (.string (ByteArray.mk #[79, 112, 83, 104, 105, 102, 116, 76, 101, 102, 116, 76, 111, 103, 105, 99, 97, 108, 32, 84, 82, 32, 105, 105, 32, 32, 32, 56])) w)
 (ifB (p0 == (197 : Int))
 (R (.string (ByteArray.mk #[79, 112, 66, 105, 116, 119, 105, 115, 101, 79, 114, 32, 84, 82, 32, 105, 105, 32, 32, 32, 56])) w)
 (ifB (p0 == (198 : Int))
 (R (.string (ByteArray.mk #[79, 112, 66, 105, 116, 119, 105, 115, 101, 88, 111, 114, 32, 84, 82, 32, 105, 105, 32, 32, 32, 56])) w)
 (ifB (p0 == (199 : Int))
 (R (.string (ByteArray.mk #[79, 112, 66, 105, 116, 119, 105, 115, 101, 65, 110, 100, 32, 84, 82, 32, 105, 105, 32, 32, 32, 56])) w)
 (ifB (p0 == (200 : Int))
 (R (.string (ByteArray.mk #[79, 112, 78, 111, 116, 32, 84, 82, 32, 105, 32, 32, 32, 56])) w)
 (ifB (p0 == (201 : Int))
 (R (.string (ByteArray.mk #[79, 112, 66, 105, 116, 70, 105, 101, 108, 100, 73, 110, 115, 101, 114, 116, 32, 84, 82, 32, 105, 105, 105, 105, 32, 32, 32, 56])) w)
 (ifB (p0 == (202 : Int))
 (R (.string (ByteArray.mk #[79, 112, 66, 105, 116, 70, 105, 101, 108, 100, 83, 69, 120, 116, 114, 97, 99, 116, 32, 84, 82, 32, 105, 105, 105, 32, 32, 32, 56])) w)
 (ifB (p0 == (203 : Int))
 (R (.string (ByteArray.mk #[79, 112, 66, 105, 116, 70, 105, 101, 108, 100, 85, 69, 120, 116, 114, 97, 99, 116, 32, 84, 82, 32, 105, 105, 105, 32, 32, 32, 56])) w)
 (ifB (p0 == (204 : Int))
 (R (.string (ByteArray.mk #[79, 112, 66, 105, 116, 82, 101, 118, 101, 114, 115, 101, 32, 84, 82, 32, 105, 32, 32, 32, 56])) w)
 (ifB (p0 == (205 : Int))
 (R (.string (ByteArray.mk #[79, 112, 66, 105, 116, 67, 111, 117, 110, 116, 32, 84, 82, 32, 105, 32, 32, 32, 56])) w)
 (ifB (p0 == (245 : Int))
 (R (.string (ByteArray.mk #[79, 112, 80, 104, 105, 32, 84, 82, 32, 32, 105, 105, 32, 32, 56])) w)
 (ifB (p0 == (246 : Int))
 (R (.string (ByteArray.mk #[79, 112, 76, 111, 111, 112, 77, 101, 114, 103, 101, 32, 32, 105, 105, 103, 32, 32, 32, 56])) w)
 (ifB (p0 == (247 : Int))
 (R (.string (ByteArray.mk #[79, 112, 83, 101, 108, 101, 99, 116, 105, 111, 110, 77, 101, 114, 103, 101, 32, 32, 105, 104, 32, 32, 32, 56])) w)
 (ifB (p0 == (248 : Int))
 (R (.string (ByteArray.mk #[79, 112, 76, 97, 98, 101, 108, 32, 82, 32, 32, 32, 32, 56])) w)
 (ifB (p0 == (249 : Int))
 (R (.string (ByteArray.mk #[79, 112, 66, 114, 97, 110, 99, 104, 32, 32, 105, 32, 32, 32, 56])) w)
 (ifB (p0 == (250 : Int))
 (R (.string (ByteArray.mk #[79, 112, 66, 114, 97, 110, 99, 104, 67, 111, 110, 100, 105, 116, 105, 111, 110, 97, 108, 32, 32, 105, 105, 105, 32, 32, 32, 56])) w)
 (ifB (p0 == (251 : Int))
 (R (.string (ByteArray.mk #[79, 112, 83, 119, 105, 116, 99, 104, 32, 32, 105, 105, 32, 110, 105, 32, 32, 56])) w)
 (ifB (p0 == (252 : Int))
 (R (.string (ByteArray.mk #[79, 112, 75, 105, 108, 108, 32, 32, 32, 32, 32, 56])) w)
 (ifB (p0 == (253 : Int))
 (R (.string (ByteArray.mk #[79, 112, 82, 101, 116, 117, 114, 110, 32, 32, 32, 32, 32, 56])) w)
 (ifB (p0 == (254 : Int))
 (R (.string (ByteArray.mk #[79, 112, 82, 101, 116, 117, 114, 110, 86, 97, 108, 117, 101, 32, 32, 105, 32, 32, 32, 56])) w)
 (ifB (p0 == (255 : Int))
 (R (.string (ByteArray.mk #[79, 112, 85, 110, 114, 101, 97, 99, 104, 97, 98, 108, 101, 32, 32, 32, 32, 32, 56])) w)
 (R (.string (ByteArray.mk #[])) w)))))))))))))))))))))))))))))))
theorem grammar_third_calls (p0 : Int) (R : Value → World → Prop) (w : World) (h : L_grammar_third p0 R w) : Calls Tryz.prog 256 #[(.int .u16 p0)] w (Ret R) :=
 lw_calls (fs := Tryz.fs) (an := a_grammar_third) (args := [(.int .u16 p0)]) Tryz.fsOK Tryz.mixed Tryz.func256 (by kernel_rfl) (by kernel_rfl)
 (Eq.mpr (by kernel_rfl : lwFn Tryz.prog Tryz.fs Tryz.f256 a_grammar_third [(.int .u16 p0)] w R = L_grammar_third p0 R w) h)

/-- intaglio.grammar.Enum -/
def a_grammar_Enum : Ann := (.seq none .nil (.seq none (.seq none .nil (.one (.loop ⟨[], [(10, (.b (.int .u32))), (11, (.b .str))]⟩ (.seq none (.seq none .nil .nil) (.one (.seq none .nil (.cond (.seq none .nil .nil) .nil))))))) (.seq none .nil .nil)))
def L_grammar_Enum (p0 : Int) (p1 : Int) (R : Value → World → Prop) (w : World) : Prop :=
 Nw (w.alloc (.cells #[(.int .u32 p1)] 22)) fun w1 =>
 Nw (w1.alloc (.cells #[(.string (ByteArray.mk #[]))] 9)) fun w2 =>
 Nw (w2.alloc (.cells #[(.bool false)] 4)) fun w3 =>
 callR Tryz.prog 276 #[(.int .u8 p0)] w3 fun v1 w4 =>
 ∃ x2 : Value, v1 = x2 ∧
 RangeW Tryz.prog Tryz.fs x2 w4 (T := Int × ByteArray × Unit) (fun s3 => [(.int .u32 s3.1), (.string s3.2.1)])
 (fun mk4 l5 s3 w5 S6 =>
 w5.heap[l5]? = some (mk4 .ready none) ∧
 Nw (w5.putObj l5 (mk4 .busy none)) fun w6 =>
 ldI w6 (blk w.heap.size) .u32 fun x8 =>
 ifB (s3.1 == x8)
 (Wr w6 (blk w1.heap.size) ∧
 Nw (w6.setCell (blk w1.heap.size) (.string s3.2.1)) fun w7 =>
 Wr w7 (blk w2.heap.size) ∧
 Nw (w7.setCell (blk w2.heap.size) (.bool true)) fun w8 =>
 w8.heap[l5]? = some (mk4 .busy none) ∧
 S6 (.bool false) (w8.putObj l5 (mk4 .done (some .ret))))
 (w6.heap[l5]? = some (mk4 .busy none) ∧
 S6 (.bool true) (w6.putObj l5 (mk4 .ready none))))
 (fun mk4 l5 d7 w9 =>
 (rangeOut mk4 l5 .ready none w9 fun w10 =>
 Wr w10 (blk w1.heap.size) ∧
 Nw (w10.setCell (blk w1.heap.size) (.string (ByteArray.mk #[]))) fun w11 =>
 Wr w11 (blk w2.heap.size) ∧
 Nw (w11.setCell (blk w2.heap.size) (.bool false)) fun w12 =>
 closeM (d7 :: []) w12 fun w13 =>
 ldStr w13 (blk w1.heap.size) fun x9 =>
 ldB w13 (blk w2.heap.size) fun x10 =>
 R (.tuple #[(.string x9), (.bool x10)]) w13) ∨
 (rangeOut mk4 l5 .done (some .ret) w9 fun w14 =>
 closeM (d7 :: []) w14 fun w15 =>
 ldStr w15 (blk w1.heap.size) fun x11 =>
 ldB w15 (blk w2.heap.size) fun x12 =>
 R (.tuple #[(.string x11), (.bool x12)]) w15))
theorem grammar_Enum_calls (p0 : Int) (p1 : Int) (R : Value → World → Prop) (w : World) (h : L_grammar_Enum p0 p1 R w) : Calls Tryz.prog 270 #[(.int .u8 p0), (.int .u32 p1)] w (Ret R) :=
 lwR_calls (fs := Tryz.fs) (an := a_grammar_Enum) (args := [(.int .u8 p0), (.int .u32 p1)]) Tryz.fsOK Tryz.mixed Tryz.func270 (by kernel_rfl) (by kernel_rfl)
 (Eq.mpr (by kernel_rfl : lwRFn Tryz.prog Tryz.fs Tryz.f270 a_grammar_Enum [(.int .u8 p0), (.int .u32 p1)] w R = L_grammar_Enum p0 p1 R w) h)

/-- intaglio.grammar.Enums -/
def a_grammar_Enums : Ann := (.seq none .nil (.seq none .nil .nil))
def L_grammar_Enums (p0 : Int) (R : Value → World → Prop) (w : World) : Prop :=
 Nw (w.alloc (.cells #[(.int .u8 p0)] 5)) fun w1 =>
 R (.func (.func 279) #[] #[(.pointer (some (blk w.heap.size)))]) w1
theorem grammar_Enums_calls (p0 : Int) (R : Value → World → Prop) (w : World) (h : L_grammar_Enums p0 R w) : Calls Tryz.prog 276 #[(.int .u8 p0)] w (Ret R) :=
 lw_calls (fs := Tryz.fs) (an := a_grammar_Enums) (args := [(.int .u8 p0)]) Tryz.fsOK Tryz.mixed Tryz.func276 (by kernel_rfl) (by kernel_rfl)
 (Eq.mpr (by kernel_rfl : lwFn Tryz.prog Tryz.fs Tryz.f276 a_grammar_Enums [(.int .u8 p0)] w R = L_grammar_Enums p0 R w) h)

/-- intaglio.grammar.Enums 1 -/
def a_grammar_Enums_1 : Ann := (.seq none .nil (.seq none .nil (.seq none .nil (.seq none .nil (.one (.loop ⟨[0, 11], [(3, (.b (.int .u32))), (5, (.b .str)), (6, (.b .bool))]⟩ (.seq none .nil (.seq none (.cond .nil .nil) (.one (.seq none .nil (.seq (some ⟨[0, 6, 11], [(3, (.b (.int .u32)))]⟩) (.one (.seq none .nil (.cond (.seq none .nil .nil) (.seq none .nil (.cond .nil (.seq none .nil (.seq none .nil (.cond .nil .nil)))))))) (.seq none .nil .nil))))))))))))
def L_grammar_Enums_1 (p0 : Value) (c0 : Addr) (R : Value → World → Prop) (w : World) : Prop :=
 ldI w c0 .u8 fun x1 =>
 callR Tryz.prog 223 #[(.int .u8 x1)] w fun v2 w1 =>
 ∃ x3 : ByteArray, v2 = (.string x3) ∧
 Nw (w1.alloc (.stringIter x3 0)) fun w2 =>
 LoopW (S := Int × ByteArray × Bool × Unit) (fun s4 w3 n5 =>
 nextW w1.heap.size w3 (fun i6 c7 w4 =>
 JoinW (S := Int × Unit) (fun m8 =>
 ifB (c7 != (32 : Int))
 (sumFits s4.2.1 (Utf8.encode c7) ∧
 n5 (s4.1, (s4.2.1 ++ (Utf8.encode c7)), s4.2.2.1, ()) w4)
 (ifB (!s4.2.2.1)
 (callR Tryz.prog 280 #[(.string s4.2.1)] w4 fun v10 w5 =>
 ∃ x11 : Int, v10 = (.int .u32 x11) ∧
 m8 (x11, ()) w5)
 (callV Tryz.prog Tryz.fs p0 [(.int .u32 s4.1), (.string s4.2.1)] w4 fun v12 w6 =>
 ∃ x13 : Bool, v12 = (.bool x13) ∧
 ifB (!x13)
 (R (.tuple #[]) w6)
 (m8 (s4.1, ()) w6))))
 (fun s9 w7 =>
 n5 (s9.1, (ByteArray.mk #[]), (!s4.2.2.1), ()) w7))
 (R (.tuple #[]) w3))
 ((0 : Int), (ByteArray.mk #[]), false, ()) w2
theorem grammar_Enums_1_calls (p0 : Value) (c0 : Addr) (R : Value → World → Prop) (w : World) (h : L_grammar_Enums_1 p0 c0 R w) : Calls Tryz.prog 279 #[p0, (.pointer (some c0))] w (Ret R) :=
 lw_calls (fs := Tryz.fs) (an := a_grammar_Enums_1) (args := [p0, (.pointer (some c0))]) Tryz.fsOK Tryz.mixed Tryz.func279 (by kernel_rfl) (by kernel_rfl)
 (Eq.mpr (by kernel_rfl : lwFn Tryz.prog Tryz.fs Tryz.f279 a_grammar_Enums_1 [p0, (.pointer (some c0))] w R = L_grammar_Enums_1 p0 c0 R w) h)

/-- intaglio.grammar.number -/
def a_grammar_number : Ann := (.seq none .nil (.seq none .nil (.seq none (.seq none .nil (.one (.loop ⟨[7], [(3, (.b (.int .u32)))]⟩ (.seq none .nil (.seq none (.cond .nil .nil) (.one (.seq none .nil .nil))))))) (.seq none .nil .nil))))
def L_grammar_number (p0 : ByteArray) (R : Value → World → Prop) (w : World) : Prop :=
 Nw (w.alloc (.stringIter p0 0)) fun w1 =>
 LoopW (S := Int × Unit) (fun s1 w2 n2 =>
 nextW w.heap.size w2 (fun i3 c4 w3 =>
 n2 ((IntKind.u32.wrap ((IntKind.u32.wrap ((10 : Int) * s1.1)) + (IntKind.u32.wrap (IntKind.i32.wrap (c4 - (48 : Int)))))), ()) w3)
 (R (.int .u32 s1.1) w2))
 ((0 : Int), ()) w1
theorem grammar_number_calls (p0 : ByteArray) (R : Value → World → Prop) (w : World) (h : L_grammar_number p0 R w) : Calls Tryz.prog 280 #[(.string p0)] w (Ret R) :=
 lw_calls (fs := Tryz.fs) (an := a_grammar_number) (args := [(.string p0)]) Tryz.fsOK Tryz.mixed Tryz.func280 (by kernel_rfl) (by kernel_rfl)
 (Eq.mpr (by kernel_rfl : lwFn Tryz.prog Tryz.fs Tryz.f280 a_grammar_number [(.string p0)] w R = L_grammar_number p0 R w) h)

end Go.Proofs
namespace Go.Gm
open Go.Gk

abbrev Bs := List UInt8
def bs (l : Bs) : ByteArray := ⟨l.toArray⟩
theorem bs_append (a b : Bs) : bs a ++ bs b = bs (a ++ b) := by
  apply ByteArray.ext
  simp [bs, ByteArray.data_append]
theorem bs_size (a : Bs) : (bs a).size = a.length := by simp [bs, ByteArray.size]
theorem bs_byte (a : Bs) (k : Nat) : byteI (bs a) (k : Int) = ((a.getD k 0).toNat : Int) := by
  unfold byteI bs
  rw [Int.toNat_natCast]
  simp [Array.getD_eq_getD_getElem?]
theorem toList_nil {a : Bs} : ((bs a).toList == (ByteArray.mk #[]).toList) = a.isEmpty := by
  rw [ByteArray.toList_eq, ByteArray.toList_eq]
  cases a with
  | nil => rfl
  | cons x r => rfl
theorem getD_lt {α : Type} {l : List α} {i : Nat} {d : α} (h : i < l.length) : l.getD i d = l[i] := by simp [List.getD, h]

def look {α : Type} : List (Int × α) → Int → Option α
  | [], _ => none
  | p :: r, n => if n = p.1 then some p.2 else look r n
def chain {α : Type} : List (Int × α) → Int → (α → Prop) → Prop → Prop
  | [], _, _, d => d
  | p :: r, n, f, d => ifB (n == p.1) (f p.2) (chain r n f d)
theorem chain_of {α : Type} {n : Int} {f : α → Prop} {d : Prop} : ∀ {tab : List (Int × α)}, (∀ x, look tab n = some x → f x) → (look tab n = none → d) → chain tab n f d
  | [], _, h2 => h2 rfl
  | p :: r, h1, h2 => ifB_beq (fun e => h1 p.2 (by simp [look, e])) (fun e => chain_of (fun x hx => h1 x (by simp [look, e, hx])) (fun hx => h2 (by simp [look, e, hx])))
theorem look_append {α : Type} (n : Int) : ∀ a b : List (Int × α), look (a ++ b) n = (look a n).or (look b n)
  | [], b => by simp [look]
  | p :: r, b => by
    simp only [List.cons_append, look]
    split
    · rfl
    · exact look_append n r b
theorem look_mem {α : Type} {n : Int} {x : α} : ∀ {a : List (Int × α)}, look a n = some x → (n, x) ∈ a
  | p :: r, h => by
    simp only [look] at h
    split at h
    · rename_i e
      cases h
      subst e
      exact List.mem_cons_self
    · exact List.mem_cons_of_mem _ (look_mem h)
theorem look_none {α : Type} {n : Int} : ∀ {a : List (Int × α)}, (∀ p ∈ a, p.1 ≠ n) → look a n = none
  | [], _ => rfl
  | p :: r, h => by
    rw [look, if_neg fun e => h p List.mem_cons_self e.symm]
    exact look_none fun q hq => h q (List.mem_cons_of_mem _ hq)
theorem look_map {α β : Type} (g : α → β) (n : Int) : ∀ a : List (Int × α), look (a.map fun p => (p.1, g p.2)) n = (look a n).map g
  | [] => rfl
  | p :: r => by
    simp only [List.map_cons, look]
    split
    · rfl
    · exact look_map g n r
/-- A form without its number: name, has a type, has a result, the letters that must stand and that may follow, how often, the part. -/
abbrev Fl := Bs × Bool × Bool × Bs × Bs × Nat × Nat
def tabA : List (Int × Bs) :=
  [(1, [79, 112, 85, 110, 100, 101, 102, 32, 84, 82, 32, 32, 32, 32, 55]),
   (3, [79, 112, 83, 111, 117, 114, 99, 101, 32, 32, 108, 110, 32, 32, 32, 52]),
   (5, [79, 112, 78, 97, 109, 101, 32, 32, 105, 115, 32, 32, 32, 53]),
   (6, [79, 112, 77, 101, 109, 98, 101, 114, 78, 97, 109, 101, 32, 32, 105, 110, 115, 32, 32, 32, 53]),
   (7, [79, 112, 83, 116, 114, 105, 110, 103, 32, 82, 32, 115, 32, 32, 32, 52]),
   (14, [79, 112, 77, 101, 109, 111, 114, 121, 77, 111, 100, 101, 108, 32, 32, 97, 109, 32, 32, 32, 49]),
   (15, [79, 112, 69, 110, 116, 114, 121, 80, 111, 105, 110, 116, 32, 32, 101, 105, 115, 32, 105, 32, 32, 50]),
   (16, [79, 112, 69, 120, 101, 99, 117, 116, 105, 111, 110, 77, 111, 100, 101, 32, 32, 105, 120, 32, 32, 32, 51]),
   (17, [79, 112, 67, 97, 112, 97, 98, 105, 108, 105, 116, 121, 32, 32, 107, 32, 32, 32, 48]),
   (19, [79, 112, 84, 121, 112, 101, 86, 111, 105, 100, 32, 82, 32, 32, 32, 32, 55]),
   (20, [79, 112, 84, 121, 112, 101, 66, 111, 111, 108, 32, 82, 32, 32, 32, 32, 55]),
   (21, [79, 112, 84, 121, 112, 101, 73, 110, 116, 32, 82, 32, 110, 110, 32, 32, 32, 55]),
   (23, [79, 112, 84, 121, 112, 101, 86, 101, 99, 116, 111, 114, 32, 82, 32, 105, 110, 32, 32, 32, 55]),
   (28, [79, 112, 84, 121, 112, 101, 65, 114, 114, 97, 121, 32, 82, 32, 105, 105, 32, 32, 32, 55]),
   (30, [79, 112, 84, 121, 112, 101, 83, 116, 114, 117, 99, 116, 32, 82, 32, 32, 105, 32, 32, 55]),
   (32, [79, 112, 84, 121, 112, 101, 80, 111, 105, 110, 116, 101, 114, 32, 82, 32, 99, 105, 32, 32, 32, 55]),
   (33, [79, 112, 84, 121, 112, 101, 70, 117, 110, 99, 116, 105, 111, 110, 32, 82, 32, 105, 32, 105, 32, 32, 55]),
   (41, [79, 112, 67, 111, 110, 115, 116, 97, 110, 116, 84, 114, 117, 101, 32, 84, 82, 32, 32, 32, 32, 55]),
   (42, [79, 112, 67, 111, 110, 115, 116, 97, 110, 116, 70, 97, 108, 115, 101, 32, 84, 82, 32, 32, 32, 32, 55]),
   (43, [79, 112, 67, 111, 110, 115, 116, 97, 110, 116, 32, 84, 82, 32, 110, 32, 32, 32, 55]),
   (44, [79, 112, 67, 111, 110, 115, 116, 97, 110, 116, 67, 111, 109, 112, 111, 115, 105, 116, 101, 32, 84, 82, 32, 32, 105, 32, 32, 55]),
   (46, [79, 112, 67, 111, 110, 115, 116, 97, 110, 116, 78, 117, 108, 108, 32, 84, 82, 32, 32, 32, 32, 55]),
   (54, [79, 112, 70, 117, 110, 99, 116, 105, 111, 110, 32, 84, 82, 32, 102, 105, 32, 32, 32, 56]),
   (55, [79, 112, 70, 117, 110, 99, 116, 105, 111, 110, 80, 97, 114, 97, 109, 101, 116, 101, 114, 32, 84, 82, 32, 32, 32, 32, 56]),
   (56, [79, 112, 70, 117, 110, 99, 116, 105, 111, 110, 69, 110, 100, 32, 32, 32, 32, 32, 56]),
   (57, [79, 112, 70, 117, 110, 99, 116, 105, 111, 110, 67, 97, 108, 108, 32, 84, 82, 32, 105, 32, 105, 32, 32, 56]),
   (59, [79, 112, 86, 97, 114, 105, 97, 98, 108, 101, 32, 84, 82, 32, 99, 32, 105, 32, 49, 32, 55]),
   (61, [79, 112, 76, 111, 97, 100, 32, 84, 82, 32, 105, 32, 32, 32, 56]),
   (62, [79, 112, 83, 116, 111, 114, 101, 32, 32, 105, 105, 32, 32, 32, 56]),
   (65, [79, 112, 65, 99, 99, 101, 115, 115, 67, 104, 97, 105, 110, 32, 84, 82, 32, 105, 32, 105, 32, 32, 56]),
   (71, [79, 112, 68, 101, 99, 111, 114, 97, 116, 101, 32, 32, 105, 100, 32, 110, 32, 32, 54])]
def tabB : List (Int × Bs) :=
  [(77, [79, 112, 86, 101, 99, 116, 111, 114, 69, 120, 116, 114, 97, 99, 116, 68, 121, 110, 97, 109, 105, 99, 32, 84, 82, 32, 105, 105, 32, 32, 32, 56]),
   (78, [79, 112, 86, 101, 99, 116, 111, 114, 73, 110, 115, 101, 114, 116, 68, 121, 110, 97, 109, 105, 99, 32, 84, 82, 32, 105, 105, 105, 32, 32, 32, 56]),
   (79, [79, 112, 86, 101, 99, 116, 111, 114, 83, 104, 117, 102, 102, 108, 101, 32, 84, 82, 32, 105, 105, 32, 110, 32, 32, 56]),
   (80, [79, 112, 67, 111, 109, 112, 111, 115, 105, 116, 101, 67, 111, 110, 115, 116, 114, 117, 99, 116, 32, 84, 82, 32, 32, 105, 32, 32, 56]),
   (81, [79, 112, 67, 111, 109, 112, 111, 115, 105, 116, 101, 69, 120, 116, 114, 97, 99, 116, 32, 84, 82, 32, 105, 32, 110, 32, 32, 56]),
   (82, [79, 112, 67, 111, 109, 112, 111, 115, 105, 116, 101, 73, 110, 115, 101, 114, 116, 32, 84, 82, 32, 105, 105, 32, 110, 32, 32, 56]),
   (83, [79, 112, 67, 111, 112, 121, 79, 98, 106, 101, 99, 116, 32, 84, 82, 32, 105, 32, 32, 32, 56]),
   (124, [79, 112, 66, 105, 116, 99, 97, 115, 116, 32, 84, 82, 32, 105, 32, 32, 32, 56]),
   (126, [79, 112, 83, 78, 101, 103, 97, 116, 101, 32, 84, 82, 32, 105, 32, 32, 32, 56]),
   (128, [79, 112, 73, 65, 100, 100, 32, 84, 82, 32, 105, 105, 32, 32, 32, 56]),
   (130, [79, 112, 73, 83, 117, 98, 32, 84, 82, 32, 105, 105, 32, 32, 32, 56]),
   (132, [79, 112, 73, 77, 117, 108, 32, 84, 82, 32, 105, 105, 32, 32, 32, 56]),
   (134, [79, 112, 85, 68, 105, 118, 32, 84, 82, 32, 105, 105, 32, 32, 32, 56]),
   (135, [79, 112, 83, 68, 105, 118, 32, 84, 82, 32, 105, 105, 32, 32, 32, 56]),
   (137, [79, 112, 85, 77, 111, 100, 32, 84, 82, 32, 105, 105, 32, 32, 32, 56]),
   (138, [79, 112, 83, 82, 101, 109, 32, 84, 82, 32, 105, 105, 32, 32, 32, 56]),
   (139, [79, 112, 83, 77, 111, 100, 32, 84, 82, 32, 105, 105, 32, 32, 32, 56]),
   (149, [79, 112, 73, 65, 100, 100, 67, 97, 114, 114, 121, 32, 84, 82, 32, 105, 105, 32, 32, 32, 56]),
   (150, [79, 112, 73, 83, 117, 98, 66, 111, 114, 114, 111, 119, 32, 84, 82, 32, 105, 105, 32, 32, 32, 56]),
   (151, [79, 112, 85, 77, 117, 108, 69, 120, 116, 101, 110, 100, 101, 100, 32, 84, 82, 32, 105, 105, 32, 32, 32, 56]),
   (152, [79, 112, 83, 77, 117, 108, 69, 120, 116, 101, 110, 100, 101, 100, 32, 84, 82, 32, 105, 105, 32, 32, 32, 56]),
   (154, [79, 112, 65, 110, 121, 32, 84, 82, 32, 105, 32, 32, 32, 56]),
   (155, [79, 112, 65, 108, 108, 32, 84, 82, 32, 105, 32, 32, 32, 56]),
   (164, [79, 112, 76, 111, 103, 105, 99, 97, 108, 69, 113, 117, 97, 108, 32, 84, 82, 32, 105, 105, 32, 32, 32, 56]),
   (165, [79, 112, 76, 111, 103, 105, 99, 97, 108, 78, 111, 116, 69, 113, 117, 97, 108, 32, 84, 82, 32, 105, 105, 32, 32, 32, 56]),
   (166, [79, 112, 76, 111, 103, 105, 99, 97, 108, 79, 114, 32, 84, 82, 32, 105, 105, 32, 32, 32, 56]),
   (167, [79, 112, 76, 111, 103, 105, 99, 97, 108, 65, 110, 100, 32, 84, 82, 32, 105, 105, 32, 32, 32, 56]),
   (168, [79, 112, 76, 111, 103, 105, 99, 97, 108, 78, 111, 116, 32, 84, 82, 32, 105, 32, 32, 32, 56]),
   (169, [79, 112, 83, 101, 108, 101, 99, 116, 32, 84, 82, 32, 105, 105, 105, 32, 32, 32, 56]),
   (170, [79, 112, 73, 69, 113, 117, 97, 108, 32, 84, 82, 32, 105, 105, 32, 32, 32, 56]),
   (171, [79, 112, 73, 78, 111, 116, 69, 113, 117, 97, 108, 32, 84, 82, 32, 105, 105, 32, 32, 32, 56])]
def tabC : List (Int × Bs) :=
  [(172, [79, 112, 85, 71, 114, 101, 97, 116, 101, 114, 84, 104, 97, 110, 32, 84, 82, 32, 105, 105, 32, 32, 32, 56]),
   (173, [79, 112, 83, 71, 114, 101, 97, 116, 101, 114, 84, 104, 97, 110, 32, 84, 82, 32, 105, 105, 32, 32, 32, 56]),
   (174, [79, 112, 85, 71, 114, 101, 97, 116, 101, 114, 84, 104, 97, 110, 69, 113, 117, 97, 108, 32, 84, 82, 32, 105, 105, 32, 32, 32, 56]),
   (175, [79, 112, 83, 71, 114, 101, 97, 116, 101, 114, 84, 104, 97, 110, 69, 113, 117, 97, 108, 32, 84, 82, 32, 105, 105, 32, 32, 32, 56]),
   (176, [79, 112, 85, 76, 101, 115, 115, 84, 104, 97, 110, 32, 84, 82, 32, 105, 105, 32, 32, 32, 56]),
   (177, [79, 112, 83, 76, 101, 115, 115, 84, 104, 97, 110, 32, 84, 82, 32, 105, 105, 32, 32, 32, 56]),
   (178, [79, 112, 85, 76, 101, 115, 115, 84, 104, 97, 110, 69, 113, 117, 97, 108, 32, 84, 82, 32, 105, 105, 32, 32, 32, 56]),
   (179, [79, 112, 83, 76, 101, 115, 115, 84, 104, 97, 110, 69, 113, 117, 97, 108, 32, 84, 82, 32, 105, 105, 32, 32, 32, 56]),
   (194, [79, 112, 83, 104, 105, 102, 116, 82, 105, 103, 104, 116, 76, 111, 103, 105, 99, 97, 108, 32, 84, 82, 32, 105, 105, 32, 32, 32, 56]),
   (195, [79, 112, 83, 104, 105, 102, 116, 82, 105, 103, 104, 116, 65, 114, 105, 116, 104, 109, 101, 116, 105, 99, 32, 84, 82, 32, 105, 105, 32, 32, 32, 56]),
   (196, [79, 112, 83, 104, 105, 102, 116, 76, 101, 102, 116, 76, 111, 103, 105, 99, 97, 108, 32, 84, 82, 32, 105, 105, 32, 32, 32, 56]),
   (197, [79, 112, 66, 105, 116, 119, 105, 115, 101, 79, 114, 32, 84, 82, 32, 105, 105, 32, 32, 32, 56]),
   (198, [79, 112, 66, 105, 116, 119, 105, 115, 101, 88, 111, 114, 32, 84, 82, 32, 105, 105, 32, 32, 32, 56]),
   (199, [79, 112, 66, 105, 116, 119, 105, 115, 101, 65, 110, 100, 32, 84, 82, 32, 105, 105, 32, 32, 32, 56]),
   (200, [79, 112, 78, 111, 116, 32, 84, 82, 32, 105, 32, 32, 32, 56]),
   (201, [79, 112, 66, 105, 116, 70, 105, 101, 108, 100, 73, 110, 115, 101, 114, 116, 32, 84, 82, 32, 105, 105, 105, 105, 32, 32, 32, 56]),
   (202, [79, 112, 66, 105, 116, 70, 105, 101, 108, 100, 83, 69, 120, 116, 114, 97, 99, 116, 32, 84, 82, 32, 105, 105, 105, 32, 32, 32, 56]),
   (203, [79, 112, 66, 105, 116, 70, 105, 101, 108, 100, 85, 69, 120, 116, 114, 97, 99, 116, 32, 84, 82, 32, 105, 105, 105, 32, 32, 32, 56]),
   (204, [79, 112, 66, 105, 116, 82, 101, 118, 101, 114, 115, 101, 32, 84, 82, 32, 105, 32, 32, 32, 56]),
   (205, [79, 112, 66, 105, 116, 67, 111, 117, 110, 116, 32, 84, 82, 32, 105, 32, 32, 32, 56]),
   (245, [79, 112, 80, 104, 105, 32, 84, 82, 32, 32, 105, 105, 32, 32, 56]),
   (246, [79, 112, 76, 111, 111, 112, 77, 101, 114, 103, 101, 32, 32, 105, 105, 103, 32, 32, 32, 56]),
   (247, [79, 112, 83, 101, 108, 101, 99, 116, 105, 111, 110, 77, 101, 114, 103, 101, 32, 32, 105, 104, 32, 32, 32, 56]),
   (248, [79, 112, 76, 97, 98, 101, 108, 32, 82, 32, 32, 32, 32, 56]),
   (249, [79, 112, 66, 114, 97, 110, 99, 104, 32, 32, 105, 32, 32, 32, 56]),
   (250, [79, 112, 66, 114, 97, 110, 99, 104, 67, 111, 110, 100, 105, 116, 105, 111, 110, 97, 108, 32, 32, 105, 105, 105, 32, 32, 32, 56]),
   (251, [79, 112, 83, 119, 105, 116, 99, 104, 32, 32, 105, 105, 32, 110, 105, 32, 32, 56]),
   (252, [79, 112, 75, 105, 108, 108, 32, 32, 32, 32, 32, 56]),
   (253, [79, 112, 82, 101, 116, 117, 114, 110, 32, 32, 32, 32, 32, 56]),
   (254, [79, 112, 82, 101, 116, 117, 114, 110, 86, 97, 108, 117, 101, 32, 32, 105, 32, 32, 32, 56]),
   (255, [79, 112, 85, 110, 114, 101, 97, 99, 104, 97, 98, 108, 101, 32, 32, 32, 32, 32, 56])]
def tabN : List (Int × Bs) :=
  [(107, [48, 32, 77, 97, 116, 114, 105, 120, 32, 49, 32, 83, 104, 97, 100, 101, 114, 32]),
   (97, [48, 32, 76, 111, 103, 105, 99, 97, 108, 32]),
   (109, [48, 32, 83, 105, 109, 112, 108, 101, 32, 49, 32, 71, 76, 83, 76, 52, 53, 48, 32]),
   (101, [48, 32, 86, 101, 114, 116, 101, 120, 32, 52, 32, 70, 114, 97, 103, 109, 101, 110, 116, 32]),
   (120, [55, 32, 79, 114, 105, 103, 105, 110, 85, 112, 112, 101, 114, 76, 101, 102, 116, 32]),
   (108, [48, 32, 85, 110, 107, 110, 111, 119, 110, 32, 49, 32, 69, 83, 83, 76, 32, 50, 32, 71, 76, 83, 76, 32]),
   (99, [49, 32, 73, 110, 112, 117, 116, 32, 51, 32, 79, 117, 116, 112, 117, 116, 32, 54, 32, 80, 114, 105, 118, 97, 116, 101, 32, 55, 32, 70, 117, 110, 99, 116, 105, 111, 110, 32]),
   (100, [48, 32, 82, 101, 108, 97, 120, 101, 100, 80, 114, 101, 99, 105, 115, 105, 111, 110, 32, 49, 49, 32, 66, 117, 105, 108, 116, 73, 110, 32, 49, 52, 32, 70, 108, 97, 116, 32, 51, 48, 32, 76, 111, 99, 97, 116, 105, 111, 110, 32]),
   (102, [48, 32, 78, 111, 110, 101, 32, 49, 32, 73, 110, 108, 105, 110, 101, 32, 50, 32, 68, 111, 110, 116, 73, 110, 108, 105, 110, 101, 32, 52, 32, 80, 117, 114, 101, 32, 56, 32, 67, 111, 110, 115, 116, 32]),
   (104, [48, 32, 78, 111, 110, 101, 32, 49, 32, 70, 108, 97, 116, 116, 101, 110, 32, 50, 32, 68, 111, 110, 116, 70, 108, 97, 116, 116, 101, 110, 32]),
   (103, [48, 32, 78, 111, 110, 101, 32, 49, 32, 85, 110, 114, 111, 108, 108, 32, 50, 32, 68, 111, 110, 116, 85, 110, 114, 111, 108, 108, 32])]
def tabR : List (Int × Fl) :=
  [(1, [79, 112, 85, 110, 100, 101, 102], true, true, [], [], 0, 7),
   (3, [79, 112, 83, 111, 117, 114, 99, 101], false, false, [108, 110], [], 0, 4),
   (5, [79, 112, 78, 97, 109, 101], false, false, [105, 115], [], 0, 5),
   (6, [79, 112, 77, 101, 109, 98, 101, 114, 78, 97, 109, 101], false, false, [105, 110, 115], [], 0, 5),
   (7, [79, 112, 83, 116, 114, 105, 110, 103], false, true, [115], [], 0, 4),
   (14, [79, 112, 77, 101, 109, 111, 114, 121, 77, 111, 100, 101, 108], false, false, [97, 109], [], 0, 1),
   (15, [79, 112, 69, 110, 116, 114, 121, 80, 111, 105, 110, 116], false, false, [101, 105, 115], [105], 0, 2),
   (16, [79, 112, 69, 120, 101, 99, 117, 116, 105, 111, 110, 77, 111, 100, 101], false, false, [105, 120], [], 0, 3),
   (17, [79, 112, 67, 97, 112, 97, 98, 105, 108, 105, 116, 121], false, false, [107], [], 0, 0),
   (19, [79, 112, 84, 121, 112, 101, 86, 111, 105, 100], false, true, [], [], 0, 7),
   (20, [79, 112, 84, 121, 112, 101, 66, 111, 111, 108], false, true, [], [], 0, 7),
   (21, [79, 112, 84, 121, 112, 101, 73, 110, 116], false, true, [110, 110], [], 0, 7),
   (23, [79, 112, 84, 121, 112, 101, 86, 101, 99, 116, 111, 114], false, true, [105, 110], [], 0, 7),
   (28, [79, 112, 84, 121, 112, 101, 65, 114, 114, 97, 121], false, true, [105, 105], [], 0, 7),
   (30, [79, 112, 84, 121, 112, 101, 83, 116, 114, 117, 99, 116], false, true, [], [105], 0, 7),
   (32, [79, 112, 84, 121, 112, 101, 80, 111, 105, 110, 116, 101, 114], false, true, [99, 105], [], 0, 7),
   (33, [79, 112, 84, 121, 112, 101, 70, 117, 110, 99, 116, 105, 111, 110], false, true, [105], [105], 0, 7),
   (41, [79, 112, 67, 111, 110, 115, 116, 97, 110, 116, 84, 114, 117, 101], true, true, [], [], 0, 7),
   (42, [79, 112, 67, 111, 110, 115, 116, 97, 110, 116, 70, 97, 108, 115, 101], true, true, [], [], 0, 7),
   (43, [79, 112, 67, 111, 110, 115, 116, 97, 110, 116], true, true, [110], [], 0, 7),
   (44, [79, 112, 67, 111, 110, 115, 116, 97, 110, 116, 67, 111, 109, 112, 111, 115, 105, 116, 101], true, true, [], [105], 0, 7),
   (46, [79, 112, 67, 111, 110, 115, 116, 97, 110, 116, 78, 117, 108, 108], true, true, [], [], 0, 7),
   (54, [79, 112, 70, 117, 110, 99, 116, 105, 111, 110], true, true, [102, 105], [], 0, 8),
   (55, [79, 112, 70, 117, 110, 99, 116, 105, 111, 110, 80, 97, 114, 97, 109, 101, 116, 101, 114], true, true, [], [], 0, 8),
   (56, [79, 112, 70, 117, 110, 99, 116, 105, 111, 110, 69, 110, 100], false, false, [], [], 0, 8),
   (57, [79, 112, 70, 117, 110, 99, 116, 105, 111, 110, 67, 97, 108, 108], true, true, [105], [105], 0, 8),
   (59, [79, 112, 86, 97, 114, 105, 97, 98, 108, 101], true, true, [99], [105], 1, 7),
   (61, [79, 112, 76, 111, 97, 100], true, true, [105], [], 0, 8),
   (62, [79, 112, 83, 116, 111, 114, 101], false, false, [105, 105], [], 0, 8),
   (65, [79, 112, 65, 99, 99, 101, 115, 115, 67, 104, 97, 105, 110], true, true, [105], [105], 0, 8),
   (71, [79, 112, 68, 101, 99, 111, 114, 97, 116, 101], false, false, [105, 100], [110], 0, 6),
   (77, [79, 112, 86, 101, 99, 116, 111, 114, 69, 120, 116, 114, 97, 99, 116, 68, 121, 110, 97, 109, 105, 99], true, true, [105, 105], [], 0, 8),
   (78, [79, 112, 86, 101, 99, 116, 111, 114, 73, 110, 115, 101, 114, 116, 68, 121, 110, 97, 109, 105, 99], true, true, [105, 105, 105], [], 0, 8),
   (79, [79, 112, 86, 101, 99, 116, 111, 114, 83, 104, 117, 102, 102, 108, 101], true, true, [105, 105], [110], 0, 8),
   (80, [79, 112, 67, 111, 109, 112, 111, 115, 105, 116, 101, 67, 111, 110, 115, 116, 114, 117, 99, 116], true, true, [], [105], 0, 8),
   (81, [79, 112, 67, 111, 109, 112, 111, 115, 105, 116, 101, 69, 120, 116, 114, 97, 99, 116], true, true, [105], [110], 0, 8),
   (82, [79, 112, 67, 111, 109, 112, 111, 115, 105, 116, 101, 73, 110, 115, 101, 114, 116], true, true, [105, 105], [110], 0, 8),
   (83, [79, 112, 67, 111, 112, 121, 79, 98, 106, 101, 99, 116], true, true, [105], [], 0, 8),
   (124, [79, 112, 66, 105, 116, 99, 97, 115, 116], true, true, [105], [], 0, 8),
   (126, [79, 112, 83, 78, 101, 103, 97, 116, 101], true, true, [105], [], 0, 8),
   (128, [79, 112, 73, 65, 100, 100], true, true, [105, 105], [], 0, 8),
   (130, [79, 112, 73, 83, 117, 98], true, true, [105, 105], [], 0, 8),
   (132, [79, 112, 73, 77, 117, 108], true, true, [105, 105], [], 0, 8),
   (134, [79, 112, 85, 68, 105, 118], true, true, [105, 105], [], 0, 8),
   (135, [79, 112, 83, 68, 105, 118], true, true, [105, 105], [], 0, 8),
   (137, [79, 112, 85, 77, 111, 100], true, true, [105, 105], [], 0, 8),
   (138, [79, 112, 83, 82, 101, 109], true, true, [105, 105], [], 0, 8),
   (139, [79, 112, 83, 77, 111, 100], true, true, [105, 105], [], 0, 8),
   (149, [79, 112, 73, 65, 100, 100, 67, 97, 114, 114, 121], true, true, [105, 105], [], 0, 8),
   (150, [79, 112, 73, 83, 117, 98, 66, 111, 114, 114, 111, 119], true, true, [105, 105], [], 0, 8),
   (151, [79, 112, 85, 77, 117, 108, 69, 120, 116, 101, 110, 100, 101, 100], true, true, [105, 105], [], 0, 8),
   (152, [79, 112, 83, 77, 117, 108, 69, 120, 116, 101, 110, 100, 101, 100], true, true, [105, 105], [], 0, 8),
   (154, [79, 112, 65, 110, 121], true, true, [105], [], 0, 8),
   (155, [79, 112, 65, 108, 108], true, true, [105], [], 0, 8),
   (164, [79, 112, 76, 111, 103, 105, 99, 97, 108, 69, 113, 117, 97, 108], true, true, [105, 105], [], 0, 8),
   (165, [79, 112, 76, 111, 103, 105, 99, 97, 108, 78, 111, 116, 69, 113, 117, 97, 108], true, true, [105, 105], [], 0, 8),
   (166, [79, 112, 76, 111, 103, 105, 99, 97, 108, 79, 114], true, true, [105, 105], [], 0, 8),
   (167, [79, 112, 76, 111, 103, 105, 99, 97, 108, 65, 110, 100], true, true, [105, 105], [], 0, 8),
   (168, [79, 112, 76, 111, 103, 105, 99, 97, 108, 78, 111, 116], true, true, [105], [], 0, 8),
   (169, [79, 112, 83, 101, 108, 101, 99, 116], true, true, [105, 105, 105], [], 0, 8),
   (170, [79, 112, 73, 69, 113, 117, 97, 108], true, true, [105, 105], [], 0, 8),
   (171, [79, 112, 73, 78, 111, 116, 69, 113, 117, 97, 108], true, true, [105, 105], [], 0, 8),
   (172, [79, 112, 85, 71, 114, 101, 97, 116, 101, 114, 84, 104, 97, 110], true, true, [105, 105], [], 0, 8),
   (173, [79, 112, 83, 71, 114, 101, 97, 116, 101, 114, 84, 104, 97, 110], true, true, [105, 105], [], 0, 8),
   (174, [79, 112, 85, 71, 114, 101, 97, 116, 101, 114, 84, 104, 97, 110, 69, 113, 117, 97, 108], true, true, [105, 105], [], 0, 8),
   (175, [79, 112, 83, 71, 114, 101, 97, 116, 101, 114, 84, 104, 97, 110, 69, 113, 117, 97, 108], true, true, [105, 105], [], 0, 8),
   (176, [79, 112, 85, 76, 101, 115, 115, 84, 104, 97, 110], true, true, [105, 105], [], 0, 8),
   (177, [79, 112, 83, 76, 101, 115, 115, 84, 104, 97, 110], true, true, [105, 105], [], 0, 8),
   (178, [79, 112, 85, 76, 101, 115, 115, 84, 104, 97, 110, 69, 113, 117, 97, 108], true, true, [105, 105], [], 0, 8),
   (179, [79, 112, 83, 76, 101, 115, 115, 84, 104, 97, 110, 69, 113, 117, 97, 108], true, true, [105, 105], [], 0, 8),
   (194, [79, 112, 83, 104, 105, 102, 116, 82, 105, 103, 104, 116, 76, 111, 103, 105, 99, 97, 108], true, true, [105, 105], [], 0, 8),
   (195, [79, 112, 83, 104, 105, 102, 116, 82, 105, 103, 104, 116, 65, 114, 105, 116, 104, 109, 101, 116, 105, 99], true, true, [105, 105], [], 0, 8),
   (196, [79, 112, 83, 104, 105, 102, 116, 76, 101, 102, 116, 76, 111, 103, 105, 99, 97, 108], true, true, [105, 105], [], 0, 8),
   (197, [79, 112, 66, 105, 116, 119, 105, 115, 101, 79, 114], true, true, [105, 105], [], 0, 8),
   (198, [79, 112, 66, 105, 116, 119, 105, 115, 101, 88, 111, 114], true, true, [105, 105], [], 0, 8),
   (199, [79, 112, 66, 105, 116, 119, 105, 115, 101, 65, 110, 100], true, true, [105, 105], [], 0, 8),
   (200, [79, 112, 78, 111, 116], true, true, [105], [], 0, 8),
   (201, [79, 112, 66, 105, 116, 70, 105, 101, 108, 100, 73, 110, 115, 101, 114, 116], true, true, [105, 105, 105, 105], [], 0, 8),
   (202, [79, 112, 66, 105, 116, 70, 105, 101, 108, 100, 83, 69, 120, 116, 114, 97, 99, 116], true, true, [105, 105, 105], [], 0, 8),
   (203, [79, 112, 66, 105, 116, 70, 105, 101, 108, 100, 85, 69, 120, 116, 114, 97, 99, 116], true, true, [105, 105, 105], [], 0, 8),
   (204, [79, 112, 66, 105, 116, 82, 101, 118, 101, 114, 115, 101], true, true, [105], [], 0, 8),
   (205, [79, 112, 66, 105, 116, 67, 111, 117, 110, 116], true, true, [105], [], 0, 8),
   (245, [79, 112, 80, 104, 105], true, true, [], [105, 105], 0, 8),
   (246, [79, 112, 76, 111, 111, 112, 77, 101, 114, 103, 101], false, false, [105, 105, 103], [], 0, 8),
   (247, [79, 112, 83, 101, 108, 101, 99, 116, 105, 111, 110, 77, 101, 114, 103, 101], false, false, [105, 104], [], 0, 8),
   (248, [79, 112, 76, 97, 98, 101, 108], false, true, [], [], 0, 8),
   (249, [79, 112, 66, 114, 97, 110, 99, 104], false, false, [105], [], 0, 8),
   (250, [79, 112, 66, 114, 97, 110, 99, 104, 67, 111, 110, 100, 105, 116, 105, 111, 110, 97, 108], false, false, [105, 105, 105], [], 0, 8),
   (251, [79, 112, 83, 119, 105, 116, 99, 104], false, false, [105, 105], [110, 105], 0, 8),
   (252, [79, 112, 75, 105, 108, 108], false, false, [], [], 0, 8),
   (253, [79, 112, 82, 101, 116, 117, 114, 110], false, false, [], [], 0, 8),
   (254, [79, 112, 82, 101, 116, 117, 114, 110, 86, 97, 108, 117, 101], false, false, [105], [], 0, 8),
   (255, [79, 112, 85, 110, 114, 101, 97, 99, 104, 97, 98, 108, 101], false, false, [], [], 0, 8)]
def tabM : List (Int × Int × Bs) :=
  [(107, 0, [77, 97, 116, 114, 105, 120]),
   (107, 1, [83, 104, 97, 100, 101, 114]),
   (97, 0, [76, 111, 103, 105, 99, 97, 108]),
   (109, 0, [83, 105, 109, 112, 108, 101]),
   (109, 1, [71, 76, 83, 76, 52, 53, 48]),
   (101, 0, [86, 101, 114, 116, 101, 120]),
   (101, 4, [70, 114, 97, 103, 109, 101, 110, 116]),
   (120, 7, [79, 114, 105, 103, 105, 110, 85, 112, 112, 101, 114, 76, 101, 102, 116]),
   (108, 0, [85, 110, 107, 110, 111, 119, 110]),
   (108, 1, [69, 83, 83, 76]),
   (108, 2, [71, 76, 83, 76]),
   (99, 1, [73, 110, 112, 117, 116]),
   (99, 3, [79, 117, 116, 112, 117, 116]),
   (99, 6, [80, 114, 105, 118, 97, 116, 101]),
   (99, 7, [70, 117, 110, 99, 116, 105, 111, 110]),
   (100, 0, [82, 101, 108, 97, 120, 101, 100, 80, 114, 101, 99, 105, 115, 105, 111, 110]),
   (100, 11, [66, 117, 105, 108, 116, 73, 110]),
   (100, 14, [70, 108, 97, 116]),
   (100, 30, [76, 111, 99, 97, 116, 105, 111, 110]),
   (102, 0, [78, 111, 110, 101]),
   (102, 1, [73, 110, 108, 105, 110, 101]),
   (102, 2, [68, 111, 110, 116, 73, 110, 108, 105, 110, 101]),
   (102, 4, [80, 117, 114, 101]),
   (102, 8, [67, 111, 110, 115, 116]),
   (104, 0, [78, 111, 110, 101]),
   (104, 1, [70, 108, 97, 116, 116, 101, 110]),
   (104, 2, [68, 111, 110, 116, 70, 108, 97, 116, 116, 101, 110]),
   (103, 0, [78, 111, 110, 101]),
   (103, 1, [85, 110, 114, 111, 108, 108]),
   (103, 2, [68, 111, 110, 116, 85, 110, 114, 111, 108, 108])]

def fldS (st : Nat × List Bs) (c : UInt8) : Nat × List Bs := if c = 32 then (st.1 + 1, st.2) else (st.1, st.2.modify st.1 (· ++ [c]))
def fldG (s : Bs) : Nat × List Bs := s.foldl fldS (0, [[], [], [], [], [], []])
def fld (s : Bs) (k : Nat) : Bs := (fldG s).2.getD k []
def parse (s : Bs) : Fl :=
  (fld s 0, (fld s 1).contains 84, (fld s 1).contains 82, fld s 2, fld s 3, (match fld s 4 with | [] => 0 | c :: _ => c.toNat - 48), (match fld s 5 with | [] => 0 | c :: _ => c.toNat - 48))
def okRow (s : Bs) : Bool :=
  s.all (· < 128) && (fld s 1).all (· < 128) && decide (s.count 32 ≤ 5) && decide (s.length ≤ 100) && !s.isEmpty && (match fld s 5 with | [] => false | c :: _ => decide (48 ≤ c.toNat)) &&
    (match fld s 4 with | [] => true | c :: _ => decide (48 ≤ c.toNat))
def tabAll : List (Int × Bs) := tabA ++ (tabB ++ tabC)
theorem rows_ok : tabAll.all (fun p => okRow p.2) = true := by decide +kernel
theorem tabs_same : (tabAll.map fun p => (p.1, parse p.2)) = tabR := by kernel_rfl
theorem keyA : tabA.all (fun p => decide (p.1 ≤ 71)) = true := by decide +kernel
theorem keyB : tabB.all (fun p => decide (71 < p.1) && decide (p.1 ≤ 171)) = true := by decide +kernel
theorem keyC : tabC.all (fun p => decide (171 < p.1)) = true := by decide +kernel
/-- An operation's row. -/
def rowP (op : Int) : Option Bs := look tabAll op
theorem rowP_A {op : Int} (h : op ≤ 71) : look tabA op = rowP op := by
  unfold rowP tabAll
  rw [look_append, look_append, look_none (a := tabB), look_none (a := tabC), Option.or_none, Option.or_none]
  · intro p hp; have := List.all_eq_true.1 keyC p hp; simp at this; omega
  · intro p hp; have := List.all_eq_true.1 keyB p hp; simp at this; omega
theorem rowP_B {op : Int} (h : ¬ op ≤ 71) (h' : op ≤ 171) : look tabB op = rowP op := by
  unfold rowP tabAll
  rw [look_append, look_append, look_none (a := tabA), look_none (a := tabC), Option.or_none, Option.none_or]
  · intro p hp; have := List.all_eq_true.1 keyC p hp; simp at this; omega
  · intro p hp; have := List.all_eq_true.1 keyA p hp; simp at this; omega
theorem rowP_C {op : Int} (h : ¬ op ≤ 71) (h' : ¬ op ≤ 171) : look tabC op = rowP op := by
  unfold rowP tabAll
  rw [look_append, look_append, look_none (a := tabA), look_none (a := tabB), Option.none_or, Option.none_or]
  · intro p hp; have := List.all_eq_true.1 keyB p hp; simp at this; omega
  · intro p hp; have := List.all_eq_true.1 keyA p hp; simp at this; omega
theorem rowP_ok {op : Int} {s : Bs} (h : rowP op = some s) : okRow s = true := List.all_eq_true.1 rows_ok _ (look_mem h)
/-- An operation's form. -/
def frm (op : Int) : Option Fl := look tabR op
theorem frm_row (op : Int) : frm op = (rowP op).map parse := by
  unfold frm rowP
  rw [← look_map, tabs_same]

theorem fldG_len (s : Bs) : (fldG s).2.length = 6 := by
  suffices h : ∀ (l : Bs) (st : Nat × List Bs), (l.foldl fldS st).2.length = st.2.length from h s _
  intro l
  induction l with
  | nil => intro st; rfl
  | cons c l ih =>
    intro st
    rw [List.foldl_cons, ih]
    unfold fldS
    split <;> simp
theorem fldG_at (s : Bs) : (fldG s).1 = s.count 32 := by
  suffices h : ∀ (l : Bs) (st : Nat × List Bs), (l.foldl fldS st).1 = st.1 + l.count 32 from (h s _).trans (Nat.zero_add _)
  intro l
  induction l with
  | nil => intro st; simp
  | cons c l ih =>
    intro st
    rw [List.foldl_cons, ih]
    unfold fldS
    split
    · rename_i e; subst e; simp; omega
    · rename_i e; rw [List.count_cons_of_ne e]
theorem fldG_size (s : Bs) : ∀ x ∈ (fldG s).2, x.length ≤ s.length := by
  suffices h : ∀ (l : Bs) (st : Nat × List Bs) (n : Nat), (∀ x ∈ st.2, x.length ≤ n) → ∀ x ∈ (l.foldl fldS st).2, x.length ≤ n + l.length by
    intro x hx
    have := h s (0, [[], [], [], [], [], []]) 0 (by simp) x hx
    omega
  intro l
  induction l with
  | nil => intro st n h x hx; exact h x hx
  | cons c l ih =>
    intro st n h x hx
    have := ih (fldS st c) (n + 1) (fun y hy => by
      unfold fldS at hy
      split at hy
      · have := h y hy; omega
      · obtain ⟨i, hi, e⟩ := List.mem_iff_getElem.1 hy
        rw [List.getElem_modify] at e
        rw [List.length_modify] at hi
        split at e
        · rw [← e]
          have := h _ (List.getElem_mem hi)
          simp
          omega
        · rw [← e]
          have := h _ (List.getElem_mem hi)
          omega) x hx
    simp only [List.length_cons]
    omega
theorem fldG_snoc (s : Bs) (c : UInt8) : fldG (s ++ [c]) = fldS (fldG s) c := by simp [fldG, List.foldl_append]

abbrev Fl.fixed (f : Fl) : Bs := f.2.2.2.1
abbrev Fl.rest (f : Fl) : Bs := f.2.2.2.2.1
abbrev Fl.most (f : Fl) : Nat := f.2.2.2.2.2.1
def lettersOk (f : Fl) : Bool := f.fixed.all (fun c => c != 0) && f.rest.all (fun c => c != 0) && decide (f.fixed.length ≤ 100) && decide (f.rest.length ≤ 100) && decide (f.most ≤ 100)
theorem letters_ok : tabR.all (fun p => lettersOk p.2) = true := by decide +kernel
/-- The letter of the argument k. -/
def letP (f : Fl) (k : Nat) : Nat :=
  if k < f.fixed.length then (f.fixed.getD k 0).toNat
  else if f.rest.length = 0 then 0
  else if 0 < f.most ∧ f.most * f.rest.length ≤ k - f.fixed.length then 0
  else (f.rest.getD ((k - f.fixed.length) % f.rest.length) 0).toNat
def kindP (c : Int) : Int :=
  if c = 105 then 1 else if c = 110 then 2 else if c = 115 then 3 else if (look tabN c).isSome then 4 else 0
theorem names_ne : tabN.all (fun p => !p.2.isEmpty) = true := by decide +kernel
theorem names_there : tabM.all (fun p => (look tabN p.1).isSome) = true := by decide +kernel
theorem kinds_ok : tabR.all (fun p => p.2.fixed.all (fun c => decide (kindP c.toNat ≠ 0)) && p.2.rest.all (fun c => decide (kindP c.toNat ≠ 0))) = true := by decide +kernel
theorem frm_letters {op : Int} {f : Fl} (h : frm op = some f) : lettersOk f = true := List.all_eq_true.1 letters_ok _ (look_mem h)
theorem letP_kind {op : Int} {f : Fl} (h : frm op = some f) {k : Nat} (hk : letP f k ≠ 0) : kindP (letP f k) ≠ 0 := by
  have h2 := List.all_eq_true.1 kinds_ok _ (look_mem h)
  rw [Bool.and_eq_true] at h2
  have h3 := List.all_eq_true.1 h2.1
  have h4 := List.all_eq_true.1 h2.2
  unfold letP at hk ⊢
  split
  · rename_i hlt
    rw [getD_lt hlt]
    exact of_decide_eq_true (h3 _ (List.getElem_mem hlt))
  · rename_i hlt
    rw [if_neg hlt] at hk
    split
    · rename_i e; rw [if_pos e] at hk; exact absurd rfl hk
    · rename_i e
      rw [if_neg e] at hk
      split
      · rename_i e2; rw [if_pos e2] at hk; exact absurd rfl hk
      · have : (k - f.fixed.length) % f.rest.length < f.rest.length := Nat.mod_lt _ (by omega)
        rw [getD_lt this]
        exact of_decide_eq_true (h4 _ (List.getElem_mem this))

/-- The argument k is of a kind that cannot stand there. -/
def bad (f : Fl) (ks : List Int) (k : Nat) : Bool := ks.getD k 0 == 0 || kindP (letP f k) != ks.getD k 0
def wrongLen (f : Fl) (n : Nat) : Bool := decide (n < f.fixed.length) || (decide (f.rest.length ≠ 0) && decide ((n - f.fixed.length) % f.rest.length ≠ 0))
def fitF (f : Fl) (ks : List Int) : Nat × Bool := match (List.range ks.length).find? (bad f ks) with
  | some k => (k, false)
  | none => if wrongLen f ks.length then (ks.length, false) else (0, true)
def fitP (op : Int) (ks : List Int) : Nat × Bool := match frm op with
  | none => (0, false)
  | some f => fitF f ks
theorem fitP_none {op : Int} {ks : List Int} (h : frm op = none) : fitP op ks = (0, false) := by unfold fitP; rw [h]
theorem fitP_some {op : Int} {ks : List Int} {f : Fl} (h : frm op = some f) : fitP op ks = fitF f ks := by unfold fitP; rw [h]
theorem find_first {p : Nat → Bool} {n k : Nat} (hk : k < n) (hp : p k = true) (h : ∀ j, j < k → p j = false) : (List.range n).find? p = some k := by
  rw [List.find?_range_eq_some]
  exact ⟨hp, by simpa using hk, fun j hj => by simp [h j hj]⟩
theorem fit_bad {f : Fl} {ks : List Int} {k : Nat} (hk : k < ks.length) (hp : bad f ks k = true) (h : ∀ j, j < k → bad f ks j = false) : fitF f ks = (k, false) := by
  unfold fitF
  rw [find_first hk hp h]
theorem fit_good {f : Fl} {ks : List Int} (h : ∀ j, j < ks.length → bad f ks j = false) : fitF f ks = if wrongLen f ks.length then (ks.length, false) else (0, true) := by
  unfold fitF
  have : (List.range ks.length).find? (bad f ks) = none := by
    rw [List.find?_eq_none]
    intro j hj
    rw [h j (List.mem_range.1 hj)]
    simp
  rw [this]

end Go.Gm
namespace Go.Proofs
open Go.Gk Go.RowKit Go.Gm

theorem decode_ascii {s : Bs} {k : Nat} (hk : k < s.length) (h : s[k] < 128) : Utf8.decode (bs s) k = (s[k].toNat, 1) := by
  have e : ((bs s).get! (k + 0)).toNat = s[k].toNat := by
    have : (bs s).get! (k + 0) = s[k] := by
      show (s.toArray)[k + 0]! = s[k]
      simp [hk]
    rw [this]
  have h' : s[k].toNat < 128 := h
  unfold Utf8.decode
  simp only [e]
  rw [if_pos h']
theorem encode_ascii {c : UInt8} (h : c < 128) : Utf8.encode (c.toNat : Int) = bs [c] := by
  have h' : c.toNat < 128 := h
  have hv : Utf8.valid (c.toNat : Int) = true := by
    unfold Utf8.valid
    have : (decide (0 ≤ (c.toNat : Int)) && decide ((c.toNat : Int) < 0xD800)) = true := by simp; omega
    rw [this]; rfl
  unfold Utf8.encode
  simp only [hv, if_true, Int.toNat_natCast]
  rw [if_pos (by omega)]
  show _ = bs [c]
  unfold bs
  simp
theorem getElem_iter {w : World} {r : Nat} {s : ByteArray} {p : Nat} (h : r < w.heap.size) : (setIter w r s p).heap[r]? = some (.stringIter s p) := by
  simp [setIter, h]
theorem map_modify {α β : Type} (f : α → β) (g : α → α) (l : List α) {i : Nat} (h : i < l.length) : (l.map f).set i (f (g l[i])) = (l.modify i g).map f := by
  apply List.ext_getElem
  · simp
  · intro j h1 h2
    simp only [List.getElem_set, List.getElem_map, List.getElem_modify]
    split
    · rename_i e; subst e; rfl
    · rfl

abbrev six (l : List Bs) : List Value := l.map fun x => .string (bs x)
theorem okRow_of {s : Bs} (h : okRow s = true) : (∀ c ∈ s, c < 128) ∧ (∀ c ∈ fld s 1, c < 128) ∧ s.count 32 ≤ 5 ∧ s.length ≤ 100 ∧ s ≠ [] ∧ (∃ c r, fld s 5 = c :: r ∧ 48 ≤ c.toNat) ∧ (∀ c r, fld s 4 = c :: r → 48 ≤ c.toNat) := by
  unfold okRow at h
  simp only [Bool.and_eq_true, decide_eq_true_eq, List.all_eq_true, Bool.not_eq_true', List.isEmpty_eq_false_iff] at h
  obtain ⟨⟨⟨⟨⟨⟨h1, h1'⟩, h2⟩, h3⟩, h4⟩, h5⟩, h6⟩ := h
  refine ⟨h1, h1', h2, h3, h4, ?_, ?_⟩
  · cases e : fld s 5 with
    | nil => rw [e] at h5; cases h5
    | cons c r => rw [e] at h5; exact ⟨c, r, rfl, of_decide_eq_true h5⟩
  · intro c r e
    rw [e] at h6
    exact of_decide_eq_true h6
theorem fields_spec {s : Bs} (hs : okRow s = true) {w : World} {R : Value → World → Prop}
    (hR : ∀ w', Below w.heap.size w w' → R (.agg #[.string (bs (fld s 0)), .string (bs (fld s 1)), .string (bs (fld s 2)), .string (bs (fld s 3)), .string (bs (fld s 4)), .string (bs (fld s 5))]) w') :
    callR Tryz.prog 222 #[.string (bs s)] w R := by
  obtain ⟨h128, -, h5, hlen, -⟩ := okRow_of hs
  refine callR.of (grammar_fields_calls (bs s) R w ?_) fun _ _ h => h
  refine Nw.gen fun w1 e1 => Nw.gen fun w2 e2 => Nw.gen fun w3 e3 => ?_
  have hA1 : Blk w1 w.heap.size 283 (six [[], [], [], [], [], []]) := by rw [e1]; exact Blk.new w _ _
  have z1 : w1.heap.size = w.heap.size + 1 := by rw [e1]; simp
  have b1 : Below w.heap.size w w1 := by rw [e1]; exact (Below.refl _ _).alloc (Nat.le_refl _) _
  have hA2 : Blk w2 w.heap.size 283 (six [[], [], [], [], [], []]) := by rw [e2]; exact hA1.alloc _
  have hB2 : Blk w2 w1.heap.size 283 (six [[], [], [], [], [], []]) := by rw [e2]; exact Blk.new w1 _ _
  have z2 : w2.heap.size = w.heap.size + 2 := by rw [e2]; simp [z1]
  have b2 : Below w.heap.size w w2 := by rw [e2]; exact b1.alloc (by omega) _
  have hA3 : Blk w3 w.heap.size 283 (six [[], [], [], [], [], []]) := by rw [e3]; exact hA2.alloc _
  have hB3 : Blk w3 w1.heap.size 283 (six [[], [], [], [], [], []]) := by rw [e3]; exact hB2.alloc _
  have hI3 : w3.heap[w2.heap.size]? = some (.stringIter (bs s) 0) := by
    rw [e3]
    show (w2.heap.push _)[w2.heap.size]? = _
    simp
  have z3 : w3.heap.size = w.heap.size + 3 := by rw [e3]; simp [z2]
  have b3 : Below w.heap.size w w3 := by rw [e3]; exact b2.alloc (by omega) _
  clear e1 e2 e3 hA1 hA2 hB2
  refine LoopW.ghost (fun j st w' => ∃ k, k ≤ s.length ∧ j = s.length - k ∧ st = (((fldG (s.take k)).1 : Int), ()) ∧ w'.heap.size = w.heap.size + 3 ∧ Below w.heap.size w w' ∧ w'.heap[w2.heap.size]? = some (.stringIter (bs s) k) ∧
    Blk w' w.heap.size 283 (six [[], [], [], [], [], []]) ∧ Blk w' w1.heap.size 283 (six (fldG (s.take k)).2)) s.length ⟨0, Nat.zero_le _, rfl, rfl, z3, b3, hI3, hA3, hB3⟩ ?_
  rintro _ _ w4 ⟨k, hk, rfl, rfl, hz, hb, hI, hA, hB⟩ next hnext
  have hat : (fldG (s.take k)).1 ≤ 5 := by
    rw [fldG_at]
    exact Nat.le_trans ((List.take_sublist k s).count_le _) h5
  refine ⟨bs s, k, hI, fun hlt => ?_, fun hge => ?_⟩
  · rw [bs_size] at hlt
    have hc128 := h128 _ (List.getElem_mem hlt)
    rw [decode_ascii hlt hc128]
    dsimp only
    have hc := Chg.iter w2.heap.size w4 (bs s) (k + 1)
    have hI5 := getElem_iter (w := w4) (s := bs s) (p := k + 1) (r := w2.heap.size) (by omega)
    generalize setIter w4 w2.heap.size (bs s) (k + 1) = w5 at hc hI5
    have hA5 := hc.blk hA (by omega)
    have hB5 := hc.blk hB (by omega)
    have hb5 := hc.below hb (by omega)
    have hz5 := hc.size.trans hz
    have htk : s.take (k + 1) = s.take k ++ [s[k]] := List.take_succ_eq_append_getElem hlt
    refine ifB_beq (fun e => ?_) (fun e => ?_)
    · have e : s[k] = 32 := by
        apply UInt8.toNat.inj
        have : (s[k].toNat : Int) = 32 := e
        show s[k].toNat = 32
        omega
      rw [wrap64_succ (by omega)]
      refine hnext (s.length - (k + 1)) _ _ (by omega) ⟨k + 1, hlt, rfl, ?_, hz5, hb5, hI5, hA5, ?_⟩
      · rw [htk, fldG_snoc, fldS, if_pos e]
      · rw [htk, fldG_snoc, fldS, if_pos e]; exact hB5
    · have e : s[k] ≠ 32 := by
        intro h
        apply e
        rw [h]
        rfl
      have h6 := fldG_len (s.take k)
      have hlt6 : (fldG (s.take k)).1 < (fldG (s.take k)).2.length := by omega
      refine ⟨⟨by omega, by omega⟩, ?_⟩
      rw [Int.toNat_natCast]
      refine hB5.rT (x := bs (fldG (s.take k)).2[(fldG (s.take k)).1]) (by simp [six, hlt6]) ⟨?_, ⟨by omega, by omega⟩, hB5.wr (by simpa [six] using hlt6), ?_⟩
      · rw [encode_ascii hc128]
        unfold sumFits
        rw [bs_size, bs_size]
        have := fldG_size (s.take k) _ (List.getElem_mem hlt6)
        rw [List.length_take] at this
        simp only [List.length_singleton]
        omega
      · rw [encode_ascii hc128, bs_append]
        refine hnext (s.length - (k + 1)) _ _ (by omega) ⟨k + 1, hlt, rfl, ?_, ?_, ?_, ?_, ?_, ?_⟩
        · rw [htk, fldG_snoc, fldS, if_neg e]
        · simpa [World.setCell] using hz5
        · exact (Chg.set _ _ _ _).below hb5 (by omega)
        · rw [(Chg.set _ _ _ _).block _ (by omega)]; exact hI5
        · exact (Chg.set _ _ _ _).blk hA5 (by omega)
        · have := hB5.set (fldG (s.take k)).1 (.string (bs ((fldG (s.take k)).2[(fldG (s.take k)).1] ++ [s[k]])))
          rw [htk, fldG_snoc, fldS, if_neg e]
          have e3 := map_modify (fun x => Value.string (bs x)) (· ++ [s[k]]) (fldG (s.take k)).2 hlt6
          show Blk _ _ _ (((fldG (s.take k)).2.modify (fldG (s.take k)).1 (· ++ [s[k]])).map fun x => Value.string (bs x))
          rw [← e3]
          exact this
  · rw [bs_size] at hge
    have : k = s.length := by omega
    subst this
    rw [List.take_length] at hB
    have hR' : ∀ w', Below w.heap.size w w' → R (.agg #[.string (bs ((fldG s).2.getD 0 [])), .string (bs ((fldG s).2.getD 1 [])), .string (bs ((fldG s).2.getD 2 [])), .string (bs ((fldG s).2.getD 3 [])), .string (bs ((fldG s).2.getD 4 [])), .string (bs ((fldG s).2.getD 5 []))]) w' := hR
    have h6 := fldG_len s
    generalize (fldG s).2 = l at hB h6 hR'
    match l, h6 with
    | [a0, a1, a2, a3, a4, a5], _ =>
      refine hB.rT (n := 0) rfl (hB.rT (n := 1) rfl (hB.rT (n := 2) rfl (hB.rT (n := 3) rfl (hB.rT (n := 4) rfl (hB.rT (n := 5) rfl ?_)))))
      refine stC_all (vs := six [a0, a1, a2, a3, a4, a5]) hA rfl fun w' h1 h2 => ?_
      refine h1.rT (n := 0) rfl (h1.rT (n := 1) rfl (h1.rT (n := 2) rfl (h1.rT (n := 3) rfl (h1.rT (n := 4) rfl (h1.rT (n := 5) rfl ?_)))))
      exact hR' w' (h2.below hb (Nat.le_refl _))

abbrev rowT (op : Int) : Bs := (rowP op).getD []
theorem first_E (op : Int) (R : Value → World → Prop) (w : World) : L_grammar_first op R w = chain tabA op (fun s => R (.string (bs s)) w) (R (.string (bs [])) w) := by kernel_rfl
theorem second_E (op : Int) (R : Value → World → Prop) (w : World) : L_grammar_second op R w = chain tabB op (fun s => R (.string (bs s)) w) (R (.string (bs [])) w) := by kernel_rfl
theorem third_E (op : Int) (R : Value → World → Prop) (w : World) : L_grammar_third op R w = chain tabC op (fun s => R (.string (bs s)) w) (R (.string (bs [])) w) := by kernel_rfl
theorem row_spec {op : Int} {w : World} {R : Value → World → Prop} (hR : R (.string (bs (rowT op))) w) : callR Tryz.prog 221 #[.int .u16 op] w R := by
  refine callR.of (grammar_row_calls op R w ?_) fun _ _ h => h
  unfold rowT at hR
  refine ifB_dec (fun h => ?_) (fun h => ifB_dec (fun h' => ?_) (fun h' => ?_))
  · rw [← rowP_A h] at hR
    refine callR.of (grammar_first_calls op _ w ?_) fun _ _ h => h
    rw [first_E]
    exact chain_of (fun x hx => ⟨_, rfl, by rw [hx] at hR; exact hR⟩) (fun hx => ⟨_, rfl, by rw [hx] at hR; exact hR⟩)
  · rw [← rowP_B h h'] at hR
    refine callR.of (grammar_second_calls op _ w ?_) fun _ _ h => h
    rw [second_E]
    exact chain_of (fun x hx => ⟨_, rfl, by rw [hx] at hR; exact hR⟩) (fun hx => ⟨_, rfl, by rw [hx] at hR; exact hR⟩)
  · rw [← rowP_C h h'] at hR
    refine callR.of (grammar_third_calls op _ w ?_) fun _ _ h => h
    rw [third_E]
    exact chain_of (fun x hx => ⟨_, rfl, by rw [hx] at hR; exact hR⟩) (fun hx => ⟨_, rfl, by rw [hx] at hR; exact hR⟩)

abbrev Fm := Int × ByteArray × Bool × Bool × ByteArray × ByteArray × Int × Int × Unit
abbrev fmV (f : Fm) : List Value := [.int .u16 f.1, .string f.2.1, .bool f.2.2.1, .bool f.2.2.2.1, .string f.2.2.2.2.1, .string f.2.2.2.2.2.1, .int .i64 f.2.2.2.2.2.2.1, .int .u8 f.2.2.2.2.2.2.2.1]
abbrev fmA (f : Fm) : Value := .agg #[.int .u16 f.1, .string f.2.1, .bool f.2.2.1, .bool f.2.2.2.1, .string f.2.2.2.2.1, .string f.2.2.2.2.2.1, .int .i64 f.2.2.2.2.2.2.1, .int .u8 f.2.2.2.2.2.2.2.1]
def fmO (op : Int) : Option Fl → Fm
  | none => (0, bs [], false, false, bs [], bs [], 0, 0, ())
  | some f => (op, bs f.1, f.2.1, f.2.2.1, bs f.fixed, bs f.rest, (f.most : Int), (f.2.2.2.2.2.2 : Int), ())
theorem Fm.load {w : World} {b : Nat} {T : TypeId} {f : Fm} (h : Blk w b T (fmV f)) {φ : Int → ByteArray → Bool → Bool → ByteArray → ByteArray → Int → Int → Prop}
    (hφ : φ f.1 f.2.1 f.2.2.1 f.2.2.2.1 f.2.2.2.2.1 f.2.2.2.2.2.1 f.2.2.2.2.2.2.1 f.2.2.2.2.2.2.2.1) :
    ldI w ((blk b).add 0) .u16 fun x1 => ldStr w ((blk b).add 1) fun x2 => ldB w ((blk b).add 2) fun x3 => ldB w ((blk b).add 3) fun x4 => ldStr w ((blk b).add 4) fun x5 => ldStr w ((blk b).add 5) fun x6 =>
      ldI w ((blk b).add 6) .i64 fun x7 => ldI w ((blk b).add 7) .u8 fun x8 => φ x1 x2 x3 x4 x5 x6 x7 x8 :=
  h.rI (n := 0) rfl (h.rT (n := 1) rfl (h.rB (n := 2) rfl (h.rB (n := 3) rfl (h.rT (n := 4) rfl (h.rT (n := 5) rfl (h.rI (n := 6) rfl (h.rI (n := 7) rfl hφ)))))))
theorem byte_sub {c : UInt8} {r : Bs} (h : 48 ≤ c.toNat) : IntKind.u8.wrap (byteI (bs (c :: r)) 0 - 48) = ((c.toNat - 48 : Nat) : Int) := by
  have e : byteI (bs (c :: r)) 0 = (c.toNat : Int) := bs_byte (c :: r) 0
  have := c.toNat_lt
  rw [e, IntKind.wrap_u8]
  omega

theorem gOf_spec {op : Int} {w : World} {R : Value → World → Prop} (hR : ∀ w', Below w.heap.size w w' → R (.tuple #[fmA (fmO op (frm op)), .bool (frm op).isSome]) w') :
    callR Tryz.prog 168 #[.int .u16 op] w R := by
  refine callR.of (grammar_Of_calls op R w ?_) fun _ _ h => h
  refine Nw.gen fun w1 e1 => ?_
  have hA1 : Blk w1 w.heap.size 178 (fmV (fmO op none)) := by rw [e1]; exact Blk.new w _ _
  have z1 : w1.heap.size = w.heap.size + 1 := by rw [e1]; simp
  have b1 : Below w.heap.size w w1 := by rw [e1]; exact (Below.refl _ _).alloc (Nat.le_refl _) _
  clear e1
  refine row_spec ⟨_, rfl, ?_⟩
  rw [toList_nil]
  rw [frm_row] at hR
  cases hrow : rowP op with
  | none =>
    rw [hrow] at hR
    refine ifB_true (by unfold rowT; rw [hrow]; rfl) ?_
    refine stC_all (vs := fmV (fmO op none)) hA1 rfl fun w2 h1 h2 => ?_
    exact Fm.load h1 (hR w2 (h2.below b1 (Nat.le_refl _)))
  | some s =>
    rw [hrow] at hR
    have hok := rowP_ok hrow
    obtain ⟨h128, h128', h5, hlen, hne, ⟨c5, r5, e5, g5⟩, g4⟩ := okRow_of hok
    have ert : rowT op = s := by unfold rowT; rw [hrow]; rfl
    rw [ert]
    refine ifB_false (by simpa using hne) ?_
    refine fields_spec hok fun w2 b2 => ?_
    have hA2 := hA1.below b2
    have b2' : Below w.heap.size w w2 := b1.trans (b2.mono (by omega))
    have z2 : w.heap.size < w2.heap.size := by have := b2.size; omega
    refine ⟨(bs (fld s 0), bs (fld s 1), bs (fld s 2), bs (fld s 3), bs (fld s 4), bs (fld s 5), ()), rfl, ?_⟩
    refine box_of (T := 283) (vs := six [fld s 0, fld s 1, fld s 2, fld s 3, fld s 4, fld s 5]) rfl fun w3 hB b3 z3 => ?_
    have hA3 := hA2.below b3
    have b3' : Below w.heap.size w w3 := b2'.trans (b3.mono (by omega))
    refine ⟨⟨by decide, by decide⟩, hB.drew.rT (n := 0) rfl ⟨⟨by decide, by decide⟩, hB.drew.rT (n := 2) rfl ⟨⟨by decide, by decide⟩, hB.drew.rT (n := 3) rfl ⟨⟨by decide, by decide⟩, hB.drew.rT (n := 5) rfl ⟨⟨by decide, ?_⟩, ?_⟩⟩⟩⟩⟩
    · rw [bs_size, e5]; simp
    refine Nw.gen fun w4 e4 => ?_
    have hC4 : Blk w4 w3.drew.heap.size 178 (fmV (fmO op none)) := by rw [e4]; exact Blk.new w3.drew _ _
    have hB4 : Blk w4 w2.heap.size 283 (six [fld s 0, fld s 1, fld s 2, fld s 3, fld s 4, fld s 5]) := by rw [e4]; exact hB.drew.alloc _
    have hA4 : Blk w4 w.heap.size 178 (fmV (fmO op none)) := by rw [e4]; exact hA3.drew.alloc _
    have b4 : Below w.heap.size w w4 := by rw [e4]; exact b3'.drew.alloc (by show w.heap.size ≤ w3.heap.size; omega) _
    have z4 : w4.heap.size = w3.heap.size + 1 := by rw [e4]; simp
    clear e4
    refine ⟨hB4.cell (n := 5) rfl, hB4.cell (n := 3) rfl, hB4.cell (n := 2) rfl, hB4.cell (n := 0) rfl, ?_⟩
    have zd : w3.drew.heap.size = w3.heap.size := rfl
    generalize w3.drew.heap.size = n4 at zd hC4
    rw [e5, byte_sub g5]
    refine stC_all (vs := [.int .u16 op, .string (bs (fld s 0)), .bool false, .bool false, .string (bs (fld s 2)), .string (bs (fld s 3)), .int .i64 0, .int .u8 ((c5.toNat - 48 : Nat) : Int)]) hC4 rfl fun w5 hC5 c5' => ?_
    have hB5 := c5'.blk hB4 (by omega)
    have hA5 := c5'.blk hA4 (by omega)
    have b5 := c5'.below b4 (by omega)
    have z5 := c5'.size
    refine ⟨⟨by decide, by decide⟩, hB5.rT (n := 1) rfl ?_⟩
    refine Nw.gen fun w6 e6 => ?_
    have hI6 : w6.heap[w5.heap.size]? = some (.stringIter (bs (fld s 1)) 0) := by
      rw [e6]
      show (w5.heap.push _)[w5.heap.size]? = _
      simp
    have hC6 := hC5.alloc (.stringIter (bs (fld s 1)) 0)
    have hB6 := hB5.alloc (.stringIter (bs (fld s 1)) 0)
    have hA6 := hA5.alloc (.stringIter (bs (fld s 1)) 0)
    have z6 : w6.heap.size = w5.heap.size + 1 := by rw [e6]; simp
    have b6 : Below w.heap.size w w6 := by rw [e6]; exact b5.alloc (by omega) _
    rw [← e6] at hC6 hB6 hA6
    clear e6
    refine LoopW.ghost (fun j (_ : Unit) w' => ∃ k, k ≤ (fld s 1).length ∧ j = (fld s 1).length - k ∧ w'.heap.size = w6.heap.size ∧ Below w.heap.size w w' ∧ w'.heap[w5.heap.size]? = some (.stringIter (bs (fld s 1)) k) ∧
      Blk w' w.heap.size 178 (fmV (fmO op none)) ∧ Blk w' w2.heap.size 283 (six [fld s 0, fld s 1, fld s 2, fld s 3, fld s 4, fld s 5]) ∧
      Blk w' n4 178 [.int .u16 op, .string (bs (fld s 0)), .bool (((fld s 1).take k).contains 84), .bool (((fld s 1).take k).contains 82), .string (bs (fld s 2)), .string (bs (fld s 3)), .int .i64 0, .int .u8 ((c5.toNat - 48 : Nat) : Int)])
      (fld s 1).length ⟨0, Nat.zero_le _, rfl, rfl, b6, hI6, hA6, hB6, hC6⟩ ?_
    rintro _ _ w7 ⟨k, hk, rfl, hz, hb, hI, hA, hB', hC⟩ next hnext
    refine ⟨bs (fld s 1), k, hI, fun hlt => ?_, fun hge => ?_⟩
    · rw [bs_size] at hlt
      have hc128 := h128' _ (List.getElem_mem hlt)
      rw [decode_ascii hlt hc128]
      dsimp only
      have hc := Chg.iter w5.heap.size w7 (bs (fld s 1)) (k + 1)
      have hI8 := getElem_iter (w := w7) (s := bs (fld s 1)) (p := k + 1) (r := w5.heap.size) (by omega)
      generalize setIter w7 w5.heap.size (bs (fld s 1)) (k + 1) = w8 at hc hI8
      have hA8 := hc.blk hA (by omega)
      have hB8 := hc.blk hB' (by omega)
      have hC8 := hc.blk hC (by omega)
      have hb8 := hc.below hb (by omega)
      have hz8 := hc.size.trans hz
      have htk : (fld s 1).take (k + 1) = (fld s 1).take k ++ [(fld s 1)[k]] := List.take_succ_eq_append_getElem hlt
      have hcon : ∀ (d : UInt8), ((fld s 1).take (k + 1)).contains d = (((fld s 1).take k).contains d || (((fld s 1)[k].toNat : Int) == ((d.toNat : Nat) : Int))) := by
        intro d
        rw [htk, List.contains_append]
        congr 1
        simp only [List.contains_cons, List.contains_nil, Bool.or_false]
        by_cases e : (fld s 1)[k] = d
        · rw [e]; simp
        · have e1 : (d == (fld s 1)[k]) = false := beq_eq_false_iff_ne.2 fun h => e h.symm
          have e2 : (((fld s 1)[k].toNat : Int) == ((d.toNat : Nat) : Int)) = false := beq_eq_false_iff_ne.2 fun h => e (UInt8.toNat.inj (by omega))
          rw [e1, e2]
      refine JoinW.cut (fun _ w9 => Chg n4 w8 w9 ∧ Blk w9 n4 178 [.int .u16 op, .string (bs (fld s 0)), .bool (((fld s 1).take (k + 1)).contains 84), .bool (((fld s 1).take k).contains 82), .string (bs (fld s 2)), .string (bs (fld s 3)), .int .i64 0, .int .u8 ((c5.toNat - 48 : Nat) : Int)]) ?_ ?_
      · refine hC8.rB (n := 2) rfl (ifB_bool (fun ht => ?_) (fun ht => ?_))
        · refine ⟨hC8.wr (n := 2) (by simp), Chg.set _ _ _ _, ?_⟩
          have := hC8.set 2 (.bool true)
          rw [hcon 84, ht]
          exact this
        · refine ⟨hC8.wr (n := 2) (by simp), Chg.set _ _ _ _, ?_⟩
          have := hC8.set 2 (.bool (((fld s 1)[k].toNat : Int) == 84))
          rw [hcon 84, ht, Bool.false_or]
          exact this
      · rintro _ w9 ⟨c9, hC9⟩
        have fin : ∀ w10, Chg n4 w9 w10 → Blk w10 n4 178 [.int .u16 op, .string (bs (fld s 0)), .bool (((fld s 1).take (k + 1)).contains 84), .bool (((fld s 1).take (k + 1)).contains 82), .string (bs (fld s 2)), .string (bs (fld s 3)), .int .i64 0, .int .u8 ((c5.toNat - 48 : Nat) : Int)] → next () w10 := by
          intro w10 c10 hC10
          have cc := c9.trans c10
          refine hnext ((fld s 1).length - (k + 1)) _ _ (by omega) ⟨k + 1, hlt, rfl, cc.size.trans hz8, cc.below hb8 (by omega), ?_, cc.blk hA8 (by omega), cc.blk hB8 (by omega), hC10⟩
          rw [cc.block _ (by omega)]
          exact hI8
        refine hC9.rB (n := 3) rfl (ifB_bool (fun ht => ?_) (fun ht => ?_))
        · refine ⟨hC9.wr (n := 3) (by simp), fin _ (Chg.set _ _ _ _) ?_⟩
          have := hC9.set 3 (.bool true)
          rw [hcon 82, ht]
          exact this
        · refine ⟨hC9.wr (n := 3) (by simp), fin _ (Chg.set _ _ _ _) ?_⟩
          have := hC9.set 3 (.bool (((fld s 1)[k].toNat : Int) == 82))
          rw [hcon 82, ht, Bool.false_or]
          exact this
    · rw [bs_size] at hge
      have hk : k = (fld s 1).length := by omega
      subst hk
      rw [List.take_length] at hC
      refine JoinW.cut (fun _ w9 => Chg n4 w7 w9 ∧ Blk w9 n4 178 (fmV (fmO op (some (parse s))))) ?_ ?_
      · refine ⟨⟨by decide, by decide⟩, hB'.rT (n := 4) rfl ?_⟩
        rw [toList_nil]
        cases e4 : fld s 4 with
        | nil =>
          refine ifB_false rfl ⟨Chg.refl _ _, ?_⟩
          have ep : parse s = (fld s 0, (fld s 1).contains 84, (fld s 1).contains 82, fld s 2, fld s 3, 0, c5.toNat - 48) := by
            unfold parse
            rw [e4, e5]
          rw [ep]
          exact hC
        | cons c4 r4 =>
          have g := g4 _ _ e4
          refine ifB_true rfl ⟨⟨by decide, by decide⟩, ?_⟩
          rw [e4] at hB'
          refine hB'.rT (n := 4) rfl ⟨⟨by decide, by rw [bs_size]; simp⟩, hC.wr (n := 6) (by simp), Chg.set _ _ _ _, ?_⟩
          rw [byte_sub g, wrap64_in (by omega) (by have := c4.toNat_lt; omega)]
          have ep : parse s = (fld s 0, (fld s 1).contains 84, (fld s 1).contains 82, fld s 2, fld s 3, c4.toNat - 48, c5.toNat - 48) := by
            unfold parse
            rw [e4, e5]
          rw [ep]
          exact hC.set 6 (.int .i64 ((c4.toNat - 48 : Nat) : Int))
      · rintro _ w9 ⟨c9, hC9⟩
        refine Fm.load hC9 ?_
        refine stC_all (vs := fmV (fmO op (some (parse s)))) (c9.blk hA (by omega)) rfl fun w10 h1 h2 => ?_
        exact Fm.load h1 (hR w10 (h2.below (c9.below hb (by omega)) (Nat.le_refl _)))

end Go.Proofs
namespace Go.Proofs
open Go.Gk Go.RowKit Go.Gm

def fl0 : Fl := ([], false, false, [], [], 0, 0)
def flOf (op : Int) : Fl := (frm op).getD fl0
theorem flOf_ok (op : Int) : lettersOk (flOf op) = true := by
  unfold flOf
  cases h : frm op with
  | none => decide +kernel
  | some f => exact frm_letters h
/-- The box f says the letters of g. -/
structure FmIs (f : Fm) (g : Fl) : Prop where
  fixed : f.2.2.2.2.1 = bs g.fixed
  rest : f.2.2.2.2.2.1 = bs g.rest
  most : f.2.2.2.2.2.2.1 = (g.most : Int)
theorem fmIs (op : Int) : FmIs (fmO op (frm op)) (flOf op) := by
  unfold flOf
  cases h : frm op with
  | none => exact ⟨rfl, rfl, rfl⟩
  | some f => exact ⟨rfl, rfl, rfl⟩
structure LOk (g : Fl) : Prop where
  fixed : ∀ c ∈ g.fixed, c ≠ 0
  rest : ∀ c ∈ g.rest, c ≠ 0
  fl : g.fixed.length ≤ 100
  rl : g.rest.length ≤ 100
  ml : g.most ≤ 100
theorem lOk {g : Fl} (h : lettersOk g = true) : LOk g := by
  unfold lettersOk at h
  simp only [Bool.and_eq_true, List.all_eq_true, bne_iff_ne, decide_eq_true_eq] at h
  obtain ⟨⟨⟨⟨h1, h2⟩, h3⟩, h4⟩, h5⟩ := h
  exact ⟨h1, h2, h3, h4, h5⟩
def fixP (g : Fl) (k : Nat) : Nat := if k < g.fixed.length then (g.fixed.getD k 0).toNat else 0
def restP (g : Fl) (k : Nat) : Nat :=
  if k < g.fixed.length then 0 else if g.rest.length = 0 then 0 else if 0 < g.most ∧ g.most * g.rest.length ≤ k - g.fixed.length then 0
  else (g.rest.getD ((k - g.fixed.length) % g.rest.length) 0).toNat
theorem letP_fix {g : Fl} {k : Nat} (h : fixP g k ≠ 0) : letP g k = fixP g k := by
  unfold fixP at h ⊢
  unfold letP
  split
  · rfl
  · rename_i h1; rw [if_neg h1] at h; exact absurd rfl h
theorem letP_rest {g : Fl} (hg : LOk g) {k : Nat} (h : fixP g k = 0) : letP g k = restP g k := by
  unfold fixP at h
  unfold restP letP
  split at h
  · rename_i h1
    rw [getD_lt h1] at h
    exact absurd (UInt8.toNat.inj (b := 0) h) (hg.fixed _ (List.getElem_mem h1))
  · rename_i h1
    rw [if_neg h1, if_neg h1]

section
variable {f : Fm} {g : Fl} {w : World} {R : Value → World → Prop}
theorem fixed_spec (hf : FmIs f g) {i : Nat} (hR : ∀ w', Below w.heap.size w w' → R (.int .u8 (fixP g i : Int)) w') :
    callR Tryz.prog 224 #[fmA f, .int .i64 (i : Int)] w R := by
  refine callR.of (grammar_form_fixed_calls f i R w ?_) fun _ _ h => h
  refine lay_of fun w1 hB b1 z1 => ?_
  have hB : Blk w1 w.heap.size 230 (fmV f) := hB
  have hf4 := hf.fixed
  refine JoinW.cut (fun _ w' => w' = w1 ∧ i < g.fixed.length) ?_ ?_
  · refine ifB_dec (fun h => absurd h (by omega)) (fun _ => ?_)
    refine hB.rT (n := 4) rfl ?_
    rw [hf4, bs_size]
    refine ifB_dec (fun h => ?_) (fun h => ⟨rfl, by omega⟩)
    have := hR w1 b1
    rwa [fixP, if_neg (by omega)] at this
  · rintro _ w' ⟨rfl, hlt⟩
    refine hB.rT (n := 4) rfl ?_
    rw [hf4, bs_size, bs_byte]
    refine ⟨⟨by omega, by omega⟩, ?_⟩
    have := hR w' b1
    rwa [fixP, if_pos hlt] at this
theorem rest_spec (hf : FmIs f g) (hg : LOk g) {i : Nat} (hi : i ≤ 9223372036854775807) (hR : ∀ w', Below w.heap.size w w' → R (.int .u8 (restP g i : Int)) w') :
    callR Tryz.prog 225 #[fmA f, .int .i64 (i : Int)] w R := by
  refine callR.of (grammar_form_rest_calls f i R w ?_) fun _ _ h => h
  refine lay_of fun w1 hB b1 z1 => ?_
  have hB : Blk w1 w.heap.size 230 (fmV f) := hB
  have h1 := hg.fl
  have h2 := hg.rl
  have h3 := hg.ml
  refine hB.rT (n := 4) rfl ?_
  have hf4 := hf.fixed
  have hf5 := hf.rest
  have hf6 := hf.most
  rw [hf4, bs_size, wrap64_in (by omega) (by omega)]
  have hmul : g.most * g.rest.length ≤ 10000 := Nat.le_trans (Nat.mul_le_mul h3 h2) (by omega)
  refine JoinW.cut (fun _ w' => w' = w1 ∧ g.fixed.length ≤ i ∧ g.rest.length ≠ 0 ∧ ¬ (0 < g.most ∧ g.most * g.rest.length ≤ i - g.fixed.length)) ?_ ?_
  · refine ifB_dec (fun h => ?_) (fun h => ?_)
    · have := hR w1 b1
      rwa [restP, if_pos (by omega)] at this
    · have hge : ¬ i < g.fixed.length := by omega
      refine hB.rT (n := 5) rfl ?_
      rw [hf5, toList_nil]
      refine ifB_bool (fun e => ?_) (fun e => ?_)
      · have := hR w1 b1
        rwa [restP, if_neg hge, if_pos (by rw [List.isEmpty_iff] at e; rw [e]; rfl)] at this
      · have hne : g.rest.length ≠ 0 := by
          intro h
          rw [List.eq_nil_of_length_eq_zero h] at e
          cases e
        refine hB.rI (n := 6) rfl ?_
        rw [hf6]
        refine ifB_dec (fun hm => ?_) (fun hm => ⟨rfl, by omega, hne, by omega⟩)
        refine hB.rI (n := 6) rfl (hB.rT (n := 5) rfl ?_)
        rw [hf6, hf5, bs_size, ← Int.natCast_mul, wrap64_in (by omega) (by omega)]
        refine ifB_dec (fun hc => ?_) (fun hc => ⟨rfl, by omega, hne, by omega⟩)
        have := hR w1 b1
        rwa [restP, if_neg hge, if_neg hne, if_pos ⟨by omega, by omega⟩] at this
  · rintro _ w' ⟨rfl, hge, hne, hno⟩
    refine hB.drew.rT (n := 5) rfl (hB.drew.rT (n := 5) rfl ?_)
    rw [hf5, bs_size]
    refine ifB_dec (fun h => absurd h (by omega)) (fun _ => ?_)
    have e : Int.tmod ((i : Int) - (g.fixed.length : Int)) (g.rest.length : Int) = (((i - g.fixed.length) % g.rest.length : Nat) : Int) := by
      rw [show (i : Int) - (g.fixed.length : Int) = ((i - g.fixed.length : Nat) : Int) by omega]
      exact Int.ofNat_tmod _ _ |>.symm
    have hlt : (i - g.fixed.length) % g.rest.length < g.rest.length := Nat.mod_lt _ (by omega)
    rw [e, bs_byte]
    refine ⟨⟨by omega, by omega⟩, ?_⟩
    have := hR w'.drew b1.drew
    rwa [restP, if_neg (by omega), if_neg hne, if_neg hno] at this
theorem letter_spec (hf : FmIs f g) (hg : LOk g) {i : Nat} (hi : i ≤ 9223372036854775807) (hR : ∀ w', Below w.heap.size w w' → R (.int .u8 (letP g i : Int)) w') :
    callR Tryz.prog 170 #[fmA f, .int .i64 (i : Int)] w R := by
  refine callR.of (grammar_form_letter_calls f i R w ?_) fun _ _ h => h
  refine lay_of fun w1 hB b1 z1 => ?_
  have hB : Blk w1 w.heap.size 230 (fmV f) := hB
  refine ifB_dec (fun h => absurd h (by omega)) (fun _ => ?_)
  refine Fm.load hB (Fm.load hB ?_)
  refine lay_of fun w2 hF b2 z2 => ?_
  have b2' := b1.on b2
  refine LoopW.count 2 (by omega) (fun k w' => Below w.heap.size w w' ∧ Below w2.heap.size w2 w' ∧ (0 < k → fixP g i = 0) ∧ (1 < k → restP g i = 0)) ⟨b2', Below.refl _ _, fun h => by omega, fun h => by omega⟩ ?_
  rintro k w3 hk ⟨hb, hb2, hk1, hk2⟩ next hnext
  have hF3 := hF.below hb2
  have z3 := hb.size
  refine ifB_dec (fun h => ?_) (fun h => ?_)
  · refine ⟨⟨by omega, by omega⟩, ?_⟩
    match k, h, hk1, hk2, hnext with
    | 0, _, _, _, hnext =>
      refine ⟨_, hF3.cell (n := 0) rfl, ?_⟩
      show callR Tryz.prog 224 #[fmA f, .int .i64 (i : Int)] w3 _
      refine fixed_spec hf fun w4 b4 => ⟨_, rfl, ?_⟩
      refine ifB_bne (fun e => ?_) (fun e => ?_)
      · have := hR w4 (hb.on b4)
        rwa [letP_fix (by omega)] at this
      · exact hnext w4 (by omega) ⟨hb.on b4, hb2.on b4, fun _ => by omega, fun h => by omega⟩
    | 1, _, hk1, _, hnext =>
      refine ⟨_, hF3.cell (n := 1) rfl, ?_⟩
      show callR Tryz.prog 225 #[fmA f, .int .i64 (i : Int)] w3 _
      refine rest_spec hf hg hi fun w4 b4 => ⟨_, rfl, ?_⟩
      have hf0 := hk1 (by omega)
      refine ifB_bne (fun e => ?_) (fun e => ?_)
      · have := hR w4 (hb.on b4)
        rwa [letP_rest hg hf0] at this
      · exact hnext w4 (by omega) ⟨hb.on b4, hb2.on b4, fun _ => hf0, fun _ => by omega⟩
    | k + 2, h, _, _, _ => dsimp only at h; omega
  · have hk : 1 < k := by dsimp only at h; omega
    have := hR w3 hb
    rwa [letP_rest hg (hk1 (by omega)), hk2 hk] at this
end

theorem names_E (c : Int) (R : Value → World → Prop) (w : World) : L_grammar_names c R w = chain tabN c (fun s => R (.string (bs s)) w) (R (.string (bs [])) w) := by kernel_rfl
theorem Kind_spec {c : Int} {w : World} {R : Value → World → Prop} (hR : R (.int .u8 (kindP c)) w) : callR Tryz.prog 169 #[.int .u8 c] w R := by
  refine callR.of (grammar_Kind_calls c R w ?_) fun _ _ h => h
  unfold kindP at hR
  refine ifB_beq (fun e => by rwa [if_pos e] at hR) (fun e => ?_)
  rw [if_neg e] at hR
  refine ifB_beq (fun e => by rwa [if_pos e] at hR) (fun e => ?_)
  rw [if_neg e] at hR
  refine ifB_beq (fun e => by rwa [if_pos e] at hR) (fun e => ?_)
  rw [if_neg e] at hR
  refine callR.of (grammar_names_calls c _ w ?_) fun _ _ h => h
  rw [names_E]
  refine chain_of (fun s hs => ⟨_, rfl, ?_⟩) (fun hs => ⟨_, rfl, ?_⟩)
  · rw [toList_nil]
    have := List.all_eq_true.1 names_ne _ (look_mem hs)
    rw [hs] at hR
    exact ifB_true this hR
  · rw [toList_nil]
    rw [hs] at hR
    exact ifB_false rfl hR

theorem Fits_spec {op : Int} {s : Sl} {ks : List Int} {w : World} {R : Value → World → Prop} (hs : IsS (Value.int .u8) w s ks)
    (hR : ∀ w', Below w.heap.size w w' → R (.tuple #[.int .i64 ((fitP op ks).1 : Int), .bool (fitP op ks).2]) w') :
    callR Tryz.prog 134 #[.int .u16 op, .slice s.a s.l s.c] w R := by
  refine callR.of (grammar_Fits_calls op s R w ?_) fun _ _ h => h
  have hg := lOk (flOf_ok op)
  have hlen := hs.len
  have hmax := hs.bound
  refine gOf_spec fun w1 b1 => ⟨fmO op (frm op), (frm op).isSome, rfl, ?_⟩
  refine box_of (T := 178) (vs := fmV (fmO op (frm op))) rfl fun w2 hB b2 z2 => ?_
  refine ifB_bool (fun hn => ?_) (fun hn => ?_)
  · have hfr : frm op = none := by
      cases h : frm op with
      | none => rfl
      | some g => rw [h] at hn; cases hn
    rw [fitP_none hfr] at hR
    exact hR w2 (b1.on b2)
  · obtain ⟨g, hfr⟩ : ∃ g, frm op = some g := by
      cases h : frm op with
      | none => rw [h] at hn; cases hn
      | some g => exact ⟨g, rfl⟩
    rw [fitP_some hfr] at hR
    have efl : flOf op = g := by unfold flOf; rw [hfr]; rfl
    have hfm := fmIs op
    rw [efl] at hfm hg
    generalize fmO op (frm op) = fm at hB hfm
    refine Fm.load hB ?_
    refine box8 rfl fun w3 hC b3 z3 => ?_
    have hC : Blk w3 w2.heap.size 230 (fmV fm) := hC
    have b3' := (b1.on b2).on b3
    refine LoopW.count s.l (by omega) (fun k w' => Below w.heap.size w w' ∧ Below w3.heap.size w3 w' ∧ ∀ j, j < k → bad g ks j = false) ⟨b3', Below.refl _ _, fun j hj => by omega⟩ ?_
    rintro k w4 hk ⟨hb, hb3, hj⟩ next hnext
    have hC4 := hC.below hb3
    have hs4 := hs.below hb
    refine ifB_dec (fun h => ?_) (fun h => ?_)
    · have hlt : k < ks.length := by dsimp only at h; omega
      have hbadE : bad g ks k = (ks[k] == 0 || kindP (letP g k) != ks[k]) := by unfold bad; rw [getD_lt hlt]
      refine JoinW.cut (fun _ w' => Below w4.heap.size w4 w' ∧ bad g ks k = false) ?_ ?_
      · refine hs4.addr hlt fun a _ hc => ⟨_, hc, ?_⟩
        refine ifB_beq (fun e => ?_) (fun e => ?_)
        · have := hR w4 hb
          rwa [fit_bad hlt (by rw [hbadE, e]; rfl) hj] at this
        · refine Fm.load hC4 ?_
          refine letter_spec hfm hg (by omega) fun w5 b5 => ⟨_, rfl, ?_⟩
          refine Kind_spec ⟨_, rfl, ?_⟩
          refine ifB_bne (fun e2 => ?_) (fun e2 => ?_)
          · have := hR w5 (hb.on b5)
            rwa [fit_bad hlt (by rw [hbadE, bne_iff_ne.2 e2, Bool.or_true]) hj] at this
          · refine ⟨b5, ?_⟩
            rw [hbadE, e2]
            simpa using e
      · rintro _ w5 ⟨b5, hbk⟩
        refine hnext w5 (by omega) ⟨hb.on b5, hb3.on b5, fun j hj' => ?_⟩
        by_cases e : j = k
        · subst e; exact hbk
        · exact hj j (by omega)
    · have hk : k = ks.length := by dsimp only at h; omega
      subst hk
      have hfit := fit_good hj
      have hR' := hR w4 hb
      rw [show fitF g ks = _ from hfit] at hR'
      have h1 := hg.fl
      refine hC4.rT (n := 4) rfl ?_
      rw [hfm.fixed, bs_size, wrap64_in (by omega) (by omega), hlen]
      refine ifB_dec (fun hn => ?_) (fun hn => ?_)
      · rwa [if_pos (by unfold wrongLen; rw [decide_eq_true (by omega), Bool.true_or])] at hR'
      · have hge : ¬ ks.length < g.fixed.length := by omega
        refine hC4.rT (n := 5) rfl ?_
        rw [hfm.rest, toList_nil]
        refine ifB_bool (fun e => ?_) (fun e => ?_)
        · have hne : g.rest.length ≠ 0 := by
            intro h
            rw [List.eq_nil_of_length_eq_zero h] at e
            cases e
          refine hC4.rT (n := 5) rfl ?_
          rw [hfm.rest, bs_size]
          refine ifB_dec (fun h => absurd h (by omega)) (fun _ => ?_)
          have e3 : Int.tmod ((ks.length : Int) - (g.fixed.length : Int)) (g.rest.length : Int) = (((ks.length - g.fixed.length) % g.rest.length : Nat) : Int) := by
            rw [show (ks.length : Int) - (g.fixed.length : Int) = ((ks.length - g.fixed.length : Nat) : Int) by omega]
            exact Int.ofNat_tmod _ _ |>.symm
          rw [e3]
          refine ifB_bne (fun e4 => ?_) (fun e4 => ?_)
          · rwa [if_pos (by unfold wrongLen; rw [decide_eq_false hge, decide_eq_true hne, decide_eq_true (by omega)]; rfl)] at hR'
          · rwa [if_neg (by unfold wrongLen; rw [decide_eq_false hge, decide_eq_true hne, decide_eq_false (by omega)]; decide)] at hR'
        · have hz : g.rest.length = 0 := by
            have : g.rest.isEmpty = true := by simpa using e
            rw [List.isEmpty_iff] at this
            rw [this]
            rfl
          rwa [if_neg (by unfold wrongLen; rw [decide_eq_false hge, decide_eq_false (show ¬ g.rest.length ≠ 0 by omega), Bool.false_and]; decide)] at hR'

end Go.Proofs
namespace Go.Proofs
open Go.Gk Go.RowKit Go.Gm

end Go.Proofs
namespace Go.Gk
open Go.RowKit
theorem Blk.put {w : World} {b : Nat} {T : TypeId} {cs : List Value} (h : Blk w b T cs) {l : Nat} (hl : b ≠ l) (o : Obj) : Blk (w.putObj l o) b T cs := h.of_block (World.putObj_heap_other hl)
theorem _root_.Go.RowKit.Below.putObj {B : Nat} {w w' : World} (h : Below B w w') {b : Nat} (hb : B ≤ b) (o : Obj) : Below B w (w'.putObj b o) :=
  ⟨h.os, h.tape, h.output, by simpa using h.size, fun k hk => (World.putObj_heap_other (by omega)).trans (h.block k hk)⟩
/-- The two blocks that a range lays. -/
theorem laid_below (w : World) (o o' : Obj) : Below w.heap.size w ((w.alloc o).alloc o') := (((Below.refl _ _).alloc (Nat.le_refl _) o).alloc (by simp) o')
theorem laid_size (w : World) (o o' : Obj) : ((w.alloc o).alloc o').heap.size = w.heap.size + 2 := by simp
theorem laid_d (w : World) (o o' : Obj) : ((w.alloc o).alloc o').heap[w.heap.size]? = some o := (alloc_old (w.alloc o) o' (by simp)).trans (World.alloc_heap_new w o)
theorem laid_l (w : World) (o o' : Obj) : ((w.alloc o).alloc o').heap[w.heap.size + 1]? = some o' := by
  have := World.alloc_heap_new (w.alloc o) o'
  simpa using this
theorem closeM_one {d : Nat} {w : World} {k : World → Prop} (h : w.heap[d]? = some (.deferred (some []))) (hk : k (w.putObj d (.deferred none))) : closeM [d] w k := ⟨h, hk⟩
theorem callV.mono {P : Program} {fs : List Nat} {f : Value} {args : List Value} {w : World} {S T : Value → World → Prop} (h : callV P fs f args w S) (hk : ∀ v w', S v w' → T v w') : callV P fs f args w T := by
  revert h
  unfold callV
  split
  · split
    · exact fun h => callR.mono h hk
    · rintro ⟨v, w', h1, h2⟩
      exact ⟨v, w', h1, hk _ _ h2⟩
  · rintro ⟨r, h1, h2, h3⟩
    exact ⟨r, h1, h2, RoundIn.mono h3 fun e w' he => by cases e <;> first | exact hk _ _ he | exact he.elim⟩
  · exact id
end Go.Gk

namespace Go.Gk
open Go.RowKit Go.MapKept
variable {P : Program}

/-- What is at a key, and a key set. -/
def lookL : List (Int × Int) → Int → Option Int
  | [], _ => none
  | p :: r, k => if k = p.1 then some p.2 else lookL r k
def setL : List (Int × Int) → Int → Int → List (Int × Int)
  | [], k, v => [(k, v)]
  | p :: r, k, v => if k = p.1 then (k, v) :: r else p :: setL r k v
theorem lookL_set (k v k' : Int) : ∀ L, lookL (setL L k v) k' = if k' = k then some v else lookL L k'
  | [] => by simp only [setL, lookL]
  | p :: r => by
    have ih := lookL_set k v k' r
    simp only [setL]
    split
    · rename_i e
      simp only [lookL]
      split
      · rfl
      · rename_i e'
        rw [if_neg (by rw [← e]; exact e')]
    · rename_i e
      simp only [lookL]
      split
      · rename_i e'
        rw [if_neg (by rw [e']; exact fun h => e h.symm)]
      · exact ih
/-- The map at block r has the entries L, in this order. -/
def IsMp (w : World) (r : Nat) (κ : IntKind) (L : List (Int × Int)) : Prop :=
  ∃ es clock, w.heap[r]? = some (.map es clock) ∧ es.toList.map (fun e => (e.key, e.val)) = (L.map fun p => (Value.int .u32 p.1, Value.int κ p.2)) ∧ (∀ x ∈ es.toList, x.born < clock) ∧ (es.toList.map (·.born)).Nodup
theorem IsMp.lt {w : World} {r : Nat} {κ : IntKind} {L : List (Int × Int)} (h : IsMp w r κ L) : r < w.heap.size := by
  obtain ⟨es, c, h, _⟩ := h
  exact (Array.getElem?_eq_some_iff.1 h).1
theorem IsMp.of_block {w w' : World} {r : Nat} {κ : IntKind} {L : List (Int × Int)} (h : IsMp w r κ L) (hb : w'.heap[r]? = w.heap[r]?) : IsMp w' r κ L := by
  obtain ⟨es, c, h, h2⟩ := h
  exact ⟨es, c, hb.trans h, h2⟩
theorem IsMp.below {w w' : World} {r : Nat} {κ : IntKind} {L : List (Int × Int)} (h : IsMp w r κ L) (hb : Below w.heap.size w w') : IsMp w' r κ L := h.of_block (hb.block r h.lt)
theorem IsMp.drew {w : World} {r : Nat} {κ : IntKind} {L : List (Int × Int)} (h : IsMp w r κ L) : IsMp w.drew r κ L := h
theorem IsMp.new (w : World) (κ : IntKind) : IsMp (w.alloc (.map #[] 0)) w.heap.size κ [] := ⟨#[], 0, by show (w.heap.push _)[w.heap.size]? = _; simp, rfl, (by simp), by simp⟩
theorem findNow_of (κ : IntKind) (k : Int) : ∀ (es : List MapEntry) (L : List (Int × Int)) (i : Nat), es.map (fun e => (e.key, e.val)) = (L.map fun p => (Value.int .u32 p.1, Value.int κ p.2)) →
    ∃ o, Instr.findNow (.int .u32) (.int .u32 k) es i = some o ∧ (match o with
      | none => lookL L k = none
      | some (j, v) => ∃ m x, j = i + m ∧ m < es.length ∧ v = .int κ x ∧ lookL L k = some x ∧ ∃ e, es[m]? = some e ∧ e.key = .int .u32 k ∧ ∀ v', (es.modify m fun e => { e with key := .int .u32 k, val := .int κ v' }).map (fun e => (e.key, e.val)) = (setL L k v').map fun p => (Value.int .u32 p.1, Value.int κ p.2))
  | [], [], i, _ => ⟨none, rfl, rfl⟩
  | [], _ :: _, _, h => by simp at h
  | _ :: _, [], _, h => by simp at h
  | e :: es, p :: L, i, h => by
    simp only [List.map_cons, List.cons.injEq, Prod.mk.injEq] at h
    obtain ⟨⟨h1, h2⟩, h3⟩ := h
    unfold Instr.findNow
    rw [h1]
    simp only [Instr.sameNow, if_true]
    by_cases hk : k = p.1
    · rw [show (k == p.1) = true from beq_iff_eq.2 hk]
      refine ⟨some (i, e.val), rfl, 0, p.2, rfl, by simp, h2, by simp [lookL, hk], e, rfl, by rw [h1, hk], fun v' => ?_⟩
      simp [setL, hk, h3]
    · rw [show (k == p.1) = false from beq_eq_false_iff_ne.2 hk]
      obtain ⟨o, ho, hm⟩ := findNow_of κ k es L (i + 1) h3
      refine ⟨o, ho, ?_⟩
      cases o with
      | none => simpa [lookL, hk] using hm
      | some q =>
        obtain ⟨j, v⟩ := q
        obtain ⟨m, x, g1, g2, g3, g4, e', g5, g6, g7⟩ := hm
        refine ⟨m + 1, x, by omega, by simp; omega, g3, by simpa [lookL, hk] using g4, e', by simpa using g5, g6, fun v' => ?_⟩
        have := g7 v'
        simp [setL, hk, h1, h2, this]

theorem run_lookNow {t kt et : TypeId} (ht : P.underlying t = some (.map kt et)) (hk : P.underlying kt = some (.int .u32)) {κ : IntKind} (hz : ∃ i, P.info? et = some i ∧ i.zero = some (.int κ 0)) {w : World} {r : Nat} {L : List (Int × Int)} (h : IsMp w r κ L) (k : Int) (ok : Bool) :
    (Instr.lookup t (.map (some r)) (.int .u32 k) ok).run P w = .ok (if ok then .tuple #[.int κ ((lookL L k).getD 0), .bool (lookL L k).isSome] else .int κ ((lookL L k).getD 0)) w := by
  obtain ⟨es, c, hb, hes, _⟩ := h
  obtain ⟨i, hi, hzi⟩ := hz
  obtain ⟨o, ho, hm⟩ := findNow_of κ k es.toList L 0 hes
  unfold Instr.lookup
  have hck : ∀ e, (Instr.checkKey e 10000 kt (.int .u32 k)).run P w = .ok () w := fun e => run_checkKey (d := .int .u32) hk (by simp [IsKey]) e 9999
  have hg : (getObj r).run P w = .ok (.map es c) w := Go.MapKept.run_getObj_map hb
  simp only [Sem.run_bind, run_underlying ht, Result.andThen_ok, hg, Sem.run_pure, hck, run_findKey hk ho]
  cases o with
  | none =>
    have hzr : (zeroValue et).run P w = .ok (.int κ 0) w := by simp [zeroValue, typeInfo, hi, hzi, Result.andThen]
    have hm : lookL L k = none := hm
    simp only [Sem.run_bind, hzr, Result.andThen_ok, Sem.run_pure, hm, Option.getD_none, Option.isSome_none]
  | some q =>
    obtain ⟨j, v⟩ := q
    obtain ⟨m, x, g1, g2, g3, g4, _⟩ := hm
    simp only [Sem.run_bind, Sem.run_pure, Result.andThen_ok, g3, g4, Option.getD_some, Option.isSome_some]
theorem lookOk_of {t kt et : TypeId} (ht : P.underlying t = some (.map kt et)) (hk : P.underlying kt = some (.int .u32)) {κ : IntKind} (hz : ∃ i, P.info? et = some i ∧ i.zero = some (.int κ 0)) {w : World} {r : Nat} {L : List (Int × Int)} (h : IsMp w r κ L) {k : Int} {φ : Int → Bool → Prop}
    (hφ : φ ((lookL L k).getD 0) (lookL L k).isSome) : lookOk P t (.map (some r)) (.int .u32 k) (BK.int κ) w φ := ⟨(lookL L k).getD 0, (lookL L k).isSome, run_lookNow ht hk hz h k true, hφ⟩
theorem lookV_of {t kt et : TypeId} (ht : P.underlying t = some (.map kt et)) (hk : P.underlying kt = some (.int .u32)) {κ : IntKind} (hz : ∃ i, P.info? et = some i ∧ i.zero = some (.int κ 0)) {w : World} {r : Nat} {L : List (Int × Int)} (h : IsMp w r κ L) {k : Int} {φ : Int → Prop}
    (hφ : φ ((lookL L k).getD 0)) : lookV P t (.map (some r)) (.int .u32 k) (BK.int κ) w φ := ⟨(lookL L k).getD 0, run_lookNow ht hk hz h k false, hφ⟩
theorem updW_of {t kt et : TypeId} (ht : P.underlying t = some (.map kt et)) (hk : P.underlying kt = some (.int .u32)) {κ : IntKind} {w : World} {r : Nat} {L : List (Int × Int)} (h : IsMp w r κ L) {k v : Int} {K : World → Prop}
    (hK : ∀ w', IsMp w' r κ (setL L k v) → Go.Proofs.Chg r w w' → K w') : updW P t (.map (some r)) (.int .u32 k) (.int κ v) w K := by
  have hlt := h.lt
  obtain ⟨es, c, hb, hes, hstamp, hnd⟩ := h
  obtain ⟨o, ho, hm⟩ := findNow_of κ k es.toList L 0 hes
  have hck : ∀ e, (Instr.checkKey e 10000 kt (.int .u32 k)).run P w = .ok () w := fun e => run_checkKey (d := .int .u32) hk (by simp [IsKey]) e 9999
  have hg : (getObj r).run P w = .ok (.map es c) w := Go.MapKept.run_getObj_map hb
  have chg : ∀ ob : Obj, Go.Proofs.Chg r w { w with heap := w.heap.setIfInBounds r ob } := fun ob => ⟨rfl, rfl, rfl, by simp, fun i hi => by simp [Array.getElem?_setIfInBounds_ne (Ne.symm hi)]⟩
  unfold updW Instr.mapUpdate
  simp only [Sem.run_bind, run_underlying ht, Result.andThen_ok, hg, Sem.run_pure, hck, run_findKey hk ho]
  cases o with
  | none =>
    simp only [run_setObj_map _ hb]
    refine ⟨_, rfl, hK _ ⟨_, _, (heap_set hb).1, ?_, fun x hx => ?_, ?_⟩ (chg _)⟩
    rotate_left
    · rw [Array.toList_push] at hx
      rcases List.mem_append.1 hx with hx | hx
      · exact Nat.lt_succ_of_lt (hstamp x hx)
      · rw [List.mem_singleton.1 hx]
        exact Nat.lt_succ_self c
    · rw [Array.toList_push, List.map_append]
      refine List.nodup_append.2 ⟨hnd, by simp, ?_⟩
      intro a ha b hb e
      obtain ⟨x, hx, rfl⟩ := List.mem_map.1 ha
      simp only [List.map_cons, List.map_nil, List.mem_singleton] at hb
      have := hstamp x hx
      omega
    simp only [Array.toList_push, List.map_append, hes, List.map_cons, List.map_nil]
    have : ∀ L : List (Int × Int), lookL L k = none → setL L k v = L ++ [(k, v)] := by
      intro L
      induction L with
      | nil => intro _; rfl
      | cons p r ih =>
        intro hn
        simp only [lookL] at hn
        split at hn
        · cases hn
        · rename_i e
          simp only [setL]
          rw [if_neg e, ih hn]
          rfl
    rw [this L hm]
    simp
  | some q =>
    obtain ⟨j, v0⟩ := q
    obtain ⟨m, x, g1, g2, g3, g4, e, g5, g6, g7⟩ := hm
    have hj : j = m := by omega
    subst hj
    have hst : (Instr.keyThatStays (((es[j]?).map (·.key)).getD (.int .u32 k)) (.int .u32 k)).run P w = .ok (.int .u32 k) w := by
      have : ((es[j]?).map (·.key)).getD (.int .u32 k) = .int .u32 k := by
        rw [← Array.getElem?_toList, g5]
        exact g6
      rw [this]
      unfold Instr.keyThatStays
      rw [if_pos (by simp [Instr.sameBits])]
      rfl
    simp only [Sem.run_bind, hst, Result.andThen_ok, run_setObj_map _ hb]
    have hbn : (es.modify j fun e => { e with key := .int .u32 k, val := .int κ v }).toList.map (·.born) = es.toList.map (·.born) := by
      rw [Array.toList_modify]
      apply List.ext_getElem
      · simp
      · intro n q1 q2
        simp only [List.getElem_map, List.getElem_modify]
        split <;> rfl
    refine ⟨_, rfl, hK _ ⟨_, _, (heap_set hb).1, ?_, fun x hx => ?_, by rw [hbn]; exact hnd⟩ (chg _)⟩
    rotate_left
    · have : x.born ∈ es.toList.map (·.born) := by rw [← hbn]; exact List.mem_map.2 ⟨x, hx, rfl⟩
      obtain ⟨y, hy, e⟩ := List.mem_map.1 this
      rw [← e]
      exact hstamp y hy
    have := g7 v
    rw [← this]
    congr 1
    rw [Array.toList_modify]

end Go.Gk
