/-
  The author's own layer over the kit: what a function's code comes to, as a predicate over a frame of known slots ('lw'), and that it is sound ('lw_calls'). No program in sight.
-/
import Derived.WalkKit
import Derived.OrdersHeld
import Derived.Deep.RegionHeld
import Derived.RangeFuncIn
namespace Go.Gk

/-! ### Kinds of slots -/
inductive BK where
  | int (k : IntKind) | bool | slice | ptr | str | map | raw
inductive Kd where
  | b (k : BK) | agg (ks : List BK)

structure Sl where
  a : Option Addr
  l : Nat
  c : Nat
def Sl.v (s : Sl) : Value := .slice s.a s.l s.c

def BK.T : BK → Type
  | .int _ => Int | .bool => Bool | .slice => Sl | .ptr => Option Addr | .str => ByteArray | .map => Option Nat | .raw => Value
def BK.v : (b : BK) → b.T → Value
  | .int k, n => .int k n
  | .bool, b => .bool b
  | .slice, s => .slice s.a s.l s.c
  | .ptr, p => .pointer p
  | .str, s => .string s
  | .map, m => .map m
  | .raw, v => v
def BK.get : (b : BK) → Value → Option b.T
  | .int k, .int k' n => match decide (k = k') with | true => some n | false => none
  | .bool, .bool b => some b
  | .slice, .slice a l c => some ⟨a, l, c⟩
  | .ptr, .pointer p => some p
  | .str, .string s => some s
  | .map, .map m => some m
  | .raw, v => some v
  | _, _ => none
theorem BK.get_v {b : BK} {v : Value} {t : b.T} (h : b.get v = some t) : v = b.v t := by
  cases b <;> cases v <;> simp only [BK.get, reduceCtorEq] at h <;> (try cases h) <;> (try rfl)
  rename_i k k' n
  by_cases e : k = k'
  · subst e
    simp only [decide_true] at h
    cases h
    rfl
  · simp [e] at h

def HL : List BK → Type
  | [] => Unit
  | b :: r => b.T × HL r
def HL.cells : (ks : List BK) → HL ks → List Value
  | [], _ => []
  | b :: r, t => b.v t.1 :: HL.cells r t.2
def HL.get : (ks : List BK) → List Value → Option (HL ks)
  | [], [] => some ()
  | b :: r, v :: vs => match b.get v with
    | some t => match HL.get r vs with
      | some ts => some (t, ts)
      | none => none
    | none => none
  | _, _ => none
theorem HL.get_cells : ∀ {ks : List BK} {vs : List Value} {t : HL ks}, HL.get ks vs = some t → vs = HL.cells ks t
  | [], [], _, _ => rfl
  | [], _ :: _, _, h => by simp [HL.get] at h
  | _ :: _, [], _, h => by simp [HL.get] at h
  | b :: r, v :: vs, t, h => by
    simp only [HL.get] at h
    split at h
    · rename_i x hx
      split at h
      · rename_i ts hts
        cases h
        simp only [HL.cells]
        rw [← BK.get_v hx, ← HL.get_cells hts]
      · cases h
    · cases h

def Kd.T : Kd → Type
  | .b k => k.T
  | .agg ks => HL ks
def Kd.v : (κ : Kd) → κ.T → Value
  | .b k, t => k.v t
  | .agg ks, t => .agg (HL.cells ks t).toArray
def Kd.get : (κ : Kd) → Value → Option κ.T
  | .b k, v => k.get v
  | .agg ks, .agg cs => HL.get ks cs.toList
  | .agg _, _ => none
theorem Kd.get_v {κ : Kd} {v : Value} {t : κ.T} (h : κ.get v = some t) : v = κ.v t := by
  cases κ with
  | b k => exact BK.get_v h
  | agg ks =>
    cases v <;> simp only [Kd.get, reduceCtorEq] at h
    have := HL.get_cells h
    simp only [Kd.v, ← this]

/-! ### The kinds of a program's types -/
def bkOf (P : Program) (t : TypeId) : Option BK :=
  match P.underlying t with
  | some .bool => some .bool
  | some (.int k) => some (.int k)
  | some .string => some .str
  | some (.slice _) => some .slice
  | some (.pointer _) => some .ptr
  | some (.map _ _) => some .map
  | some (.func _ _ _) => some .raw
  | some (.interface _) => some .raw
  | _ => none
def allSome {α : Type} : List (Option α) → Option (List α)
  | [] => some []
  | none :: _ => none
  | some x :: r => match allSome r with
    | some l => some (x :: l)
    | none => none
def cellKs (P : Program) : Nat → TypeId → Option (List BK)
  | 0, _ => none
  | n + 1, t => match P.underlying t with
    | some (.struct fs) => match allSome (fs.toList.map fun f => cellKs P n f.type) with
      | some l => some l.flatten
      | none => none
    | some (.array k e) => match cellKs P n e with
      | some l => some (List.replicate k l).flatten
      | none => none
    | _ => match bkOf P t with
      | some b => some [b]
      | none => none
def kdOf (P : Program) (t : TypeId) : Option Kd :=
  match P.underlying t with
  | some (.struct _) | some (.array _ _) => match cellKs P 8 t with
    | some ks => match P.info? t with
      | some i => match Nat.beq ks.length i.size with
        | true => some (.agg ks)
        | false => none
      | none => none
    | none => none
  | _ => match bkOf P t with
    | some b => some (.b b)
    | none => none

/-! ### Frames of known slots -/
abbrev Env := Nat → Option Value
def Env.up (e : Env) (d : Nat) (v : Value) : Env := fun i => match Nat.beq i d with | true => some v | false => e i
def Env.upO (e : Env) (d : Option Nat) (v : Value) : Env := match d with | some d => e.up d v | none => e
def Env.ev (e : Env) : Operand → Option Value
  | .tmp t => e t
  | .const v => some v
  | .global g => some (.pointer (some ⟨g, 0, none⟩))
  | .func f => some (.func (.func f) #[] #[])
def Env.ρ (e : Env) (x : Operand) : Value := match e.ev x with | some v => v | none => undef

/-- The frame has n slots, D as its deferred calls, and holds what is known. -/
def Rep (D : List Deferred) (n : Nat) (a : Act) (e : Env) : Prop := a.tmps.size = n ∧ a.defers = D ∧ ∀ t v, e t = some v → a.tmps.getD t undef = v
variable {D : List Deferred}

theorem Env.up_same (e : Env) (d : Nat) (v : Value) : e.up d v d = some v := by simp [Env.up]
theorem Env.up_other (e : Env) {d t : Nat} (v : Value) (h : t ≠ d) : e.up d v t = e t := by
  unfold Env.up
  have : Nat.beq t d = false := by
    rw [← Bool.not_eq_true]; intro hh; exact h (Nat.eq_of_beq_eq_true hh)
  rw [this]
theorem getD_put {a : Act} {d : Nat} {v : Value} (h : d < a.tmps.size) : (a.put (some d) v).tmps.getD d undef = v := by
  simp [Act.put, h]
theorem getD_put_ne {a : Act} {d t : Nat} {v : Value} (h : t ≠ d) : (a.put (some d) v).tmps.getD t undef = a.tmps.getD t undef := by
  simp [Act.put, Array.getElem?_setIfInBounds_ne (Ne.symm h)]
theorem Rep.up {n : Nat} {a : Act} {e : Env} (h : Rep D n a e) {d : Nat} (hd : d < n) (v : Value) : Rep D n (a.put (some d) v) (e.up d v) := by
  obtain ⟨h1, h2, h3⟩ := h
  refine ⟨by simp [Act.put, h1], h2, fun t u hu => ?_⟩
  by_cases e' : t = d
  · subst e'
    rw [Env.up_same] at hu
    cases hu
    exact getD_put (by omega)
  · rw [Env.up_other _ _ e'] at hu
    rw [getD_put_ne e']
    exact h3 t u hu
theorem Rep.upO {n : Nat} {a : Act} {e : Env} (h : Rep D n a e) {d : Option Nat} (hd : ∀ x, d = some x → x < n) (v : Value) : Rep D n (a.put d v) (e.upO d v) := by
  cases d with
  | none => exact h
  | some d => exact h.up (hd d rfl) v
theorem Rep.ev {n : Nat} {a : Act} {e : Env} (h : Rep D n a e) {x : Operand} {v : Value} (hx : e.ev x = some v) : a.eval x = v := by
  cases x with
  | tmp t => exact h.2.2 t v hx
  | const v' => cases hx; rfl
  | global g => cases hx; rfl
  | func f => cases hx; rfl
theorem Rep.ρ {n : Nat} {a : Act} {e : Env} (h : Rep D n a e) {x : Operand} (hx : (e.ev x).isSome = true) : a.eval x = e.ρ x := by
  unfold Env.ρ
  cases hv : e.ev x with
  | none => simp [hv] at hx
  | some v => exact h.ev hv
/-- What is known is right: a Bool slot written out. -/
theorem Rep.refine {n : Nat} {a : Act} {e : Env} (h : Rep D n a e) {t : Nat} {v : Value} (ht : e t = some v) : Rep D n a (e.up t v) := by
  refine ⟨h.1, h.2.1, fun s u hu => ?_⟩
  by_cases e' : s = t
  · subst e'
    rw [Env.up_same] at hu
    cases hu
    exact h.2.2 _ _ ht
  · rw [Env.up_other _ _ e'] at hu
    exact h.2.2 _ _ hu

/-! ### What is asked at an operation -/
def ifB (b : Bool) (x y : Prop) : Prop := match b with | true => x | false => y
def derefP (p : Option Addr) (k : Addr → Prop) : Prop := match p with | some a => k a | none => False
def Wr (w : World) (a : Addr) : Prop := (∃ u, w.cell? a = some u) ∧ w.frozen? a = false
/-- The call returns, and what it returns and the world behind it meet S. -/
def Ret (S : Value → World → Prop) : Ending → World → Prop
  | .returned v, w => S v w
  | _, _ => False

/-- The run of a piece that reads no memory. -/
def pv {α : Type} (P : Program) : Sem α → Option α
  | .pure a => some a
  | .program k => pv P (k P)
  | .mark _ k => pv P k
  | _ => none
theorem pv_run {α : Type} {P : Program} : ∀ {s : Sem α} {x : α}, pv P s = some x → ∀ w, s.run P w = .ok x w := by
  intro s
  induction s with
  | pure a => intro x h w; simp only [pv, Option.some.injEq] at h; subst h; rfl
  | program k ih => intro x h w; exact ih P h w
  | mark m k ih => intro x h w; exact ih h w
  | _ => intro x h; simp [pv] at h

def ldCells (w : World) (a : Addr) : Nat → (ks : List BK) → (HL ks → Prop) → Prop
  | _, [], φ => φ ()
  | i, b :: r, φ => ∃ t : b.T, w.cell? (a.add i) = some (b.v t) ∧ ldCells w a (i + 1) r (fun ts => φ (t, ts))
def ldK (w : World) (a : Addr) : (κ : Kd) → (κ.T → Prop) → Prop
  | .b k, φ => ∃ t : k.T, w.cell? a = some (k.v t) ∧ φ t
  | .agg ks, φ => ldCells w a 0 ks φ
/-- A value of one cell. -/
def oneV (v : Value) (K : Prop) : Prop := match v with
  | .agg _ | .tuple _ => False
  | _ => K
def stCells (a : Addr) : Nat → List Value → World → (World → Prop) → Prop
  | _, [], w, k => k w
  | i, v :: r, w, k => oneV v (Wr w (a.add i) ∧ stCells a (i + 1) r (w.setCell (a.add i) v) k)

/-- Results of the kinds κs, as the call hands them back. -/
def resTup : (κs : List Kd) → List Value → Value → World → (Value → World → Prop) → Prop
  | [], acc, v, w, k => v = .tuple acc.reverse.toArray ∧ k (.tuple acc.reverse.toArray) w
  | κ :: r, acc, v, w, k => ∃ t : κ.T, resTup r (κ.v t :: acc) v w k
def resOne (κ : Kd) (v : Value) (w : World) (k : Value → World → Prop) : Prop := ∃ t : κ.T, v = κ.v t ∧ k (κ.v t) w
def resK (P : Program) (ty : TypeId) (v : Value) (w : World) (k : Value → World → Prop) : Prop :=
  match P.underlying ty with
  | some (.tuple ts) => match allSome (ts.toList.map (kdOf P)) with
    | some κs => resTup κs [] v w k
    | none => False
  | _ => match kdOf P ty with
    | some κ => resOne κ v w k
    | none => False

theorem resTup_sound {k : Value → World → Prop} : ∀ {κs : List Kd} {acc : List Value} {v : Value} {w : World}, resTup κs acc v w k → k v w
  | [], _, _, _, h => by obtain ⟨rfl, h⟩ := h; exact h
  | _ :: _, _, _, _, h => by obtain ⟨_, h⟩ := h; exact resTup_sound h
theorem resK_sound {P : Program} {ty : TypeId} {v : Value} {w : World} {k : Value → World → Prop} (h : resK P ty v w k) : k v w := by
  unfold resK at h
  split at h
  · split at h
    · exact resTup_sound h
    · exact h.elim
  · split at h
    · obtain ⟨t, rfl, h⟩ := h; exact h
    · exact h.elim

/-- The head of a block. -/
abbrev blk (b : Nat) : Addr := ⟨b, 0, none⟩
def callR (P : Program) (f : Nat) (args : Array Value) (w : World) (S : Value → World → Prop) : Prop := Calls P f args w (Ret S)
def Nw (w : World) (k : World → Prop) : Prop := k w
def ldI (w : World) (a : Addr) (κ : IntKind) (φ : Int → Prop) : Prop := ∃ t : Int, w.cell? a = some (.int κ t) ∧ φ t
def ldB (w : World) (a : Addr) (φ : Bool → Prop) : Prop := ∃ t : Bool, w.cell? a = some (.bool t) ∧ φ t
def ldS (w : World) (a : Addr) (φ : Sl → Prop) : Prop := ∃ t : Sl, w.cell? a = some (.slice t.a t.l t.c) ∧ φ t
def ldP (w : World) (a : Addr) (φ : Option Addr → Prop) : Prop := ∃ t : Option Addr, w.cell? a = some (.pointer t) ∧ φ t
def ldStr (w : World) (a : Addr) (φ : ByteArray → Prop) : Prop := ∃ t : ByteArray, w.cell? a = some (.string t) ∧ φ t
def ldM (w : World) (a : Addr) (φ : Option Nat → Prop) : Prop := ∃ t : Option Nat, w.cell? a = some (.map t) ∧ φ t
def ldR (w : World) (a : Addr) (φ : Value → Prop) : Prop := ∃ t : Value, w.cell? a = some t ∧ φ t
/-- yield's call, of the range over a function whose record lies at block l: one round. -/
def yieldC (P : Program) (l : Nat) (args : Array Value) (w : World) (S : Value → World → Prop) : Prop :=
  ∃ r : Loop, w.heap[l]? = some (.loop r) ∧ args.size = r.params.size ∧
    RoundIn Fence.wide 0 P l r.fn ((r.params.zip args).foldl (fun tmps (t, a) => tmps.setIfInBounds t a) r.tmps) r.assign r.body w (Ret S)
/-- A call of a function that the machine itself carries out. -/
def extR (P : Program) (f : Nat) (args : Array Value) (w : World) (S : Value → World → Prop) : Prop := ∃ (v : Value) (w' : World), (callFunc f args).run P w = .ok (.value v) w' ∧ S v w'
def callV (P : Program) (fs : List Nat) (f : Value) (args : List Value) (w : World) (S : Value → World → Prop) : Prop :=
  match f with
  | .func (.func n) first captured => match fs.contains n with
    | true => Calls P n (first.toList ++ (args ++ captured.toList)).toArray w (Ret S)
    | false => extR P n (first.toList ++ (args ++ captured.toList)).toArray w S
  | .func (.yield l) first _ => yieldC P l (first.toList ++ args).toArray w S
  | _ => False
/-- append at one slice type. -/
def appendW (P : Program) (t : TypeId) (s x : Value) (w : World) (k : Value → World → Prop) : Prop :=
  ∃ (r : Sl) (w' : World), (Builtin.append_ #[t, t] t #[s, x]).run P w = .ok r.v w' ∧ k (.slice r.a r.l r.c) w'

def appendS (P : Program) (t : TypeId) (s x : Value) (w : World) (k : Sl → World → Prop) : Prop :=
  ∃ (r : Sl) (w' : World), (Builtin.append_ #[t, t] t #[s, x]).run P w = .ok r.v w' ∧ k r w'
/-- copy(d, s). -/
def copyW (P : Program) (ats : Array TypeId) (d s : Value) (w : World) (k : Value → World → Prop) : Prop :=
  ∃ (n : Int) (w' : World), (Builtin.copy_ ats 0 #[d, s]).run P w = .ok (.int .i64 n) w' ∧ k (.int .i64 n) w'
/-- clear(s). -/
def clearW (P : Program) (ats : Array TypeId) (s : Value) (w : World) (k : Value → World → Prop) : Prop :=
  ∃ w' : World, (Builtin.clear_ ats 0 #[s]).run P w = .ok (.tuple #[]) w' ∧ k (.tuple #[]) w'
def clearS (P : Program) (ats : Array TypeId) (s : Value) (w : World) (k : World → Prop) : Prop :=
  ∃ w' : World, (Builtin.clear_ ats 0 #[s]).run P w = .ok (.tuple #[]) w' ∧ k w'
def copyS (P : Program) (ats : Array TypeId) (d s : Value) (w : World) (k : Int → World → Prop) : Prop :=
  ∃ (n : Int) (w' : World), (Builtin.copy_ ats 0 #[d, s]).run P w = .ok (.int .i64 n) w' ∧ k n w'
def stA (v : Value) (n : Nat) (p : Option Addr) (w : World) (k : World → Prop) : Prop :=
  match Nat.beq v.cells.size n with
  | true => derefP p fun a => stCells a 0 v.cells.toList w k
  | false => False
def stB (v : Value) (n : Nat) (p : Option Addr) (w : World) (k : World → Prop) : Prop :=
  match Nat.beq 1 n with
  | true => derefP p fun a => stCells a 0 [v] w k
  | false => False
/-- A value put at an address: its cells, or itself where it is one. -/
def stW (v : Value) (n : Nat) (p : Option Addr) (w : World) (k : World → Prop) : Prop :=
  match v with
  | .agg vs => stA (.agg vs) n p w k
  | .tuple vs => stA (.tuple vs) n p w k
  | v => stB v n p w k

/-- A comparison with nil. -/
def nilTest (P : Program) (t : TypeId) (x y : Value) : Option Bool :=
  match P.underlying t with
  | some (.pointer _) => match x, y with
    | .pointer p, .pointer none => some p.isNone
    | _, _ => none
  | some (.slice _) => match x, y with
    | .slice a _ _, .slice none _ _ => some a.isNone
    | _, _ => none
  | some (.map _ _) => match x, y with
    | .map m, .map none => some m.isNone
    | _, _ => none
  | _ => none
/-- A comparison of two arrays of two numbers. -/
def pairTest (P : Program) (t : TypeId) (x y : Value) : Option Bool :=
  match P.underlying t, x, y with
  | some (.array 2 e), .agg xs, .agg ys => match P.underlying e, P.info? e, xs.toList, ys.toList with
    | some (.int _), some i, [.int k a, .int k' b], [.int q c, .int q' d] => match Nat.beq i.size 1 && (decide (k = q) && (decide (k' = q') && !(P.eqGuardType P.depth t))) with
      | true => some (a == c && b == d)
      | false => none
    | _, _, _, _ => none
  | _, _, _ => none
/-- Two structs of numbers and texts, field by field. -/
def fieldsTest (P : Program) : Nat → List Field → List Value → List Value → Option Bool
  | _, [], [], [] => some true
  | j, f :: fs, .int k a :: xs, .int q c :: ys => match P.underlying f.type with
    | some (.int _) => match Nat.beq f.offset j && (decide (k = q) && !decide (f.name = "_")) with
      | true => match fieldsTest P (j + 1) fs xs ys with
        | some r => some (a == c && r)
        | none => none
      | false => none
    | _ => none
  | j, f :: fs, .string a :: xs, .string c :: ys => match P.underlying f.type with
    | some .string => match Nat.beq f.offset j && !decide (f.name = "_") with
      | true => match fieldsTest P (j + 1) fs xs ys with
        | some r => some (a == c && r)
        | none => none
      | false => none
    | _ => none
  | _, _, _, _ => none
def structTest (P : Program) (t : TypeId) (x y : Value) : Option Bool :=
  match P.underlying t, x, y with
  | some (.struct fs), .agg xs, .agg ys => match !(P.eqGuardType P.depth t) && !(P.stoodInHeld t) with
    | true => fieldsTest P 0 fs.toList xs.toList ys.toList
    | false => none
  | _, _, _ => none
def aggTest (P : Program) (t : TypeId) (x y : Value) : Option Bool :=
  match pairTest P t x y with
  | some b => some b
  | none => structTest P t x y
/-- An element of an array that is a value: one case for each index. -/
def elemA (P : Program) (e : TypeId) (z : Nat) (cs : Array Value) (j : Nat) (k : Value → Prop) : Prop :=
  match P.underlying e with
  | some (.struct _) => k (.agg (cs.extract (j * z) (j * z + z)))
  | some (.array _ _) => k (.agg (cs.extract (j * z) (j * z + z)))
  | some (.int _) | some .bool | some .string => match cs[j * z]? with
    | some v => k v
    | none => False
  | _ => False
def idxC (P : Program) (e : TypeId) (z : Nat) (cs : Array Value) (n : Int) (k : Value → Prop) : Nat → Nat → Prop
  | _, 0 => True
  | j, 1 => n = (j : Int) → elemA P e z cs j k
  | j, m + 2 => (n = (j : Int) → elemA P e z cs j k) ∧ idxC P e z cs n k (j + 1) (m + 1)
def funcNil (v : Value) (k : Bool → Prop) : Prop := match v with | .nilFunc => k true | .func _ _ _ => k false | _ => False
def isFuncT (P : Program) (t : TypeId) : Bool := match P.underlying t with | some (.func _ _ _) => true | _ => false
def isNilF (v : Value) : Bool := match v with | .nilFunc => true | _ => false
def mulN (n z : Nat) : Nat := match z with | 1 => n | z => n * z
def szK (P : Program) (e : TypeId) (k : Nat → Prop) : Prop := match P.info? e with | some i => k i.size | none => False
/-- A byte of a text. -/
def byteI (s : ByteArray) (n : Int) : Int := ((s.data.getD n.toNat 0).toNat : Int)
/-- What stands in the texts' iterator at block r: the next rune, or that there is none. -/
def setIter (w : World) (r : Nat) (s : ByteArray) (p : Nat) : World := { w with heap := w.heap.setIfInBounds r (.stringIter s p) }
def nextW (r : Nat) (w : World) (A : Int → Int → World → Prop) (B : Prop) : Prop :=
  ∃ (s : ByteArray) (p : Nat), w.heap[r]? = some (.stringIter s p) ∧ (p < s.size → A (p : Int) ((Utf8.decode s p).1 : Int) (setIter w r s (p + (Utf8.decode s p).2))) ∧ (¬ p < s.size → B)
def sumFits (a b : ByteArray) : Prop := ((a.size + b.size : Nat) : Int) ≤ 9223372036854775807
/-- The operations that write nothing: the value, or what is asked for there to be one. -/
def ruleQ (P : Program) (o : Oper) (ρ : Operand → Value) (k : Value → Prop) : Prop :=
  match o.op with
  | .nilCheck x => match ρ x with
    | .pointer p => derefP p fun a => k (.pointer (some a))
    | .func (.func f) first captured => k (.func (.func f) first captured)
    | _ => False
  | .fieldAddr t x f => match ρ x with
    | .pointer p => derefP p fun a => match pv P (Instr.fieldAt t (.pointer (some a)) f) with
      | some v => k v
      | none => False
    | _ => False
  | .indexAddr t x i => match P.underlying t, ρ x, ρ i with
    | some (.slice e), .slice a l _, .int _ n => szK P e fun z => (0 ≤ n ∧ n < (l : Int)) ∧ derefP a fun ad => k (.pointer (some (ad.add (mulN n.toNat z))))
    | some (.array len e), .pointer (some ad), .int _ n => szK P e fun z => (0 ≤ n ∧ n < (len : Int)) ∧ k (.pointer (some (ad.add (mulN n.toNat z))))
    | _, _, _ => False
  | .index t x i => match P.underlying t, ρ x, ρ i with
    | some (.array len e), .agg cs, .int _ n => szK P e fun z => (0 ≤ n ∧ n < (len : Int)) ∧ idxC P e z cs n k 0 len
    | some .string, .string s, .int _ n => (0 ≤ n ∧ n < (s.size : Int)) ∧ k (.int .u8 (byteI s n))
    | _, _, _ => False
  | .binOp .add t x y yt => match ρ x, ρ y with
    | .string a, .string b => sumFits a b ∧ k (.string (a ++ b))
    | _, _ => match pv P (execOp ρ o) with
      | some (.value v) => k v
      | _ => False
  | .binOp .quo _ x y _ => match ρ x, ρ y with
    | .int κ a, .int κ' b => match decide (κ = κ') with
      | true => ifB (decide (b = 0)) False (k (.int κ (κ.wrap (a.tdiv b))))
      | false => False
    | _, _ => False
  | .binOp .rem _ x y _ => match ρ x, ρ y with
    | .int κ a, .int κ' b => match decide (κ = κ') with
      | true => ifB (decide (b = 0)) False (k (.int κ (a.tmod b)))
      | false => False
    | _, _ => False
  | .binOp .shl _ x y _ => match ρ x, ρ y with
    | .int κ a, .int _ b => ifB (decide (b < 0)) False (k (.int κ (κ.wrap (a * 2 ^ (min b.toNat κ.bits)))))
    | _, _ => False
  | .binOp .shr _ x y _ => match ρ x, ρ y with
    | .int κ a, .int _ b => ifB (decide (b < 0)) False (k (.int κ (a.fdiv (2 ^ (min b.toNat κ.bits)))))
    | _, _ => False
  | .binOp .eql t x y _ => match isFuncT P t with
    | true => match isNilF (ρ y) with
      | true => funcNil (ρ x) fun b => k (.bool b)
      | false => False
    | false => match nilTest P t (ρ x) (ρ y) with
      | some b => k (.bool b)
      | none => match aggTest P t (ρ x) (ρ y) with
        | some b => k (.bool b)
        | none => match pv P (execOp ρ o) with
          | some (.value v) => k v
          | _ => False
  | .binOp .neq t x y _ => match isFuncT P t with
    | true => match isNilF (ρ y) with
      | true => funcNil (ρ x) fun b => k (.bool !b)
      | false => False
    | false => match nilTest P t (ρ x) (ρ y) with
      | some b => k (.bool !b)
      | none => match aggTest P t (ρ x) (ρ y) with
        | some b => k (.bool !b)
        | none => match pv P (execOp ρ o) with
          | some (.value v) => k v
          | _ => False
  | .slice t x lo hi none => match P.underlying t, ρ x with
    | some (.slice e), .slice a l c =>
      match (match lo with | none => Value.int .i64 0 | some o => ρ o), (match hi with | none => Value.int .i64 l | some o => ρ o) with
      | .int _ i, .int _ j => szK P e fun z => (0 ≤ i ∧ i ≤ j ∧ j ≤ (c : Int)) ∧ k (.slice (if c = i.toNat then a else a.map (·.add (mulN i.toNat z))) (j.toNat - i.toNat) (c - i.toNat))
      | _, _ => False
    | _, _ => False
  | _ => match pv P (execOp ρ o) with
    | some (.value v) => k v
    | _ => False

def opQuiet : Op → Bool
  | .move _ | .assign _ | .nilCheck _ | .binOp .. | .unOp .. | .convert .. | .fieldAddr .. | .field .. | .indexAddr .. | .index .. | .extract .. | .makeFunc .. | .makeInterface .. | .build .. | .slice .. => true
  | .call { callee := .builtin .len, .. } | .call { callee := .builtin .cap, .. } | .call { callee := .builtin .min, .. } | .call { callee := .builtin .max, .. } => true
  | _ => false

/-- A look into a map: the value and whether it is there; the value alone. -/
def lookOk (P : Program) (t : TypeId) (m x : Value) (κ : BK) (w : World) (φ : κ.T → Bool → Prop) : Prop := ∃ (v : κ.T) (b : Bool), (Instr.lookup t m x true).run P w = .ok (.tuple #[κ.v v, .bool b]) w ∧ φ v b
def lookV (P : Program) (t : TypeId) (m x : Value) (κ : BK) (w : World) (φ : κ.T → Prop) : Prop := ∃ v : κ.T, (Instr.lookup t m x false).run P w = .ok (κ.v v) w ∧ φ v
/-- A map's entry set. -/
def updW (P : Program) (t : TypeId) (m x y : Value) (w : World) (k : World → Prop) : Prop := ∃ w', (Instr.mapUpdate t m x y).run P w = .ok () w' ∧ k w'
/-- A range over a map: the iterator; the step; the entry that the step handed out. -/
def rngW (P : Program) (t : TypeId) (x : Value) (w : World) (k : World → Prop) : Prop := ∃ w', (Instr.range t x).run P w = .ok (.pointer (some ⟨w.heap.size, 0, none⟩)) w' ∧ k w'
def nxtM (P : Program) (it : Value) (ty : TypeId) (w : World) (A : Value → Value → World → Prop) (B : World → Prop) : Prop :=
  (∃ (x y : Value) (w' : World), (Instr.next it false ty).run P w = .ok (.tuple #[.bool true, x, y]) w' ∧ A x y w') ∨ (∃ w', (Instr.next it false ty).run P w = .ok (.tuple #[.bool false]) w' ∧ B w')
def entW (P : Program) (it : Value) (κ1 κ2 : BK) (w : World) (φ : κ1.T → κ2.T → Prop) : Prop := ∃ (x : κ1.T) (y : κ2.T), (Instr.entry it).run P w = .ok (.tuple #[κ1.v x, κ2.v y]) w ∧ φ x y
def ruleW (P : Program) (fs : List Nat) (o : Oper) (ρ : Operand → Value) (w : World) (k : Value → World → Prop) : Prop :=
  match o.op with
  | .load t x => match ρ x with
    | .pointer p => match kdOf P t with
      | some κ => derefP p fun a => ldK w a κ fun v => k (κ.v v) w
      | none => False
    | _ => False
  | .store t x y => match ρ x with
    | .pointer p => match P.info? t with
      | some i => stW (ρ y) i.size p w fun w' => k undef w'
      | none => False
    | _ => False
  | .makeSlice t l c => match P.underlying t, ρ l, ρ c with
    | some (.slice e), .int _ n, .int _ m => match P.info? e with
      | some i => match i.zero with
        | some z => (0 ≤ n ∧ n ≤ m ∧ i.bytes * m ≤ 281474976710656 ∧ m ≤ 9223372036854775807) ∧ k (.slice (some ⟨w.heap.size, 0, none⟩) n.toNat m.toNat) (w.alloc (.cells (madeCells z.cells (m.toNat * i.size)) e))
        | none => False
      | none => False
    | _, _, _ => False
  | .call { callee := .value f, args, .. } => callV P fs (ρ f) (args.toList.map ρ) w fun v w' => resK P o.type v w' k
  | .call { callee := .builtin .append, args, argTypes } => match args.toList, argTypes.toList with
    | [s, x], [t, t'] => match Nat.beq t t' with
      | true => appendW P t (ρ s) (ρ x) w k
      | false => False
    | _, _ => False
  | .call { callee := .builtin .copy, args, argTypes } => match args.toList with
    | [d, s] => copyW P argTypes (ρ d) (ρ s) w k
    | _ => False
  | .call { callee := .builtin .clear, args, argTypes } => match args.toList with
    | [s] => clearW P argTypes (ρ s) w k
    | _ => False
  | .next it b => match b with
    | true => match ρ it with
      | .pointer (some ⟨r, 0, _⟩) => nextW r w (fun i c w' => k (.tuple #[.bool true, .int .i64 i, .int .i32 c]) w') (k (.tuple #[.bool false]) w)
      | _ => False
    | false => nxtM P (ρ it) o.type w (fun x y w' => k (.tuple #[.bool true, x, y]) w') (fun w' => k (.tuple #[.bool false]) w')
  | .lookup t m x ok => match P.underlying t with
    | some (.map _ e) => match kdOf P e with
      | some (.b κ) => match ok with
        | true => lookOk P t (ρ m) (ρ x) κ w fun v b => k (.tuple #[κ.v v, .bool b]) w
        | false => lookV P t (ρ m) (ρ x) κ w fun v => k (κ.v v) w
      | _ => False
    | _ => False
  | .mapUpdate t m x y => updW P t (ρ m) (ρ x) (ρ y) w fun w' => k undef w'
  | .insert t m x y => updW P t (ρ m) (ρ x) (ρ y) w fun w' => k undef w'
  | .range t x => match P.underlying t with
    | some (.map _ _) => rngW P t (ρ x) w fun w' => k (.pointer (some ⟨w.heap.size, 0, none⟩)) w'
    | _ => match (execOp ρ o).run P w with
      | .ok (.value v) w' => k v w'
      | _ => False
  | .alloc _ | .box _ _ | .buildSlice _ _ _ | .makeMap _ _ => match (execOp ρ o).run P w with
    | .ok (.value v) w' => k v w'
    | _ => False
  | _ => False

/-- One operation over the frame. -/
def opArgs : Op → List Operand
  | .alloc _ => []
  | .move x | .assign x | .box _ x | .load _ x | .nilCheck x | .unOp _ _ x | .convert _ _ x | .makeInterface _ x | .fieldAddr _ x _ | .field _ x _ | .extract x _ => [x]
  | .build _ ps | .buildSlice _ _ ps => ps.toList.map (·.2)
  | .store _ a v | .binOp _ _ a v _ | .makeSlice _ a v | .indexAddr _ a v | .index _ a v => [a, v]
  | .makeFunc _ first captured => first.toList ++ captured.toList
  | .makeMap _ r => r.toList
  | .slice _ x l h m => x :: (l.toList ++ (h.toList ++ m.toList))
  | .mapUpdate _ m k v | .insert _ m k v => [m, k, v]
  | .call c => (match c.callee with | .value f => [f] | .invoke r _ => [r] | .builtin _ => []) ++ c.args.toList
  | op => op.operands.toList
def opsKnown (e : Env) (l : List Operand) : Bool := l.all fun x => (e.ev x).isSome
def lwOp (P : Program) (fs : List Nat) (o : Oper) (e : Env) (w : World) (k : Value → World → Prop) : Prop :=
  match o.op with
  | .move x | .assign x => match e.ev x with | some v => k v w | none => False
  | .pick c x y => match e.ev c with
    | some (.bool b) => ifB b (match e.ev x with | some v => k v w | none => False) (match e.ev y with | some v => k v w | none => False)
    | _ => False
  | .select _ _ => False
  | op => match opsKnown e (opArgs op) with
    | true => match opQuiet op with
      | true => ruleQ P o e.ρ fun v => k v w
      | false => ruleW P fs o e.ρ w k
    | false => False

/-- The slot of the operation that guards. -/
def guardSlot (ops : Array Oper) (j : Nat) : Option Nat := match ops[j]? with | some o => o.dst | none => none
def guardW (ops : Array Oper) (o : Oper) (e : Env) (run skip : Env → Prop) : Prop :=
  match o.guard with
  | none => run e
  | some (j, want) => match guardSlot ops j with
    | none => False
    | some t => match e t with
      | some (.bool b) => ifB b (match want with | true => run (e.up t (.bool true)) | false => skip (e.up t (.bool true))) (match want with | true => skip (e.up t (.bool false)) | false => run (e.up t (.bool false)))
      | some (.tuple _) => skip e
      | _ => False

/-- The types that are read off an entry, further on in the region. -/
def extTy (d j : Nat) : List Oper → Option TypeId
  | [] => none
  | o :: r => match o.op with
    | .extract (.tmp t) i => match Nat.beq t d && Nat.beq i j with
      | true => some o.type
      | false => extTy d j r
    | _ => extTy d j r
def entKs (P : Program) (o : Oper) (r : List Oper) : Option (Operand × BK × BK) := match o.op, o.dst with
  | .entry it, some d => match extTy d 0 r, extTy d 1 r with
    | some t1, some t2 => match kdOf P t1, kdOf P t2 with
      | some (.b κ1), some (.b κ2) => some (it, κ1, κ2)
      | _, _ => none
    | _, _ => none
  | _, _ => none
/-- The length of a map reads the world. -/
def lenKs (P : Program) (o : Oper) : Option (TypeId × Operand) := match o.op with
  | .call { callee := .builtin .len, args, argTypes } => match args.toList, argTypes.toList with
    | [x], [t] => match P.underlying t with
      | some (.map _ _) => some (t, x)
      | _ => none
    | _, _ => none
  | _ => none
def lenW (P : Program) (t : TypeId) (x : Value) (w : World) (φ : Int → Prop) : Prop := ∃ n : Int, (Builtin.len_ #[t] 0 #[x]).run P w = .ok (.int .i64 n) w ∧ φ n
def lwOpE (P : Program) (fs : List Nat) (o : Oper) (r : List Oper) (e : Env) (w : World) (k : Value → World → Prop) : Prop := match entKs P o r with
  | some (it, κ1, κ2) => match e.ev it with
    | some v => entW P v κ1 κ2 w fun x y => k (.tuple #[κ1.v x, κ2.v y]) w
    | none => False
  | none => match lenKs P o with
    | some (t, x) => match e.ev x with
      | some v => lenW P t v w fun n => k (.int .i64 n) w
      | none => False
    | none => lwOp P fs o e w k
def lwOps (P : Program) (fs : List Nat) (ops : Array Oper) : List Oper → Env → World → (Env → World → Prop) → Prop
  | [], e, w, k => k e w
  | o :: r, e, w, k => guardW ops o e (fun e => lwOpE P fs o r e w fun v w' => lwOps P fs ops r (e.upO o.dst v) w' k) (fun e => lwOps P fs ops r (e.upO o.dst undef) w k)

/-! ### A region that draws its order -/
/-- What the loads that were taken first have read: the load's number, the cell, what it held. -/
abbrev HeldL := List (Nat × Addr × Value)
def heldCells (n : Nat) (a : Addr) : Nat → List Value → HeldL
  | _, [] => []
  | i, v :: r => (n, a.add i, v) :: heldCells n a (i + 1) r
def heldOf (P : Program) (n : Nat) (o : Oper) (e : Env) (v : Value) : HeldL :=
  match o.op with
  | .load t x => match e.ρ x with
    | .pointer (some a) => match kdOf P t with
      | some (.agg _) => heldCells n a 0 v.cells.toList
      | _ => [(n, a, v)]
    | _ => []
  | _ => []
def opTaken : Op → Bool
  | .load _ _ | .pick _ _ _ => true
  | op => opQuiet op
def AllP : List Nat → (Nat → Prop) → Prop
  | [], _ => True
  | [i], p => p i
  | i :: r, p => p i ∧ AllP r p
def takeable (ops : Array Oper) (listed : Array Bool) (i : Nat) : Bool :=
  match ops[i]? with
  | some o => match opTaken o.op with
    | true => Region.free .any ops listed i
    | false => false
  | none => false
/-- The operations that wait, straight or through others, for one of acc. -/
def depsGo : Nat → List Oper → List Nat → List Nat
  | _, [], acc => acc
  | i, o :: r, acc => match o.after.toList.any (fun e => Region.binds .any e && acc.contains e.on) with
    | true => depsGo (i + 1) r (i :: acc)
    | false => depsGo (i + 1) r acc
/-- Is the operation one that is not taken first? -/
def loud (ops : Array Oper) (i : Nat) : Bool := match ops[i]? with | some o => !opTaken o.op | none => false
/-- Has one that waits for the load L, and is not taken first, been carried out? Then L has been, too. -/
def voided (ops : Array Oper) (listed : Array Bool) (L : Nat) : Bool := (depsGo 0 ops.toList [L]).any fun j => loud ops j && listed.getD j false
def HeldG (ops : Array Oper) (listed : Array Bool) : HeldL → World → Prop → Prop
  | [], _, k => k
  | (L, a, v) :: r, w, k => match voided ops listed L with
    | true => HeldG ops listed r w k
    | false => w.cell? a = some v ∧ HeldG ops listed r w k
def lwDraw (P : Program) (fs : List Nat) (ops : Array Oper) : Nat → Array Bool → HeldL → Env → World → (Env → World → Prop) → Prop
  | 0, listed, _, e, w, k => match Region.ready .any ops listed with
    | [] => k e w
    | _ => False
  | n + 1, listed, S, e, w, k => match Region.ready .any ops listed with
    | [] => k e w
    | i0 :: rs => match (i0 :: rs).find? (takeable ops listed) with
      | some i => match ops[i]? with
        | none => False
        | some o => guardW ops o e (fun e => lwOp P fs o e w fun v _ => lwDraw P fs ops n (listed.setIfInBounds i true) (heldOf P i o e v ++ S) (e.upO o.dst v) w k)
            (fun e => lwDraw P fs ops n (listed.setIfInBounds i true) S (e.upO o.dst undef) w k)
      | none => AllP (i0 :: rs) fun i => match ops[i]? with
        | none => False
        | some o => guardW ops o e (fun e => lwOp P fs o e w fun v w' => HeldG ops (listed.setIfInBounds i true) S w' (lwDraw P fs ops n (listed.setIfInBounds i true) S (e.upO o.dst v) w' k))
            (fun e => lwDraw P fs ops n (listed.setIfInBounds i true) S (e.upO o.dst undef) w k)

/-! ### Code -/
def wr : Code → List Nat
  | .region _ ops _ => ops.toList.filterMap (·.dst)
  | .seq a b => wr a ++ wr b
  | .cond _ a b => wr a ++ wr b
  | .block _ a => wr a
  | .loop a => wr a
  | .scope a => wr a
  | _ => []
/-- What a loop or a meeting of ways carries: the slots that stay known, and those that it writes, with their kinds. -/
structure Sig where
  keep : List Nat
  sg : List (Nat × Kd)
inductive Ann where
  | nil
  | seq (j : Option Sig) (a b : Ann)
  | cond (a b : Ann)
  | one (a : Ann)
  | loop (s : Sig) (a : Ann)
def St : List (Nat × Kd) → Type
  | [] => Unit
  | p :: r => p.2.T × St r
def getSt : (sg : List (Nat × Kd)) → Env → Option (St sg)
  | [], _ => some ()
  | p :: r, e => match e p.1 with
    | none => none
    | some v => match p.2.get v with
      | none => none
      | some t => match getSt r e with
        | none => none
        | some ts => some (t, ts)
def putSt : (sg : List (Nat × Kd)) → St sg → Env → Env
  | [], _, e => e
  | p :: r, s, e => putSt r s.2 (e.up p.1 (p.2.v s.1))
def keepE (l : List Nat) (e : Env) : Env := fun i => match l.contains i with | true => e i | false => none
def keepOk (l ws : List Nat) : Bool := l.all fun i => !ws.contains i

def LoopW {S : Type} (body : S → World → (S → World → Prop) → Prop) (s : S) (w : World) : Prop :=
  ∃ (I : S → World → Prop) (μ : S → World → Nat), I s w ∧ ∀ s w, I s w → body s w (fun s' w' => I s' w' ∧ μ s' w' < μ s w)
def JoinW {S : Type} (f : (S → World → Prop) → Prop) (k : S → World → Prop) : Prop :=
  ∃ M : S → World → Prop, f M ∧ ∀ s w, M s w → k s w
def seqK (next : Env → World → Prop) (K : Exit → Env → World → Prop) : Exit → Env → World → Prop
  | .normal, e, w => next e w
  | x, e, w => K x e w
def blockK (id : Nat) (K : Exit → Env → World → Prop) : Exit → Env → World → Prop
  | .exit j, e, w => match Nat.beq j id with
    | true => K .normal e w
    | false => K (.exit j) e w
  | x, e, w => K x e w

def scopeK (K : Exit → Env → World → Prop) : Exit → Env → World → Prop
  | .goto _, _, _ => False
  | x, e, w => K x e w
def noDefer (ops : Array Oper) : Bool := ops.toList.all fun o => match o.op with | .defer _ => false | _ => true
def lw (P : Program) (fs : List Nat) : Code → Ann → Env → World → (Exit → Env → World → Prop) → Prop
  | .skip, _, e, w, K => K .normal e w
  | .label _, _, e, w, K => K .normal e w
  | .ret, _, e, w, K => K .ret e w
  | .exit id, _, e, w, K => K (.exit id) e w
  | .goto l, _, e, w, K => K (.goto l) e w
  | .region _ ops draw, _, e, w, K => match draw with
    | false => lwOps P fs ops ops.toList e w fun e w => K .normal e w
    | true => match Region.noSelect ops && noDefer ops with
      | true => lwDraw P fs ops ops.size (Array.replicate ops.size false) [] e w.drew fun e w => K .normal e w
      | false => False
  | .seq a b, .seq none aa ab, e, w, K => lw P fs a aa e w (seqK (fun e w => lw P fs b ab e w K) K)
  | .seq a b, .seq (some j) aa ab, e, w, K => match keepOk j.keep (wr a) with
    | true => JoinW (fun M => lw P fs a aa e w (seqK (fun e w => match getSt j.sg e with | some s => M s w | none => False) K))
        (fun s w => lw P fs b ab (putSt j.sg s (keepE j.keep e)) w K)
    | false => False
  | .cond c a b, .cond aa ab, e, w, K => match e.ev c with
    | some (.bool t) => ifB t (lw P fs a aa e w K) (lw P fs b ab e w K)
    | _ => False
  | .block id a, .one aa, e, w, K => lw P fs a aa e w (blockK id K)
  | .scope a, .one aa, e, w, K => lw P fs a aa e w (scopeK K)
  | .loop a, .loop j aa, e, w, K => match keepOk j.keep (wr a) with
    | true => match getSt j.sg e with
      | some s => LoopW (fun s w next => lw P fs a aa (putSt j.sg s (keepE j.keep e)) w (seqK (fun e w => match getSt j.sg e with | some s => next s w | none => False) K)) s w
      | none => False
    | false => False
  | _, _, _, _, _ => False

/-- What a function hands back. -/
def resV (P : Program) (e : Env) (w : World) : List ResultVar → List Value → (List Value → Prop) → Prop
  | [], acc, k => k acc.reverse
  | .tmp t :: r, acc, k => match e t with
    | some v => resV P e w r (v :: acc) k
    | none => False
  | .cell t ty :: r, acc, k => match e t with
    | some (.pointer p) => match kdOf P ty with
      | some κ => derefP p fun a => ldK w a κ fun x => resV P e w r (κ.v x :: acc) k
      | none => False
    | _ => False
def oneOrTuple : List Value → Value
  | [v] => v
  | l => .tuple l.toArray
def retK (P : Program) (rs : List ResultVar) (R : Value → World → Prop) : Exit → Env → World → Prop
  | .normal, e, w | .ret, e, w => resV P e w rs [] fun l => R (oneOrTuple l) w
  | _, _, _ => False
def argsE : List Value → Nat → Env
  | [], _ => fun _ => none
  | v :: r, i => (argsE r (i + 1)).up i v
/-- What a function's code comes to. -/
def lwFn (P : Program) (fs : List Nat) (fn : Func) (an : Ann) (args : List Value) (w : World) (R : Value → World → Prop) : Prop :=
  match fn.body with
  | some c => lw P fs c an (argsE args 0) w (retK P fn.results.toList R)
  | none => False

/-! ### Soundness -/
def callOK (P : Program) (f : FuncId) : Prop := ∀ args w, (callFunc f args).run P w = .ok (.enter f args) w
def AllOK (P : Program) : List Nat → Prop
  | [] => True
  | f :: r => callOK P f ∧ AllOK P r
theorem AllOK.get {P : Program} : ∀ {fs : List Nat}, AllOK P fs → ∀ {f : Nat}, fs.contains f = true → callOK P f
  | [], _, f, h => by simp at h
  | g :: r, ⟨h1, h2⟩, f, h => by
    simp only [List.contains_cons, Bool.or_eq_true, beq_iff_eq] at h
    rcases h with rfl | h
    · exact h1
    · exact AllOK.get h2 h

end Go.Gk
