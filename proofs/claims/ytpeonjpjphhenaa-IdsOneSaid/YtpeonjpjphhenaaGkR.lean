/-
  The layer's ranges over functions: 'lwR' (what code comes to, with the marks that such ranges leave among the deferred calls), and that it is sound ('lwR_calls').
-/
import Derived.Test.YtpeonjpjphhenaaGkS
namespace Go.Gk
variable {P : Program}

/-! ### Ways out of a round -/
inductive Jmp where
  | ret | exit (id : Nat)
def Jmp.code : Jmp → Code
  | .ret => .ret
  | .exit i => .exit i
def Jmp.x : Jmp → Exit
  | .ret => .ret
  | .exit i => .exit i
def Jmp.same : Jmp → Jmp → Bool
  | .ret, .ret => true
  | .exit i, .exit j => Nat.beq i j
  | _, _ => false
def hasRF : Code → Bool
  | .rangeFunc _ _ _ _ => true
  | .seq a b => hasRF a || hasRF b
  | .cond _ a b => hasRF a || hasRF b
  | .block _ a => hasRF a
  | .loop a => hasRF a
  | .scope a => hasRF a
  | _ => false
def addJ (j : Jmp) (l : List Jmp) : List Jmp := match l.any j.same with | true => l | false => l ++ [j]
def exitsOf : Code → List Jmp → List Jmp
  | .ret, l => addJ .ret l
  | .exit i, l => addJ (.exit i) l
  | .seq a b, l => exitsOf b (exitsOf a l)
  | .cond _ a b, l => exitsOf b (exitsOf a l)
  | .block _ a, l => exitsOf a l
  | .loop a, l => exitsOf a l
  | .scope a, l => exitsOf a l
  | _, l => l
/-- Blocks that the code holds itself. -/
def blocksOf : Code → List Nat
  | .seq a b => blocksOf a ++ blocksOf b
  | .cond _ a b => blocksOf a ++ blocksOf b
  | .block i a => i :: blocksOf a
  | .loop a => blocksOf a
  | .scope a => blocksOf a
  | _ => []
def outOf (ids : List Nat) : Jmp → Bool
  | .ret => true
  | .exit i => !ids.contains i
/-- The ways out of a range's body, but its end. -/
def jmpsOf (c : Code) : List Jmp := (exitsOf c []).filter (outOf (blocksOf c))

/-! ### The range -/
abbrev Mk := LoopState → Option Code → Obj
def roundEnd (mk : Mk) (l : Nat) (S : Value → World → Prop) : Exit → World → Prop
  | .normal, w => w.heap[l]? = some (mk .busy none) ∧ S (.bool true) (w.putObj l (mk .ready none))
  | .ret, w => w.heap[l]? = some (mk .busy none) ∧ S (.bool false) (w.putObj l (mk .done (some .ret)))
  | .exit id, w => w.heap[l]? = some (mk .busy none) ∧ S (.bool false) (w.putObj l (mk .done (some (.exit id))))
  | _, _ => False
def rangeOut (mk : Mk) (l : Nat) (st : LoopState) (j : Option Code) (w : World) (k : World → Prop) : Prop := w.heap[l]? = some (mk st j) ∧ k (w.putObj l (mk .exhausted j))
def rangeOuts (mk : Mk) (l : Nat) (w : World) (k : Exit → World → Prop) : List Jmp → Prop
  | [] => False
  | [j] => rangeOut mk l .done (some j.code) w (k j.x)
  | j :: r => rangeOut mk l .done (some j.code) w (k j.x) ∨ rangeOuts mk l w k r
def rangeEnd (mk : Mk) (l : Nat) (w : World) (k : Exit → World → Prop) (js : List Jmp) : Prop :=
  match js with
  | [] => rangeOut mk l .ready none w (k .normal)
  | _ => rangeOut mk l .ready none w (k .normal) ∨ rangeOuts mk l w k js
def callF (P : Program) (fs : List Nat) (g : Value) (args : List Value) (w : World) (S : Value → World → Prop) : Prop :=
  match g with
  | .func (.func n) first captured => match fs.contains n with
    | true => Calls P n (first.toList ++ (args ++ captured.toList)).toArray w (Ret S)
    | false => False
  | _ => False
/-- 'for t := range g': two blocks are laid, for the rounds' deferred calls and the loop's record; g is called with yield, of which only this is known: at a record that is ready it runs a round. -/
def RangeW (P : Program) (fs : List Nat) (g : Value) (w : World) {T : Type} (vals : T → List Value) (round : Mk → Nat → T → World → (Value → World → Prop) → Prop) (fin : Mk → Nat → Nat → World → Prop) : Prop :=
  ∀ mk : Mk, (∀ t w' S, w'.heap[w.heap.size + 1]? = some (mk .ready none) → round mk (w.heap.size + 1) t w' S → yieldC P (w.heap.size + 1) (vals t).toArray w' S) →
    callF P fs g [.func (.yield (w.heap.size + 1)) #[] #[]] ((w.alloc (.deferred (some []))).alloc (mk .ready none)) fun _ w3 => fin mk (w.heap.size + 1) w.heap.size w3
def valsSt : (sg : List (Nat × Kd)) → St sg → List Value
  | [], _ => []
  | p :: r, s => p.2.v s.1 :: valsSt r s.2
def sameNats : List Nat → List Nat → Bool
  | [], [] => true
  | a :: r, b :: s => Nat.beq a b && sameNats r s
  | _, _ => false
def assignK (mk : Mk) (l : Nat) (k : Env → World → Prop) : Exit → Env → World → Prop
  | .normal, e, w => w.heap[l]? = some (mk .ready none) ∧ k e (w.putObj l (mk .busy none))
  | _, _, _ => False
def seqKR (next : Env → List Nat → World → Prop) (K : Exit → Env → List Nat → World → Prop) : Exit → Env → List Nat → World → Prop
  | .normal, e, ms, w => next e ms w
  | x, e, ms, w => K x e ms w
def blockKR (id : Nat) (K : Exit → Env → List Nat → World → Prop) : Exit → Env → List Nat → World → Prop
  | .exit j, e, ms, w => match Nat.beq j id with
    | true => K .normal e ms w
    | false => K (.exit j) e ms w
  | x, e, ms, w => K x e ms w

def lwR (P : Program) (fs : List Nat) : Code → Ann → Env → List Nat → World → (Exit → Env → List Nat → World → Prop) → Prop
  | .seq a b, an, e, ms, w, K => match an with
    | .seq none aa ab => lwR P fs a aa e ms w (seqKR (fun e ms w => lwR P fs b ab e ms w K) K)
    | .seq (some j) aa ab => match keepOk j.keep (wr a) with
      | true => match hasRF a with
        | false => JoinW (fun M => lw P fs a aa e w (seqK (fun e w => match getSt j.sg e with | some s => M s w | none => False) (fun x e w => K x e ms w)))
            (fun s w => lwR P fs b ab (putSt j.sg s (keepE j.keep e)) ms w K)
        | true => JoinW (S := St j.sg × List Nat) (fun M => lwR P fs a aa e ms w (seqKR (fun e ms w => match getSt j.sg e with | some s => M (s, ms) w | none => False) K))
            (fun s w => lwR P fs b ab (putSt j.sg s.1 (keepE j.keep e)) s.2 w K)
      | false => False
    | _ => False
  | .cond c a b, an, e, ms, w, K => match an with
    | .cond aa ab => match e.ev c with
      | some (.bool t) => ifB t (lwR P fs a aa e ms w K) (lwR P fs b ab e ms w K)
      | _ => False
    | _ => False
  | .block id a, an, e, ms, w, K => match an with
    | .one aa => lwR P fs a aa e ms w (blockKR id K)
    | _ => False
  | .loop a, an, e, ms, w, K => match hasRF a with
    | false => lw P fs (.loop a) an e w (fun x e w => K x e ms w)
    | true => match an with
      | .loop j aa => match keepOk j.keep (wr a) with
        | true => match getSt j.sg e with
          | some s => LoopW (S := St j.sg × List Nat) (fun s w next => lwR P fs a aa (putSt j.sg s.1 (keepE j.keep e)) s.2 w (seqKR (fun e ms w => match getSt j.sg e with | some s => next (s, ms) w | none => False) K)) (s, ms) w
          | none => False
        | false => False
      | _ => False
  | .rangeFunc g ps assign body, an, e, ms, w, K => match an with
    | .loop j (.seq _ aa ab) => match e.ev g with
      | some gv => match sameNats ps.toList (j.sg.map (·.1)) with
        | true => RangeW P fs gv w (valsSt j.sg) (fun mk l s w' S => lw P fs assign aa (putSt j.sg s e) w' (assignK mk l fun e w => lw P fs body ab e w fun x _ w => roundEnd mk l S x w))
            (fun mk l d w3 => rangeEnd mk l w3 (fun x w => K x e (d :: ms) w) (jmpsOf body))
        | false => False
      | none => False
    | _ => False
  | c, an, e, ms, w, K => lw P fs c an e w (fun x e w => K x e ms w)

/-- The marks' blocks are shut, one by one. -/
def closeM : List Nat → World → (World → Prop) → Prop
  | [], w, k => k w
  | d :: r, w, k => w.heap[d]? = some (.deferred (some [])) ∧ closeM r (w.putObj d (.deferred none)) k
def retKR (P : Program) (rs : List ResultVar) (R : Value → World → Prop) : Exit → Env → List Nat → World → Prop
  | .normal, e, ms, w | .ret, e, ms, w => closeM ms w fun w => resV P e w rs [] fun l => R (oneOrTuple l) w
  | _, _, _, _ => False
def lwRFn (P : Program) (fs : List Nat) (fn : Func) (an : Ann) (args : List Value) (w : World) (R : Value → World → Prop) : Prop :=
  match fn.body with
  | some c => lwR P fs c an (argsE args 0) [] w (retKR P fn.results.toList R)
  | none => False

/-! ### Soundness -/
def marksD (l : List Nat) : List Deferred := l.map fun d => { target := .collected d, args := #[] }
def wrA : Code → List Nat
  | .region _ ops _ => ops.toList.filterMap (·.dst)
  | .seq a b => wrA a ++ wrA b
  | .cond _ a b => wrA a ++ wrA b
  | .block _ a => wrA a
  | .loop a => wrA a
  | .scope a => wrA a
  | .rangeFunc _ ps assign body => ps.toList ++ (wr assign ++ wr body)
  | _ => []
theorem wr_sub : ∀ (c : Code) (d : Nat), d ∈ wr c → d ∈ wrA c := by
  intro c
  induction c with
  | seq a b iha ihb =>
    intro d h
    simp only [wr, wrA, List.mem_append] at h ⊢
    exact h.imp (iha d) (ihb d)
  | cond c a b iha ihb =>
    intro d h
    simp only [wr, wrA, List.mem_append] at h ⊢
    exact h.imp (iha d) (ihb d)
  | block i a ih => intro d h; exact ih d h
  | loop a ih => intro d h; exact ih d h
  | scope a ih => intro d h; exact ih d h
  | region i ops dr => intro d h; exact h
  | _ => intro d h; simp [wr] at h
def CQR (n : Nat) (ws : List Nat) (a0 : Act) (K : Exit → Env → List Nat → World → Prop) : Exit → Act → World → Prop :=
  fun x a w => ∃ e ms, Rep (marksD ms) n a e ∧ Same ws a0 a ∧ K x e ms w
theorem CQ_CQR {n : Nat} {ws : List Nat} {a0 : Act} {ms : List Nat} {K : Exit → Env → List Nat → World → Prop} :
    ∀ (x : Exit) (a : Act) (w : World), CQ (marksD ms) n ws a0 (fun x e w => K x e ms w) x a w → CQR n ws a0 K x a w := by
  rintro x a w ⟨e, h1, h2, h3⟩
  exact ⟨e, ms, h1, h2, h3⟩
theorem Rep.marks {D D' : List Deferred} {n : Nat} {a a' : Act} {e : Env} (h : Rep D n a e) (ht : a'.tmps = a.tmps) (hd : a'.defers = D') : Rep D' n a' e :=
  ⟨by rw [ht]; exact h.1, hd, by rw [ht]; exact h.2.2⟩
theorem rep_round {n : Nat} : ∀ {sg : List (Nat × Kd)} (s : St sg) {t : Array Value} {e : Env}, Rep [] n { tmps := t, defers := [] } e → (∀ p ∈ sg, p.1 < n) →
    Rep [] n { tmps := ((sg.map (·.1)).zip (valsSt sg s)).foldl (fun t x => t.setIfInBounds x.1 x.2) t, defers := [] } (putSt sg s e)
  | [], _, _, _, h, _ => h
  | p :: r, s, t, e, h, hp => by
    have h1 := h.up (hp p (List.mem_cons_self ..)) (p.2.v s.1)
    exact rep_round (sg := r) s.2 (t := t.setIfInBounds p.1 (p.2.v s.1)) h1 fun q hq => hp q (List.mem_cons_of_mem _ hq)
theorem length_valsSt : ∀ (sg : List (Nat × Kd)) (s : St sg), (valsSt sg s).length = sg.length
  | [], _ => rfl
  | _ :: r, s => by simp [valsSt, length_valsSt r s.2]
theorem sameNats_spec : ∀ {a b : List Nat}, sameNats a b = true → a = b
  | [], [], _ => rfl
  | [], _ :: _, h => by simp [sameNats] at h
  | _ :: _, [], h => by simp [sameNats] at h
  | a :: r, b :: s, h => by
    simp only [sameNats, Bool.and_eq_true] at h
    rw [Nat.eq_of_beq_eq_true h.1, sameNats_spec h.2]
theorem rangeOuts_spec {mk : Mk} {l : Nat} {w : World} {k : Exit → World → Prop} : ∀ {js : List Jmp}, rangeOuts mk l w k js → ∃ j : Jmp, rangeOut mk l .done (some j.code) w (k j.x)
  | [], h => h.elim
  | [j], h => ⟨j, h⟩
  | j :: _ :: _, h => by
    rcases h with h | h
    · exact ⟨j, h⟩
    · exact rangeOuts_spec h
theorem rangeEnd_spec {mk : Mk} {l : Nat} {w : World} {k : Exit → World → Prop} {js : List Jmp} (h : rangeEnd mk l w k js) :
    rangeOut mk l .ready none w (k .normal) ∨ ∃ j : Jmp, rangeOut mk l .done (some j.code) w (k j.x) := by
  unfold rangeEnd at h
  split at h
  · exact .inl h
  · exact h.imp id rangeOuts_spec
theorem closeM_leaves {fn : Func} {tmps : Array Value} {R : Ending → World → Prop} {F : Fence} {k : World → Prop} (hk : ∀ w, k w → LeavesInM F 0 P fn tmps R [] .returning w) :
    ∀ {ms : List Nat} {w : World}, closeM ms w k → LeavesInM F 0 P fn tmps R (marksD ms) .returning w
  | [], _, h => hk _ h
  | d :: r, w, h => ⟨by simp, .inl ⟨d, _, rfl, run_takeDeferred h.1, closeM_leaves hk h.2⟩⟩

theorem range_sound {fs : List Nat} (hfs : AllOK P fs) (hm : P.follows .mixedOrders = true) {n : Nat} {g : Operand} {ps : Array Tmp} {assign body : Code} {j : Sig} {aa ab : Ann} {e : Env} {ms : List Nat} {w : World}
    {K : Exit → Env → List Nat → World → Prop} {a : Act} {gv : Value} {js : List Jmp} (hd : ∀ d, d ∈ wrA (.rangeFunc g ps assign body) → d < n) (hr : Rep (marksD ms) n a e) (hg : e.ev g = some gv) (hps : ps.toList = j.sg.map (·.1))
    (h : RangeW P fs gv w (valsSt j.sg) (fun mk l s w' S => lw P fs assign aa (putSt j.sg s e) w' (assignK mk l fun e w => lw P fs body ab e w fun x _ w => roundEnd mk l S x w))
            (fun mk l d w3 => rangeEnd mk l w3 (fun x w => K x e (d :: ms) w) js)) :
    (Code.rangeFunc g ps assign body).wpIn (Wf none) 0 P (CQR n (wr (.rangeFunc g ps assign body)) a K) a w := by
  refine wpIn_rangeFunc fun fn _ => ?_
  let rc : Loop := { state := .ready, pending := none, fn, tmps := a.tmps, params := ps, assign, body, defers := w.heap.size }
  let mk : Mk := fun st p => .loop { rc with state := st, pending := p }
  have hmk : ∀ st p, mk st p = .loop { rc with state := st, pending := p } := fun _ _ => rfl
  have hcall := h mk ?_
  · unfold callF at hcall
    split at hcall
    · rename_i f first captured
      split at hcall
      · rename_i hf
        have hc := hfs.get hf
        refine ⟨w.heap.size + 1, [{ target := .collected w.heap.size, args := #[] }], (w.alloc (.deferred (some []))).alloc (mk .ready none), { target := .fn (.func f) captured, args := first ++ #[.func (.yield (w.heap.size + 1)) #[] #[]] }, (w.alloc (.deferred (some []))).alloc (mk .ready none), f, (first.toList ++ ([Value.func (.yield (w.heap.size + 1)) #[] #[]] ++ captured.toList)).toArray, (w.alloc (.deferred (some []))).alloc (mk .ready none), run_enterLoop_outer fn a.tmps ps assign body, ?_, fun _ _ => trivial, ?_, fun h => (by cases h), ?_⟩
        · simp [resolve, hr.ev hg, Deferred.ofValue]
          rfl
        · simp only [invoke]
          rw [hc]
          congr 2
          apply Array.ext'
          simp
        · refine CallsIn.mono (callsW (ro := none) hcall) fun x w3 hx => ?_
          cases x with
          | returned v =>
            have hx' : rangeEnd mk (w.heap.size + 1) w3 (fun x w' => K x e (w.heap.size :: ms) w') js := hx
            rcases rangeEnd_spec hx' with ⟨h1, h2⟩ | ⟨jj, h1, h2⟩
            · exact ⟨none, _, run_endLoop h1 (by simp), e, w.heap.size :: ms, hr.marks rfl (by simp [marksD, hr.2.1]), Same.refl _ _, h2⟩
            · refine ⟨some jj.code, _, run_endLoop h1 (by simp), ?_⟩
              have hq : CQR n (wr (.rangeFunc g ps assign body)) a K jj.x { a with defers := [{ target := .collected w.heap.size, args := #[] }] ++ a.defers } (w3.putObj (w.heap.size + 1) (mk .exhausted (some jj.code))) :=
                ⟨e, w.heap.size :: ms, hr.marks rfl (by simp [marksD, hr.2.1]), Same.refl _ _, h2⟩
              cases jj with
              | ret => exact wpIn_ret hq
              | exit i => exact wpIn_exit hq
          | panicked c => exact hx.elim
          | outgrown => exact hx.elim
      · exact hcall.elim
    · exact hcall.elim
  · intro t w' S hl hround
    refine ⟨rc, hl, by simp [length_valsSt, rc, ← Array.length_toList, hps], ?_⟩
    have e1 : (rc.params.zip (valsSt j.sg t).toArray).foldl (fun tmps (t, a) => tmps.setIfInBounds t a) rc.tmps = ((j.sg.map (·.1)).zip (valsSt j.sg t)).foldl (fun t x => t.setIfInBounds x.1 x.2) a.tmps := by
      rw [← Array.foldl_toList, Array.toList_zip, hps]
    rw [e1]
    have hr0 : Rep [] n { tmps := a.tmps, defers := [] } e := hr.marks rfl rfl
    have hr1 := rep_round t hr0 (fun p hp => hd _ (List.mem_append_left _ (by rw [hps]; exact List.mem_map_of_mem hp)))
    refine roundIn_of_wpIn trivial ?_
    refine Code.wpIn_mono (F := Wf (some (w.heap.size + 1))) ?_ (lw_sound (ro := some (w.heap.size + 1)) hfs hm assign aa _ w' _ _ (fun d hh => hd d (List.mem_append_right _ (List.mem_append_left _ hh))) hr1 hround)
    rintro x a1 w1 ⟨e1, hr2, _, hk⟩
    cases x with
    | normal =>
      obtain ⟨hl1, hk⟩ := hk
      refine ⟨_, run_beginRound hl1 rfl, ?_⟩
      refine Code.wpIn_mono (F := Wf (some (w.heap.size + 1))) ?_ (lw_sound (ro := some (w.heap.size + 1)) hfs hm body ab _ _ _ _ (fun d hh => hd d (List.mem_append_right _ (List.mem_append_right _ hh))) hr2 hk)
      rintro x a2 w2 ⟨_, _, _, hx⟩
      cases x with
      | normal => exact ⟨_, _, run_endRound _ hx.1, hx.2⟩
      | ret => exact ⟨_, _, run_endRound _ hx.1, hx.2⟩
      | exit id => exact ⟨_, _, run_endRound _ hx.1, hx.2⟩
      | _ => exact (hx : False).elim
    | _ => exact (hk : False).elim

theorem lwR_sound {fs : List Nat} (hfs : AllOK P fs) (hm : P.follows .mixedOrders = true) {n : Nat} :
    ∀ (c : Code) (an : Ann) (e : Env) (ms : List Nat) (w : World) (K : Exit → Env → List Nat → World → Prop) (a : Act), (∀ d, d ∈ wrA c → d < n) → Rep (marksD ms) n a e → lwR P fs c an e ms w K → c.wpIn (Wf none) 0 P (CQR n (wr c) a K) a w := by
  intro c
  have flat : ∀ (c : Code) (an : Ann) (e : Env) (ms : List Nat) (w : World) (K : Exit → Env → List Nat → World → Prop) (a : Act), (∀ d, d ∈ wrA c → d < n) → Rep (marksD ms) n a e → lw P fs c an e w (fun x e w => K x e ms w) → c.wpIn (Wf none) 0 P (CQR n (wr c) a K) a w :=
    fun c an e ms w K a hd hr h => Code.wpIn_mono CQ_CQR (lw_sound (ro := none) hfs hm c an e w _ a (fun d hh => hd d (wr_sub c d hh)) hr h)
  induction c with
  | seq x y ihx ihy =>
    intro an e ms w K a hd hr h
    have hdx : ∀ d, d ∈ wrA x → d < n := fun d hh => hd d (List.mem_append_left _ hh)
    have hdy : ∀ d, d ∈ wrA y → d < n := fun d hh => hd d (List.mem_append_right _ hh)
    have left : ∀ {a a' : Act}, Same (wr x) a a' → Same (wr (.seq x y)) a a' := fun h => h.mono fun t ht => List.mem_append_left _ ht
    have right : ∀ {a a' : Act}, Same (wr y) a a' → Same (wr (.seq x y)) a a' := fun h => h.mono fun t ht => List.mem_append_right _ ht
    simp only [lwR] at h
    split at h
    · rename_i aa ab
      refine wpIn_seq (Code.wpIn_mono ?_ (ihx aa e ms w _ a hdx hr h))
      rintro z a' w' ⟨e', ms', hr', hs', h'⟩
      cases z with
      | normal =>
        refine Code.wpIn_mono ?_ (ihy ab e' ms' w' _ a' hdy hr' h')
        rintro z a'' w'' ⟨e'', ms'', hr'', hs'', h''⟩
        exact ⟨e'', ms'', hr'', (left hs').trans (right hs''), h''⟩
      | _ => exact ⟨e', ms', hr', left hs', h'⟩
    · rename_i j aa ab
      split at h
      · rename_i hk
        split at h
        · obtain ⟨M, h1, h2⟩ := h
          refine wpIn_seq (Code.wpIn_mono ?_ (lw_sound (ro := none) hfs hm x aa e w _ a (fun d hh => hdx d (wr_sub x d hh)) hr h1))
          rintro z a' w' ⟨e', hr', hs', h'⟩
          cases z with
          | normal =>
            simp only [seqK] at h'
            split at h'
            · rename_i s hg
              have hr2 : Rep (marksD ms) n a' (putSt j.sg s (keepE j.keep e)) := getSt_put hr' hg (hr.keep hs' hr'.1 hr'.2.1 hk)
              refine Code.wpIn_mono ?_ (ihy ab _ ms w' _ a' hdy hr2 (h2 s w' h'))
              rintro z a'' w'' ⟨e'', ms'', hr'', hs'', h''⟩
              exact ⟨e'', ms'', hr'', (left hs').trans (right hs''), h''⟩
            · exact h'.elim
          | _ => exact ⟨e', ms, hr', left hs', h'⟩
        · obtain ⟨M, h1, h2⟩ := h
          refine wpIn_seq (Code.wpIn_mono ?_ (ihx aa e ms w _ a hdx hr h1))
          rintro z a' w' ⟨e', ms', hr', hs', h'⟩
          cases z with
          | normal =>
            simp only [seqKR] at h'
            split at h'
            · rename_i s hg
              have hr2 : Rep (marksD ms') n a' (putSt j.sg s (keepE j.keep e)) := getSt_put hr' hg ((hr.marks (a' := { a with defers := marksD ms' }) rfl rfl).keep hs' hr'.1 hr'.2.1 hk)
              refine Code.wpIn_mono ?_ (ihy ab _ ms' w' _ a' hdy hr2 (h2 (s, ms') w' h'))
              rintro z a'' w'' ⟨e'', ms'', hr'', hs'', h''⟩
              exact ⟨e'', ms'', hr'', (left hs').trans (right hs''), h''⟩
            · exact h'.elim
          | _ => exact ⟨e', ms', hr', left hs', h'⟩
      · exact h.elim
    · exact h.elim
  | cond c x y ihx ihy =>
    intro an e ms w K a hd hr h
    have hdx : ∀ d, d ∈ wrA x → d < n := fun d hh => hd d (List.mem_append_left _ hh)
    have hdy : ∀ d, d ∈ wrA y → d < n := fun d hh => hd d (List.mem_append_right _ hh)
    simp only [lwR] at h
    split at h
    · rename_i aa ab
      split at h
      · rename_i t ht
        refine wpIn_cond_split (hr.ev ht) (fun hb => ?_) (fun hb => ?_)
        · subst hb
          refine Code.wpIn_mono ?_ (ihx aa e ms w K a hdx hr h)
          rintro z a'' w'' ⟨e'', ms'', hr'', hs'', h''⟩
          exact ⟨e'', ms'', hr'', hs''.mono fun t ht => List.mem_append_left _ ht, h''⟩
        · subst hb
          refine Code.wpIn_mono ?_ (ihy ab e ms w K a hdy hr h)
          rintro z a'' w'' ⟨e'', ms'', hr'', hs'', h''⟩
          exact ⟨e'', ms'', hr'', hs''.mono fun t ht => List.mem_append_right _ ht, h''⟩
      · exact h.elim
    · exact h.elim
  | block id x ih =>
    intro an e ms w K a hd hr h
    simp only [lwR] at h
    split at h
    · rename_i aa
      refine wpIn_block (Code.wpIn_mono ?_ (ih aa e ms w _ a hd hr h))
      rintro z a' w' ⟨e', ms', hr', hs', h'⟩
      cases z with
      | exit j =>
        simp only [blockKR] at h'
        split at h'
        · rename_i hj
          have hj := Nat.eq_of_beq_eq_true hj
          simp only [Exit.inBlock, hj, if_true]
          exact ⟨e', ms', hr', hs', h'⟩
        · rename_i hj
          have hj : ¬ j = id := fun hh => by subst hh; simp at hj
          simp only [Exit.inBlock, hj, if_false]
          exact ⟨e', ms', hr', hs', h'⟩
      | _ => exact ⟨e', ms', hr', hs', h'⟩
    · exact h.elim
  | loop x ih =>
    intro an e ms w K a hd hr h
    simp only [lwR] at h
    split at h
    · exact flat _ _ _ _ _ _ _ hd hr h
    · split at h
      · rename_i j aa
        split at h
        · rename_i hk
          split at h
          · rename_i s hg
            obtain ⟨I, μ, h0, hround⟩ := h
            refine wpIn_loop_ghost (fun m a' w' => ∃ s, I s w' ∧ μ s w' = m ∧ Rep (marksD s.2) n a' (putSt j.sg s.1 (keepE j.keep e)) ∧ Same (wr x) a a') (μ (s, ms) w) ⟨(s, ms), h0, rfl, getSt_put hr hg (hr.keep (Same.refl _ _) hr.1 hr.2.1 hk), Same.refl _ _⟩ ?_
            rintro m a' w' ⟨s', h1, h2, h3, h4⟩
            refine Code.wpIn_mono ?_ (ih aa _ _ w' _ a' hd h3 (hround s' w' h1))
            rintro z a'' w'' ⟨e'', ms'', hr'', hs'', h''⟩
            cases z with
            | normal =>
              simp only [seqKR] at h''
              split at h''
              · rename_i s2 hg2
                refine ⟨μ (s2, ms'') w'', by omega, (s2, ms''), h''.1, rfl, ?_, h4.trans hs''⟩
                exact getSt_put hr'' hg2 ((hr.marks (a' := { a with defers := marksD ms'' }) rfl rfl).keep (h4.trans hs'') hr''.1 hr''.2.1 hk)
              · exact h''.elim
            | _ => exact ⟨e'', ms'', hr'', h4.trans hs'', h''⟩
          · exact h.elim
        · exact h.elim
      · exact h.elim
  | rangeFunc g ps assign body _ _ =>
    intro an e ms w K a hd hr h
    simp only [lwR] at h
    split at h
    · split at h
      · rename_i gv hg
        split at h
        · rename_i hps
          exact range_sound hfs hm hd hr hg (sameNats_spec hps) h
        · exact h.elim
      · exact h.elim
    · exact h.elim
  | _ => intro an e ms w K a hd hr h; exact flat _ _ _ _ _ _ _ hd hr h

def dstsOkA (n : Nat) (c : Code) : Bool := (wrA c).all fun d => Nat.blt d n
/-- **From what the code of a function with ranges over functions comes to, to the call.** -/
theorem lwR_calls {fs : List Nat} (hfs : AllOK P fs) (hm : P.follows .mixedOrders = true) {f : Nat} {fn : Func} {an : Ann} {args : List Value} {w : World} {R : Value → World → Prop}
    (hf : P.funcs[f]? = some fn) (hn : (match fn.body with | some c => dstsOkA fn.ntmps c | none => false) = true) (hz : Nat.ble args.length fn.ntmps = true) (h : lwRFn P fs fn an args w R) :
    Calls P f args.toArray w (Ret R) := by
  unfold lwRFn at h
  cases hb : fn.body with
  | none => rw [hb] at h; exact h.elim
  | some c =>
    rw [hb] at h hn
    simp only at h hn
    have hz' := Nat.le_of_ble_eq_true hz
    have hr : Rep (marksD []) fn.ntmps { tmps := args.toArray ++ Array.replicate (fn.ntmps - args.toArray.size) undef, defers := [] } (argsE args 0) := by
      refine ⟨by simp; omega, rfl, fun t v ht => ?_⟩
      obtain ⟨_, h2⟩ := argsE_spec _ _ _ _ ht
      rw [Nat.sub_zero] at h2
      have hlt : t < args.length := by
        rcases Nat.lt_or_ge t args.length with h | h
        · exact h
        · rw [List.getElem?_eq_none h] at h2; cases h2
      have : args[t] = v := by rw [List.getElem?_eq_getElem hlt] at h2; exact Option.some.inj h2
      have hlt2 : t < args.length + (fn.ntmps - args.length) := by omega
      simp [hlt, hlt2, this]
    refine (callsIn_wide (n := 0)).1 (callsIn_of_wp_marks (F := Wf none) hf hb trivial (Code.wpIn_mono ?_ (lwR_sound hfs hm c an _ [] w _ _ (fun d hd => by simp only [dstsOkA, List.all_eq_true] at hn; exact Nat.le_of_ble_eq_true (hn d hd)) hr h)))
    have fin : ∀ (a : Act) (w : World) (e : Env) (ms : List Nat), Rep (marksD ms) fn.ntmps a e → (closeM ms w fun w => resV P e w fn.results.toList [] fun l => R (oneOrTuple l) w) → LeavesInM (Wf none) 0 P fn a.tmps (Ret R) a.defers .returning w := by
      intro a w e ms hr h
      rw [hr.2.1]
      refine closeM_leaves (fun w h => ?_) h
      exact run_results hr h
    rintro x a w' ⟨e', ms', hr', _, h'⟩
    cases x with
    | normal => exact fin _ _ _ _ hr' h'
    | ret => exact fin _ _ _ _ hr' h'
    | _ => exact h'.elim

end Go.Gk
