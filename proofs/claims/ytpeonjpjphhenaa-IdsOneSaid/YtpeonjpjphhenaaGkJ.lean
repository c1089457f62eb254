/-
  A function that jumps back to a label: 'scope', with one label on its way at which a loop of jumps begins.
-/
import Derived.Test.YtpeonjpjphhenaaGkR
import Derived.ScopeJumps
namespace Go.Gk
open Go

def isLabel (l : Nat) : Code → Bool
  | .label l' => Nat.beq l' l
  | _ => false
/-- What stands behind the label. -/
def spineB (l : Nat) : Code → Option Code
  | .seq a b => match isLabel l a with
    | true => some b
    | false => match findLabel a l with
      | none => spineB l b
      | some _ => none
  | _ => none
theorem isLabel_spec {l : Nat} {a : Code} (h : isLabel l a = true) : a = .label l := by
  cases a <;> simp only [isLabel] at h <;> first | cases h | skip
  rename_i l'
  have := Nat.eq_of_beq_eq_true h
  rw [this]
theorem spineB_find {l : Nat} : ∀ {c B : Code}, spineB l c = some B → findLabel c l = some (.seq .skip B)
  | .seq a b, B, h => by
    simp only [spineB] at h
    split at h
    · rename_i hl
      cases h
      rw [isLabel_spec hl]
      simp [findLabel]
    · split at h
      · rename_i hf
        simp only [findLabel, hf]
        exact spineB_find h
      · cases h
  | .skip, _, h | .label _, _, h | .ret, _, h | .exit _, _, h | .goto _, _, h => by cases h
  | .region .., _, h | .cond .., _, h | .block .., _, h | .loop .., _, h | .scope .., _, h => by cases h
  | .rangeFunc .., _, h => by cases h

def jumpK (l : Nat) (next : Env → World → Prop) (K : Exit → Env → World → Prop) : Exit → Env → World → Prop
  | .goto l', e, w => match Nat.beq l' l with
    | true => next e w
    | false => False
  | x, e, w => K x e w
def lwA (P : Program) (fs : List Nat) (l : Nat) : Code → Ann → Env → World → (Exit → Env → World → Prop) → Prop
  | .seq a b, .seq none aa ab, e, w, K => match isLabel l a with
    | true => False
    | false => lw P fs a aa e w (seqK (fun e w => lwA P fs l b ab e w K) K)
  | .seq a b, .seq (some j) aa ab, e, w, K => match isLabel l a with
    | true => False
    | false => match keepOk j.keep (wr a) with
      | true => JoinW (fun M => lw P fs a aa e w (seqK (fun e w => match getSt j.sg e with | some s => M s w | none => False) K))
          (fun s w => lwA P fs l b ab (putSt j.sg s (keepE j.keep e)) w K)
      | false => False
  | .seq a b, .loop j ab, e, w, K => match isLabel l a with
    | true => match keepOk j.keep (wr b) with
      | true => match getSt j.sg e with
        | some s => LoopW (fun s w next => lw P fs b ab (putSt j.sg s (keepE j.keep e)) w (jumpK l (fun e w => match getSt j.sg e with | some s => next s w | none => False) K)) s w
        | none => False
      | false => False
    | false => False
  | _, _, _, _, _ => False
def lwJFn (P : Program) (fs : List Nat) (l : Nat) (fn : Func) (an : Ann) (args : List Value) (w : World) (R : Value → World → Prop) : Prop :=
  match fn.body with
  | some (.seq r (.scope c)) => match an with
    | .seq none ar (.one ac) => match spineB l c with
      | some _ => lw P fs r ar (argsE args 0) w (seqK (fun e w => lwA P fs l c ac e w (scopeK (retK P fn.results.toList R))) (scopeK (retK P fn.results.toList R)))
      | none => False
    | _ => False
  | _ => False

/-! ### Soundness -/
section
variable {P : Program}
/-- With fewer than n jumps. -/
def JB (P : Program) (l : Nat) (B : Code) (Q : Exit → Act → World → Prop) : Nat → Act → World → Prop
  | 0, _, _ => False
  | n + 1, a, w => (Code.seq .skip B).wp P (Exit.jump l (JB P l B Q n) Q) a w
theorem least {p : Nat → Prop} : ∀ n, p n → ∃ n, p n ∧ ∀ m, p m → n ≤ m := by
  intro n
  induction n using Nat.strongRecOn with
  | _ n ih =>
    intro h
    by_cases hm : ∃ m, m < n ∧ p m
    · obtain ⟨m, h1, h2⟩ := hm
      exact ih m h1 h2
    · exact ⟨n, h, fun m hp => Nat.le_of_not_lt fun hlt => hm ⟨m, hlt, hp⟩⟩
theorem jump_mono {l : Nat} {J J' : Act → World → Prop} {Q Q' : Exit → Act → World → Prop} (hJ : ∀ a w, J a w → J' a w) (hQ : ∀ x a w, Q x a w → Q' x a w) : ∀ x a w, Exit.jump l J Q x a w → Exit.jump l J' Q' x a w := by
  intro x a w h
  cases x with
  | goto l' => exact ⟨h.1, hJ _ _ h.2⟩
  | _ => exact hQ _ _ _ h
theorem wp_scope_JB {c B : Code} {l : Nat} {Q : Exit → Act → World → Prop} {a : Act} {w : World} (hf : findLabel c l = some (.seq .skip B))
    (first : c.wp P (Exit.jump l (fun a w => ∃ n, JB P l B Q n a w) Q) a w) : (Code.scope c).wp P Q a w := by
  have hl : ∀ (a : Act) (w : World), (∃ n, JB P l B Q n a w) → ∃ n, JB P l B Q n a w ∧ ∀ m, JB P l B Q m a w → n ≤ m := fun a w ⟨n, h⟩ => least n h
  classical
  refine wp_scope_jumps l (fun a w => ∃ n, JB P l B Q n a w) (fun a w => if h : ∃ n, JB P l B Q n a w then Classical.choose (hl a w h) else 0) hf first ?_
  intro a w hJ
  have hs := Classical.choose_spec (hl a w hJ)
  simp only [dif_pos hJ]
  generalize Classical.choose (hl a w hJ) = n at hs
  cases n with
  | zero => exact hs.1.elim
  | succ k =>
    refine Code.wp_mono (jump_mono ?_ fun _ _ _ h => h) hs.1
    intro a' w' h'
    have hJ' : ∃ n, JB P l B Q n a' w' := ⟨k, h'⟩
    refine ⟨hJ', ?_⟩
    rw [dif_pos hJ']
    have := (Classical.choose_spec (hl a' w' hJ')).2 k h'
    omega
theorem lw_wp {fs : List Nat} (hfs : AllOK P fs) (hm : P.follows .mixedOrders = true) {n : Nat} {c : Code} {an : Ann} {e : Env} {w : World} {K : Exit → Env → World → Prop} {a : Act}
    (hd : ∀ d, d ∈ wr c → d < n) (hr : Rep [] n a e) (h : lw P fs c an e w K) : c.wp P (CQ [] n (wr c) a K) a w :=
  (wpIn_wide (n := 0)).1 (Code.wpIn_mono (F := Wf none) (fun _ _ _ h => h) (lw_sound (ro := none) hfs hm c an e w K a hd hr h))
theorem lwA_sound {fs : List Nat} (hfs : AllOK P fs) (hm : P.follows .mixedOrders = true) {n l : Nat} {ws : List Nat} {a0 : Act} {K : Exit → Env → World → Prop} {B : Code} (hK : ∀ l e w, ¬ K (.goto l) e w) :
    ∀ (c : Code) (an : Ann) (e : Env) (w : World) (a : Act), spineB l c = some B → (∀ d, d ∈ wr c → d < n) → (∀ d, d ∈ wr c → d ∈ ws) → Rep [] n a e → Same ws a0 a → lwA P fs l c an e w K →
      c.wp P (Exit.jump l (fun a w => ∃ k, JB P l B (CQ [] n ws a0 K) k a w) (CQ [] n ws a0 K)) a w := by
  intro c
  induction c with
  | seq x y ihx ihy =>
    intro an e w a hB hd hw hr hs h
    have hdx : ∀ d, d ∈ wr x → d < n := fun d hh => hd d (List.mem_append_left _ hh)
    have hdy : ∀ d, d ∈ wr y → d < n := fun d hh => hd d (List.mem_append_right _ hh)
    have hwx : ∀ d, d ∈ wr x → d ∈ ws := fun d hh => hw d (List.mem_append_left _ hh)
    have hwy : ∀ d, d ∈ wr y → d ∈ ws := fun d hh => hw d (List.mem_append_right _ hh)
    cases an with
    | seq j aa ab =>
      have hnl : isLabel l x = false → spineB l y = some B := by
        intro hx
        simp only [spineB, hx] at hB
        split at hB
        · exact hB
        · cases hB
      have hB' : spineB l y = some B := by
        refine hnl ?_
        cases hx : isLabel l x with
        | false => rfl
        | true =>
          exfalso
          cases j <;> simp only [lwA, hx] at h
      cases j with
      | none =>
        simp only [lwA] at h
        split at h
        · exact h.elim
        refine wp_seq (Code.wp_mono ?_ (lw_wp hfs hm hdx hr h))
        rintro z a' w' ⟨e', hr', hs', h'⟩
        have hs2 := hs.trans (hs'.mono hwx)
        cases z with
        | normal => exact ihy ab e' w' a' hB' hdy hwy hr' hs2 h'
        | goto l' => exact (hK _ _ _ h').elim
        | _ => exact ⟨e', hr', hs2, h'⟩
      | some j =>
        simp only [lwA] at h
        split at h
        · exact h.elim
        split at h
        · rename_i hk
          obtain ⟨M, h1, h2⟩ := h
          refine wp_seq (Code.wp_mono ?_ (lw_wp hfs hm hdx hr h1))
          rintro z a' w' ⟨e', hr', hs', h'⟩
          have hs2 := hs.trans (hs'.mono hwx)
          cases z with
          | normal =>
            simp only [seqK] at h'
            split at h'
            · rename_i s hg
              exact ihy ab _ w' a' hB' hdy hwy (getSt_put hr' hg (hr.keep hs' hr'.1 hr'.2.1 hk)) hs2 (h2 s w' h')
            · exact h'.elim
          | goto l' => exact (hK _ _ _ h').elim
          | _ => exact ⟨e', hr', hs2, h'⟩
        · exact h.elim
    | loop j ab =>
      simp only [lwA] at h
      split at h
      · rename_i hx
        have hB' : y = B := by
          simp only [spineB, hx] at hB
          exact Option.some.inj hB
        subst hB'
        split at h
        · rename_i hk
          split at h
          · rename_i s hg
            obtain ⟨I, μ, h0, hround⟩ := h
            rw [isLabel_spec hx]
            have pass : ∀ (J : Act → World → Prop) s w' a', I s w' → Rep [] n a' (putSt j.sg s (keepE j.keep e)) → Same ws a0 a' → Same (wr y) a a' →
                (∀ s2 w2 a2, I s2 w2 → μ s2 w2 < μ s w' → Rep [] n a2 (putSt j.sg s2 (keepE j.keep e)) → Same ws a0 a2 → Same (wr y) a a2 → J a2 w2) → y.wp P (Exit.jump l J (CQ [] n ws a0 K)) a' w' := by
              intro J s w' a' hI hr' hs' hsy hJ
              refine Code.wp_mono ?_ (lw_wp hfs hm hdy hr' (hround s w' hI))
              rintro z a2 w2 ⟨e2, hr2, hs2, h2⟩
              have hs3 := hs'.trans (hs2.mono hwy)
              cases z with
              | goto l' =>
                simp only [jumpK] at h2
                split at h2
                · rename_i hl
                  split at h2
                  · rename_i s2 hg2
                    exact ⟨Nat.eq_of_beq_eq_true hl, hJ s2 w2 a2 h2.1 h2.2 (getSt_put hr2 hg2 (hr.keep (hsy.trans hs2) hr2.1 hr2.2.1 hk)) hs3 (hsy.trans hs2)⟩
                  · exact h2.elim
                · exact h2.elim
              | _ => exact ⟨e2, hr2, hs3, h2⟩
            have key : ∀ k s w' a', μ s w' < k → I s w' → Rep [] n a' (putSt j.sg s (keepE j.keep e)) → Same ws a0 a' → Same (wr y) a a' → JB P l y (CQ [] n ws a0 K) k a' w' := by
              intro k
              induction k with
              | zero => intro s w' a' hlt; omega
              | succ k ih =>
                intro s w' a' hlt hI hr' hs' hsy
                refine wp_seq (wp_skip ?_)
                exact pass _ s w' a' hI hr' hs' hsy fun s2 w2 a2 i1 i2 i3 i4 i5 => ih s2 w2 a2 (by omega) i1 i3 i4 i5
            refine wp_seq (wp_label ?_)
            exact pass _ s w a h0 (getSt_put hr hg (hr.keep (Same.refl _ _) hr.1 hr.2.1 hk)) hs (Same.refl _ _) fun s2 w2 a2 i1 i2 i3 i4 i5 => ⟨_, key (μ s2 w2 + 1) s2 w2 a2 (by omega) i1 i3 i4 i5⟩
          · exact h.elim
        · exact h.elim
      · exact h.elim
    | _ => exact h.elim
  | _ => intro an e w a hB; cases hB
/-- **From what a function's code comes to, to the call.** -/
theorem lwJ_calls {l : Nat} {fs : List Nat} (hfs : AllOK P fs) (hm : P.follows .mixedOrders = true) {f : Nat} {fn : Func} {an : Ann} {args : List Value} {w : World} {R : Value → World → Prop}
    (hf : P.funcs[f]? = some fn) (hn : (match fn.body with | some c => dstsOk fn.ntmps c | none => false) = true) (hz : Nat.ble args.length fn.ntmps = true) (h : lwJFn P fs l fn an args w R) :
    Calls P f args.toArray w (Ret R) := by
  unfold lwJFn at h
  split at h
  · rename_i r c hb
    split at h
    · rename_i ar ac
      split at h
      · rename_i B hB
        rw [hb] at hn
        simp only at hn
        have hz' := Nat.le_of_ble_eq_true hz
        have hdst : ∀ d, d ∈ wr (.seq r (.scope c)) → d < fn.ntmps := fun d hd => by simp only [dstsOk, List.all_eq_true] at hn; exact Nat.le_of_ble_eq_true (hn d hd)
        refine calls_of_wp hf hb ?_
        have hr : Rep [] fn.ntmps { tmps := args.toArray ++ Array.replicate (fn.ntmps - args.toArray.size) undef, defers := [] } (argsE args 0) := by
          refine ⟨by simp; omega, rfl, fun t v ht => ?_⟩
          obtain ⟨_, h2⟩ := argsE_spec _ _ _ _ ht
          rw [Nat.sub_zero] at h2
          have hlt : t < args.length := by
            rcases Nat.lt_or_ge t args.length with h | h
            · exact h
            · rw [List.getElem?_eq_none h] at h2; cases h2
          have : args[t] = v := by rw [List.getElem?_eq_getElem hlt] at h2; exact Option.some.inj h2
          have hlt2 : t < args.length + (fn.ntmps - args.length) := by omega
          simp [hlt, hlt2, this]
        have fin : ∀ x a w' e', Rep [] fn.ntmps a e' → scopeK (retK P fn.results.toList R) x e' w' → retK P fn.results.toList R x e' w' := by
          intro x a w' e' _ h
          cases x with
          | goto => exact h.elim
          | _ => exact h
        refine wp_seq (Code.wp_mono ?_ (lw_wp hfs hm (fun d hd => hdst d (List.mem_append_left _ hd)) hr h))
        rintro x a w' ⟨e', hr', _, h'⟩
        cases x with
        | normal =>
          refine Code.wp_mono ?_ (wp_scope_JB (spineB_find hB) (lwA_sound hfs hm (ws := wr c) (a0 := a) (K := scopeK (retK P fn.results.toList R)) (fun _ _ _ h => h) c ac e' w' a hB (fun d hd => hdst d (List.mem_append_right _ hd)) (fun _ hd => hd) hr' (Same.refl _ _) h'))
          rintro x a w' ⟨e', hr', _, h'⟩
          have h' := fin _ _ _ _ hr' h'
          cases x with
          | normal => exact ⟨hr'.2.1, run_results hr' h'⟩
          | ret => exact ⟨hr'.2.1, run_results hr' h'⟩
          | _ => exact h'.elim
        | ret => exact ⟨hr'.2.1, run_results hr' h'⟩
        | _ => exact h'.elim
      · exact h.elim
    · exact h.elim
  · exact h.elim
end
end Go.Gk
