/-
  ids: a module that is spoilt; a module that the code itself makes; other ids (the program's); ids: other ids, the program's and the document's: the walks.
-/
import Derived.Test.Ytpeonjpjphhenaa09h
/-!
  ids: a module that is spoilt; a module that the code itself makes; other ids (the program's).
-/
namespace Go.Proofs
open Go.Gk Go.RowKit Go.Gm

/-! ### Lists that the code makes -/
theorem eInst : ElemT Try.prog 23 45 4 40 := ⟨by kernel_rfl, Try.t45, .agg #[.int .u16 0, .int .u32 0, .int .u32 0, .slice none 0 0], by kernel_rfl, rfl, rfl, rfl, rfl⟩
theorem eArg : ElemT Try.prog 43 87 3 24 := ⟨by kernel_rfl, Try.t87, .agg #[.int .u8 0, .int .u32 0, .string (ByteArray.mk #[])], by kernel_rfl, rfl, rfl, rfl, rfl⟩
/-- append of one element of some cells: what lies elsewhere stays. -/
theorem push_keep {P : Program} {t e : TypeId} {sz bytes : Nat} (he : ElemT P t e sz bytes) {w0 w : World} {s : Sl} {xs : List Value} (h : Own w e sz s xs) (hb : Below w0.heap.size w0 w) (hF : Fresh w0.heap.size s) {vs : List Value} (hvs : vs.length = sz) (hv : ∀ u ∈ vs, u.oneCell' = true) {b c : Nat} {T : TypeId}
    (hB : Blk w b T vs) (h63 : s.l + 1 ≤ 9223372036854775807) (hbytes : (s.l + 1) * bytes ≤ 140737488355328) {k : Sl → World → Prop}
    (hk : ∀ r w', Own w' e sz r (xs ++ vs) → Below w0.heap.size w0 w' → Fresh w0.heap.size r → w.heap.size ≤ w'.heap.size → (∀ i, i < w.heap.size → s.a ≠ some (blk i) → w'.heap[i]? = w.heap[i]?) → k r w') : appendS P t (.slice s.a s.l s.c) (.slice (some (blk b)) 1 c) w k := by
  refine append_own he h (news := vs) (by omega) (fun j u hj => hB.cell hj) hv h63 hbytes fun r w' h1 hl' hg => ?_
  rcases hg with ⟨_, _, h3⟩ | ⟨b', h3, h4, h5⟩
  · rw [h3] at hl'; omega
  · have hbb : w0.heap.size ≤ b' := by
      rcases h4 with h4 | h4
      · exact hF _ h4
      · have := hb.size
        omega
    refine hk r w' h1 (hb.trans (below_grown h5 hbb hb.size)) (fun a ha => by rw [h3] at ha; cases ha; exact hbb) (below_grown h5 (Nat.zero_le _) (Nat.zero_le _)).size fun i hi hne => h5.block _ hi fun e => ?_
    have e := Option.some.inj e
    subst e
    rcases h4 with h4 | h4
    · exact hne h4
    · omega
def OwnPl (w : World) (B : Nat) (s : Sl) (pl : List PI) : Prop :=
  ∃ hs : List Ins, hs.length = pl.length ∧ Own w 45 4 s (flat inV hs) ∧ Fresh B s ∧ ∀ (j : Nat) (h : j < hs.length) (h' : j < pl.length), ∃ t, hs[j] = mkIn pl[j] t ∧ Own w 87 3 t (flat agV pl[j].2.2.2) ∧ Fresh B t
section
variable {w w' w0 : World} {B : Nat} {s t : Sl} {pl : List PI} {p : PI}
theorem OwnPl.keep (h : OwnPl w B s pl) (hk : ∀ i, B ≤ i → i < w.heap.size → w'.heap[i]? = w.heap[i]?) : OwnPl w' B s pl := by
  obtain ⟨hs, h1, h2, h3, h4⟩ := h
  refine ⟨hs, h1, h2.of_block fun a ha => hk _ (h3 a ha) (h2.lt ha).2, h3, fun j hj hj' => ?_⟩
  obtain ⟨t, e, h5, h6⟩ := h4 j hj hj'
  exact ⟨t, e, h5.of_block fun a ha => hk _ (h6 a ha) (h5.lt ha).2, h6⟩
theorem OwnPl.below (h : OwnPl w B s pl) (hb : Below w.heap.size w w') : OwnPl w' B s pl := h.keep fun i _ hi => hb.block i hi
theorem OwnPl.nil (w : World) (B : Nat) : OwnPl w B ⟨none, 0, 0⟩ [] := ⟨[], rfl, Own.nil _ _ _, fun a ha => by (cases ha), fun j h => by (cases h)⟩
theorem OwnPl.isPl (h : OwnPl w B s pl) : IsPl w s pl := by
  obtain ⟨hs, h1, h2, h3, h4⟩ := h
  have hc : IsC 4 inV w s hs := Own.isC inV_len (by omega) h2
  refine ⟨by rw [hc.len, h1], hc.cap, hc.max, hc.nil, fun a ha k hk => ?_⟩
  obtain ⟨t, e, h5, h6⟩ := h4 k (by omega) hk
  refine ⟨t, fun j hj => ?_, Own.isC agV_len (by omega) h5⟩
  rw [← e]
  exact hc.cell a ha k (by omega) j hj
theorem own_notBlk {T T' : TypeId} {sz b : Nat} {xs cs : List Value} (h : Own w T sz s xs) (hB : Blk w b T' cs) (hT : T ≠ T') : s.a ≠ some (Gk.blk b) := fun e => by
  obtain ⟨cs', h'⟩ := h.type e
  exact Blk.apart h' hB hT rfl
theorem own_notOwn {T T' : TypeId} {sz sz' : Nat} {xs ys : List Value} (h : Own w T sz s xs) (k : Own w T' sz' t ys) (hT : T ≠ T') {a : Addr} (ha : t.a = some a) : s.a ≠ some (Gk.blk a.block) := fun e => by
  obtain ⟨cs', h'⟩ := k.type ha
  exact own_notBlk h h' hT e
theorem OwnPl.push {b c : Nat} (h : OwnPl w w0.heap.size s pl) (hb : Below w0.heap.size w0 w) (ht : Own w 87 3 t (flat agV p.2.2.2)) (hF : Fresh w0.heap.size t) (hB : Blk w b 45 (inV (mkIn p t))) (hl : 40 * (pl.length + 1) ≤ 140737488355328) {K : Sl → World → Prop}
    (hK : ∀ r w', OwnPl w' w0.heap.size r (pl ++ [p]) → Below w0.heap.size w0 w' → w.heap.size ≤ w'.heap.size → (∀ i T cs, Blk w i T cs → T ≠ 45 → w'.heap[i]? = w.heap[i]?) → K r w') : appendS Try.prog 23 (.slice s.a s.l s.c) (.slice (some (blk b)) 1 c) w K := by
  have hsl := h.isPl.len
  obtain ⟨hs, h1, h2, h3, h4⟩ := h
  refine push_keep eInst h2 hb h3 rfl (by simp [Value.oneCell']) hB (by omega) (by omega) fun r w' k1 k2 k3 k4 k5 => hK r w' ⟨hs ++ [mkIn p t], by simp [h1], ?_, k3, ?_⟩ k2 k4 fun i T cs hi hT => k5 i hi.lt (own_notBlk h2 hi hT.symm)
  · simpa [flat] using k1
  · intro j hj hj'
    by_cases hlt : j < hs.length
    · obtain ⟨t', e, h5, h6⟩ := h4 j hlt (by omega)
      rw [List.getElem_append_left hlt]
      have e2 : (pl ++ [p])[j] = pl[j]'(by omega) := List.getElem_append_left (by omega)
      rw [e2]
      exact ⟨t', e, h5.of_block fun a ha => k5 _ (h5.lt ha).2 (own_notOwn h2 h5 (by decide) ha), h6⟩
    · have ej : j = hs.length := by simp at hj; omega
      subst ej
      have e2 : (pl ++ [p])[hs.length] = p := by simp [h1]
      rw [e2]
      exact ⟨t, by simp, ht.of_block fun a ha => k5 _ (ht.lt ha).2 (own_notOwn h2 ht (by decide) ha), hF⟩
end

/-! ### Spoil -/
/-- What Spoil may write: the instructions at block b, their arguments between lo and hi. -/
def SpR (w : World) (lo hi b : Nat) (ns : List Nat) (k : Nat) : Prop :=
  ∃ ds, Blk w b 45 ds ∧ ds.length = ns.length * 4 ∧ ∀ (j : Nat) (h : j < ns.length), k ≤ j → ∃ c, lo ≤ c ∧ c < hi ∧ c ≠ b ∧ ds[j * 4 + 3]? = some (.slice (some (blk c)) ns[j] ns[j]) ∧ ∃ cs, Blk w c 87 cs ∧ cs.length = ns[j] * 3
section
variable {w w' : World} {lo hi b k : Nat} {ns : List Nat}
theorem SpR.below (h : SpR w lo hi b ns k) (hb : Below w.heap.size w w') : SpR w' lo hi b ns k := by
  obtain ⟨ds, h1, h2, h3⟩ := h
  refine ⟨ds, h1.below hb, h2, fun j hj hk => ?_⟩
  obtain ⟨c, c1, c2, c3, c4, cs, c5, c6⟩ := h3 j hj hk
  exact ⟨c, c1, c2, c3, c4, cs, c5.below hb, c6⟩
theorem SpR.drew (h : SpR w lo hi b ns k) : SpR w.drew lo hi b ns k := h.below (Below.refl _ _).drew
theorem SpR.mono (h : SpR w lo hi b ns k) {k' : Nat} (hk : k ≤ k') : SpR w lo hi b ns k' := by
  obtain ⟨ds, h1, h2, h3⟩ := h
  exact ⟨ds, h1, h2, fun j hj hk' => h3 j hj (by omega)⟩
theorem SpR.arg (h : SpR w lo hi b ns k) {c : Nat} {T : TypeId} {cs : List Value} (hc : Blk w c T cs) (hT : T = 87) (n : Nat) (v : Value) : SpR (w.setCell ((blk c).add n) v) lo hi b ns k := by
  obtain ⟨ds, h1, h2, h3⟩ := h
  subst hT
  have hne : b ≠ c := Blk.apart h1 hc (by decide)
  refine ⟨ds, (Chg.set c n w v).blk h1 hne, h2, fun j hj hk => ?_⟩
  obtain ⟨c', c1, c2, c3, c4, cs', c5, c6⟩ := h3 j hj hk
  refine ⟨c', c1, c2, c3, c4, ?_⟩
  by_cases e : c' = c
  · subst e
    exact ⟨_, c5.set n v, by rw [List.length_set]; exact c6⟩
  · exact ⟨cs', (Chg.set c n w v).blk c5 e, c6⟩
theorem SpR.top (h : SpR w lo hi b ns k) {n : Nat} (hn : n < k * 4) (v : Value) : SpR (w.setCell ((blk b).add n) v) lo hi b ns k := by
  obtain ⟨ds, h1, h2, h3⟩ := h
  refine ⟨_, h1.set n v, by rw [List.length_set]; exact h2, fun j hj hk => ?_⟩
  obtain ⟨c', c1, c2, c3, c4, cs', c5, c6⟩ := h3 j hj hk
  refine ⟨c', c1, c2, c3, ?_, cs', (Chg.set b n w v).blk c5 c3, c6⟩
  rw [List.getElem?_set_ne (by omega)]
  exact c4
theorem Cpy.spR {pl : List PI} (h : Cpy w b pl) : SpR w b w.heap.size b (pl.map (·.2.2.2.length)) 0 := by
  obtain ⟨hs, h1, h2, h3⟩ := h
  refine ⟨flat inV hs, h2, by rw [flat_length inV_len, List.length_map, h1], fun j hj _ => ?_⟩
  rw [List.length_map] at hj
  obtain ⟨c, c1, c2, c3⟩ := h3 j (by omega) hj
  refine ⟨c, by omega, c3.lt, by omega, ?_, _, c3, ?_⟩
  · rw [flat_get inV_len hs j (by omega) 3 (by omega), c2, List.getElem_map]
    rfl
  · rw [flat_length agV_len, List.getElem_map]
theorem SpoilM_spec {g bd : Int} {R : Value → World → Prop} (hS : SpR w lo hi b ns 0) (hlo : lo ≤ b) (hhi : b < hi) (hm : ns.length ≤ 9223372036854775807) (hm' : ∀ n ∈ ns, n ≤ 9223372036854775807)
    (hR : ∀ w', Fr w.heap.size (fun k => lo ≤ k ∧ k < hi) w w' → R (.tuple #[]) w') : callR Try.prog 16 #[moA (g, bd, ⟨some (blk b), ns.length, ns.length⟩, ())] w R := by
  refine callR.of (intagliokit_Spoil_calls (g, bd, ⟨some (blk b), ns.length, ns.length⟩, ()) R w ?_) fun _ _ h => h
  refine lay_of fun w1 hB1 b1 z1 => ?_
  have hB1 : Blk w1 w.heap.size 25 (moV (g, bd, ⟨some (blk b), ns.length, ns.length⟩, ())) := hB1
  have hbw : b < w.heap.size := hS.choose_spec.1.lt
  refine LoopW.count ns.length hm (fun k w' => Fr w.heap.size (fun k => lo ≤ k ∧ k < hi) w w' ∧ Blk w' w.heap.size 25 (moV (g, bd, ⟨some (blk b), ns.length, ns.length⟩, ())) ∧ SpR w' lo hi b ns k) ⟨Fr.of_below b1, hB1, hS.below b1⟩ ?_
  rintro k w2 hk ⟨hf, hB, hS2⟩ next hnext
  refine hB.rS (n := 2) (x := ⟨some (blk b), ns.length, ns.length⟩) rfl (ifB_dec (fun h => ?_) (fun _ => hR w2 hf))
  have hlt : k < ns.length := by dsimp only at h; omega
  have hmk := hm' _ (List.getElem_mem hlt)
  have ld : ∀ {w3 : World} {φ : Sl → Prop}, Blk w3 w.heap.size 25 (moV (g, bd, ⟨some (blk b), ns.length, ns.length⟩, ())) → φ ⟨some (blk b), ns.length, ns.length⟩ → ldS w3 ((blk w.heap.size).add 2) φ := fun h3 hφ => h3.rS (n := 2) (x := ⟨some (blk b), ns.length, ns.length⟩) rfl hφ
  refine LoopW.count ns[k] hmk (fun _ w' => Fr w.heap.size (fun k => lo ≤ k ∧ k < hi) w w' ∧ Blk w' w.heap.size 25 (moV (g, bd, ⟨some (blk b), ns.length, ns.length⟩, ())) ∧ SpR w' lo hi b ns k) ⟨hf, hB, hS2⟩ ?_
  rintro i w3 hi' ⟨hf3, hB3, hS3⟩ next2 hnext2
  obtain ⟨ds, hD, hdl, hrow⟩ := id hS3
  obtain ⟨c, c1, c2, c3, hs, cs, hA, hcl⟩ := hrow k hlt (Nat.le_refl _)
  have bnd : (0 : Int) ≤ (k : Int) ∧ (k : Int) < ((ns.length : Nat) : Int) := ⟨by omega, by omega⟩
  have ldk : ∀ {φ : Sl → Prop}, φ ⟨some (blk c), ns[k], ns[k]⟩ → ldS w3 (((blk b).add (Int.toNat (k : Int) * 4)).add 3) φ := fun hφ => by
    rw [add_add']
    exact hD.rS (n := k * 4 + 3) (x := ⟨some (blk c), ns[k], ns[k]⟩) hs hφ
  refine ld hB3 ⟨bnd, derefP_some rfl (ldk (ifB_dec (fun h => ?_) (fun _ => ?_)))⟩
  · have hil : i < ns[k] := by dsimp only at h; omega
    refine ld hB3 ⟨bnd, derefP_some rfl (ldk ⟨⟨by omega, by dsimp only; omega⟩, derefP_some rfl ?_⟩)⟩
    dsimp only
    rw [show Int.toNat (i : Int) = i from rfl]
    simp only [add_add']
    have hne : w.heap.size ≠ c := Blk.apart hB3 hA (by decide)
    have fs : ∀ {w' : World}, Fr w.heap.size (fun k => lo ≤ k ∧ k < hi) w w' → ∀ n v, Fr w.heap.size (fun k => lo ≤ k ∧ k < hi) w (w'.setCell ((blk c).add n) v) := fun h n v => h.set (.inr (by rw [add_block]; exact ⟨c1, c2⟩)) v
    refine ⟨hA.wr (by omega), Nw.mk ⟨(hA.set _ _).wr (by rw [List.length_set]; omega), Nw.mk ⟨((hA.set _ _).set _ _).wr (by rw [List.length_set, List.length_set]; omega), Nw.mk ?_⟩⟩⟩
    refine hnext2 _ hil ⟨fs (fs (fs hf3 _ _) _ _) _ _, ?_, ((hS3.arg hA rfl _ _).arg (hA.set _ _) rfl _ _).arg ((hA.set _ _).set _ _) rfl _ _⟩
    exact (Chg.set c _ _ _).blk ((Chg.set c _ _ _).blk ((Chg.set c _ _ _).blk hB3 hne) hne) hne
  · refine ld hB3 ⟨bnd, derefP_some rfl ?_⟩
    dsimp only
    rw [show Int.toNat (k : Int) = k from rfl]
    simp only [add_add']
    have hne : w.heap.size ≠ b := by omega
    have fs : ∀ {w' : World}, Fr w.heap.size (fun k => lo ≤ k ∧ k < hi) w w' → ∀ n v, Fr w.heap.size (fun k => lo ≤ k ∧ k < hi) w (w'.setCell ((blk b).add n) v) := fun h n v => h.set (.inr (by rw [add_block]; exact ⟨hlo, hhi⟩)) v
    have hS4 := hS3.mono (Nat.le_succ k)
    refine ⟨hD.wr (by omega), Nw.mk ⟨(hD.set _ _).wr (by rw [List.length_set]; omega), Nw.mk ⟨((hD.set _ _).set _ _).wr (by rw [List.length_set, List.length_set]; omega), Nw.mk ⟨(((hD.set _ _).set _ _).set _ _).wr (by rw [List.length_set, List.length_set, List.length_set]; omega), Nw.mk ?_⟩⟩⟩⟩
    refine hnext _ hlt ⟨fs (fs (fs (fs hf3 _ _) _ _) _ _) _ _, ?_, (((hS4.top (by omega) _).top (by omega) _).top (by omega) _).top (by omega) _⟩
    exact (Chg.set b _ _ _).blk ((Chg.set b _ _ _).blk ((Chg.set b _ _ _).blk ((Chg.set b _ _ _).blk hB3 hne) hne) hne) hne
end

/-! ### The arguments in new memory -/
theorem CloneA_spec {s : Sl} {l : List Ag} {w : World} {R : Value → World → Prop} (h : IsAg w s l) (h24 : 24 * l.length ≤ 140737488351232)
    (hR : ∀ r w', Own w' 87 3 r (flat agV l) → Fresh w.heap.size r → Below w.heap.size w w' → R (.slice r.a r.l r.c) w') :
    callR Try.prog 73 #[.slice s.a s.l s.c] w R := by
  refine callR.of (slices_Clone_sapi_Arg_api_Arg_calls s R w ?_) fun _ _ h => h
  refine ifB_bool (fun hn => ?_) (fun hn => ?_)
  · have hn : s.a = none := by simpa using hn
    have hc := h.nil hn
    have : l = [] := List.eq_nil_of_length_eq_zero (by have := h.len; have := h.cap; omega)
    subst this
    exact hR ⟨none, 0, 0⟩ w (Own.nil _ _ _) (fun a ha => by cases ha) (Below.refl _ _)
  · obtain ⟨a, ha⟩ : ∃ a, s.a = some a := by
      cases hs : s.a with
      | none => rw [hs] at hn; cases hn
      | some a => exact ⟨a, rfl⟩
    refine Nw.gen fun w1 hw1 => ?_
    have hB : Blk w1 w.heap.size 87 [] := by rw [hw1]; exact Blk.new w 87 #[]
    have hb1 : Below w.heap.size w w1 := by rw [hw1]; exact (Below.refl _ _).alloc (Nat.le_refl _) _
    have hO : Own w1 87 3 ⟨some (blk w.heap.size), 0, 0⟩ [] := ⟨rfl, .inr ⟨_, [], rfl, hB, Nat.le_refl _, by simp, rfl, rfl⟩⟩
    have h' := IsAg.below h hb1
    rw [ha, h.len]
    refine append_own eArg hO (m := l.length) (news := flat agV l) (flat_length agV_len l) (fun j u hj => ?_) (fun u hu => ?_) (by have := h.bound; simp; omega) (by simp; omega) fun r w' h1 _ h3 => ?_
    · have hlt : j < l.length * 3 := by
        have := (List.getElem?_eq_some_iff.1 hj).1
        rwa [flat_length agV_len] at this
      have e : j = j / 3 * 3 + j % 3 := by omega
      have hg := flat_get agV_len l (j / 3) (by omega) (j % 3) (by omega)
      have hc := h'.cell a ha (j / 3) (by omega) (j % 3) (by omega)
      rw [e] at hj
      rw [e, hc, ← hg, hj]
    · obtain ⟨x, _, hx⟩ := List.mem_flatMap.1 hu
      simp only [agV, List.mem_cons, List.not_mem_nil, or_false] at hx
      rcases hx with rfl | rfl | rfl <;> rfl
    · have h1 : Own w' 87 3 r (flat agV l) := by simpa using h1
      rcases h3 with ⟨h4, h5, h6⟩ | ⟨b, h4, h5, h6⟩
      · subst h5
        exact hR _ _ h1 (fun a ha => by rw [h4] at ha; cases ha) hb1
      · have hbb : w.heap.size ≤ b := by
          rcases h5 with h5 | h5
          · cases h5; exact Nat.le_refl _
          · have := hb1.size; omega
        exact hR _ _ h1 (fun a ha => by rw [h4] at ha; cases ha; exact hbb) (hb1.trans (below_grown h6 hbb hb1.size))
/-- One argument's number is written. -/
theorem flat_num : ∀ (l : List Ag) (i : Nat) (h : i < l.length) (v : Int), (flat agV l).set (i * 3 + 1) (.int .u32 v) = flat agV (l.set i (l[i].1, v, l[i].2.2))
  | a :: l, 0, _, v => rfl
  | a :: l, i + 1, h, v => by
    have ih := flat_num l i (by simpa using h) v
    simp only [flat, List.flatMap_cons, List.set_cons_succ, List.getElem_cons_succ] at ih ⊢
    rw [List.set_append_right _ _ (by rw [agV_len]; omega), agV_len, ← ih]
    congr 2
    omega
theorem Own.num {w : World} {q : Sl} {b : Nat} {l : List Ag} (h : Own w 87 3 q (flat agV l)) (ha : q.a = some (blk b)) {i : Nat} (hi : i < l.length) (v : Int) :
    Wr w ((blk b).add (i * 3 + 1)) ∧ Own (w.setCell ((blk b).add (i * 3 + 1)) (.int .u32 v)) 87 3 q (flat agV (l.set i (l[i].1, v, l[i].2.2))) := by
  obtain ⟨h1, h2⟩ := h
  rw [flat_length agV_len] at h1
  rcases h2 with rfl | ⟨b', cs, e, hB, h3, h4, h5, h6⟩
  · cases ha
  · rw [ha] at e
    have e : b = b' := by injection e with e; injection e
    subst e
    refine ⟨hB.wr ?_, by rw [flat_length agV_len, List.length_set]; exact h1, .inr ⟨b, _, ha, hB.set _ _, h3, h4, by rw [List.length_set]; exact h5, ?_⟩⟩
    · have : q.l * 3 ≤ q.c * 3 := Nat.mul_le_mul_right _ h3
      omega
    · rw [List.take_set, h6, flat_num l i hi v]

end Go.Proofs

/-!
  ids: other ids, the program's and the document's: the walks.
-/
namespace Go.Proofs
open Go.Gk Go.RowKit Go.Gm

/-! ### Small things -/
theorem lenW_of {P : Program} {t kt et : TypeId} (ht : P.underlying t = some (.map kt et)) {w : World} {r : Nat} {κ : IntKind} {L : List (Int × Int)} (h : IsMp w r κ L) {φ : Int → Prop} (hφ : φ (L.length : Int)) : lenW P t (.map (some r)) w φ := by
  obtain ⟨es, c, hb, hes, _⟩ := h
  have hl : es.size = L.length := by
    have := congrArg List.length hes
    simpa using this
  refine ⟨(L.length : Int), ?_, hφ⟩
  have hg : (getObj r).run P w = .ok (.map es c) w := Go.MapKept.run_getObj_map hb
  unfold Builtin.len_
  simp only [List.getElem?_toArray, List.getElem?_cons_zero, Sem.run_bind, run_underlying ht, Result.andThen_ok, hg, Sem.run_pure, hl, goInt]
theorem st123 {b : Nat} {T : TypeId} {v0 v1 v2 v3 u1 u2 u3 : Value} {K : World → Prop} {w : World} (hB : Blk w b T [v0, v1, v2, v3]) (hK : ∀ w', Blk w' b T [v0, u1, u2, u3] → Chg b w w' → K w') :
    Wr w ((blk b).add 1) ∧ Nw (w.setCell ((blk b).add 1) u1) fun w1 => Wr w1 ((blk b).add 2) ∧ Nw (w1.setCell ((blk b).add 2) u2) fun w2 => Wr w2 ((blk b).add 3) ∧ Nw (w2.setCell ((blk b).add 3) u3) fun w3 => K w3 :=
  ⟨hB.wr (by simp), Nw.mk ⟨(hB.set 1 u1).wr (by simp), Nw.mk ⟨((hB.set 1 u1).set 2 u2).wr (by simp), Nw.mk (hK _ (((hB.set 1 u1).set 2 u2).set 3 u3) (((Chg.set b 1 w u1).trans (Chg.set b 2 _ u2)).trans (Chg.set b 3 _ u3)))⟩⟩⟩
theorem OwnPl.chg {w w' : World} {B b : Nat} {s : Sl} {pl : List PI} (h : OwnPl w B s pl) (c : Chg b w w') (hb : b < B) : OwnPl w' B s pl := h.keep fun i hi _ => c.block i (by omega)
theorem OwnPl.lower {w : World} {B B' : Nat} {s : Sl} {pl : List PI} (h : OwnPl w B s pl) (hB : B' ≤ B) : OwnPl w B' s pl := by
  obtain ⟨hs, h1, h2, h3, h4⟩ := h
  refine ⟨hs, h1, h2, fun a ha => Nat.le_trans hB (h3 a ha), fun j hj hj' => ?_⟩
  obtain ⟨t, e, h5, h6⟩ := h4 j hj hj'
  exact ⟨t, e, h5, fun a ha => Nat.le_trans hB (h6 a ha)⟩
/-- The first i arguments under other ids. -/
def upTo (g : Int → Int) (al : List Ag) (i : Nat) : List Ag := (al.take i).map (turnA g) ++ al.drop i
section
variable {g : Int → Int} {al : List Ag} {i : Nat}
theorem upTo_len : (upTo g al i).length = al.length := by
  unfold upTo
  rw [List.length_append, List.length_map, List.length_take, List.length_drop]
  omega
theorem upTo_get (hi : i < al.length) (h : i < (upTo g al i).length) : (upTo g al i)[i] = al[i] := by
  have e : (upTo g al i)[i]? = some al[i] := by
    unfold upTo
    rw [List.getElem?_append_right (by rw [List.length_map, List.length_take]; omega), List.length_map, List.length_take, Nat.min_eq_left (Nat.le_of_lt hi), Nat.sub_self, List.getElem?_drop, Nat.add_zero, List.getElem?_eq_getElem hi]
  exact (List.getElem?_eq_some_iff.1 e).2
theorem upTo_set (hi : i < al.length) : (upTo g al i).set i (turnA g al[i]) = upTo g al (i + 1) := by
  unfold upTo
  rw [List.set_append_right _ _ (by rw [List.length_map, List.length_take]; omega), List.take_succ_eq_append_getElem hi, List.map_append, List.length_map, List.length_take, Nat.min_eq_left (Nat.le_of_lt hi), Nat.sub_self, List.drop_eq_getElem_cons hi, List.set_cons_zero, List.append_assoc]
  rfl
theorem upTo_skip (hi : i < al.length) (e : al[i].1 ≠ 1) : upTo g al (i + 1) = upTo g al i := by
  rw [← upTo_set hi, turnA_no g e, ← upTo_get (g := g) hi (by rw [upTo_len]; exact hi), List.set_getElem_self]
theorem upTo_all : upTo g al al.length = al.map (turnA g) := by unfold upTo; simp
theorem upTo_zero : upTo g al 0 = al := by unfold upTo; simp
end
theorem turnP_succ (g : Int → Int) {pl : List PI} {k : Nat} (hk : k < pl.length) : turnP g (pl.take (k + 1)) = turnP g (pl.take k) ++ [turnI g pl[k]] := by
  unfold turnP
  rw [List.take_succ_eq_append_getElem hk, List.map_append]
  rfl

/-! ### turned -/
section
variable {x : Mo} {pl : List PI} {w : World} {R : Value → World → Prop}
theorem turned_spec {f : Value} {g : Int → Int} (hN : IsPl w x.2.2.1 pl) (hp : PlOk pl)
    (hf : ∀ w', Below w.heap.size w w' → ∀ n ∈ allP pl, callV Try.prog Try.fs f [.int .u32 n] w' fun v w'' => v = .int .u32 (g n) ∧ Below w'.heap.size w' w'')
    (hR : ∀ s w', OwnPl w' w.heap.size s (turnP g pl) → Below w.heap.size w w' → R (moA (x.1, x.2.1, s, ())) w') : callR Try.prog 44 #[moA x, f] w R := by
  refine callR.of (ids_turned_calls x f R w ?_) fun _ _ h => h
  refine lay_of fun w1 hB1 b1 z1 => ?_
  have hB1 : Blk w1 w.heap.size 25 (moV x) := hB1
  refine lay_of fun w2 hC2 b2 z2 => ?_
  have hC2 : Blk w2 w1.heap.size 25 [.int .u32 0, .int .u32 0, .slice none 0 0] := hC2
  have hB2 := hB1.below b2
  have hl := hN.len
  have h40 := hp.len
  refine hB2.rS (n := 2) (x := x.2.2.1) rfl ⟨⟨by omega, by omega, by omega, by omega⟩, ?_⟩
  refine lay_of fun w3 hD3 b3 z3 => ?_
  have hb3 := (b1.on b2).on b3
  have hB3 := hB2.below b3
  have hC3 := hC2.below b3
  refine hB3.rS (n := 2) (x := x.2.2.1) rfl ?_
  have hO3 : OwnPl w3 w.heap.size ⟨some (blk w2.heap.size), 0, x.2.2.1.l⟩ (turnP g (pl.take 0)) := by
    refine ⟨[], rfl, ⟨rfl, .inr ⟨_, _, rfl, hD3, Nat.zero_le _, (by dsimp only; omega), ?_, rfl⟩⟩, fun a ha => ?_, fun j h => by (cases h)⟩
    · rw [Array.length_toList, size_madeCells]
    · cases ha
      show w.heap.size ≤ w2.heap.size
      omega
  refine LoopW.countSl pl.length hN.bound (fun k r w' => OwnPl w' w.heap.size r (turnP g (pl.take k)) ∧ Below w.heap.size w w' ∧ w3.heap.size ≤ w'.heap.size ∧ Blk w' w.heap.size 25 (moV x) ∧ Blk w' w1.heap.size 25 [.int .u32 0, .int .u32 0, .slice none 0 0])
    ⟨hO3, hb3, Nat.le_refl _, hB3, hC3⟩ ?_
  rintro k r w4 hk ⟨hO, hb, hz, hB, hC⟩ next hnext
  refine ifB_dec (fun h => ?_) (fun h => ?_)
  · have hlt : k < pl.length := by dsimp only at h; omega
    obtain ⟨m1, m2, m3⟩ := mem_all hlt
    have h24 := hp.args _ (List.getElem_mem hlt)
    refine elemPI (hN.below hb) hlt fun t ht => ?_
    refine box4 rfl fun w5 hI5 b5 z5 => ?_
    have hI5 : Blk w5 w4.heap.size 45 (inV (mkIn pl[k] t)) := hI5
    have bd : Below w5.heap.size w5 w5.drew := (Below.refl _ _).drew
    refine hI5.drew.rI (n := 1) (x := pl[k].2.1) rfl (hI5.drew.rI (n := 2) (x := pl[k].2.2.1) rfl (hI5.drew.rS (n := 3) (x := t) rfl ?_))
    have hb5 := (hb.on b5).on bd
    refine callV.mono (hf _ hb5 _ m1) fun v w6 ⟨hv, b6⟩ => ⟨g pl[k].2.1, hv, ?_⟩
    have hI6 := hI5.drew.below b6
    have hb6 := hb5.on b6
    refine ⟨hI6.cell (n := 3) rfl, hI6.cell (n := 2) rfl, ?_⟩
    refine callV.mono (hf _ hb6 _ m2) fun v w7 ⟨hv', b7⟩ => ⟨g pl[k].2.2.1, hv', ?_⟩
    have hI7 := hI6.below b7
    have hb7 := hb6.on b7
    have b47 := ((b5.on bd).on b6).on b7
    refine ⟨hI7.cell (n := 3) rfl, ?_⟩
    refine CloneA_spec (ht.below b47) h24 fun q w8 hq hqF b8 => ⟨q, rfl, ?_⟩
    have hI8 := hI7.below b8
    have s47 := b47.size
    have hi7 := hI7.lt
    refine st123 hI8 fun w9 hI9 c9 => ?_
    have hI9 : Blk w9 w4.heap.size 45 (inV (pl[k].1, g pl[k].2.1, g pl[k].2.2.1, q, ())) := hI9
    have hq9 : Own w9 87 3 q (flat agV (upTo g pl[k].2.2.2 0)) := by
      rw [upTo_zero]
      exact hq.of_block fun a ha => c9.block _ (by have := hqF a ha; omega)
    have b49 : Below w4.heap.size w4 w9 := c9.below (b47.on b8) (Nat.le_refl _)
    have hb9 := hb.on b49
    have s9 := c9.size
    have s8 := b8.size
    have hql : q.l = pl[k].2.2.2.length := by
      have := hq.1
      rw [flat_length agV_len] at this
      omega
    refine hI9.rS (n := 3) (x := q) rfl ?_
    refine LoopW.count pl[k].2.2.2.length (by omega) (fun i w' => Own w' 87 3 q (flat agV (upTo g pl[k].2.2.2 i)) ∧ Blk w' w4.heap.size 45 (inV (pl[k].1, g pl[k].2.1, g pl[k].2.2.1, q, ())) ∧ Below w7.heap.size w9 w') ⟨hq9, hI9, Below.refl _ _⟩ ?_
    rintro i w10 hi ⟨hq10, hI10, f10⟩ next2 hnext2
    have s10 := f10.size
    refine ifB_dec (fun h => ?_) (fun h => ?_)
    · have hil : i < pl[k].2.2.2.length := by dsimp only at h; omega
      refine JoinW.cut (fun _ w' => Own w' 87 3 q (flat agV (upTo g pl[k].2.2.2 (i + 1))) ∧ Blk w' w4.heap.size 45 (inV (pl[k].1, g pl[k].2.1, g pl[k].2.2.1, q, ())) ∧ Below w7.heap.size w9 w') ?_ (fun _ w' hP => hnext2 w' hil hP)
      have hul : i < (upTo g pl[k].2.2.2 i).length := by rw [upTo_len]; exact hil
      have hIs : IsAg w10 q (upTo g pl[k].2.2.2 i) := Own.isC agV_len (by omega) hq10
      refine elemA3 hIs hul ?_
      rw [upTo_get hil hul]
      refine box3 rfl fun w11 hA11 b11 z11 => ?_
      have f11 : Below w7.heap.size w9 w11 := f10.trans (b11.mono (by omega))
      refine hA11.rI0 rfl (ifB_beq (fun e => ?_) (fun e => ?_))
      · have hI11 := hI10.below b11
        have bd11 : Below w11.heap.size w11 w11.drew := (Below.refl _ _).drew
        have s11 := b11.size
        refine hI11.drew.rS (n := 3) (x := q) rfl (hA11.drew.rI (n := 1) (x := pl[k].2.2.2[i].2.1) rfl ?_)
        refine callV.mono (hf _ ((hb9.trans (f11.mono (by have := hb7.size; omega))).drew) _ (m3 _ (List.getElem_mem hil) e)) fun v w12 ⟨hv2, b12⟩ => ⟨g pl[k].2.2.2[i].2.1, hv2, ?_⟩
        have b1112 := bd11.on b12
        have hI12 := hI11.below b1112
        have hq12 := (hq10.below b11).below b1112
        obtain ⟨a, ha⟩ := hIs.base hul
        have ha' : q.a = some (blk a.block) := by rw [ha]; exact congrArg some (hq10.lt ha).1
        obtain ⟨n1, n2⟩ := Own.num hq12 ha' (by rw [upTo_len]; exact hil) (g pl[k].2.2.2[i].2.1)
        have haF := hqF a ha
        refine ⟨hI12.cell (n := 3) rfl, ⟨by omega, by dsimp only; omega⟩, derefP_some ha' ?_⟩
        dsimp only
        rw [show Int.toNat (i : Int) = i from rfl, add_add']
        refine ⟨n1, Nw.mk ⟨?_, (Chg.set a.block _ w12 _).blk hI12 (by omega), ?_⟩⟩
        · have hs := upTo_set (g := g) hil
          have hg := upTo_get (g := g) hil (by rw [upTo_len]; exact hil)
          have hA : turnA g pl[k].2.2.2[i] = (pl[k].2.2.2[i].1, g pl[k].2.2.2[i].2.1, pl[k].2.2.2[i].2.2) := by unfold turnA; rw [if_pos e]
          rw [hg] at n2
          rw [hA] at hs
          rw [hs] at n2
          exact n2
        · have f12 : Below w7.heap.size w9 w12 := f11.trans (b1112.mono (by omega))
          exact f12.setCell (by rw [add_block]; exact haF) _
      · refine ⟨?_, hI10.below b11, f11⟩
        rw [upTo_skip hil e]
        exact hq10.below b11
    · have hi' : i = pl[k].2.2.2.length := by dsimp only at h; omega
      subst hi'
      rw [upTo_all] at hq10
      have hb10 := hb9.trans (f10.mono (by have := hb7.size; omega))
      have b410 : Below w4.heap.size w4 w10 := b49.trans (f10.mono (by omega))
      have s410 := b410.size
      refine Ins.load hI10 ?_
      refine lay_of fun w11 hD11 b11 z11 => ?_
      have hD11 : Blk w11 w10.heap.size 45 (inV (mkIn (turnI g pl[k]) q)) := hD11
      refine OwnPl.push (w0 := w) (p := turnI g pl[k]) (t := q) ((hO.below b410).below b11) (hb10.on b11) (hq10.below b11) (fun a ha => by have := hqF a ha; have := hb7.size; omega) hD11 (by rw [turnP_len, List.length_take]; omega) fun r' w12 hO12 hb12 hz12 hk12 => ?_
      rw [← turnP_succ g hlt] at hO12
      have s11 := b11.size
      refine hnext r' w12 hlt ⟨hO12, hb12, by omega, ?_, ?_⟩
      · exact ((hB.below b410).below b11).of_block (hk12 _ _ _ ((hB.below b410).below b11) (by decide))
      · exact ((hC.below b410).below b11).of_block (hk12 _ _ _ ((hC.below b410).below b11) (by decide))
  · have hk' : k = pl.length := by dsimp only at h; omega
    subst hk'
    rw [List.take_length] at hO
    have c1 := Chg.set w.heap.size 2 w4 (.slice r.a r.l r.c)
    refine ⟨hB.wr (n := 2) (by simp), Nw.mk ?_⟩
    have hB5 : Blk _ w.heap.size 25 (moV (x.1, x.2.1, r, ())) := hB.set 2 (.slice r.a r.l r.c)
    have hC5 := c1.blk hC (by omega)
    refine Mo.load hB5 ?_
    refine st3 hC5 rfl fun w6 hC6 c6 => ?_
    have hC6 : Blk w6 w1.heap.size 25 (moV (x.1, x.2.1, r, ())) := hC6
    refine Mo.load hC6 ?_
    -- the two boxes hold no instruction
    have hO6 : OwnPl w6 w.heap.size r (turnP g pl) := by
      obtain ⟨hs, h1, h2, h3, h4⟩ := hO
      have keep : ∀ i T cs, Blk w4 i T cs → T ≠ 25 → w6.heap[i]? = w4.heap[i]? := fun i T cs hi hT => by
        rw [c6.block i (Blk.apart hi hC hT), c1.block i (Blk.apart hi hB hT)]
      refine ⟨hs, h1, h2.of_block fun a ha => ?_, h3, fun j hj hj' => ?_⟩
      · obtain ⟨cs, hc⟩ := h2.type ha
        exact keep _ _ _ hc (by decide)
      · obtain ⟨t, e, h5, h6⟩ := h4 j hj hj'
        refine ⟨t, e, h5.of_block fun a ha => ?_, h6⟩
        obtain ⟨cs, hc⟩ := h5.type ha
        exact keep _ _ _ hc (by decide)
    exact hR r w6 hO6 (c6.below (c1.below hb (Nat.le_refl _)) (by omega))
end
end Go.Proofs
