/-
  dom.settle.
-/
import Derived.Test.Ytjplhoollkeihaa15d
import Derived.Test.Ytjplhoollkeihaa14w
namespace Go.Proofs
open Go.Gk Go.RowKit Go.Gr Go.Dm

theorem ovI_none {o : Option Nat} : ovI o = -1 ↔ o = none := by
  cases o with
  | none => simp [ovI]
  | some y => simp [ovI]
theorem ovI_pt (ov : Nat → Option Nat) (k m : Nat) (j : Nat) : (if j = k then (m : Int) else ovI (ov j)) = ovI (pt ov k m j) := by
  unfold pt
  split <;> rfl
/-- What settle ends with. -/
structure Settled (nx : List (List Nat)) (od : List Nat) (ov : Nat → Option Nat) : Prop where
  tr : Tr (rkOf od) ov
  di : DI nx (rkOf od) ov
  pr : ∀ x, PR ov x ↔ x ∈ od
  fix : ∀ x c, ov x = some c → IsMeet ov (fun p => Ed nx p x ∧ PR ov p) c
/-- The fold over the nodes ahead. -/
def Fo (ov : Nat → Option Nat) (l : List Nat) (o : Int) : Prop :=
  (o = -1 ∧ ∀ p ∈ l, ¬ PR ov p) ∨ ∃ m : Nat, o = (m : Int) ∧ PR ov m ∧ (∃ p ∈ l, PR ov p) ∧ IsMeet ov (fun p => p ∈ l ∧ PR ov p) m
theorem Fo.skip {ov : Nat → Option Nat} {l : List Nat} {o : Int} {p : Nat} (h : Fo ov l o) (hp : ¬ PR ov p) : Fo ov (l ++ [p]) o := by
  rcases h with ⟨rfl, h⟩ | ⟨m, rfl, h1, ⟨q, hq, hq'⟩, h3⟩
  · exact .inl ⟨rfl, fun q hq => by
      rcases List.mem_append.1 hq with hq | hq
      · exact h q hq
      · simp at hq; subst hq; exact hp⟩
  · refine .inr ⟨m, rfl, h1, ⟨q, by simp [hq], hq'⟩, fun d => ?_⟩
    rw [h3 d]
    constructor
    · rintro hh q ⟨hq, hqp⟩
      rcases List.mem_append.1 hq with hq | hq
      · exact hh q ⟨hq, hqp⟩
      · simp at hq; subst hq; exact absurd hqp hp
    · exact fun hh q hq => hh q ⟨by simp [hq.1], hq.2⟩
theorem Fo.first {ov : Nat → Option Nat} {l : List Nat} {p : Nat} (h : Fo ov l (-1)) (hp : PR ov p) : Fo ov (l ++ [p]) (p : Int) := by
  rcases h with ⟨_, h⟩ | ⟨m, e, _⟩
  · refine .inr ⟨p, rfl, hp, ⟨p, by simp, hp⟩, fun d => ⟨?_, fun hh => hh p ⟨by simp, hp⟩⟩⟩
    rintro hd q ⟨hq, hqp⟩
    rcases List.mem_append.1 hq with hq | hq
    · exact absurd hqp (h q hq)
    · simp at hq; subst hq; exact hd
  · omega
theorem Fo.more {ov : Nat → Option Nat} {l : List Nat} {o : Nat} {p c : Nat} (h : Fo ov l (o : Int)) (hp : PR ov p) (hc : PR ov c) (hm : ∀ e, Anc ov e c ↔ Anc ov e o ∧ Anc ov e p) : Fo ov (l ++ [p]) (c : Int) := by
  rcases h with ⟨e, _⟩ | ⟨m, e, h1, ⟨q, hq, hq'⟩, h3⟩
  · omega
  · have e : o = m := by omega
    subst e
    refine .inr ⟨c, rfl, hc, ⟨p, by simp, hp⟩, fun d => ?_⟩
    rw [hm d, h3 d]
    constructor
    · rintro ⟨hh, hd⟩ q ⟨hq, hqp⟩
      rcases List.mem_append.1 hq with hq | hq
      · exact hh q ⟨hq, hqp⟩
      · simp at hq; subst hq; exact hd
    · exact fun hh => ⟨fun q hq => hh q ⟨by simp [hq.1], hq.2⟩, hh p ⟨by simp, hp⟩⟩

set_option maxHeartbeats 4000000 in
theorem settle_spec {nx : List (List Nat)} (hx : NxOk nx) {tb gb ob db rb B : Nat} {d : Nat → Int} {od : List Nat} (ok : OdOk nx od) (hod : ∀ x ∈ od, x < nx.length) {p1 : Sl} {w0 w : World} {R : Value → World → Prop}
    (hG : IsG w0 gb nx) (hB : B = w0.heap.size) (hob : B ≤ ob) (hb0 : Below B w0 w) (h : TB w tb gb ob db rb nx.length (fun _ => -1) d (rkI od)) (hp1 : Own w 3 1 p1 (od.map iN)) (hp2 : ∀ a, p1.a = some a → a.block ≠ ob)
    (hR : ∀ w' ov, Below B w0 w' → w.heap.size ≤ w'.heap.size → (∀ k, k < w.heap.size → k ≠ ob → w'.heap[k]? = w.heap[k]?) → TB w' tb gb ob db rb nx.length (fun i => ovI (ov i)) d (rkI od) → Settled nx od ov → R (.tuple #[]) w') :
    callR Try.prog 135 #[.pointer (some (Gk.blk tb)), .slice p1.a p1.l p1.c] w R := by
  refine callR.of (dom_Tree_settle_calls _ p1 R w ?_) fun _ _ h => h
  unfold L_dom_Tree_settle
  have hpl := own_len hp1
  have hmax := hx.max
  have hodl : od.length ≤ nx.length := nodup_le ok.nodup hod
  obtain ⟨j0, hs0⟩ := SS.start (od := od) (ov := fun _ => none) ok hx.pos (fun _ => rfl)
  -- the state of a round
  let St : (Nat → Option Nat) → World → Prop := fun ov w' => Below B w0 w' ∧ w.heap.size ≤ w'.heap.size ∧ (∀ k, k < w.heap.size → k ≠ ob → w'.heap[k]? = w.heap[k]?) ∧ TB w' tb gb ob db rb nx.length (fun i => ovI (ov i)) d (rkI od) ∧ Own w' 3 1 p1 (od.map iN)
  have hBw : B ≤ w.heap.size := by rw [hB]; rw [hB] at hb0; exact hb0.size
  have grow : ∀ {ov w1 w2}, St ov w1 → Below w1.heap.size w1 w2 → St ov w2 := fun {ov w1 w2} h hb => by
    obtain ⟨h1, h2, h3, h4, h5⟩ := h
    exact ⟨h1.trans (hb.mono (by omega)), by have := hb.size; omega, fun k hk hne => (hb.block k (by omega)).trans (h3 k hk hne), h4.below hb, h5.below hb⟩
  refine LoopW.ghost (fun j _ w' => ∃ ov, SS nx od ov j ∧ St ov w') j0 ⟨_, hs0, hb0, Nat.le_refl _, fun _ _ _ => rfl, h, hp1⟩ ?_
  rintro j _ w1 ⟨ov, hs, hst⟩ nextR hnextR
  have t := hs.tr
  have hpo : ∀ x, PR ov x → x ∈ od := fun x hxp => by
    obtain ⟨v, ov0, K, _, _, _, hpr, _⟩ := hs.ph
    exact List.mem_of_mem_take ((hpr x).1 hxp)
  let Ok : Nat → Prop := fun k => ∀ q (hq : q < od.length), q < k → od[q] ≠ 0 → ∃ c, ov od[q] = some c ∧ IsMeet ov (fun p => Ed nx p od[q] ∧ PR ov p) c
  refine LoopW.count od.length (by omega) (fun k w' => Ok k ∧ St ov w') ⟨fun q hq h => absurd h (by omega), hst⟩ ?_
  rintro i w2 hi ⟨hok, hst⟩ next hnext
  refine ifB_dec (fun hlt => ?_) (fun hge => ?_)
  · have hlt : i < od.length := by dsimp only at hlt; omega
    refine JoinW.cut (fun _ w' => Ok (i + 1) ∧ St ov w') ?_ fun _ w' hh => hnext w' hlt hh
    refine elemI hst.2.2.2.2.isS.toI (k := i) (by simpa using hlt) ?_
    rw [List.getElem_map]
    refine ifB_beq (fun he => ?_) (fun hne => ?_)
    · refine ⟨fun q hq hlt' hq0 => ?_, hst⟩
      by_cases e : q = i
      · subst e; exact absurd (by exact Int.ofNat.inj he) hq0
      · exact hok q hq (by omega) hq0
    · have hne0 : od[i] ≠ 0 := fun e => hne (by rw [e]; rfl)
      have hT := hst.2.2.2.1
      refine derefP_some rfl ⟨_, hT.t.cell0 rfl, ?_⟩
      have hg2 : IsG w2 gb nx := hG.below (hB ▸ hst.1)
      refine Ahead_spec hx hg2 fun r w3 a1 a2 a3 => ⟨r, rfl, ?_⟩
      rw [rowAt_nat] at a1
      have hst3 := grow hst a3
      clear a3 hT
      obtain ⟨ah, hah⟩ : ∃ ah, ah = (aheadOf nx).getD od[i] [] := ⟨_, rfl⟩
      have hahn : ∀ p ∈ ah, p < nx.length := fun p hp => by
        rw [hah] at hp
        have := (edge_iff hx).1 hp
        by_cases hpn : p < nx.length
        · exact hpn
        · simp [List.getD, hpn] at this
      have hahl := ahead_le nx od[i]
      rw [← hah] at a1 hahl
      have hrl := own_len a1
      refine LoopW.ghost (fun g st w' => ∃ m : Nat, ∃ o : Int, m ≤ ah.length ∧ g = ah.length - m ∧ st = (o, (m : Int), ()) ∧ Fo ov (ah.take m) o ∧ St ov w' ∧ Own w' 3 1 r (ah.map iN)) ah.length
        ⟨0, -1, by omega, rfl, rfl, .inl ⟨rfl, by simp⟩, hst3, a1⟩ ?_
      rintro _ _ w4 ⟨m, o, hm, rfl, rfl, hF, hst, a1⟩ nxt hnxt
      have hT := hst.2.2.2.1
      refine ifB_dec (fun hltm => ?_) (fun hgem => ?_)
      · have hltm : m < ah.length := by dsimp only at hltm; omega
        have etk : ah.take (m + 1) = ah.take m ++ [ah[m]] := List.take_succ_eq_append_getElem hltm
        have hpn := hahn _ (List.getElem_mem hltm)
        refine JoinW.cut (fun st w' => ∃ o' : Int, st = (o', ()) ∧ Fo ov (ah.take (m + 1)) o' ∧ St ov w' ∧ Own w' 3 1 r (ah.map iN)) ?_ ?_
        · refine elemI a1.isS.toI (k := m) (by simpa using hltm) ?_
          rw [List.getElem_map]
          refine JoinW.cut (fun _ w' => w' = w4 ∧ PR ov ah[m]) ?_ ?_
          · refine ifB_bne (fun hne => ?_) (fun he => ⟨rfl, .inl (Int.ofNat.inj he)⟩)
            refine hT.getO hpn (ifB_beq (fun he => ?_) fun hne' => ⟨rfl, .inr fun e => hne' (ovI_none.2 e)⟩)
            refine ⟨o, rfl, ?_, hst, a1⟩
            rw [etk]
            refine hF.skip fun hp => ?_
            rcases hp with hp | hp
            · exact hne (by rw [hp]; rfl)
            · exact hp (ovI_none.1 he)
          · rintro _ _ ⟨rfl, hp⟩
            refine ifB_beq (fun he => ⟨_, rfl, ?_, hst, a1⟩) (fun hne => ?_)
            · rw [etk]
              dsimp only at he
              exact (he ▸ hF).first hp
            · rcases hF with ⟨e, _⟩ | ⟨mm, rfl, hF1, hF2, hF3⟩
              · exact absurd e hne
              · refine meet_spec t hpo hod hT hF1 hp fun c w5 hb5 hc hce => ⟨_, rfl, _, rfl, ?_, grow hst hb5, a1.below hb5⟩
                rw [etk]
                exact Fo.more (.inr ⟨mm, rfl, hF1, hF2, hF3⟩) hp hc hce
        · rintro _ w7 ⟨o', rfl, hF', hst', a1'⟩
          dsimp only
          rw [wrap64_succ (by omega)]
          exact hnxt (ah.length - (m + 1)) _ _ (by omega) ⟨m + 1, o', by omega, rfl, rfl, hF', hst', a1'⟩
      · have : m = ah.length := by dsimp only at hgem; omega
        subst this
        rw [List.take_length] at hF
        -- the nodes ahead, settled, have come together
        have hpre : ∀ k (hk : k < i), PR ov od[k] := fun k hk => by
          by_cases e : od[k] = 0
          · exact .inl e
          · obtain ⟨c, hc, _⟩ := hok k (by omega) hk e
            exact .inr (by rw [hc]; simp)
        have hi0 : 0 < i := by
          obtain ⟨l, hl⟩ := ok.head
          rcases Nat.eq_zero_or_pos i with e | e
          · subst e; exact absurd (by simp [hl]) hne0
          · exact e
        obtain ⟨q, hq, hqe⟩ := ok.par i hlt hi0
        have hedge : ∀ p, p ∈ ah ↔ Ed nx p od[i] := fun p => by rw [hah]; exact edge_iff hx
        rcases hF with ⟨_, hF⟩ | ⟨mm, rfl, hF1, _, hF3⟩
        · exact absurd (hpre q hq) (hF _ ((hedge _).2 hqe))
        have hM : IsMeet ov (fun p => Ed nx p od[i] ∧ PR ov p) mm := fun e => by
          rw [hF3 e]
          exact ⟨fun hh p hp => hh p ⟨(hedge p).2 hp.1, hp.2⟩, fun hh p hp => hh p ⟨(hedge p).1 hp.1, hp.2⟩⟩
        have hin : od[i] < nx.length := hod _ (List.getElem_mem hlt)
        dsimp only
        refine hT.getO hin (ifB_bne (fun hne' => ?_) (fun he => ?_))
        · refine hT.putO hin ?_
          have hne2 : ov od[i] ≠ some mm := fun e => hne' (by rw [e]; rfl)
          obtain ⟨j', hj', hs'⟩ := hs.next ok hlt hne0 (fun k hk h0 => hok k (by omega) hk h0) hM hF1 hne2
          refine hnextR j' _ _ hj' ⟨_, hs', ?_⟩
          obtain ⟨g1, g2, g3, g4, g5⟩ := hst
          refine ⟨g1.setCell (by rw [add_block]; exact hob) _, by simpa [World.setCell] using g2, fun k hk hne => (heap_set_other hne _ _).trans (g3 k hk hne), (g4.setO od[i] mm).of_o fun j _ => ovI_pt ov od[i] mm j, g5.of_block fun a ha => heap_set_other (hp2 a ha) _ _⟩
        · refine ⟨fun q hq hlt' hq0 => ?_, hst⟩
          by_cases e : q = i
          · subst e
            refine ⟨mm, ?_, hM⟩
            cases e : ov od[q] with
            | none => rw [e] at he; have he : (mm : Int) = -1 := he; omega
            | some y => rw [e] at he; have he : (mm : Int) = (y : Int) := he; rw [show y = mm by omega]
          · exact hok q hq (by omega) hq0
  · have : i = od.length := by dsimp only at hge; omega
    subst this
    obtain ⟨g1, g2, g3, g4, g5⟩ := hst
    have hall : ∀ x ∈ od, x ≠ 0 → ∃ c, ov x = some c ∧ IsMeet ov (fun p => Ed nx p x ∧ PR ov p) c := fun x hx h0 => by
      obtain ⟨q, hq, rfl⟩ := List.mem_iff_getElem.1 hx
      exact hok q hq hq h0
    refine hR w2 ov g1 g2 g3 g4 ⟨t, hs.di, fun x => ⟨hpo x, fun hx => ?_⟩, fun x c hc => ?_⟩
    · by_cases e : x = 0
      · exact .inl e
      · obtain ⟨c, hc, _⟩ := hall x hx e
        exact .inr (by rw [hc]; simp)
    · have hx0 : x ≠ 0 := by rintro rfl; rw [t.root] at hc; cases hc
      obtain ⟨c', hc', hm⟩ := hall x (hpo x (.inr (by rw [hc]; simp))) hx0
      rw [hc] at hc'
      cases hc'
      exact hm

end Go.Proofs
