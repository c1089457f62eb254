/-
  dom.New.
-/
import Derived.Test.Ytjplhoollkeihaa15e
namespace Go.Proofs
open Go.Gk Go.RowKit Go.Gr Go.Dm

/-- What the literal's parts have made so far, in whatever order. -/
structure Rs (w1 w : World) (n : Nat) (us rs : List Nat) (rb : Option Nat) : Prop where
  below : Below w1.heap.size w1 w
  a : ∀ b ∈ us, Blk w b 3 [.int .i64 (-1)]
  r : ∀ b ∈ rs, Blk w b 3 (List.replicate n (.int .i64 (-1))) ∧ w1.heap.size ≤ b
  nd : rs.Nodup
  m : ∀ b, rb = some b → Blk w b 3 (List.replicate n (.int .i64 0)) ∧ w1.heap.size ≤ b ∧ b ∉ rs
section
variable {w1 w w' : World} {n : Nat} {us rs : List Nat} {rb : Option Nat}
theorem Rs.grow (h : Rs w1 w n us rs rb) (hb : Below w.heap.size w w') : Rs w1 w' n us rs rb :=
  ⟨h.below.trans (hb.mono h.below.size), fun b hm => (h.a b hm).below hb, fun b hm => ⟨(h.r b hm).1.below hb, (h.r b hm).2⟩, h.nd, fun b e => ⟨(h.m b e).1.below hb, (h.m b e).2⟩⟩
theorem Rs.stepA (h : Rs w1 w n us rs rb) {K : World → Prop} (hK : ∀ w', Rs w1 w' n (w.heap.size :: us) rs rb → K w') : Nw (w.alloc (.cells #[(.int .i64 (-1 : Int))] 3)) K := by
  refine Nw.mk (hK _ ?_)
  have g := h.grow (w' := w.alloc (.cells #[(.int .i64 (-1 : Int))] 3)) ((Below.refl _ _).alloc (Nat.le_refl _) _)
  refine ⟨g.below, fun b hb => ?_, g.r, g.nd, g.m⟩
  rcases List.mem_cons.1 hb with rfl | hb
  · exact Blk.new w 3 #[_]
  · exact g.a b hb
theorem Rs.stepR (h : Rs w1 w n us rs rb) (hn : n ≤ 4096) (hn1 : 1 ≤ n) {b : Nat} (hb : b ∈ us) {K : Sl → World → Prop} (hK : ∀ r w', Rs w1 w' n us (r :: rs) rb → K ⟨some (Gk.blk r), n, n⟩ w') :
    callR Try.prog 134 #[.slice (some (Gk.blk b)) 1 1, .int .i64 (n : Int)] w fun v w' => ∃ x : Sl, v = .slice x.a x.l x.c ∧ K x w' := by
  refine Repeat_spec hn hn1 (h.a b hb) fun r w' hr hf hbw => ⟨⟨some (Gk.blk r), n, n⟩, rfl, hK r w' ?_⟩
  have g := h.grow hbw
  refine ⟨g.below, g.a, fun b hb => ?_, List.nodup_cons.2 ⟨fun hm => ?_, g.nd⟩, fun b e => ⟨(g.m b e).1, (g.m b e).2.1, fun hm => ?_⟩⟩
  · rcases List.mem_cons.1 hb with rfl | hb
    · exact ⟨hr, by have := h.below.size; omega⟩
    · exact g.r b hb
  · have := (h.r r hm).1.lt; omega
  · rcases List.mem_cons.1 hm with rfl | hm
    · have := (h.m b e).1.lt; omega
    · exact (g.m b e).2.2 hm
theorem Rs.stepM (h : Rs w1 w n us rs none) (hn : n ≤ 4096) {K : World → Prop} (hK : ∀ w', Rs w1 w' n us rs (some w.heap.size) → K w') :
    (0 ≤ (n : Int) ∧ (n : Int) ≤ (n : Int) ∧ (8 : Int) * (n : Int) ≤ 281474976710656 ∧ (n : Int) ≤ 9223372036854775807) ∧ Nw (w.alloc (.cells (madeCells #[(.int .i64 (0 : Int))] ((Int.toNat (n : Int)) * 1)) 3)) K := by
  refine ⟨⟨by omega, by omega, by omega, by omega⟩, Nw.mk (hK _ ?_)⟩
  have g := h.grow (w' := w.alloc (.cells (madeCells #[(.int .i64 (0 : Int))] ((Int.toNat (n : Int)) * 1)) 3)) ((Below.refl _ _).alloc (Nat.le_refl _) _)
  refine ⟨g.below, g.a, g.r, g.nd, fun b e => ?_⟩
  cases e
  exact ⟨Blk.made w 3 (.int .i64 0) n, h.below.size, fun hm => by have := (h.r _ hm).1.lt; omega⟩
/-- The tree has been made. -/
def Mt (w1 : World) (n gb : Nat) (p : Option Addr) (w' : World) : Prop :=
  ∃ tb ob db rb, p = some (Gk.blk tb) ∧ w1.heap.size ≤ ob ∧ w1.heap.size ≤ db ∧ w1.heap.size ≤ rb ∧ TB w' tb gb ob db rb n (fun _ => -1) (fun _ => -1) (fun _ => 0) ∧ Below w1.heap.size w1 w' ∧ ob < tb
theorem Rs.stepF {b : Nat} (h : Rs w1 w n us rs (some b)) {gb : Nat} {r1 r2 : Nat} (h1 : r1 ∈ rs) (h2 : r2 ∈ rs) (hne : r1 ≠ r2) :
    Nw (w.alloc (.cells #[(.pointer (some (Gk.blk gb))), (.slice (some (Gk.blk r1)) n n), (.slice (some (Gk.blk r2)) n n), (.slice (some (Gk.blk b)) (Int.toNat (n : Int)) (Int.toNat (n : Int)))] 129)) fun w7 => Mt w1 n gb (some (Gk.blk w.heap.size)) w7 := by
  refine Nw.mk ?_
  have hb : Below w.heap.size w (w.alloc (.cells #[(.pointer (some (Gk.blk gb))), (.slice (some (Gk.blk r1)) n n), (.slice (some (Gk.blk r2)) n n), (.slice (some (Gk.blk b)) (Int.toNat (n : Int)) (Int.toNat (n : Int)))] 129)) := (Below.refl _ _).alloc (Nat.le_refl _) _
  have g := h.grow hb
  obtain ⟨m1, m2, m3⟩ := g.m b rfl
  refine ⟨w.heap.size, r1, r2, b, rfl, (g.r r1 h1).2, (g.r r2 h2).2, m2, ⟨Blk.new w 129 #[_, _, _, _], ?_, ?_, ?_, hne, fun e => m3 (e ▸ h1), fun e => m3 (e ▸ h2)⟩, g.below, (h.r r1 h1).1.lt⟩
  · rw [natL_const]; exact (g.r r1 h1).1
  · rw [natL_const]; exact (g.r r2 h2).1
  · rw [natL_const]; exact m1
end

/-- The depths that New tells. -/
structure DpOk (od : List Nat) (ov : Nat → Option Nat) (dp : Nat → Int) : Prop where
  mem : ∀ x ∈ od, 0 ≤ dp x ∧ dp x ≤ (rkOf od x : Int)
  out : ∀ x, x ∉ od → dp x = -1
  root : ∀ x ∈ od, ov x = none → dp x = 0
  up : ∀ x ∈ od, ∀ y, ov x = some y → dp x = dp y + 1
/-- A tree that New has made. -/
def IsD (w : World) (tb : Nat) (nx : List (List Nat)) (ov : Nat → Option Nat) (dp : Nat → Int) : Prop :=
  ∃ gb ob db rb, TB w tb gb ob db rb nx.length (fun i => ovI (ov i)) dp (rkI (orderOf nx)) ∧ IsG w gb nx
theorem IsD.below {w w' : World} {tb : Nat} {nx : List (List Nat)} {ov : Nat → Option Nat} {dp : Nat → Int} (h : IsD w tb nx ov dp) (hb : Below w.heap.size w w') : IsD w' tb nx ov dp :=
  let ⟨gb, ob, db, rb, h1, h2⟩ := h
  ⟨gb, ob, db, rb, h1.below hb, h2.below hb⟩

theorem odOk {nx : List (List Nat)} (hx : NxOk nx) : OdOk nx (orderOf nx) := ⟨hx.walkOk.ohead, hx.walkOk.nodup, hx.walkOk.opar⟩
theorem od_lt {nx : List (List Nat)} (hx : NxOk nx) : ∀ x ∈ orderOf nx, x < nx.length := fun x h => hx.came.lt x ((hx.walkOk.mem x).1 h)

set_option maxHeartbeats 8000000 in
theorem New_spec {nx : List (List Nat)} (hx : NxOk nx) {gb : Nat} {w : World} {R : Value → World → Prop} (hG : IsG w gb nx)
    (hR : ∀ w' tb ov dp, Below w.heap.size w w' → IsD w' tb nx ov dp → Settled nx (orderOf nx) ov → DpOk (orderOf nx) ov dp → R (.tuple #[.pointer (some (Gk.blk tb)), .int .i64 0]) w') :
    callR Try.prog 87 #[.pointer (some (Gk.blk gb))] w R := by
  refine callR.of (dom_New_calls _ R w ?_) fun _ _ h => h
  unfold L_dom_New
  have hm := hx.max
  have hp := hx.pos
  refine ifB_false rfl (gLen_spec hG ⟨_, rfl, ?_⟩)
  refine JoinW.cut (fun s w' => Mt w nx.length gb s.1 w') ?_ ?_
  · have h0 : Rs w w.drew nx.length [] [] none := ⟨(Below.refl _ _).drew, fun _ h => (by cases h), fun _ h => (by cases h), List.nodup_nil, fun _ h => (by cases h)⟩
    repeat' first
      | exact Rs.stepF (by assumption) (by simp) (by simp) (by
          have := Rs.nd (by assumption)
          simp at this
          first | exact this | exact fun e => this e.symm)
      | refine Rs.stepM (by assumption) hm fun w' h => ?_
      | refine Rs.stepR (by assumption) hm hp (by simp) fun r w' h => ?_
      | refine Rs.stepA (by assumption) fun w' h => ?_
      | refine And.intro ?_ ?_
  · rintro ⟨p, _⟩ w69 ⟨tb, ob, db, rb, hpe, hob, hdb, hrb, hT, hb69, hobt⟩
    dsimp only at hpe
    subst hpe
    obtain ⟨od, hod⟩ : ∃ od, od = orderOf nx := ⟨_, rfl⟩
    have ok : OdOk nx od := hod ▸ odOk hx
    have hlt : ∀ x ∈ od, x < nx.length := hod ▸ od_lt hx
    have hodl : od.length ≤ nx.length := nodup_le ok.nodup hlt
    refine Order_spec hx (hG.below hb69) fun r w70 o1 o2 o3 => ⟨r, rfl, ?_⟩
    rw [← hod] at o1 hR
    have hrl := own_len o1
    have hT70 := hT.below o3
    have hb70 : Below w.heap.size w w70 := hb69.trans (o3.mono hb69.size)
    have hrb' : ∀ a, r.a = some a → a.block ≠ ob ∧ a.block ≠ db ∧ a.block ≠ rb := fun a ha => by
      have h1 := o2 a ha
      have h2 := hT.o.lt
      have h3 := hT.d.lt
      have h4 := hT.r.lt
      exact ⟨by omega, by omega, by omega⟩
    refine LoopW.count od.length (by omega) (fun k w' => Below w.heap.size w w' ∧ TB w' tb gb ob db rb nx.length (fun _ => -1) (fun _ => -1) (fun i => if i ∈ od.take k then (rkOf od i : Int) else 0) ∧ Own w' 3 1 r (od.map iN)) ⟨hb70, ?_, o1⟩ ?_
    · refine ⟨hT70.t, hT70.o, hT70.d, ?_, hT70.ne⟩
      rw [natL_congr (g := fun _ => 0) (fun i _ => by simp)]
      exact hT70.r
    rintro k w71 hk ⟨hb71, hT71, ho71⟩ next hnext
    refine ifB_dec (fun hltk => ?_) (fun hgek => ?_)
    · have hltk : k < od.length := by dsimp only at hltk; omega
      have hkn := hlt _ (List.getElem_mem hltk)
      refine elemI ho71.isS.toI (k := k) (by simpa using hltk) ?_
      rw [List.getElem_map]
      refine hT71.putR hkn (hnext _ hltk ⟨hb71.setCell (by rw [add_block]; exact hrb) _, ?_, ho71.of_block fun a ha => heap_set_other (hrb' a ha).2.2 _ _⟩)
      have g := hT71.setR od[k] (k : Int)
      refine ⟨g.t, g.o, g.d, ?_, g.ne⟩
      rw [natL_congr (g := fun j => if j = od[k] then (k : Int) else if j ∈ od.take k then (rkOf od j : Int) else 0) (fun j _ => ?_)]
      · exact g.r
      · have hmem : j ∈ od.take (k + 1) ↔ j ∈ od.take k ∨ j = od[k] := by
          rw [List.take_succ_eq_append_getElem hltk, List.mem_append, List.mem_singleton]
        by_cases e : j = od[k]
        · rw [if_pos (hmem.2 (.inr e)), if_pos e, e, rkOf_get ok.nodup hltk]
        · rw [if_neg e]
          by_cases e2 : j ∈ od.take k
          · rw [if_pos (hmem.2 (.inl e2)), if_pos e2]
          · rw [if_neg (fun h => (hmem.1 h).elim e2 e), if_neg e2]
    · have hkk : k = od.length := by dsimp only at hgek; omega
      subst hkk
      have hT71' : TB w71 tb gb ob db rb nx.length (fun _ => -1) (fun _ => -1) (rkI od) := by
        refine ⟨hT71.t, hT71.o, hT71.d, ?_, hT71.ne⟩
        rw [natL_congr (g := fun i => if i ∈ od.take od.length then (rkOf od i : Int) else 0) (fun j _ => by rw [List.take_length]; rfl)]
        exact hT71.r
      refine settle_spec hx ok hlt hG rfl hob hb71 hT71' ho71 (fun a ha => (hrb' a ha).1) fun w73 ov hb73 hz73 hf73 hT73 hS => ⟨rfl, ?_⟩
      have ho73 : Own w73 3 1 r (od.map iN) := ho71.of_block fun a ha => hf73 _ (ho71.lt ha).2 (hrb' a ha).1
      have t := hS.tr
      refine LoopW.count od.length (by omega) (fun k w' => Below w.heap.size w w' ∧ Own w' 3 1 r (od.map iN) ∧ ∃ dp, TB w' tb gb ob db rb nx.length (fun i => ovI (ov i)) dp (rkI od) ∧
          (∀ q (hq : q < od.length), q < k → 0 ≤ dp od[q] ∧ dp od[q] ≤ (q : Int) ∧ (ov od[q] = none → dp od[q] = 0) ∧ ∀ y, ov od[q] = some y → dp od[q] = dp y + 1) ∧ ∀ x, x ∉ od → dp x = -1)
        ⟨hb73, ho73, _, hT73, fun q hq h => absurd h (by omega), fun _ _ => rfl⟩ ?_
      rintro k w74 hk ⟨hb74, ho74, dp, hT74, hD, hout⟩ next2 hnext2
      refine ifB_dec (fun hltk => ?_) (fun hgek => ?_)
      · have hltk : k < od.length := by dsimp only at hltk; omega
        have hkn := hlt _ (List.getElem_mem hltk)
        refine JoinW.cut (fun _ w' => Below w.heap.size w w' ∧ Own w' 3 1 r (od.map iN) ∧ ∃ dp, TB w' tb gb ob db rb nx.length (fun i => ovI (ov i)) dp (rkI od) ∧
          (∀ q (hq : q < od.length), q < k + 1 → 0 ≤ dp od[q] ∧ dp od[q] ≤ (q : Int) ∧ (ov od[q] = none → dp od[q] = 0) ∧ ∀ y, ov od[q] = some y → dp od[q] = dp y + 1) ∧ ∀ x, x ∉ od → dp x = -1) ?_ fun _ w' hh => hnext2 w' hltk hh
        refine elemI ho74.isS.toI (k := k) (by simpa using hltk) ?_
        rw [List.getElem_map]
        refine hT74.putD hkn ?_
        have hT75 := hT74.setD od[k] 0
        have hb75 : Below w.heap.size w (w74.setCell ((Gk.blk db).add od[k]) (.int .i64 0)) := hb74.setCell (by rw [add_block]; exact hdb) _
        have ho75 : Own (w74.setCell ((Gk.blk db).add od[k]) (.int .i64 0)) 3 1 r (od.map iN) := ho74.of_block fun a ha => heap_set_other (hrb' a ha).2.1 _ _
        generalize w74.setCell ((Gk.blk db).add od[k]) (.int .i64 0) = w75 at hT75 hb75 ho75
        have hneq : ∀ q (hq : q < od.length), q ≠ k → od[q] ≠ od[k] := fun q hq hne e => hne (by
          have h1 := rkOf_get ok.nodup hq
          have h2 := rkOf_get ok.nodup hltk
          rw [e, h2] at h1
          exact h1.symm)
        have hbef : ∀ {q y}, (hq : q < od.length) → q ≤ k → ov od[q] = some y → ∃ q' : Nat, ∃ h : q' < od.length, q' < q ∧ od[q'] = y := fun {q y} hq _ hy => by
          obtain ⟨h1, h2⟩ := t.up _ _ hy
          have hm2 := (hS.pr y).1 h2
          have h3 := List.idxOf_lt_length_of_mem hm2
          refine ⟨od.idxOf y, h3, ?_, List.getElem_idxOf h3⟩
          have := rkOf_get ok.nodup hq
          rw [this] at h1
          exact h1
        refine hT75.getO hkn (ifB_bne (fun hne => ?_) (fun he => ?_))
        · obtain ⟨y, hy⟩ : ∃ y, ov od[k] = some y := by
            cases e : ov od[k] with
            | none => exact absurd (ovI_none.2 e) hne
            | some y => exact ⟨y, rfl⟩
          obtain ⟨q', hq'l, hq'k, hq'y⟩ := hbef hltk (Nat.le_refl _) hy
          have hyn : y < nx.length := hq'y ▸ hlt _ (List.getElem_mem hq'l)
          have hyk : y ≠ od[k] := hq'y ▸ hneq q' hq'l (by omega)
          have hT76 := hT75.below (w' := w75.drew) (Below.refl _ _).drew
          refine derefP_some rfl ⟨⟨_, nx.length, nx.length⟩, hT76.t.cell (n := 2) rfl, derefP_some rfl ⟨⟨_, nx.length, nx.length⟩, hT76.t.cell (n := 2) rfl, hT76.getO hkn ?_⟩⟩
          rw [hy]
          refine ⟨⟨by simp [ovI], by simpa [ovI] using hyn⟩, derefP_some rfl ⟨_, hT76.d.cell (natL_get hyn), ⟨⟨by omega, by first | omega | (dsimp only; omega)⟩, derefP_some rfl ⟨hT76.d.wr (by simpa [natL] using hkn), Nw.mk ?_⟩⟩⟩⟩
          have hv := hD q' hq'l hq'k
          rw [hq'y] at hv
          rw [show Int.toNat (ovI (some y)) = y from rfl, if_neg hyk, wrap64_in (by omega) (by omega)]
          refine ⟨hb75.drew.setCell (by rw [add_block]; exact hdb) _, ho75.drew.of_block fun a ha => heap_set_other (hrb' a ha).2.1 _ _, _, hT76.setD od[k] (dp y + 1), fun q hq hqk => ?_, fun x hx => ?_⟩
          · by_cases e : q = k
            · subst e
              simp only [if_true]
              refine ⟨by omega, by omega, fun e => (by rw [hy] at e; cases e), fun y' hy' => ?_⟩
              rw [hy] at hy'
              cases hy'
              simp [hyk]
            · have h1 := hD q hq (by omega)
              have h2 := hneq q hq e
              simp only [h2, if_false]
              refine ⟨h1.1, h1.2.1, h1.2.2.1, fun y' hy' => ?_⟩
              obtain ⟨q2, hq2l, hq2k, hq2y⟩ := hbef hq (by omega) hy'
              have : y' ≠ od[k] := hq2y ▸ hneq q2 hq2l (by omega)
              simp only [this, if_false]
              exact h1.2.2.2 y' hy'
          · have : x ≠ od[k] := fun e => hx (e ▸ List.getElem_mem hltk)
            simp only [this, if_false]
            exact hout x hx
        · have hnone : ov od[k] = none := ovI_none.1 he
          refine ⟨hb75, ho75, _, hT75, fun q hq hqk => ?_, fun x hx => ?_⟩
          · by_cases e : q = k
            · subst e
              simp only [if_true]
              exact ⟨by omega, by omega, fun _ => trivial, fun y' hy' => by rw [hnone] at hy'; cases hy'⟩
            · have h1 := hD q hq (by omega)
              have h2 := hneq q hq e
              simp only [h2, if_false]
              refine ⟨h1.1, h1.2.1, h1.2.2.1, fun y' hy' => ?_⟩
              obtain ⟨q2, hq2l, hq2k, hq2y⟩ := hbef hq (by omega) hy'
              have : y' ≠ od[k] := hq2y ▸ hneq q2 hq2l (by omega)
              simp only [this, if_false]
              exact h1.2.2.2 y' hy'
          · have : x ≠ od[k] := fun e => hx (e ▸ List.getElem_mem hltk)
            simp only [this, if_false]
            exact hout x hx
      · have hkk : k = od.length := by dsimp only at hgek; omega
        subst hkk
        have hget : ∀ x ∈ od, ∃ q : Nat, ∃ h : q < od.length, od[q] = x ∧ rkOf od x = q := fun x hxm => by
          obtain ⟨q, hq, e⟩ := List.mem_iff_getElem.1 hxm
          exact ⟨q, hq, e, e ▸ rkOf_get ok.nodup hq⟩
        refine hR w74 tb ov dp hb74 ⟨gb, ob, db, rb, hod ▸ hT74, hG.below hb74⟩ hS ⟨fun x hxm => ?_, hout, fun x hxm hn => ?_, fun x hxm y hy => ?_⟩
        · obtain ⟨q, hq, rfl, e⟩ := hget x hxm
          have := hD q hq hq
          rw [e]
          exact ⟨this.1, this.2.1⟩
        · obtain ⟨q, hq, rfl, e⟩ := hget x hxm
          exact (hD q hq hq).2.2.1 hn
        · obtain ⟨q, hq, rfl, e⟩ := hget x hxm
          exact (hD q hq hq).2.2.2 y hy

end Go.Proofs
