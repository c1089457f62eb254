/-
  What calls tell; the law's copies.
-/
import Derived.Test.Ytjplhoollkeihaa17o
import Derived.Test.YtjplhoollkeihaaL17c
namespace Go.Proofs
open Go.Gk Go.RowKit Go.Gr Go.St

theorem own_lenI {w : World} {s : Sl} {l : List Int} (h : Own w 3 1 s (l.map (Value.int .i64))) : s.l = l.length := by have := h.1; simp at this; omega
/-- Rows that the code has made (headers in a slice of its own). -/
structure OwnI (B T : Nat) (w : World) (C : Sl) (rows : List (List Int)) : Prop where
  size : T ≤ w.heap.size
  bT : B ≤ T
  fr : ∀ a, C.a = some a → B ≤ a.block ∧ a.block < T
  ex : ∃ hs : List Sl, hs.length = rows.length ∧ Own w 32 1 C (hs.map Sl.val) ∧ ∀ (i : Nat) (h : i < hs.length), Own w 3 1 hs[i] ((rows.getD i []).map (Value.int .i64)) ∧ ∀ a, hs[i].a = some a → B ≤ a.block ∧ a.block < T ∧ ∀ (j : Nat) (hj : j < hs.length) b, j < i → hs[j].a = some b → b.block < a.block
section
variable {B T : Nat} {w w' : World} {C : Sl} {rows : List (List Int)}
theorem OwnI.grow (h : OwnI B T w C rows) (hb : Below T w w') : OwnI B T w' C rows := by
  obtain ⟨hs, h1, h2, h3⟩ := h.ex
  have := hb.size
  have := h.size
  exact ⟨by omega, h.bT, h.fr, hs, h1, h2.of_block fun a ha => hb.block _ (h.fr a ha).2, fun i hi => ⟨(h3 i hi).1.of_block fun a ha => hb.block _ ((h3 i hi).2 a ha).2.1, (h3 i hi).2⟩⟩
theorem OwnI.up (h : OwnI B T w C rows) : OwnI B w.heap.size w C rows := by
  obtain ⟨hs, h1, h2, h3⟩ := h.ex
  have := h.size
  have := h.bT
  exact ⟨Nat.le_refl _, by omega, fun a ha => by have := h.fr a ha; omega, hs, h1, h2, fun i hi => ⟨(h3 i hi).1, fun a ha => by have := (h3 i hi).2 a ha; exact ⟨this.1, by omega, this.2.2⟩⟩⟩
theorem OwnI.len (h : OwnI B T w C rows) : C.l = rows.length := by
  obtain ⟨hs, h1, h2, _⟩ := h.ex
  have := h2.1
  rw [List.length_map] at this
  omega
theorem OwnI.isII (h : OwnI B w.heap.size w C rows) : ∃ hs, IsII w C hs rows := by
  obtain ⟨hs, h1, h2, h3⟩ := h.ex
  refine ⟨hs, Own.isS h2, h1, fun i hi hi' => ?_⟩
  have := Own.isS (h3 i hi).1
  rw [show rows.getD i [] = rows[i] by simp [List.getD, hi']] at this
  exact this
theorem OwnI.push (h : OwnI B T w C rows) {r : Sl} {l : List Int} (ho : Own w 3 1 r (l.map (Value.int .i64))) (hfr : Fresh T r) (hlen : (rows.length + 1) * 24 ≤ 140737488355328) {k : Sl → World → Prop}
    (hk : ∀ C' w', Below B w w' → OwnI B w'.heap.size w' C' (rows ++ [l]) → k C' w') :
    Nw (w.alloc (.cells #[(.slice r.a r.l r.c)] 32)) fun w1 => appendS Try.prog 22 (.slice C.a C.l C.c) (.slice (some (blk w.heap.size)) 1 1) w1 k := by
  obtain ⟨hs, h1, h2, h3⟩ := h.ex
  have hCl := h.len
  refine Nw.gen fun w1 hw1 => ?_
  have hB1 : Blk w1 w.heap.size 32 [r.val] := by rw [hw1]; exact Blk.new w _ #[_]
  have h21 : Own w1 32 1 C (hs.map Sl.val) := by rw [hw1]; exact h2.alloc _
  have b1 : Below w.heap.size w w1 := by rw [hw1]; exact (Below.refl _ _).alloc (Nat.le_refl _) _
  have z1 : w1.heap.size = w.heap.size + 1 := by rw [hw1]; simp
  refine append_one eII h21 rfl hB1 (by omega) (by omega) fun C' w' hC' hCl' ⟨b, hrb, hbo, hg⟩ => ?_
  have hbB : B ≤ b := by
    rcases hbo with hb | rfl
    · exact (h.fr _ hb).1
    · have := h.bT; have := h.size; omega
  have hbT := h.bT
  have hTz := h.size
  have zg := hg.size
  obtain ⟨cb, hcb⟩ := hC'.type hrb
  have keep : ∀ {r' : Sl} {xs : List Value}, Own w 3 1 r' xs → Own w' 3 1 r' xs := fun {r' xs} ho' => (ho'.below b1).of_block fun a ha => hg.block _ ((ho'.below b1).lt ha).2 fun e => by
    have e : b = a.block := (Option.some.inj e).symm
    have hlt := (ho'.lt ha).2
    rcases hbo with hb | hb
    · obtain ⟨cs, hcs⟩ := h2.type hb
      exact own_ne ho' hcs (by decide) ha e.symm
    · omega
  have b2 : Below B w w' := (b1.mono (Nat.le_trans hbT hTz)).trans (below_grown hg hbB (by omega))
  refine hk C' w' b2 ⟨Nat.le_refl _, by omega, fun a ha => ?_, hs ++ [r], by simp [h1], by simpa using hC', fun i hi => ?_⟩
  · rw [hrb] at ha
    cases ha
    exact ⟨hbB, hcb.lt⟩
  · by_cases e : i < hs.length
    · rw [List.getElem_append_left e, show (rows ++ [l]).getD i [] = rows.getD i [] by simp [List.getD, List.getElem?_append_left (show i < rows.length by omega)]]
      refine ⟨keep (h3 i e).1, fun a ha => ?_⟩
      have q := (h3 i e).2 a ha
      refine ⟨q.1, by omega, fun j hj b hji hb => ?_⟩
      rw [List.getElem_append_left (by omega)] at hb
      exact q.2.2 j (by omega) b hji hb
    · have e' : i = hs.length := by have : i < hs.length + 1 := by simpa using hi
                                    omega
      subst e'
      rw [List.getElem_concat_length rfl, show (rows ++ [l]).getD hs.length [] = l by simp [List.getD, h1]]
      refine ⟨keep ho, fun a ha => ⟨Nat.le_trans hbT (hfr a ha), by have := (ho.lt ha).2; omega, fun j hj b hji hb => ?_⟩⟩
      rw [List.getElem_append_left (by omega)] at hb
      have := ((h3 j hji).2 b hb).2.1
      have := hfr a ha
      omega
end

theorem pushI {B0 : Nat} {w0 w : World} {r : Sl} {l : List Int} {x : Int} (hb : Below B0 w0 w) (hB : B0 ≤ w.heap.size) (ho : Own w 3 1 r (l.map (Value.int .i64))) (hf : Fresh B0 r) (hl : (l.length + 1) * 8 ≤ 140737488355328)
    {k : Sl → World → Prop} (hk : ∀ r' w', Below B0 w0 w' → B0 ≤ w'.heap.size → Own w' 3 1 r' ((l ++ [x]).map (Value.int .i64)) → Fresh B0 r' → k r' w') :
    Nw (w.alloc (.cells #[.int .i64 x] 3)) fun w1 => appendS Try.prog 32 (.slice r.a r.l r.c) (.slice (some (blk w.heap.size)) 1 1) w1 k := by
  refine Nw.gen fun w1 hw1 => ?_
  have hB1 : Blk w1 w.heap.size 3 [.int .i64 x] := by rw [hw1]; exact Blk.new w _ #[_]
  have ho1 : Own w1 3 1 r (l.map (Value.int .i64)) := by rw [hw1]; exact ho.alloc _
  have hb1 : Below B0 w0 w1 := by rw [hw1]; exact hb.alloc hB _
  have hz1 : w1.heap.size = w.heap.size + 1 := by rw [hw1]; simp
  have hl1 := own_lenI ho1
  refine append_one eInt ho1 rfl hB1 (by omega) (by omega) fun r' w' hr hrl ⟨b, hrb, hbo, hg⟩ => ?_
  have hbB : B0 ≤ b := by
    rcases hbo with hb | rfl
    · exact hf _ hb
    · omega
  refine hk r' w' (hb1.trans (below_grown hg hbB (by omega))) ?_ (by simpa using hr) (fun a ha => by rw [hrb] at ha; cases ha; exact hbB)
  have := hg.size
  omega

theorem ccopied_specO {s : Sl} {hs : List Sl} {ll : List (List Int)} {w : World} {R : Value → World → Prop} (h : IsII w s hs ll) (h24 : 24 * ll.length ≤ 140737488351232) (h8 : ∀ l ∈ ll, 8 * l.length ≤ 140737488351232)
    (hR : ∀ r w', Below w.heap.size w w' → OwnI w.heap.size w'.heap.size w' r ll → R (.slice r.a r.l r.c) w') : callR Try.prog 88 #[.slice s.a s.l s.c] w R := by
  refine callR.of (intagliolaw17_copied_calls s R w ?_) fun _ _ h => h
  have hsl : s.l = ll.length := by have := h.top.len; have := h.len; omega
  refine LoopW.countS ll.length (by omega) (fun k (C : Sl) w' => Below w.heap.size w w' ∧ OwnI w.heap.size w'.heap.size w' C (ll.take k)) ⟨Below.refl _ _, ⟨Nat.le_refl _, Nat.le_refl _, (fun a ha => by cases ha), [], by simp, Own.nil _ _ _, fun i hi => by cases hi⟩⟩ ?_
  rintro k C w1 hk ⟨b1, hC⟩ next hnext
  have z1 := b1.size
  refine ifB_dec (fun hlt => ?_) (fun hge => ?_)
  · have hlt : k < ll.length := by dsimp only at hlt; omega
    have hkh : k < hs.length := by have := h.len; omega
    have hl8 := h8 _ (List.getElem_mem hlt)
    refine LoopW.countS (ll[k]).length (by omega) (fun m (K : Sl) w' => Below w1.heap.size w1 w' ∧ w1.heap.size ≤ w'.heap.size ∧ Own w' 3 1 K (((ll[k]).take m).map (Value.int .i64)) ∧ Fresh w1.heap.size K) ⟨Below.refl _ _, Nat.le_refl _, by simpa using Own.nil _ _ _, fun a ha => by cases ha⟩ ?_
    rintro m K w2 hm ⟨b2, z2, o2, f2⟩ next2 hnext2
    have h2 := h.below (b1.trans (b2.mono z1))
    have hrow := h2.row k hkh hlt
    have hrl := hrow.len
    refine elemS h2.top (k := k) hkh (ifB_dec (fun hlt2 => ?_) fun hge2 => ?_)
    · have hlt2 : m < (ll[k]).length := by dsimp only at hlt2; omega
      refine elemS h2.top (k := k) hkh (elemI hrow hlt2 (pushI b2 z2 o2 f2 (by simp; omega) fun r' w' q1 q2 q3 q4 => hnext2 _ _ hlt2 ⟨q1, q2, ?_, q4⟩))
      rw [List.take_succ_eq_append_getElem hlt2]; exact q3
    · have : m = (ll[k]).length := by dsimp only at hge2; omega
      subst this
      rw [List.take_length] at o2
      refine (hC.grow b2).push o2 f2 ?_ fun C' w6 b6 hC6 => hnext _ _ hlt ⟨(b1.trans (b2.mono z1)).trans b6, ?_⟩
      · simp
        omega
      · rw [List.take_succ_eq_append_getElem hlt]; exact hC6
  · have : k = ll.length := by dsimp only at hge; omega
    subst this
    rw [List.take_length] at hC
    exact hR C w1 b1 hC
theorem ccopied_spec {s : Sl} {hs : List Sl} {ll : List (List Int)} {w : World} {R : Value → World → Prop} (h : IsII w s hs ll) (h24 : 24 * ll.length ≤ 140737488351232) (h8 : ∀ l ∈ ll, 8 * l.length ≤ 140737488351232)
    (hR : ∀ r w' hs', Below w.heap.size w w' → IsII w' r hs' ll → R (.slice r.a r.l r.c) w') : callR Try.prog 88 #[.slice s.a s.l s.c] w R :=
  ccopied_specO h h24 h8 fun r w' hb hC => let ⟨hs', hI⟩ := hC.isII; hR r w' hs' hb hI

theorem chas_spec {s : Sl} {l : List Int} {n : Int} {w : World} {R : Value → World → Prop} (h : IsI w s l) (hR : ∀ b : Bool, (b = true ↔ n ∈ l) → R (.bool b) w) : callR Try.prog 92 #[.slice s.a s.l s.c, .int .i64 n] w R := by
  refine callR.of (intagliolaw17_has_calls s n R w ?_) fun _ _ h => h
  have hl := h.len
  refine LoopW.count l.length h.bound (fun k w' => w' = w ∧ n ∉ l.take k) ⟨rfl, by simp⟩ ?_
  rintro k w' hk ⟨hw, hn⟩ next hnext
  subst hw
  refine ifB_dec (fun hlt => ?_) (fun hge => ?_)
  · have hlt : k < l.length := by dsimp only at hlt; omega
    refine elemI h hlt (ifB_beq (fun e => hR true (⟨fun _ => (by rw [← e]; exact List.getElem_mem _), fun _ => rfl⟩)) (fun e => hnext _ hlt ⟨rfl, ?_⟩))
    rw [List.take_succ_eq_append_getElem hlt, List.mem_append]
    simp only [List.mem_singleton]
    exact fun h => h.elim hn fun h => e h.symm
  · have : k = l.length := by dsimp only at hge; omega
    subst this
    rw [List.take_length] at hn
    exact hR false ⟨(fun h => by cases h), fun h => absurd h hn⟩
theorem cContains_spec {s : Sl} {l : List Int} {n : Int} {w : World} {R : Value → World → Prop} (h : IsI w s l) (hR : ∀ b : Bool, (b = true ↔ n ∈ l) → R (.bool b) w) : callR Try.prog 113 #[.slice s.a s.l s.c, .int .i64 n] w R := by
  refine callR.of (slices_Contains_sint_int_calls s n R w ?_) fun _ _ h => h
  refine callR.of (slices_Index_sint_int_calls s n _ w ?_) fun _ _ h => h
  have hl := h.len
  refine LoopW.count l.length h.bound (fun k w' => w' = w ∧ n ∉ l.take k) ⟨rfl, by simp⟩ ?_
  rintro k w' hk ⟨hw, hn⟩ next hnext
  subst hw
  refine ifB_dec (fun hlt => ?_) (fun hge => ?_)
  · have hlt : k < l.length := by dsimp only at hlt; omega
    refine elemI h hlt (ifB_beq (fun e => ⟨(k : Int), rfl, hR _ ⟨fun _ => ?_, fun _ => by simp⟩⟩) (fun e => hnext _ hlt ⟨rfl, ?_⟩))
    · first | (rw [← e]; exact List.getElem_mem _) | (rw [e]; exact List.getElem_mem _)
    · rw [List.take_succ_eq_append_getElem hlt, List.mem_append]
      simp only [List.mem_singleton]
      exact fun h => h.elim hn fun h => e (by first | exact h.symm | exact h)
  · have : k = l.length := by dsimp only at hge; omega
    subst this
    rw [List.take_length] at hn
    exact ⟨-1, rfl, hR _ ⟨fun h => by simp at h, fun h => absurd h hn⟩⟩

section
variable {rc : Nat} {rows : List (List Nat)} {w : World} {R : Value → World → Prop}
theorem cLen_spec (h : IsCl w rc rows) (hR : R (.int .i64 (rows.length : Int)) w) : callR Try.prog 59 #[.pointer (some (Gk.blk rc))] w R := by
  refine callR.of (calls_Calls_Len_calls _ R w ?_) fun _ _ h => h
  obtain ⟨s, t, x, hs, h1, h2, h3, h4⟩ := h.ex
  have hsl : s.l = rows.length := by have := h2.top.len; have := h2.len; omega
  refine ifB_false rfl (derefP_some rfl ⟨s, h1.cell0 rfl, ?_⟩)
  show R (.int .i64 (s.l : Int)) w
  rw [hsl]; exact hR
theorem cDeep_spec (h : IsCl w rc rows) {i : Nat} (hi : i < rows.length) (hR : R (.int .i64 (dep rows i : Int)) w) : callR Try.prog 63 #[.pointer (some (Gk.blk rc)), .int .i64 (i : Int)] w R := by
  refine callR.of (calls_Calls_Deep_calls _ (i : Int) R w ?_) fun _ _ h => h
  refine JoinW.cut (fun _ w' => w' = w) (ifB_dec (fun h0 => by omega) fun _ => cLen_spec h ⟨_, rfl, ifB_dec (fun h0 => by omega) fun _ => rfl⟩) ?_
  rintro _ _ rfl
  obtain ⟨s, t, x, hs, h1, h2, h3, h4⟩ := h.ex
  refine derefP_some rfl ⟨x, h1.cell (n := 2) rfl, elemI h4 (k := i) (by simp; exact hi) ?_⟩
  simpa using hR
theorem cCalls_spec (hrl : ∀ i, (rows.getD i []).length ≤ 4096) (h : IsCl w rc rows) {i : Nat} (hi : i < rows.length) (hR : ∀ r w', Below w.heap.size w w' → Own w' 3 1 r ((rows.getD i []).map iN) → R (.slice r.a r.l r.c) w') :
    callR Try.prog 60 #[.pointer (some (Gk.blk rc)), .int .i64 (i : Int)] w R := by
  refine callR.of (calls_Calls_Calls_calls _ (i : Int) R w ?_) fun _ _ h => h
  refine JoinW.cut (fun _ w' => w' = w) (ifB_dec (fun h0 => by omega) fun _ => cLen_spec h ⟨_, rfl, ifB_dec (fun h0 => by omega) fun _ => rfl⟩) ?_
  rintro _ _ rfl
  obtain ⟨s, t, x, hs, h1, h2, h3, h4⟩ := h.ex
  have hih : i < hs.length := by have := h2.len; omega
  have hl := hrl i
  refine derefP_some rfl ⟨s, h1.cell0 rfl, rowN h2 hi hih (Clone_spec (f := iN) (l := rows.getD i []) (fun _ => rfl) ?_ (by omega) fun r w3 o3 f3 b3 => ⟨r, rfl, hR r w3 b3 o3⟩)⟩
  have := h2.row i hih hi
  rw [show rows.getD i [] = rows[i] by simp [List.getD, hi]]
  exact this
theorem cCalled_spec (hmax : rows.length ≤ 4096) (h : IsCl w rc rows) {i : Nat} (hR : ∀ r w', Below w.heap.size w w' → Own w' 3 1 r (((List.range rows.length).filter fun k => (rows.getD k []).contains i).map iN) → R (.slice r.a r.l r.c) w') :
    callR Try.prog 61 #[.pointer (some (Gk.blk rc)), .int .i64 (i : Int)] w R := by
  refine callR.of (calls_Calls_Called_calls _ (i : Int) R w ?_) fun _ _ h => h
  refine cLen_spec h ⟨_, rfl, ?_⟩
  refine LoopW.countS rows.length (by omega) (fun k (l : Sl) w' => Below w.heap.size w w' ∧ w.heap.size ≤ w'.heap.size ∧ Own w' 3 1 l (((List.range k).filter fun k => (rows.getD k []).contains i).map iN) ∧ Fresh w.heap.size l) ⟨Below.refl _ _, Nat.le_refl _, Own.nil _ _ _, fun a ha => by cases ha⟩ ?_
  rintro k l w2 hk ⟨b2, z2, o2, f2⟩ next hnext
  refine ifB_dec (fun hlt => ?_) (fun hge => ?_)
  · have hlt : k < rows.length := by dsimp only at hlt; omega
    have hcl : ((List.range k).filter fun k => (rows.getD k []).contains i).length ≤ k := by have := List.length_filter_le (fun k => (rows.getD k []).contains i) (List.range k); simpa using this
    have e : (List.range (k + 1)).filter (fun k => (rows.getD k []).contains i) = (List.range k).filter (fun k => (rows.getD k []).contains i) ++ if (rows.getD k []).contains i then [k] else [] := by
      rw [List.range_succ, List.filter_append]
      congr 1
      simp [List.filter_cons]
    refine JoinW.cut (fun (st : Sl × Unit) w' => Below w.heap.size w w' ∧ w.heap.size ≤ w'.heap.size ∧ Own w' 3 1 st.1 (((List.range (k + 1)).filter fun k => (rows.getD k []).contains i).map iN) ∧ Fresh w.heap.size st.1) ?_ fun st w' hh => hnext _ _ hlt hh
    obtain ⟨s, t, x, hs, h1, h2, h3, h4⟩ := (h.below b2).ex
    have hkh : k < hs.length := by have := h2.len; omega
    refine derefP_some rfl ⟨s, h1.cell0 rfl, rowN h2 hlt hkh (cContains_spec (rowI h2 hlt hkh) fun b hb => ⟨b, rfl, ifB_bool (fun eb => push_own rfl b2 z2 o2 f2 (by omega) fun r' w' q1 q2 q3 q4 => ⟨q1, q2, ?_, q4⟩) fun eb => ⟨b2, z2, ?_, f2⟩⟩)⟩
    · have : (rows.getD k []).contains i = true := by
        rw [List.contains_iff_mem]
        obtain ⟨y, hy, ey⟩ := List.mem_map.1 (hb.1 eb)
        rw [show i = y by omega]; exact hy
      rw [e, if_pos this]; exact q3
    · have : ¬ (rows.getD k []).contains i = true := by
        rw [List.contains_iff_mem]
        exact fun hm => by rw [hb.2 (List.mem_map.2 ⟨i, hm, rfl⟩)] at eb; cases eb
      rw [e, if_neg this, List.append_nil]; exact o2
  · have : k = rows.length := by dsimp only at hge; omega
    subst this
    exact hR l w2 b2 o2
theorem isNaN_spec {x : Int} (hR : R (.bool false) w) : callR Try.prog 153 #[.int .i64 x] w R := by
  refine callR.of (cmp_isNaN_int_calls x R w ?_) fun _ _ h => h
  unfold L_cmp_isNaN_int
  rw [bne_self_eq_false]
  exact hR
open Classical in
noncomputable def wyB (rows : List (List Nat)) (a b : Nat) : Bool := decide (Wy rows a b)
theorem wyB_iff {a b : Nat} : wyB rows a b = true ↔ Wy rows a b := by simp [wyB]
theorem cReached_spec (hmax : rows.length ≤ 4096) (h : IsCl w rc rows) {i : Nat} (hi : i < rows.length) (hR : ∀ r w', Below w.heap.size w w' → Own w' 3 1 r (((List.range rows.length).filter (wyB rows i)).map iN) → R (.slice r.a r.l r.c) w') :
    callR Try.prog 64 #[.pointer (some (Gk.blk rc)), .int .i64 (i : Int)] w R := by
  refine callR.of (calls_Calls_Reached_calls _ (i : Int) R w ?_) fun _ _ h => h
  refine JoinW.cut (fun _ w' => w' = w) (ifB_dec (fun h0 => by omega) fun _ => cLen_spec h ⟨_, rfl, ifB_dec (fun h0 => by omega) fun _ => rfl⟩) ?_
  rintro _ wz ez
  have ez := ez.symm
  subst ez
  obtain ⟨s, t, x, hs, h1, h2, ⟨ts, g1, g2, g3⟩, h4⟩ := h.ex
  obtain ⟨bl, g4, g5, g6⟩ := g3 i (by omega)
  refine derefP_some rfl ⟨t, h1.cell (n := 1) rfl, elemS g1 (k := i) (by omega) ?_⟩
  have hl := g4.len
  refine LoopW.countS rows.length (by omega) (fun k (l : Sl) w' => Below w.heap.size w w' ∧ w.heap.size ≤ w'.heap.size ∧ Own w' 3 1 l (((List.range k).filter (wyB rows i)).map iN) ∧ Fresh w.heap.size l) ⟨Below.refl _ _, Nat.le_refl _, Own.nil _ _ _, fun a ha => by cases ha⟩ ?_
  rintro k l w2 hk ⟨b2, z2, o2, f2⟩ next hnext
  refine ifB_dec (fun hlt => ?_) (fun hge => ?_)
  · have hlt : k < rows.length := by dsimp only at hlt; omega
    have hcl : ((List.range k).filter (wyB rows i)).length ≤ k := by have := List.length_filter_le (wyB rows i) (List.range k); simpa using this
    have e : (List.range (k + 1)).filter (wyB rows i) = (List.range k).filter (wyB rows i) ++ if wyB rows i k then [k] else [] := by
      rw [List.range_succ, List.filter_append]
      congr 1
      simp [List.filter_cons]
    refine JoinW.cut (fun (st : Sl × Unit) w' => Below w.heap.size w w' ∧ w.heap.size ≤ w'.heap.size ∧ Own w' 3 1 st.1 (((List.range (k + 1)).filter (wyB rows i)).map iN) ∧ Fresh w.heap.size st.1) ?_ fun st w' hh => hnext _ _ hlt hh
    refine elemB (g4.below b2) (k := k) (by omega) ?_
    rw [show bl[k]'(by omega) = bl.getD k false by simp [List.getD, show k < bl.length by omega]]
    refine ifB_bool (fun eb => push_own rfl b2 z2 o2 f2 (by omega) fun r' w' q1 q2 q3 q4 => ⟨q1, q2, ?_, q4⟩) fun eb => ⟨b2, z2, ?_, f2⟩
    · rw [e, if_pos (wyB_iff.2 ((g6 k).1 eb))]; exact q3
    · rw [e, if_neg, List.append_nil]
      · exact o2
      · rw [wyB_iff]; exact fun q => by rw [(g6 k).2 q] at eb; cases eb
  · have : k = rows.length := by dsimp only at hge; omega
    subst this
    exact hR l w2 b2 o2
theorem cOrder_spec (hmax : rows.length ≤ 4096) (h : IsCl w rc rows) (hR : ∀ r w' d, Below w.heap.size w w' → Own w' 3 1 r ((rowD rows.length d).map iN) → Bk (fun i => (dep rows i : Int)) d 0 rows.length → R (.slice r.a r.l r.c) w') :
    callR Try.prog 62 #[.pointer (some (Gk.blk rc))] w R := by
  refine callR.of (calls_Calls_Order_calls _ R w ?_) fun _ _ h => h
  refine Nw.gen fun w1 hw1 => ?_
  have hP1 : Blk w1 w.heap.size 65 [.pointer (some (Gk.blk rc))] := by rw [hw1]; exact Blk.new w _ #[_]
  have b1 : Below w.heap.size w w1 := by rw [hw1]; exact (Below.refl _ _).alloc (Nat.le_refl _) _
  have z1 : w1.heap.size = w.heap.size + 1 := by rw [hw1]; simp
  clear hw1
  refine ⟨_, hP1.cell0 rfl, cLen_spec (h.below b1) ⟨_, rfl, ?_⟩⟩
  refine LoopW.countS rows.length (by omega) (fun k (l : Sl) w' => Below w1.heap.size w1 w' ∧ w1.heap.size ≤ w'.heap.size ∧ Own w' 3 1 l ((rowD k id).map iN) ∧ Fresh w1.heap.size l) ⟨Below.refl _ _, Nat.le_refl _, Own.nil _ _ _, fun a ha => by cases ha⟩ ?_
  rintro k l w2 hk ⟨b2, z2, o2, f2⟩ next hnext
  refine ifB_dec (fun hlt => ?_) (fun hge => ?_)
  · have hlt : k < rows.length := by dsimp only at hlt; omega
    refine push_own rfl b2 z2 o2 f2 (by simp; omega) fun r' w' q1 q2 q3 q4 => hnext _ _ hlt ⟨q1, q2, ?_, q4⟩
    have e : rowD (k + 1) id = rowD k id ++ [k] := by simp [rowD, List.range_succ]
    rw [e]; exact q3
  · have hke : k = rows.length := by dsimp only at hge; omega
    subst hke
    have h2 := (h.below b1).below b2
    have hP2 := hP1.below b2
    have cmp : CmpOk l rows.length w2 (.func (.func 115) #[] #[.pointer (some (Gk.blk w.heap.size))]) (fun i => (dep rows i : Int)) := fun w' on a b ha hb K hK => by
      have hct : Try.fs.contains 115 = true := by kernel_rfl
      unfold callV
      simp only [hct]
      have bb : Below w1.heap.size w2 w' := on.below f2
      have hP' : Blk w'.drew w.heap.size 65 [.pointer (some (Gk.blk rc))] := by
        have : Blk w' w.heap.size 65 [.pointer (some (Gk.blk rc))] := hP2.of_block (bb.block _ (by omega))
        exact this.drew
      -- what lies below the list stays
      have hC' : IsCl w'.drew rc rows := h.below ((b1.trans ((b2.trans bb).mono (by omega))).drew)
      obtain ⟨s, t, x, hs, g1, g2, g3, g4⟩ := hC'.ex
      refine calls_Calls_Order_1_calls (a : Int) (b : Int) (Gk.blk w.heap.size) _ w' ?_
      refine ⟨_, hP'.cell0 rfl, derefP_some rfl ⟨x, g1.cell (n := 2) rfl, elemI g4 (k := a) (by simp; exact ha) ⟨_, hP'.cell0 rfl, derefP_some rfl ⟨x, g1.cell (n := 2) rfl, elemI g4 (k := b) (by simp; exact hb) ?_⟩⟩⟩⟩
      simp only [List.getElem_map, List.getElem_range]
      refine callR.of (cmp_Compare_int_calls (dep rows a : Int) (dep rows b : Int) _ w'.drew ?_) fun _ _ h => h
      refine isNaN_spec ⟨false, rfl, isNaN_spec ⟨false, rfl, ?_⟩⟩
      refine ifB_false rfl <| ifB_false rfl <| ifB_dec (fun hl => ⟨-1, rfl, hK _ ⟨fun _ => hl, fun _ => by decide⟩⟩) fun hl => ifB_dec (fun hg => ⟨1, rfl, hK _ ⟨fun q => by omega, fun q => absurd q hl⟩⟩) fun hg => ⟨0, rfl, hK _ ⟨fun q => by omega, fun q => absurd q hl⟩⟩
    refine SortStable_spec hmax cmp ⟨Only.refl _ _, o2⟩ fun w6 d hD hBk => ⟨rfl, hR l w6 d (b1.trans ((b2.trans (hD.on.below f2)).mono (by omega))) hD.own hBk⟩
end

end Go.Proofs
