/-
  The document's nest: Fit, the wide graph, New, heads and constructs.
-/
import Derived.Test.Ytjplhoollkeihaa16p
import Derived.Test.Ytjplhoollkeihaa16q
import Derived.Test.YtjplhoollkeihaaL16c
namespace Go.Proofs
open Go.Gk Go.RowKit Go.Gr Go.Dm

section
variable {rb : Nat} {nx : List (List Nat)} {ml : List Mg} {s : Sl} {w : World} {R : Value → World → Prop}
theorem rNextF_spec (hx : NxOk nx) {k : Nat} (hk : k < nx.length) (h : IsR w rb nx)
    (hR : ∀ r w', Own w' 3 1 r ((nx.getD k []).map iN) → Fresh w.heap.size r → Below w.heap.size w w' → w.heap.size ≤ w'.heap.size → R (.slice r.a r.l r.c) w') :
    callR Try.prog 98 #[.pointer (some (blk rb)), .int .i64 (k : Int)] w R := by
  refine callR.of (intaglioref14_Graph_Next_calls _ (k : Int) R w ?_) fun _ _ h => h
  refine JoinW.cut (fun _ w' => w' = w) (ifB_dec (fun h0 => by omega) fun h0 => rLen_spec h ⟨_, rfl, ifB_dec (fun h1 => by omega) fun h1 => rfl⟩) ?_
  rintro _ _ rfl
  rename_i w
  have hgd : nx.getD k [] = nx[k] := by simp [List.getD, hk]
  have hrl := hx.row_le k
  have hmx := hx.max
  obtain ⟨s, hs, g1, g2⟩ := h
  have hrow : ∀ {w' : World}, Below w.heap.size w w' → ∀ (h' : k < hs.length), IsN w' hs[k] (nx.getD k []) := fun hb h' => by rw [hgd]; exact (g2.below hb).row k h' hk
  refine LoopW.countS (nx.getD k []).length (by omega) (fun j l w' => Below w.heap.size w w' ∧ w.heap.size ≤ w'.heap.size ∧ Own w' 3 1 l (((nx.getD k []).take j).map iN) ∧ Fresh w.heap.size l)
    ⟨Below.refl _ _, Nat.le_refl _, by simpa using Own.nil _ _ _, fun a ha => by cases ha⟩ ?_
  rintro j l w2 hj ⟨hb, hz, ho, hf⟩ next hnext
  refine rRow (g1.below hb) (g2.below hb) hk fun hh => ?_
  have hrn : hs[k].l = (nx.getD k []).length := (hrow hb hh).len
  refine ifB_dec (fun hlt => ?_) (fun hge => ?_)
  · have hlt : j < (nx.getD k []).length := by dsimp only at hlt; omega
    refine rRow (g1.below hb) (g2.below hb) hk fun hh => ?_
    refine elemN (hrow hb hh) hlt ?_
    refine push_own rfl hb hz ho hf (by simp; omega) fun r' w' k1 k2 k3 k4 => hnext r' w' hlt ⟨k1, k2, ?_, k4⟩
    rw [List.take_succ_eq_append_getElem hlt]; exact k3
  · have hj' : j = (nx.getD k []).length := by dsimp only at hge; omega
    subst hj'
    rw [List.take_length] at ho
    exact hR l w2 ho hf hb hz

theorem rFit_spec (hG : IsR w rb nx) (hM : IsM w s ml) (hR : ∀ b, (b = true ↔ Fit nx.length ml) → R (.bool b) w) :
    callR Try.prog 154 #[.pointer (some (Gk.blk rb)), .slice s.a s.l s.c] w R := by
  refine callR.of (intaglioref16_Fit_calls _ s R w ?_) fun _ _ h => h
  have hl := hM.len
  have bad : ¬ Fit nx.length ml → R (.bool false) w := fun h => hR false ⟨(fun e => by cases e), fun h' => absurd h' h⟩
  refine rLen_spec hG ⟨_, rfl, ifB_bne (fun h => bad fun hf => h (by have := hf.1; omega)) fun he => ?_⟩
  have hlen : ml.length = nx.length := by omega
  refine LoopW.count ml.length hM.bound (fun k w' => w' = w ∧ ∀ x ∈ ml.take k, FitP nx.length x) ⟨rfl, by simp⟩ ?_
  rintro k w2 hk ⟨rfl, hF⟩ next hnext
  refine ifB_dec (fun hlt => ?_) (fun hge => ?_)
  · have hlt : k < ml.length := by dsimp only at hlt; omega
    have no : ¬ FitP nx.length ml[k] → R (.bool false) w2 := fun h => bad fun hf => h (hf.2 _ (List.getElem_mem _))
    refine JoinW.cut (fun _ w' => w' = w2 ∧ FitP nx.length ml[k]) ?_ ?_
    · refine elemMk hM hlt (ifB_dec (fun h3 => no fun h => by have := h.1; omega) fun h3 => ?_)
      refine JoinW.cut (fun _ w' => w' = w2 ∧ (ml[k].1 ≠ 0 → 0 ≤ ml[k].2.1 ∧ ml[k].2.1 < nx.length)) ?_ ?_
      · refine elemMk hM hlt (ifB_bne (fun h0 => elemMt hM hlt (ifB_dec (fun h1 => no fun h => by have := h.2.1 h0; omega) fun h1 => elemMt hM hlt (ifB_dec (fun h2 => no fun h => by have := h.2.1 h0; omega) fun h2 => ⟨rfl, fun _ => by omega⟩))) fun h0 => ⟨rfl, fun h => absurd h0 h⟩)
      · rintro _ _ ⟨rfl, hto⟩
        rename_i w2
        refine elemMk hM hlt (ifB_beq (fun h0 => elemMc hM hlt (ifB_dec (fun h1 => no fun h => by have := h.2.2 h0; omega) fun h1 => elemMc hM hlt (ifB_dec (fun h2 => no fun h => by have := h.2.2 h0; omega) fun h2 => ⟨rfl, by omega, hto, fun _ => by omega⟩))) fun h0 => ⟨rfl, by omega, hto, fun h => absurd h h0⟩)
    · rintro _ _ ⟨rfl, hf⟩
      refine hnext _ hlt ⟨rfl, fun x hx => ?_⟩
      rw [List.take_succ_eq_append_getElem hlt, List.mem_append] at hx
      rcases hx with hx | hx
      · exact hF x hx
      · rw [List.mem_singleton] at hx; rw [hx]; exact hf
  · have : k = ml.length := by dsimp only at hge; omega
    subst this
    rw [List.take_length] at hF
    exact hR true ⟨fun _ => ⟨hlen, hF⟩, fun _ => rfl⟩

theorem CT.isII {B T : Nat} {C : Sl} {rows : List (List Nat)} (h : CT B T w C rows) : ∃ hs, IsII w C hs (rows.map fun l => l.map fun (x : Nat) => (x : Int)) := by
  obtain ⟨hs, h1, h2, h3⟩ := h.ex
  refine ⟨hs, Own.isS h2, by simp [h1], fun i hi hi' => ?_⟩
  have := IsS.toI (Own.isS (h3 i hi).1)
  rw [List.getElem_map]
  rw [show rows.getD i [] = rows[i]'(by omega) by simp [List.getD, show i < rows.length by omega]] at this
  exact this

set_option maxHeartbeats 2000000 in
theorem wide_spec (hx : NxOk nx) (hG : IsR w rb nx) (hM : IsM w s ml) (hf : Fit nx.length ml) (hR : ∀ w' wb, Below w.heap.size w w' → IsR w' wb (wideX nx ml) → R (.pointer (some (Gk.blk wb))) w') :
    callR Try.prog 155 #[.pointer (some (Gk.blk rb)), .slice s.a s.l s.c] w R := by
  refine callR.of (intaglioref16_wide_calls _ s R w ?_) fun _ _ h => h
  have hl := hM.len
  have hml := hf.1
  have hmx := hx.max
  have hps := hx.pos
  refine LoopW.countS nx.length (by omega) (fun k (C : Sl) w' => Below w.heap.size w w' ∧ CT w.heap.size w'.heap.size w' C ((List.range k).map (wrow nx ml))) ⟨Below.refl _ _, ⟨Nat.le_refl _, Nat.le_refl _, (fun a ha => by cases ha), [], rfl, Own.nil _ _ _, fun i hi => by cases hi⟩⟩ ?_
  rintro k C w1 hk ⟨b1, hC⟩ next hnext
  have z1 := b1.size
  refine ifB_dec (fun hlt => ?_) (fun hge => ?_)
  · have hlt : k < nx.length := by dsimp only at hlt; omega
    have hkm : k < ml.length := by omega
    have hrl := hx.row_le k
    have hfk : FitP nx.length ml[k] := hf.2 _ (List.getElem_mem hkm)
    have hwr : wrow nx ml k = nx.getD k [] ++ extL ml[k] := by unfold wrow; congr 2; simp [List.getD, hkm]
    refine rNextF_spec hx hlt (hG.below b1) fun r4 w2 o2 f2 b2 z2 => ⟨r4, rfl, ?_⟩
    have hM2 := IsC.mbelow (IsC.mbelow hM b1) b2
    refine JoinW.cut (fun (st : Sl × Unit) w' => Below w1.heap.size w1 w' ∧ w1.heap.size ≤ w'.heap.size ∧ Fresh w1.heap.size st.1 ∧ Own w' 3 1 st.1 ((nx.getD k [] ++ if ml[k].1 = 0 then [] else [ml[k].2.1.toNat]).map iN)) ?_ ?_
    · refine elemMk hM2 hkm (ifB_bne (fun h0 => ?_) fun h0 => ⟨b2, z2, f2, by rw [if_pos h0, List.append_nil]; exact o2⟩)
      have h1 := hfk.2.1 h0
      refine elemMt hM2 hkm (push_own (y := ml[k].2.1.toNat) (by omega) b2 z2 o2 f2 (by omega) fun r' w' q1 q2 q3 q4 => ⟨q1, q2, q4, by rw [if_neg h0]; exact q3⟩)
    rintro ⟨r6, _⟩ w5 ⟨b5, z5, f5, o5⟩
    have hM5 := IsC.mbelow (IsC.mbelow hM b1) b5
    refine JoinW.cut (fun (st : Sl × Unit) w' => Below w1.heap.size w1 w' ∧ w1.heap.size ≤ w'.heap.size ∧ Own w' 3 1 st.1 ((wrow nx ml k).map iN)) ?_ ?_
    · refine elemMk hM5 hkm (ifB_beq (fun h2 => ?_) fun h2 => ⟨b5, z5, ?_⟩)
      · have h1 := hfk.2.2 h2
        refine elemMc hM5 hkm (push_own (y := ml[k].2.2.toNat) (by omega) b5 z5 o5 f5 (by
          rw [List.length_append]
          have : (if ml[k].1 = 0 then ([] : List Nat) else [ml[k].2.1.toNat]).length ≤ 1 := by split <;> simp
          omega) fun r' w' q1 q2 q3 q4 => ⟨q1, q2, ?_⟩)
        rw [hwr]
        unfold extL
        rw [if_neg (by omega), if_pos h2]
        rw [if_neg (by omega), List.append_assoc] at q3
        exact q3
      · have e : extL ml[k] = if ml[k].1 = 0 then [] else [ml[k].2.1.toNat] := by
          unfold extL
          split
          · rfl
          · first | rfl | rw [if_neg h2]
        rw [hwr, e]
        exact o5
    rintro ⟨r13, _⟩ w8 ⟨b8, z8, o8⟩
    refine (hC.grow b8).up.push o8 (by simp; omega) fun C' w10 b10 hC10 => hnext _ _ hlt ⟨(b1.trans (b8.mono z1)).trans b10, ?_⟩
    rw [List.range_succ, List.map_append]
    exact hC10
  · have : k = nx.length := by dsimp only at hge; omega
    subst this
    obtain ⟨hs, hII⟩ := hC.isII
    have hII : IsII w1 C hs (wideI nx ml) := hII
    have hlw : (wideI nx ml).length = nx.length := by simp [wideI, wideL]
    refine refOf_spec hII (fun l hl => ?_) (fun h => absurd h (by omega)) (fun h => absurd h (by omega)) (fun _ _ h => absurd (wideI_good hx hf) h) fun _ _ _ w2 wb b2 hR2 => ⟨_, _, rfl, ?_⟩
    · obtain ⟨y, hy, rfl⟩ := List.mem_map.1 hl
      obtain ⟨i, hi, rfl⟩ := List.mem_map.1 hy
      rw [List.length_map]
      unfold wrow
      rw [List.length_append]
      have := hx.row_le i
      have := extL_len (ml.getD i (0, 0, 0))
      omega
    · rw [edges_wide] at hR2
      exact hR w2 wb (b1.trans (b2.mono z1)) hR2

/-- The document's nest at block xb. -/
structure IsX (w : World) (xb rb : Nat) (s : Sl) (nx : List (List Nat)) (ml : List Mg) : Prop where
  d : DOk nx ml
  g : IsR w rb nx
  m : IsM w s ml
  ex : ∃ (wb : Nat) (is ds : Sl) (bl : List Bool), Blk w xb 168 [.pointer (some (Gk.blk rb)), s.val, .pointer (some (Gk.blk wb)), is.val, ds.val] ∧ IsS Value.bool w is bl ∧ bl.length = nx.length ∧ (∀ j, bl.getD j false = true ↔ j ∈ orderOf (wideX nx ml)) ∧ Tab w ds nx.length (DomR (wideX nx ml))
theorem IsX.below {w' : World} {xb : Nat} (h : IsX w xb rb s nx ml) (hb : Below w.heap.size w w') : IsX w' xb rb s nx ml := by
  obtain ⟨wb, is, ds, bl, h1, h2, h3, h4, h5⟩ := h.ex
  exact ⟨h.d, h.g.below hb, IsC.mbelow h.m hb, wb, is, ds, bl, h1.below hb, h2.below hb, h3, h4, h5.below hb⟩
theorem DW_nat {wx : List (List Nat)} {a b : Nat} : DW wx (a : Int) (b : Int) ↔ DomR wx a b :=
  ⟨fun ⟨a', b', e1, e2, h⟩ => by rw [show a = a' by omega, show b = b' by omega]; exact h, fun h => ⟨a, b, rfl, rfl, h⟩⟩
/-- Dom[a][b] is asked. -/
theorem IsX.dom {xb : Nat} (h : IsX w xb rb s nx ml) {a b : Nat} (ha : a < nx.length) (hb : b < nx.length) {φ : Bool → Prop} (hφ : ∀ v, (v = true ↔ DW (wideX nx ml) (a : Int) (b : Int)) → φ v) :
    derefP (some (Gk.blk xb)) fun a3 => ldS w (a3.add 4) fun x4 => (0 ≤ (a : Int) ∧ (a : Int) < (x4.l : Int)) ∧ derefP x4.a fun a5 => ldS w (a5.add (Int.toNat (a : Int))) fun x6 => (0 ≤ (b : Int) ∧ (b : Int) < (x6.l : Int)) ∧ derefP x6.a fun a7 => ldB w (a7.add (Int.toNat (b : Int))) φ := by
  obtain ⟨wb, is, ds, bl, h1, h2, h3, h4, h5⟩ := h.ex
  exact derefP_some rfl ⟨ds, h1.cell (n := 4) rfl, h5.get ha hb fun v hv => hφ v (by rw [DW_nat]; exact hv)⟩
theorem IsX.ms {xb : Nat} (h : IsX w xb rb s nx ml) {φ : Sl → Prop} (hφ : φ s) : derefP (some (Gk.blk xb)) fun a5 => ldS w (a5.add 1) φ := by
  obtain ⟨wb, is, ds, bl, h1, _⟩ := h.ex
  exact derefP_some rfl ⟨s, h1.cell (n := 1) rfl, hφ⟩
theorem IsX.len {xb : Nat} (h : IsX w xb rb s nx ml) : s.l = nx.length ∧ ml.length = nx.length := by
  have := h.m.len
  have := h.d.fit.1
  omega
theorem Head_spec {xb : Nat} (h : IsX w xb rb s nx ml) {i : Nat} (hi : i < nx.length) (hR : ∀ b, (b = true ↔ HeadM nx ml i) → R (.bool b) w) : callR Try.prog 128 #[.pointer (some (Gk.blk xb)), .int .i64 (i : Int)] w R := by
  refine callR.of (intaglioref16_Nest_Head_calls _ (i : Int) R w ?_) fun _ _ h => h
  obtain ⟨wb, is, ds, bl, h1, h2, h3, h4, h5⟩ := h.ex
  have hml := h.len
  refine derefP_some rfl ⟨is, h1.cell (n := 3) rfl, elemB h2 (k := i) (by omega) ?_⟩
  have e : bl[i]'(by omega) = bl.getD i false := by simp [List.getD, show i < bl.length by omega]
  rw [e]
  refine ifB_bool (fun hb => h.ms (elemMk h.m (by omega) (hR _ ?_))) fun hb => hR _ ⟨(fun h => by cases h), fun hh => ?_⟩
  · rw [bne_iff_ne, getD_get (by omega)]
    exact ⟨fun hk => ⟨(h4 i).1 hb, hk⟩, fun hh => hh.2⟩
  · rw [(h4 i).2 hh.1] at hb
    cases hb
theorem In_spec {xb : Nat} (h : IsX w xb rb s nx ml) {x i : Nat} (hx : x < nx.length) (hi : i < nx.length) (hR : ∀ b w', Below w.heap.size w w' → (b = true ↔ InM nx ml x i) → R (.bool b) w') :
    callR Try.prog 129 #[.pointer (some (Gk.blk xb)), .int .i64 (x : Int), .int .i64 (i : Int)] w R := by
  refine callR.of (intaglioref16_Nest_In_calls _ (x : Int) (i : Int) R w ?_) fun _ _ h => h
  have hd : Below w.heap.size w w.drew := (Below.refl _ _).drew
  have h' := h.below hd
  have hml := h.len
  refine Head_spec h' hx fun b hb => ⟨b, rfl, ifB_bool (fun e1 => ?_) fun e1 => hR _ _ hd ⟨(fun h => by cases h), fun hh => ?_⟩⟩
  · have hh := hb.1 e1
    refine h'.dom hx hi fun v hv => ifB_bool (fun e2 => ?_) fun e2 => hR _ _ hd ⟨(fun h => by cases h), fun hh => ?_⟩
    · obtain ⟨wb, is, ds, bl, h1, h2, h3, h4, h5⟩ := h'.ex
      refine derefP_some rfl ⟨ds, h1.cell (n := 4) rfl, h'.ms (elemMt h'.m (k := x) (by omega) ?_)⟩
      obtain ⟨t, et, ht⟩ := to_ext h.d hx hh.2
      rw [getD_get (by omega), et]
      have htl : t < nx.length := by
        have := h.d.okw.rows x t ht
        rwa [wide_len] at this
      refine h5.get htl hi fun v2 hv2 => hR _ _ hd ?_
      rw [Bool.not_eq_true', ← Bool.not_eq_true, hv2]
      unfold InM
      rw [et]
      exact ⟨fun q => ⟨hh.2, hv.1 e2, fun q' => q (DW_nat.1 q')⟩, fun q q' => q.2.2 (DW_nat.2 q')⟩
    · rw [hv.2 hh.2.1] at e2
      cases e2
  · rw [hb.2 (hh.head h.d)] at e1
    cases e1
theorem Of_spec {xb : Nat} (h : IsX w xb rb s nx ml) {i : Nat} (hi : i < nx.length) {kind : Int} (hR : ∀ b, (b = true ↔ OfM nx ml kind i) → R (.bool b) w) :
    callR Try.prog 173 #[.pointer (some (Gk.blk xb)), .int .i64 (i : Int), .int .u8 kind] w R := by
  refine callR.of (intaglioref16_Nest_Of_calls _ (i : Int) kind R w ?_) fun _ _ h => h
  have hml := h.len
  refine h.ms (elemMk h.m (k := i) (by omega) (Head_spec h hi fun b hb => ⟨b, rfl, ?_⟩))
  rw [getD_get (show i < ml.length by omega)]
  refine ifB_bool (fun e => ?_) fun e => hR _ ⟨(fun h => by cases h), fun hh => ?_⟩
  · have hh := hb.1 e
    refine ifB_beq (fun e0 => hR _ ⟨fun _ => ⟨hh, .inl e0⟩, fun _ => rfl⟩) fun e0 => ifB_beq (fun e2 => hR _ ⟨fun _ => ⟨hh, .inr (.inl e2)⟩, fun _ => rfl⟩) fun e2 => ifB_beq (fun e3 => hR _ ?_) fun e3 => hR _ ⟨(fun h => by cases h), fun hh => ?_⟩
    · rw [beq_iff_eq]
      exact ⟨fun q => ⟨hh, .inr (.inr ⟨e3, q⟩)⟩, fun q => by
        rcases q.2 with q | q | q
        · exact absurd q e0
        · exact absurd q e2
        · exact q.2⟩
    · rcases hh.2 with q | q | q
      · exact absurd q e0
      · exact absurd q e2
      · exact absurd q.1 e3
  · rw [hb.2 hh.1] at e
    cases e
theorem Within_spec {xb : Nat} (h : IsX w xb rb s nx ml) {x i : Nat} (hx : x < nx.length) (hi : i < nx.length) {kind : Int} (hR : ∀ b w', Below w.heap.size w w' → (b = true ↔ WithinM nx ml x i kind) → R (.bool b) w') :
    callR Try.prog 130 #[.pointer (some (Gk.blk xb)), .int .i64 (x : Int), .int .i64 (i : Int), .int .u8 kind] w R := by
  refine callR.of (intaglioref16_Nest_Within_calls _ (x : Int) (i : Int) kind R w ?_) fun _ _ h => h
  have hml := h.len
  have hmx := h.d.ok.max
  have no : ∀ w', Below w.heap.size w w' → ¬ WithinM nx ml x i kind → R (.bool false) w' := fun w' hb hn => hR false w' hb ⟨(fun h => by cases h), fun h => absurd h hn⟩
  refine JoinW.cut (fun _ w' => Below w.heap.size w w' ∧ OfM nx ml kind x ∧ InM nx ml x i) ?_ ?_
  · refine Of_spec h hx fun b hb => ⟨b, rfl, ifB_not (ifB_bool (fun e => In_spec h hx hi fun b2 w2 b12 hb2 => ⟨b2, rfl, ifB_not (ifB_bool (fun e2 => ⟨b12, hb.1 e, hb2.1 e2⟩) fun e2 => no w2 b12 fun hh => ?_)⟩) fun e => no w (Below.refl _ _) fun hh => ?_)⟩
    · rw [hb2.2 hh.2.1] at e2
      cases e2
    · rw [hb.2 hh.1] at e
      cases e
  rintro _ w3 ⟨b3, hof, hin⟩
  refine LoopW.count nx.length (by omega) (fun k w' => Below w.heap.size w w' ∧ ∀ o, o < k → o ≠ x → OfM nx ml kind o → InM nx ml o i → ¬ DW (wideX nx ml) (x : Int) (o : Int)) ⟨b3, fun o ho => by omega⟩ ?_
  rintro k w4 hk ⟨b4, hn⟩ next hnext
  have h4 := h.below b4
  refine h4.ms (ifB_dec (fun hlt => ?_) fun hge => ?_)
  · have hlt : k < nx.length := by dsimp only at hlt; omega
    have z4 := b4.size
    refine JoinW.cut (fun _ w' => Below w.heap.size w w' ∧ (k ≠ x → OfM nx ml kind k → InM nx ml k i → ¬ DW (wideX nx ml) (x : Int) (k : Int))) ?_ fun _ w' ⟨q1, q2⟩ => hnext _ hlt ⟨q1, fun o ho => ?_⟩
    · refine ifB_bne (fun hne => Of_spec h4 hlt fun b hb => ⟨b, rfl, ifB_bool (fun e => In_spec h4 hlt hi fun b2 w6 b46 hb2 => ⟨b2, rfl, ?_⟩) fun e => ⟨b4, fun _ ho => ?_⟩⟩) fun he => ⟨b4, fun hne => absurd (by dsimp only at he; omega) hne⟩
      · have b6 := b4.trans (b46.mono z4)
        refine ifB_bool (fun e2 => (h.below b6).dom hx hlt fun v hv => ifB_bool (fun e3 => no w6 b6 fun hh => ?_) fun e3 => ⟨b6, fun _ _ _ hd => ?_⟩) fun e2 => ⟨b6, fun _ _ hi' => ?_⟩
        · exact hh.2.2 k hlt (fun e' => hne (by rw [e'])) (hb.1 e) (hb2.1 e2) (hv.1 e3)
        · rw [hv.2 hd] at e3
          cases e3
        · rw [hb2.2 hi'] at e2
          cases e2
      · rw [hb.2 ho] at e
        cases e
    · by_cases e : o = k
      · rw [e]; exact q2
      · exact hn o (by omega)
  · have : k = nx.length := by dsimp only at hge; omega
    subst this
    exact hR true w4 b4 ⟨fun _ => ⟨hof, hin, fun o ho => hn o ho⟩, fun _ => rfl⟩
end

end Go.Proofs
