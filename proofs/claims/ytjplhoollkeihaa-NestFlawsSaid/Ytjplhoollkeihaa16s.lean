/-
  The document's nest: Fit, the wide graph, New, heads and constructs; The document's nest: New, Asked, Construct, Inner; the statement NestConstructs.
-/
import Derived.Test.Ytjplhoollkeihaa16p
import Derived.Test.Ytjplhoollkeihaa16q
import Derived.Test.YtjplhoollkeihaaL16c
/-!
  The document's nest: Fit, the wide graph, New, heads and constructs.
-/
namespace Go.Proofs
open Go.Gk Go.RowKit Go.Gr Go.Dm

section
variable {rb : Nat} {nx : List (List Nat)} {ml : List Mg} {s : Sl} {w : World} {R : Value → World → Prop}
theorem rNextF_spec (hx : NxOk nx) {k : Nat} (hk : k < nx.length) (h : IsR w rb nx)
    (hR : ∀ r w', Own w' 3 1 r ((nx.getD k []).map iN) → Fresh w.heap.size r → Below w.heap.size w w' → w.heap.size ≤ w'.heap.size → R (.slice r.a r.l r.c) w') :
    callR Try.prog 98 #[.pointer (some (blk rb)), .int .i64 (k : Int)] w R := by
  refine callR.of (intaglioref14_Graph_Next_calls _ (k : Int) R w ?_) fun _ _ h => h
  refine JoinW.cut (fun _ w' => w' = w) (ifB_dec (fun h0 => by omega) fun h0 => rLen_spec h ⟨_, rfl, ifB_dec (fun h1 => by omega) fun h1 => rfl⟩) ?_
  rintro _ _ rfl
  rename_i w
  have hgd : nx.getD k [] = nx[k] := by simp [List.getD, hk]
  have hrl := hx.row_le k
  have hmx := hx.max
  obtain ⟨s, hs, g1, g2⟩ := h
  have hrow : ∀ {w' : World}, Below w.heap.size w w' → ∀ (h' : k < hs.length), IsN w' hs[k] (nx.getD k []) := fun hb h' => by rw [hgd]; exact (g2.below hb).row k h' hk
  refine LoopW.countS (nx.getD k []).length (by omega) (fun j l w' => Below w.heap.size w w' ∧ w.heap.size ≤ w'.heap.size ∧ Own w' 3 1 l (((nx.getD k []).take j).map iN) ∧ Fresh w.heap.size l)
    ⟨Below.refl _ _, Nat.le_refl _, by simpa using Own.nil _ _ _, fun a ha => by cases ha⟩ ?_
  rintro j l w2 hj ⟨hb, hz, ho, hf⟩ next hnext
  refine rRow (g1.below hb) (g2.below hb) hk fun hh => ?_
  have hrn : hs[k].l = (nx.getD k []).length := (hrow hb hh).len
  refine ifB_dec (fun hlt => ?_) (fun hge => ?_)
  · have hlt : j < (nx.getD k []).length := by dsimp only at hlt; omega
    refine rRow (g1.below hb) (g2.below hb) hk fun hh => ?_
    refine elemN (hrow hb hh) hlt ?_
    refine push_own rfl hb hz ho hf (by simp; omega) fun r' w' k1 k2 k3 k4 => hnext r' w' hlt ⟨k1, k2, ?_, k4⟩
    rw [List.take_succ_eq_append_getElem hlt]; exact k3
  · have hj' : j = (nx.getD k []).length := by dsimp only at hge; omega
    subst hj'
    rw [List.take_length] at ho
    exact hR l w2 ho hf hb hz

theorem rFit_spec (hG : IsR w rb nx) (hM : IsM w s ml) (hR : ∀ b, (b = true ↔ Fit nx.length ml) → R (.bool b) w) :
    callR Try.prog 154 #[.pointer (some (Gk.blk rb)), .slice s.a s.l s.c] w R := by
  refine callR.of (intaglioref16_Fit_calls _ s R w ?_) fun _ _ h => h
  have hl := hM.len
  have bad : ¬ Fit nx.length ml → R (.bool false) w := fun h => hR false ⟨(fun e => by cases e), fun h' => absurd h' h⟩
  refine rLen_spec hG ⟨_, rfl, ifB_bne (fun h => bad fun hf => h (by have := hf.1; omega)) fun he => ?_⟩
  have hlen : ml.length = nx.length := by omega
  refine LoopW.count ml.length hM.bound (fun k w' => w' = w ∧ ∀ x ∈ ml.take k, FitP nx.length x) ⟨rfl, by simp⟩ ?_
  rintro k w2 hk ⟨rfl, hF⟩ next hnext
  refine ifB_dec (fun hlt => ?_) (fun hge => ?_)
  · have hlt : k < ml.length := by dsimp only at hlt; omega
    have no : ¬ FitP nx.length ml[k] → R (.bool false) w2 := fun h => bad fun hf => h (hf.2 _ (List.getElem_mem _))
    refine JoinW.cut (fun _ w' => w' = w2 ∧ FitP nx.length ml[k]) ?_ ?_
    · refine elemMk hM hlt (ifB_dec (fun h3 => no fun h => by have := h.1; omega) fun h3 => ?_)
      refine JoinW.cut (fun _ w' => w' = w2 ∧ (ml[k].1 ≠ 0 → 0 ≤ ml[k].2.1 ∧ ml[k].2.1 < nx.length)) ?_ ?_
      · refine elemMk hM hlt (ifB_bne (fun h0 => elemMt hM hlt (ifB_dec (fun h1 => no fun h => by have := h.2.1 h0; omega) fun h1 => elemMt hM hlt (ifB_dec (fun h2 => no fun h => by have := h.2.1 h0; omega) fun h2 => ⟨rfl, fun _ => by omega⟩))) fun h0 => ⟨rfl, fun h => absurd h0 h⟩)
      · rintro _ _ ⟨rfl, hto⟩
        rename_i w2
        refine elemMk hM hlt (ifB_beq (fun h0 => elemMc hM hlt (ifB_dec (fun h1 => no fun h => by have := h.2.2 h0; omega) fun h1 => elemMc hM hlt (ifB_dec (fun h2 => no fun h => by have := h.2.2 h0; omega) fun h2 => ⟨rfl, by omega, hto, fun _ => by omega⟩))) fun h0 => ⟨rfl, by omega, hto, fun h => absurd h h0⟩)
    · rintro _ _ ⟨rfl, hf⟩
      refine hnext _ hlt ⟨rfl, fun x hx => ?_⟩
      rw [List.take_succ_eq_append_getElem hlt, List.mem_append] at hx
      rcases hx with hx | hx
      · exact hF x hx
      · rw [List.mem_singleton] at hx; rw [hx]; exact hf
  · have : k = ml.length := by dsimp only at hge; omega
    subst this
    rw [List.take_length] at hF
    exact hR true ⟨fun _ => ⟨hlen, hF⟩, fun _ => rfl⟩

theorem CT.isII {B T : Nat} {C : Sl} {rows : List (List Nat)} (h : CT B T w C rows) : ∃ hs, IsII w C hs (rows.map fun l => l.map fun (x : Nat) => (x : Int)) := by
  obtain ⟨hs, h1, h2, h3⟩ := h.ex
  refine ⟨hs, Own.isS h2, by simp [h1], fun i hi hi' => ?_⟩
  have := IsS.toI (Own.isS (h3 i hi).1)
  rw [List.getElem_map]
  rw [show rows.getD i [] = rows[i]'(by omega) by simp [List.getD, show i < rows.length by omega]] at this
  exact this

set_option maxHeartbeats 2000000 in
theorem wide_spec (hx : NxOk nx) (hG : IsR w rb nx) (hM : IsM w s ml) (hf : Fit nx.length ml) (hR : ∀ w' wb, Below w.heap.size w w' → IsR w' wb (wideX nx ml) → R (.pointer (some (Gk.blk wb))) w') :
    callR Try.prog 155 #[.pointer (some (Gk.blk rb)), .slice s.a s.l s.c] w R := by
  refine callR.of (intaglioref16_wide_calls _ s R w ?_) fun _ _ h => h
  have hl := hM.len
  have hml := hf.1
  have hmx := hx.max
  have hps := hx.pos
  refine LoopW.countS nx.length (by omega) (fun k (C : Sl) w' => Below w.heap.size w w' ∧ CT w.heap.size w'.heap.size w' C ((List.range k).map (wrow nx ml))) ⟨Below.refl _ _, ⟨Nat.le_refl _, Nat.le_refl _, (fun a ha => by cases ha), [], rfl, Own.nil _ _ _, fun i hi => by cases hi⟩⟩ ?_
  rintro k C w1 hk ⟨b1, hC⟩ next hnext
  have z1 := b1.size
  refine ifB_dec (fun hlt => ?_) (fun hge => ?_)
  · have hlt : k < nx.length := by dsimp only at hlt; omega
    have hkm : k < ml.length := by omega
    have hrl := hx.row_le k
    have hfk : FitP nx.length ml[k] := hf.2 _ (List.getElem_mem hkm)
    have hwr : wrow nx ml k = nx.getD k [] ++ extL ml[k] := by unfold wrow; congr 2; simp [List.getD, hkm]
    refine rNextF_spec hx hlt (hG.below b1) fun r4 w2 o2 f2 b2 z2 => ⟨r4, rfl, ?_⟩
    have hM2 := IsC.mbelow (IsC.mbelow hM b1) b2
    refine JoinW.cut (fun (st : Sl × Unit) w' => Below w1.heap.size w1 w' ∧ w1.heap.size ≤ w'.heap.size ∧ Fresh w1.heap.size st.1 ∧ Own w' 3 1 st.1 ((nx.getD k [] ++ if ml[k].1 = 0 then [] else [ml[k].2.1.toNat]).map iN)) ?_ ?_
    · refine elemMk hM2 hkm (ifB_bne (fun h0 => ?_) fun h0 => ⟨b2, z2, f2, by rw [if_pos h0, List.append_nil]; exact o2⟩)
      have h1 := hfk.2.1 h0
      refine elemMt hM2 hkm (push_own (y := ml[k].2.1.toNat) (by omega) b2 z2 o2 f2 (by omega) fun r' w' q1 q2 q3 q4 => ⟨q1, q2, q4, by rw [if_neg h0]; exact q3⟩)
    rintro ⟨r6, _⟩ w5 ⟨b5, z5, f5, o5⟩
    have hM5 := IsC.mbelow (IsC.mbelow hM b1) b5
    refine JoinW.cut (fun (st : Sl × Unit) w' => Below w1.heap.size w1 w' ∧ w1.heap.size ≤ w'.heap.size ∧ Own w' 3 1 st.1 ((wrow nx ml k).map iN)) ?_ ?_
    · refine elemMk hM5 hkm (ifB_beq (fun h2 => ?_) fun h2 => ⟨b5, z5, ?_⟩)
      · have h1 := hfk.2.2 h2
        refine elemMc hM5 hkm (push_own (y := ml[k].2.2.toNat) (by omega) b5 z5 o5 f5 (by
          rw [List.length_append]
          have : (if ml[k].1 = 0 then ([] : List Nat) else [ml[k].2.1.toNat]).length ≤ 1 := by split <;> simp
          omega) fun r' w' q1 q2 q3 q4 => ⟨q1, q2, ?_⟩)
        rw [hwr]
        unfold extL
        rw [if_neg (by omega), if_pos h2]
        rw [if_neg (by omega), List.append_assoc] at q3
        exact q3
      · have e : extL ml[k] = if ml[k].1 = 0 then [] else [ml[k].2.1.toNat] := by
          unfold extL
          split
          · rfl
          · first | rfl | rw [if_neg h2]
        rw [hwr, e]
        exact o5
    rintro ⟨r13, _⟩ w8 ⟨b8, z8, o8⟩
    refine (hC.grow b8).up.push o8 (by simp; omega) fun C' w10 b10 hC10 => hnext _ _ hlt ⟨(b1.trans (b8.mono z1)).trans b10, ?_⟩
    rw [List.range_succ, List.map_append]
    exact hC10
  · have : k = nx.length := by dsimp only at hge; omega
    subst this
    obtain ⟨hs, hII⟩ := hC.isII
    have hII : IsII w1 C hs (wideI nx ml) := hII
    have hlw : (wideI nx ml).length = nx.length := by simp [wideI, wideL]
    refine refOf_spec hII (fun l hl => ?_) (fun h => absurd h (by omega)) (fun h => absurd h (by omega)) (fun _ _ h => absurd (wideI_good hx hf) h) fun _ _ _ w2 wb b2 hR2 => ⟨_, _, rfl, ?_⟩
    · obtain ⟨y, hy, rfl⟩ := List.mem_map.1 hl
      obtain ⟨i, hi, rfl⟩ := List.mem_map.1 hy
      rw [List.length_map]
      unfold wrow
      rw [List.length_append]
      have := hx.row_le i
      have := extL_len (ml.getD i (0, 0, 0))
      omega
    · rw [edges_wide] at hR2
      exact hR w2 wb (b1.trans (b2.mono z1)) hR2

/-- The document's nest at block xb. -/
structure IsX (w : World) (xb rb : Nat) (s : Sl) (nx : List (List Nat)) (ml : List Mg) : Prop where
  d : DOk nx ml
  g : IsR w rb nx
  m : IsM w s ml
  ex : ∃ (wb : Nat) (is ds : Sl) (bl : List Bool), Blk w xb 168 [.pointer (some (Gk.blk rb)), s.val, .pointer (some (Gk.blk wb)), is.val, ds.val] ∧ IsS Value.bool w is bl ∧ bl.length = nx.length ∧ (∀ j, bl.getD j false = true ↔ j ∈ orderOf (wideX nx ml)) ∧ Tab w ds nx.length (DomR (wideX nx ml))
theorem IsX.below {w' : World} {xb : Nat} (h : IsX w xb rb s nx ml) (hb : Below w.heap.size w w') : IsX w' xb rb s nx ml := by
  obtain ⟨wb, is, ds, bl, h1, h2, h3, h4, h5⟩ := h.ex
  exact ⟨h.d, h.g.below hb, IsC.mbelow h.m hb, wb, is, ds, bl, h1.below hb, h2.below hb, h3, h4, h5.below hb⟩
theorem DW_nat {wx : List (List Nat)} {a b : Nat} : DW wx (a : Int) (b : Int) ↔ DomR wx a b :=
  ⟨fun ⟨a', b', e1, e2, h⟩ => by rw [show a = a' by omega, show b = b' by omega]; exact h, fun h => ⟨a, b, rfl, rfl, h⟩⟩
/-- Dom[a][b] is asked. -/
theorem IsX.dom {xb : Nat} (h : IsX w xb rb s nx ml) {a b : Nat} (ha : a < nx.length) (hb : b < nx.length) {φ : Bool → Prop} (hφ : ∀ v, (v = true ↔ DW (wideX nx ml) (a : Int) (b : Int)) → φ v) :
    derefP (some (Gk.blk xb)) fun a3 => ldS w (a3.add 4) fun x4 => (0 ≤ (a : Int) ∧ (a : Int) < (x4.l : Int)) ∧ derefP x4.a fun a5 => ldS w (a5.add (Int.toNat (a : Int))) fun x6 => (0 ≤ (b : Int) ∧ (b : Int) < (x6.l : Int)) ∧ derefP x6.a fun a7 => ldB w (a7.add (Int.toNat (b : Int))) φ := by
  obtain ⟨wb, is, ds, bl, h1, h2, h3, h4, h5⟩ := h.ex
  exact derefP_some rfl ⟨ds, h1.cell (n := 4) rfl, h5.get ha hb fun v hv => hφ v (by rw [DW_nat]; exact hv)⟩
theorem IsX.ms {xb : Nat} (h : IsX w xb rb s nx ml) {φ : Sl → Prop} (hφ : φ s) : derefP (some (Gk.blk xb)) fun a5 => ldS w (a5.add 1) φ := by
  obtain ⟨wb, is, ds, bl, h1, _⟩ := h.ex
  exact derefP_some rfl ⟨s, h1.cell (n := 1) rfl, hφ⟩
theorem IsX.len {xb : Nat} (h : IsX w xb rb s nx ml) : s.l = nx.length ∧ ml.length = nx.length := by
  have := h.m.len
  have := h.d.fit.1
  omega
theorem Head_spec {xb : Nat} (h : IsX w xb rb s nx ml) {i : Nat} (hi : i < nx.length) (hR : ∀ b, (b = true ↔ HeadM nx ml i) → R (.bool b) w) : callR Try.prog 128 #[.pointer (some (Gk.blk xb)), .int .i64 (i : Int)] w R := by
  refine callR.of (intaglioref16_Nest_Head_calls _ (i : Int) R w ?_) fun _ _ h => h
  obtain ⟨wb, is, ds, bl, h1, h2, h3, h4, h5⟩ := h.ex
  have hml := h.len
  refine derefP_some rfl ⟨is, h1.cell (n := 3) rfl, elemB h2 (k := i) (by omega) ?_⟩
  have e : bl[i]'(by omega) = bl.getD i false := by simp [List.getD, show i < bl.length by omega]
  rw [e]
  refine ifB_bool (fun hb => h.ms (elemMk h.m (by omega) (hR _ ?_))) fun hb => hR _ ⟨(fun h => by cases h), fun hh => ?_⟩
  · rw [bne_iff_ne, getD_get (by omega)]
    exact ⟨fun hk => ⟨(h4 i).1 hb, hk⟩, fun hh => hh.2⟩
  · rw [(h4 i).2 hh.1] at hb
    cases hb
theorem In_spec {xb : Nat} (h : IsX w xb rb s nx ml) {x i : Nat} (hx : x < nx.length) (hi : i < nx.length) (hR : ∀ b w', Below w.heap.size w w' → (b = true ↔ InM nx ml x i) → R (.bool b) w') :
    callR Try.prog 129 #[.pointer (some (Gk.blk xb)), .int .i64 (x : Int), .int .i64 (i : Int)] w R := by
  refine callR.of (intaglioref16_Nest_In_calls _ (x : Int) (i : Int) R w ?_) fun _ _ h => h
  have hd : Below w.heap.size w w.drew := (Below.refl _ _).drew
  have h' := h.below hd
  have hml := h.len
  refine Head_spec h' hx fun b hb => ⟨b, rfl, ifB_bool (fun e1 => ?_) fun e1 => hR _ _ hd ⟨(fun h => by cases h), fun hh => ?_⟩⟩
  · have hh := hb.1 e1
    refine h'.dom hx hi fun v hv => ifB_bool (fun e2 => ?_) fun e2 => hR _ _ hd ⟨(fun h => by cases h), fun hh => ?_⟩
    · obtain ⟨wb, is, ds, bl, h1, h2, h3, h4, h5⟩ := h'.ex
      refine derefP_some rfl ⟨ds, h1.cell (n := 4) rfl, h'.ms (elemMt h'.m (k := x) (by omega) ?_)⟩
      obtain ⟨t, et, ht⟩ := to_ext h.d hx hh.2
      rw [getD_get (by omega), et]
      have htl : t < nx.length := by
        have := h.d.okw.rows x t ht
        rwa [wide_len] at this
      refine h5.get htl hi fun v2 hv2 => hR _ _ hd ?_
      rw [Bool.not_eq_true', ← Bool.not_eq_true, hv2]
      unfold InM
      rw [et]
      exact ⟨fun q => ⟨hh.2, hv.1 e2, fun q' => q (DW_nat.1 q')⟩, fun q q' => q.2.2 (DW_nat.2 q')⟩
    · rw [hv.2 hh.2.1] at e2
      cases e2
  · rw [hb.2 (hh.head h.d)] at e1
    cases e1
theorem Of_spec {xb : Nat} (h : IsX w xb rb s nx ml) {i : Nat} (hi : i < nx.length) {kind : Int} (hR : ∀ b, (b = true ↔ OfM nx ml kind i) → R (.bool b) w) :
    callR Try.prog 173 #[.pointer (some (Gk.blk xb)), .int .i64 (i : Int), .int .u8 kind] w R := by
  refine callR.of (intaglioref16_Nest_Of_calls _ (i : Int) kind R w ?_) fun _ _ h => h
  have hml := h.len
  refine h.ms (elemMk h.m (k := i) (by omega) (Head_spec h hi fun b hb => ⟨b, rfl, ?_⟩))
  rw [getD_get (show i < ml.length by omega)]
  refine ifB_bool (fun e => ?_) fun e => hR _ ⟨(fun h => by cases h), fun hh => ?_⟩
  · have hh := hb.1 e
    refine ifB_beq (fun e0 => hR _ ⟨fun _ => ⟨hh, .inl e0⟩, fun _ => rfl⟩) fun e0 => ifB_beq (fun e2 => hR _ ⟨fun _ => ⟨hh, .inr (.inl e2)⟩, fun _ => rfl⟩) fun e2 => ifB_beq (fun e3 => hR _ ?_) fun e3 => hR _ ⟨(fun h => by cases h), fun hh => ?_⟩
    · rw [beq_iff_eq]
      exact ⟨fun q => ⟨hh, .inr (.inr ⟨e3, q⟩)⟩, fun q => by
        rcases q.2 with q | q | q
        · exact absurd q e0
        · exact absurd q e2
        · exact q.2⟩
    · rcases hh.2 with q | q | q
      · exact absurd q e0
      · exact absurd q e2
      · exact absurd q.1 e3
  · rw [hb.2 hh.1] at e
    cases e
theorem Within_spec {xb : Nat} (h : IsX w xb rb s nx ml) {x i : Nat} (hx : x < nx.length) (hi : i < nx.length) {kind : Int} (hR : ∀ b w', Below w.heap.size w w' → (b = true ↔ WithinM nx ml x i kind) → R (.bool b) w') :
    callR Try.prog 130 #[.pointer (some (Gk.blk xb)), .int .i64 (x : Int), .int .i64 (i : Int), .int .u8 kind] w R := by
  refine callR.of (intaglioref16_Nest_Within_calls _ (x : Int) (i : Int) kind R w ?_) fun _ _ h => h
  have hml := h.len
  have hmx := h.d.ok.max
  have no : ∀ w', Below w.heap.size w w' → ¬ WithinM nx ml x i kind → R (.bool false) w' := fun w' hb hn => hR false w' hb ⟨(fun h => by cases h), fun h => absurd h hn⟩
  refine JoinW.cut (fun _ w' => Below w.heap.size w w' ∧ OfM nx ml kind x ∧ InM nx ml x i) ?_ ?_
  · refine Of_spec h hx fun b hb => ⟨b, rfl, ifB_not (ifB_bool (fun e => In_spec h hx hi fun b2 w2 b12 hb2 => ⟨b2, rfl, ifB_not (ifB_bool (fun e2 => ⟨b12, hb.1 e, hb2.1 e2⟩) fun e2 => no w2 b12 fun hh => ?_)⟩) fun e => no w (Below.refl _ _) fun hh => ?_)⟩
    · rw [hb2.2 hh.2.1] at e2
      cases e2
    · rw [hb.2 hh.1] at e
      cases e
  rintro _ w3 ⟨b3, hof, hin⟩
  refine LoopW.count nx.length (by omega) (fun k w' => Below w.heap.size w w' ∧ ∀ o, o < k → o ≠ x → OfM nx ml kind o → InM nx ml o i → ¬ DW (wideX nx ml) (x : Int) (o : Int)) ⟨b3, fun o ho => by omega⟩ ?_
  rintro k w4 hk ⟨b4, hn⟩ next hnext
  have h4 := h.below b4
  refine h4.ms (ifB_dec (fun hlt => ?_) fun hge => ?_)
  · have hlt : k < nx.length := by dsimp only at hlt; omega
    have z4 := b4.size
    refine JoinW.cut (fun _ w' => Below w.heap.size w w' ∧ (k ≠ x → OfM nx ml kind k → InM nx ml k i → ¬ DW (wideX nx ml) (x : Int) (k : Int))) ?_ fun _ w' ⟨q1, q2⟩ => hnext _ hlt ⟨q1, fun o ho => ?_⟩
    · refine ifB_bne (fun hne => Of_spec h4 hlt fun b hb => ⟨b, rfl, ifB_bool (fun e => In_spec h4 hlt hi fun b2 w6 b46 hb2 => ⟨b2, rfl, ?_⟩) fun e => ⟨b4, fun _ ho => ?_⟩⟩) fun he => ⟨b4, fun hne => absurd (by dsimp only at he; omega) hne⟩
      · have b6 := b4.trans (b46.mono z4)
        refine ifB_bool (fun e2 => (h.below b6).dom hx hlt fun v hv => ifB_bool (fun e3 => no w6 b6 fun hh => ?_) fun e3 => ⟨b6, fun _ _ _ hd => ?_⟩) fun e2 => ⟨b6, fun _ _ hi' => ?_⟩
        · exact hh.2.2 k hlt (fun e' => hne (by rw [e'])) (hb.1 e) (hb2.1 e2) (hv.1 e3)
        · rw [hv.2 hd] at e3
          cases e3
        · rw [hb2.2 hi'] at e2
          cases e2
      · rw [hb.2 ho] at e
        cases e
    · by_cases e : o = k
      · rw [e]; exact q2
      · exact hn o (by omega)
  · have : k = nx.length := by dsimp only at hge; omega
    subst this
    exact hR true w4 b4 ⟨fun _ => ⟨hof, hin, fun o ho => hn o ho⟩, fun _ => rfl⟩
end

end Go.Proofs

/-!
  The document's nest: New, Asked, Construct, Inner; the statement NestConstructs.
-/
namespace Go.Proofs
open Go.Gk Go.RowKit Go.Gr Go.Dm

section
variable {rb : Nat} {nx : List (List Nat)} {ml : List Mg} {s : Sl} {w : World} {R : Value → World → Prop}
theorem bt_push {B n c : Nat} {l : Sl} {rs : List (Nat × List Bool)} {bk : List Bool} (ho : Own w 126 1 l (rs.map fun p => Value.slice (some (Gk.blk p.1)) n n)) (hf : Fresh B l) (hB : B ≤ w.heap.size) (hlen : rs.length < 1048576)
    {k : Sl → World → Prop} (hk : ∀ r w', Below B w w' → (∀ {b : Nat} {T : TypeId} {cs : List Value}, Blk w b T cs → T ≠ 126 → Blk w' b T cs) → Own w' 126 1 r ((rs ++ [(c, bk)]).map fun p => Value.slice (some (Gk.blk p.1)) n n) → Fresh B r → k r w') :
    Nw (w.alloc (.cells #[(.slice (some (Gk.blk c)) n n)] 126)) fun w1 => appendS Try.prog 50 (.slice l.a l.l l.c) (.slice (some (Gk.blk w.heap.size)) 1 1) w1 k := by
  refine Nw.gen fun w1 hw1 => ?_
  have hT1 : Blk w1 w.heap.size 126 [.slice (some (Gk.blk c)) n n] := by rw [hw1]; exact Blk.new w 126 #[_]
  have ho1 : Own w1 126 1 l (rs.map fun p => Value.slice (some (Gk.blk p.1)) n n) := by rw [hw1]; exact ho.alloc _
  have b1 : Below w.heap.size w w1 := by rw [hw1]; exact (Below.refl _ _).alloc (Nat.le_refl _) _
  have z1 : w1.heap.size = w.heap.size + 1 := by rw [hw1]; simp
  have hll : l.l = rs.length := by have := ho1.1; simp at this; omega
  refine append_one eBB ho1 rfl hT1 (by omega) (by omega) fun r w' hr hrl ⟨b, hrb, hbo, hg⟩ => ?_
  have hfb : B ≤ b := by
    rcases hbo with hb | hb
    · exact hf _ hb
    · omega
  refine hk r w' ((b1.mono hB).trans (below_grown hg hfb (by omega))) (fun {b' T cs} hc hT => ?_) (by rw [List.map_append]; exact hr) fun a ha => by rw [hrb] at ha; cases ha; exact hfb
  have hc1 := hc.below b1
  refine hc1.of_block (hg.block _ hc1.lt fun e => ?_)
  have e : b = b' := (Option.some.inj e).symm
  rcases hbo with hb | hb
  · obtain ⟨cs', hc'⟩ := ho1.type hb
    rw [e] at hc'
    exact hT ((hc1.type hc').symm ▸ rfl)
  · have := hc.lt; omega

set_option maxHeartbeats 4000000 in
theorem rNew_spec (hx : NxOk nx) (hG : IsR w rb nx) (hM : IsM w s ml) (hf : Fit nx.length ml) (hR : ∀ w' xb, Below w.heap.size w w' → IsX w' xb rb s nx ml → R (.pointer (some (Gk.blk xb))) w') :
    callR Try.prog 118 #[.pointer (some (Gk.blk rb)), .slice s.a s.l s.c] w R := by
  refine callR.of (intaglioref16_New_calls _ s R w ?_) fun _ _ h => h
  have hd := DOk.of hx hf
  have hsl : s.l = nx.length := by have := hM.len; have := hf.1; omega
  have hmx := hx.max
  refine wide_spec hx hG hM hf fun w1 wb b1 hW => ⟨_, rfl, Nw.gen fun w2 hw2 => ?_⟩
  have z1 := b1.size
  obtain ⟨xb, hxb⟩ : ∃ xb, xb = w1.heap.size := ⟨_, rfl⟩
  have hX2 : Blk w2 xb 168 [.pointer (some (Gk.blk rb)), s.val, .pointer (some (Gk.blk wb)), .slice none 0 0, .slice none 0 0] := by rw [hw2, hxb]; exact Blk.new w1 _ #[_, _, _, _, _]
  have b2 : Below w1.heap.size w1 w2 := by rw [hw2]; exact (Below.refl _ _).alloc (Nat.le_refl _) _
  have z2 : w2.heap.size = w1.heap.size + 1 := by rw [hw2]; simp
  rw [← hxb]
  clear hw2
  have hwl : (wideX nx ml).length = nx.length := wide_len
  refine ⟨_, hX2.cell (n := 2) rfl, All_spec hd.okw (hW.below b2) fun w3 bl b3 hB3 hl3 hi3 => ⟨⟨some (Gk.blk w2.heap.size), (wideX nx ml).length, (wideX nx ml).length⟩, rfl, ?_⟩⟩
  rw [hwl] at hl3 ⊢
  have hX3 := hX2.below b3
  refine ⟨hX3.wr (n := 3) (by simp), Nw.gen fun w4 hw4 => ?_⟩
  have hz2 := hB3.lt
  have hX4 : Blk w4 xb 168 [.pointer (some (Gk.blk rb)), s.val, .pointer (some (Gk.blk wb)), .slice (some (Gk.blk w2.heap.size)) nx.length nx.length, (⟨none, 0, 0⟩ : Sl).val] := by rw [hw4]; exact hX3.set 3 _
  have hI4 : Blk w4 w2.heap.size 4 (bl.map Value.bool) := by rw [hw4]; exact hB3.other (by rw [add_block]; show w2.heap.size ≠ xb; omega) _
  have b14 : Below w1.heap.size w1 w4 := by rw [hw4]; exact (b2.trans (b3.mono (by omega))).setCell (by rw [add_block]; show w1.heap.size ≤ xb; omega) _
  clear hw4
  have isB : ∀ {a : Nat}, a < nx.length → ∀ {w' : World}, Blk w' w2.heap.size 4 (bl.map Value.bool) → ∀ {φ : Bool → Prop}, (∀ v, (v = true ↔ ReachN (wideX nx ml) (-1) a) → φ v) → (0 ≤ (a : Int) ∧ (a : Int) < (((⟨some (Gk.blk w2.heap.size), nx.length, nx.length⟩ : Sl).l : Nat) : Int)) ∧ derefP (⟨some (Gk.blk w2.heap.size), nx.length, nx.length⟩ : Sl).a fun a16 => ldB w' (a16.add (Int.toNat (a : Int))) φ := fun {a} ha {w'} hB {φ} hφ =>
    ⟨⟨by omega, by show (a : Int) < (nx.length : Int); omega⟩, derefP_some rfl ⟨_, hB.cell (getD_map_bool (by omega)), hφ _ (hi3 a)⟩⟩
  refine LoopW.count nx.length (by omega) (fun a w' => Below w1.heap.size w1 w' ∧ Blk w' w2.heap.size 4 (bl.map Value.bool) ∧ ∃ (l : Sl) (rs : List (Nat × List Bool)), Blk w' xb 168 [.pointer (some (Gk.blk rb)), s.val, .pointer (some (Gk.blk wb)), .slice (some (Gk.blk w2.heap.size)) nx.length nx.length, l.val] ∧ rs.length = a ∧
      Own w' 126 1 l (rs.map fun p => Value.slice (some (Gk.blk p.1)) nx.length nx.length) ∧ Fresh w1.heap.size l ∧ ∀ j (hj : j < rs.length), Blk w' rs[j].1 4 (rs[j].2.map Value.bool) ∧ rs[j].2.length = nx.length ∧ ∀ b, rs[j].2.getD b false = true ↔ DomR (wideX nx ml) j b)
    ⟨b14, hI4, ⟨none, 0, 0⟩, [], hX4, rfl, Own.nil _ _ _, (fun a ha => by cases ha), fun j hj => absurd hj (Nat.not_lt_zero j)⟩ ?_
  rintro a w5 ha ⟨b5, hI5, l, rs, hX5, hrs, ho5, hfl, hrows⟩ next hnext
  have z5 := b5.size
  refine ifB_dec (fun hlt => ?_) (fun hge => ?_)
  · have hlt : a < nx.length := by dsimp only at hlt; omega
    refine ⟨⟨by omega, by omega, by omega, by omega⟩, Nw.gen fun w6 hw6 => ?_⟩
    obtain ⟨c, hc⟩ : ∃ c, c = w5.heap.size := ⟨_, rfl⟩
    have hC6 : Blk w6 c 4 ((List.replicate nx.length false).map Value.bool) := by
      have e : (List.replicate nx.length false).map Value.bool = List.replicate nx.length (.bool false) := List.map_replicate
      rw [hw6, hc, hsl, e]
      exact Blk.made w5 _ _ nx.length
    have b6 : Below w5.heap.size w5 w6 := by rw [hw6]; exact (Below.refl _ _).alloc (Nat.le_refl _) _
    have z6 : w6.heap.size = w5.heap.size + 1 := by rw [hw6]; simp
    rw [← hc]
    clear hw6
    have hW6 := (hW.below b5).below (b6.mono (by omega) |>.trans (Below.refl _ _) |> fun h => (b6.mono (Nat.le_refl _)))
    refine ⟨_, (hX5.below b6).cell (n := 2) rfl, All_spec hd.okw hW6 fun w7 al b7 hA7 hl7 hi7 => ⟨⟨some (Gk.blk w6.heap.size), (wideX nx ml).length, (wideX nx ml).length⟩, rfl, ?_⟩⟩
    rw [hwl] at hl7
    have hC7 := hC6.below b7
    have hzA := hA7.lt
    have hXc : xb ≠ c := (hX5.below b6).apart hC6 (by decide)
    have hIc : w2.heap.size ≠ c := by have := hI5.lt; omega
    refine LoopW.count nx.length (by omega) (fun k w' => Only ⟨some (Gk.blk c), nx.length, nx.length⟩ w7 w' ∧ ∃ bk : List Bool, Blk w' c 4 (bk.map Value.bool) ∧ bk.length = nx.length ∧ (∀ b, b < k → (bk.getD b false = true ↔ DomR (wideX nx ml) a b)) ∧ ∀ b, k ≤ b → bk.getD b false = false)
      ⟨Only.refl _ _, List.replicate nx.length false, hC7, by simp, fun b hb => absurd hb (by omega), fun b _ => by simp [List.getD, List.getElem?_replicate]; split <;> rfl⟩ ?_
    rintro k w8 hk ⟨on, bk, hBk, hlk, hk1, hk2⟩ nxt hnxt
    have oth : ∀ {b : Nat} {T : TypeId} {cs : List Value}, b ≠ c → Blk w7 b T cs → Blk w8 b T cs := fun {b T cs} hne hB => hB.of_block (on.block _ fun a ha e => by cases ha; exact hne e.symm)
    have hI8 := oth hIc ((hI5.below b6).below b7)
    have hX8 := oth hXc ((hX5.below b6).below b7)
    have hA8 := oth (by omega) hA7
    refine ifB_dec (fun hltk => ?_) (fun hgek => ?_)
    · have hltk : k < nx.length := by dsimp only at hltk; omega
      have step : ∀ v : Bool, (v = true ↔ DomR (wideX nx ml) a k) → Only ⟨some (Gk.blk c), nx.length, nx.length⟩ w7 (w8.setCell ((Gk.blk c).add k) (.bool v)) ∧ ∃ bk : List Bool, Blk (w8.setCell ((Gk.blk c).add k) (.bool v)) c 4 (bk.map Value.bool) ∧ bk.length = nx.length ∧ (∀ b, b < k + 1 → (bk.getD b false = true ↔ DomR (wideX nx ml) a b)) ∧ ∀ b, k + 1 ≤ b → bk.getD b false = false := fun v hv => by
        refine ⟨on.set rfl k _, bk.set k v, ?_, by simpa using hlk, fun b hb => ?_, fun b hb => ?_⟩
        · rw [List.map_set]; exact hBk.set k _
        · rw [getD_setB (by omega)]
          by_cases e : b = k
          · subst e; simp [hv]
          · rw [if_neg e]; exact hk1 b (by omega)
        · rw [getD_setB (by omega), if_neg (by omega)]
          exact hk2 b (by omega)
      refine JoinW.cut (fun _ w' => Only ⟨some (Gk.blk c), nx.length, nx.length⟩ w7 w' ∧ ∃ bk : List Bool, Blk w' c 4 (bk.map Value.bool) ∧ bk.length = nx.length ∧ (∀ b, b < k + 1 → (bk.getD b false = true ↔ DomR (wideX nx ml) a b)) ∧ ∀ b, k + 1 ≤ b → bk.getD b false = false) ?_ fun _ w' hh => hnxt w' hltk hh
      have hwr : Wr w8 ((Gk.blk c).add k) := hBk.wr (by simp; omega)
      have bnd : (0 ≤ (k : Int) ∧ (k : Int) < (s.l : Int)) := ⟨by omega, by omega⟩
      refine ⟨⟨some (Gk.blk w2.heap.size), nx.length, nx.length⟩, hX8.cell (n := 3) rfl, isB hlt hI8 fun v hv => ifB_bool (fun e1 => ⟨⟨some (Gk.blk w2.heap.size), nx.length, nx.length⟩, hX8.cell (n := 3) rfl, isB hltk hI8 fun v2 hv2 => ifB_bool (fun e2 => ?_) fun e2 => ?_⟩) fun e1 => ?_⟩
      · refine ⟨⟨by omega, by show (k : Int) < ((wideX nx ml).length : Int); rw [hwl]; omega⟩, derefP_some rfl ⟨_, hA8.cell (getD_map_bool (by omega)), bnd, hwr, Nw.mk (step _ ?_)⟩⟩
        show (!al.getD k false) = true ↔ _
        rw [Bool.not_eq_true', ← Bool.not_eq_true, hi7 k]
        refine ⟨fun hn => ⟨hv2.1 e2, .inr hn⟩, fun hh => ?_⟩
        rcases hh.2 with e | e
        · subst e; exact fun q => q.self rfl
        · exact e
      · exact ⟨bnd, hwr, Nw.mk (step false ⟨(fun h => by cases h), fun hh => by rw [hv2.2 hh.1] at e2; cases e2⟩)⟩
      · exact ⟨bnd, hwr, Nw.mk (step false ⟨(fun h => by cases h), fun hh => by rw [hv.2 hh.top] at e1; cases e1⟩)⟩
    · have hkk : k = nx.length := by dsimp only at hgek; omega
      subst hkk
      have b78 : Below w5.heap.size w7 w8 := on.below fun a ha => by cases ha; show w5.heap.size ≤ c; omega
      have b58 : Below w5.heap.size w5 w8 := (b6.trans (b7.mono (by omega))).trans b78
      have z8 := b58.size
      have ho8 := ho5.below b58
      have hrows8 : ∀ j (hj : j < rs.length), Blk w8 rs[j].1 4 (rs[j].2.map Value.bool) := fun j hj => (hrows j hj).1.below b58
      refine ⟨l, hX8.cell (n := 4) rfl, ?_⟩
      rw [hsl]
      refine bt_push (bk := bk) ho8 hfl (by omega) (by omega) fun r w14 b14' keep hr hfr => ?_
      have hX14 := keep hX8 (by decide)
      refine ⟨hX14.wr (n := 4) (by simp), Nw.gen fun w15 hw15 => hnext _ hlt ?_⟩
      have hX15 : Blk w15 xb 168 [.pointer (some (Gk.blk rb)), s.val, .pointer (some (Gk.blk wb)), .slice (some (Gk.blk w2.heap.size)) nx.length nx.length, r.val] := by rw [hw15]; exact hX14.set 4 _
      have o15 : ∀ {b : Nat} {cs : List Value}, Blk w14 b 4 cs → Blk w15 b 4 cs := fun {b cs} hB => by rw [hw15]; exact hB.other (by rw [add_block]; exact hB.apart hX14 (by decide)) _
      refine ⟨?_, o15 (keep hI8 (by decide)), r, rs ++ [(c, bk)], hX15, by simp [hrs], ?_, hfr, fun j hj => ?_⟩
      · rw [hw15]
        exact ((b5.trans (b58.mono z5)).trans b14').setCell (by rw [add_block]; show w1.heap.size ≤ xb; omega) _
      · refine hr.of_block fun a ha => ?_
        rw [hw15]
        obtain ⟨cs, hcs⟩ := hr.type ha
        exact heap_set_other (hcs.apart hX14 (by decide)) _ _
      · by_cases e : j < rs.length
        · rw [List.getElem_append_left e]
          obtain ⟨_, g2, g3⟩ := hrows j e
          exact ⟨o15 (keep (hrows8 j e) (by decide)), g2, g3⟩
        · have hj' : j = rs.length := by simp at hj; omega
          subst hj'
          rw [List.getElem_append_right (Nat.le_refl _)]
          simp only [Nat.sub_self, List.getElem_cons_zero]
          refine ⟨o15 (keep hBk (by decide)), hlk, fun b => ?_⟩
          by_cases hb : b < nx.length
          · rw [hk1 b hb, hrs]
          · rw [hk2 b (by omega), hrs]
            refine ⟨(fun e => by cases e), fun hh => ?_⟩
            have := hd.lt ((hd.re b).1 hh.1)
            omega
  · have : a = nx.length := by dsimp only at hge; omega
    subst this
    refine hR w5 xb (b1.trans (b5.mono z1)) ⟨hd, (hG.below b1).below b5, IsC.mbelow (IsC.mbelow hM b1) b5, wb, ⟨some (Gk.blk w2.heap.size), nx.length, nx.length⟩, l, bl, hX5, Blk.isS hI5 rfl hl3.symm (Nat.le_refl _) (by show nx.length ≤ _; omega), hl3, fun j => (hi3 j).trans (hd.re j), ⟨rs.map fun p => ⟨some (Gk.blk p.1), nx.length, nx.length⟩, ?_, by simpa using hrs, fun j hj => ?_⟩⟩
    · refine Own.isS (T := 126) ?_
      rw [List.map_map]
      exact ho5
    · have hj' : j < rs.length := by simpa using hj
      obtain ⟨g1, g2, g3⟩ := hrows j hj'
      refine ⟨rs[j].2, ?_, g2, g3⟩
      rw [List.getElem_map]
      exact Blk.isS g1 rfl g2.symm (Nat.le_refl _) (by show nx.length ≤ _; omega)

/-- The document's graph, or none. -/
def PR2 (w : World) (p : Option Addr) (rb : Nat) (nx : List (List Nat)) : Prop := ∀ a, p = some a → a = Gk.blk rb ∧ NxOk nx ∧ IsR w rb nx
theorem PR2.below {w w' : World} {p : Option Addr} (h : PR2 w p rb nx) (hb : Below w.heap.size w w') : PR2 w' p rb nx := fun a ha => let ⟨h1, h2, h3⟩ := h a ha; ⟨h1, h2, h3.below hb⟩
theorem Asked_spec {p : Option Addr} (hp : PR2 w p rb nx) (hM : IsM w s ml) (hnil : p = none → R (.int .i64 1) w) (hbad : p ≠ none → ¬ Fit nx.length ml → R (.int .i64 2) w) (hok : p ≠ none → Fit nx.length ml → R (.int .i64 0) w) :
    callR Try.prog 117 #[.pointer p, .slice s.a s.l s.c] w R := by
  refine callR.of (intaglioref16_Asked_calls p s R w ?_) fun _ _ h => h
  cases p with
  | none => exact ifB_true rfl (hnil rfl)
  | some a =>
    obtain ⟨rfl, hx, hG⟩ := hp a rfl
    refine ifB_false rfl (rFit_spec hG hM fun b hb => ⟨b, rfl, ifB_not (ifB_bool (fun e => hok (by simp) (hb.1 e)) fun e => hbad (by simp) fun hf => ?_)⟩)
    rw [hb.2 hf] at e
    cases e
theorem rConstruct_spec {p : Option Addr} {h : Int} (hp : PR2 w p rb nx) (hM : IsM w s ml) (hnil : p = none → R (.tuple #[.slice none 0 0, .int .i64 1]) w)
    (hbad : p ≠ none → ¬ Fit nx.length ml → R (.tuple #[.slice none 0 0, .int .i64 2]) w)
    (hout : p ≠ none → Fit nx.length ml → ¬ (0 ≤ h ∧ h < nx.length) → R (.tuple #[.slice none 0 0, .int .i64 3]) w)
    (hnone : p ≠ none → Fit nx.length ml → ∀ x : Nat, h = (x : Int) → x < nx.length → ¬ HeadM nx ml x → ∀ w', Below w.heap.size w w' → R (.tuple #[.slice none 0 0, .int .i64 5]) w')
    (hok : p ≠ none → Fit nx.length ml → ∀ x : Nat, h = (x : Int) → x < nx.length → HeadM nx ml x → ∀ w' r, Below w.heap.size w w' → Own w' 3 1 r ((consM nx ml x).map iN) → R (.tuple #[.slice r.a r.l r.c, .int .i64 0]) w') :
    callR Try.prog 82 #[.pointer p, .slice s.a s.l s.c, .int .i64 h] w R := by
  refine callR.of (intaglioref16_Construct_calls p s h R w ?_) fun _ _ h => h
  refine Asked_spec hp hM (fun e => ⟨1, rfl, ifB_true (by decide) (hnil e)⟩) (fun e hf => ⟨2, rfl, ifB_true (by decide) (hbad e hf)⟩) fun e hf => ⟨0, rfl, ifB_false (by decide) ?_⟩
  have hml := hM.len
  have hfl := hf.1
  refine JoinW.cut (fun _ w' => w' = w ∧ ∃ x : Nat, h = (x : Int) ∧ x < nx.length) (ifB_dec (fun h0 => hout e hf (by omega)) fun h0 => ifB_dec (fun h1 => hout e hf (by omega)) fun h1 => ⟨rfl, h.toNat, by omega, by omega⟩) ?_
  rintro _ _ ⟨rfl, x, rfl, hxn⟩
  rename_i w
  cases p with
  | none => exact absurd rfl e
  | some a =>
  obtain ⟨rfl, hx, hG⟩ := hp a rfl
  have hmx := hx.max
  refine rNew_spec hx hG hM hf fun w3 xb b3 hX => ⟨_, rfl, ?_⟩
  have z3 := b3.size
  refine Head_spec hX hxn fun b hb => ⟨b, rfl, ifB_not (ifB_bool (fun eb => ?_) fun eb => hnone e hf x rfl hxn (fun hh => by rw [hb.2 hh] at eb; cases eb) w3 b3)⟩
  refine LoopW.countS nx.length (by omega) (fun k (l : Sl) w' => Below w3.heap.size w3 w' ∧ w3.heap.size ≤ w'.heap.size ∧ Own w' 3 1 l (((List.range k).filter (inM nx ml x)).map iN) ∧ Fresh w3.heap.size l) ⟨Below.refl _ _, Nat.le_refl _, Own.nil _ _ _, fun a ha => by cases ha⟩ ?_
  rintro k l w5 hk ⟨b5, z5, o5, f5⟩ next hnext
  refine ifB_dec (fun hlt => ?_) (fun hge => ?_)
  · have hlt : k < nx.length := by dsimp only at hlt; omega
    have hcl : ((List.range k).filter (inM nx ml x)).length ≤ k := by have := List.length_filter_le (inM nx ml x) (List.range k); simpa using this
    refine JoinW.cut (fun st w' => Below w3.heap.size w3 w' ∧ w3.heap.size ≤ w'.heap.size ∧ Own w' 3 1 st.1 (((List.range (k + 1)).filter (inM nx ml x)).map iN) ∧ Fresh w3.heap.size st.1) ?_ ?_
    · refine In_spec (hX.below b5) hxn hlt fun b w6 b6 hb => ⟨b, rfl, ?_⟩
      have b36 := b5.trans (b6.mono z5)
      have z6 := b6.size
      rw [filter_succ]
      refine ifB_bool (fun eb => ?_) fun eb => ⟨b36, by omega, ?_, f5⟩
      · refine push_own (y := k) rfl b36 (by omega) (o5.below b6) f5 (by omega) fun r w8 q1 q2 q3 q4 => ⟨q1, q2, ?_, q4⟩
        rw [if_pos (inM_iff.2 (hb.1 eb))]
        exact q3
      · rw [if_neg, List.append_nil]
        · exact o5.below b6
        · rw [inM_iff]; exact fun h => by rw [hb.2 h] at eb; cases eb
    · rintro ⟨l', _⟩ w9 hh
      exact hnext l' w9 hlt hh
  · have : k = nx.length := by dsimp only at hge; omega
    subst this
    exact hok e hf x rfl hxn (hb.1 eb) w5 l (b3.trans (b5.mono z3)) o5
theorem rInner_spec {p : Option Addr} {i : Int} (hp : PR2 w p rb nx) (hM : IsM w s ml) (hnil : p = none → R (.tuple #[.int .i64 0, .int .i64 1]) w)
    (hbad : p ≠ none → ¬ Fit nx.length ml → R (.tuple #[.int .i64 0, .int .i64 2]) w)
    (hout : p ≠ none → Fit nx.length ml → ¬ (0 ≤ i ∧ i < nx.length) → R (.tuple #[.int .i64 0, .int .i64 3]) w)
    (hok : p ≠ none → Fit nx.length ml → ∀ x : Nat, i = (x : Int) → x < nx.length → ∀ w' v, Below w.heap.size w w' → ((v = -1 ∧ ∀ z, z < nx.length → ¬ WithinM nx ml z x 0) ∨ ∃ z : Nat, v = (z : Int) ∧ WithinM nx ml z x 0) → R (.tuple #[.int .i64 v, .int .i64 0]) w') :
    callR Try.prog 83 #[.pointer p, .slice s.a s.l s.c, .int .i64 i] w R := by
  refine callR.of (intaglioref16_Inner_calls p s i R w ?_) fun _ _ h => h
  refine Asked_spec hp hM (fun e => ⟨1, rfl, ifB_true (by decide) (hnil e)⟩) (fun e hf => ⟨2, rfl, ifB_true (by decide) (hbad e hf)⟩) fun e hf => ⟨0, rfl, ifB_false (by decide) ?_⟩
  have hml := hM.len
  have hfl := hf.1
  refine JoinW.cut (fun _ w' => w' = w ∧ ∃ x : Nat, i = (x : Int) ∧ x < nx.length) (ifB_dec (fun h0 => hout e hf (by omega)) fun h0 => ifB_dec (fun h1 => hout e hf (by omega)) fun h1 => ⟨rfl, i.toNat, by omega, by omega⟩) ?_
  rintro _ _ ⟨rfl, x, rfl, hxn⟩
  rename_i w
  cases p with
  | none => exact absurd rfl e
  | some a =>
  obtain ⟨rfl, hx, hG⟩ := hp a rfl
  have hmx := hx.max
  refine rNew_spec hx hG hM hf fun w3 xb b3 hX => ⟨_, rfl, ?_⟩
  have z3 := b3.size
  refine LoopW.count nx.length (by omega) (fun k w' => Below w3.heap.size w3 w' ∧ ∀ z, z < k → ¬ WithinM nx ml z x 0) ⟨Below.refl _ _, fun z hz => by omega⟩ ?_
  rintro k w4 hk ⟨b4, hn⟩ next hnext
  refine ifB_dec (fun hlt => ?_) (fun hge => ?_)
  · have hlt : k < nx.length := by dsimp only at hlt; omega
    refine Within_spec (hX.below b4) hlt hxn fun b w5 b5 hb => ⟨b, rfl, ?_⟩
    have b35 := b4.trans (b5.mono b4.size)
    refine ifB_bool (fun eb => hok e hf x rfl hxn w5 _ (b3.trans (b35.mono z3)) (.inr ⟨k, rfl, hb.1 eb⟩)) fun eb => hnext _ hlt ⟨b35, fun z hz => ?_⟩
    by_cases ez : z = k
    · subst ez
      exact fun hh => by rw [hb.2 hh] at eb; cases eb
    · exact hn z (by omega)
  · have : k = nx.length := by dsimp only at hge; omega
    subst this
    exact hok e hf x rfl hxn w4 _ (b3.trans (b4.mono z3)) (.inl ⟨rfl, hn⟩)
end

end Go.Proofs
