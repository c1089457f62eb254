/-
  Where nothing is wrong, in one structure; the statement NestEnters.
-/
import Derived.Test.Ytjplhoollkeihaa16m
import Derived.Test.Ytjplhoollkeihaa16n
namespace Go.Proofs
open Go.Gk Go.RowKit Go.Gr Go.Dm

structure Sound (nx : List (List Nat)) (ml : List Mg) : Prop where
  d : DOk nx ml
  head : ∀ {x : Nat}, (ml.getD x (0, 0, 0)).1 ≠ 0 → x ∈ orderOf (wideX nx ml) → InM nx ml x x ∧ (∀ t : Nat, (ml.getD x (0, 0, 0)).2.1 = (t : Int) → ¬ InM nx ml x t) ∧ ((ml.getD x (0, 0, 0)).1 = 2 → ∃ c : Nat, (ml.getD x (0, 0, 0)).2.2 = (c : Int) ∧ InM nx ml x c)
  enter : ∀ {x i t : Nat}, i ∈ orderOf nx → t ∈ nx.getD i [] → ¬ InM nx ml x i → InM nx ml x t → t = x
  two : ∀ {i : Nat}, i ∈ orderOf nx → 1 < (nx.getD i []).length → (ml.getD i (0, 0, 0)).1 ≠ 0
  backs : ∀ {x : Nat}, x ∈ orderOf (wideX nx ml) → ((aheadOf nx).getD x []).countP (inM nx ml x) ≤ 1
  rank : ∃ rk : Nat → Nat, (∀ i, rk i ≤ nx.length) ∧ (∀ i, i < nx.length → 0 < rk i) ∧ ∀ i t, i ∈ orderOf nx → t ∈ nx.getD i [] → (ml.getD t (0, 0, 0)).1 ≠ 2 → rk t < rk i
theorem Nd.sound {w : World} {nb gb : Nat} {nx : List (List Nat)} {ml : List Mg} {g : Nst} (h : Nd w nb gb nx ml g) (hf : flawsL g nx.length = []) : Sound nx ml :=
  ⟨h.dok, fun h1 h2 => h.head_in hf h1 h2, fun h1 h2 h3 h4 => h.enter hf h1 h2 h3 h4, fun h1 h2 => h.two hf h1 h2, fun h1 => h.backs hf h1,
    rankR g, fun i => h.nxe ▸ rankR_le g i, fun i hi => rankR_pos (by rw [h.nxe]; exact hi), fun i t h1 h2 h3 => h.rank hf h1 h2 h3⟩

section
variable {nx : List (List Nat)} {ml : List Mg} {s : Sl}
theorem getD_get {ml : List Mg} {k : Nat} (h : k < ml.length) : ml[k] = ml.getD k (0, 0, 0) := by simp [List.getD, h]
/-- Both statements about well nested graphs begin so. -/
theorem sound_open {t : Sl} {hs : List Sl} {ll : List (List Int)} {w : World} {R : Value → World → Prop} {L : Option Addr → World → Prop} (hI : IsII w t hs ll)
    (hM : IsM w s ml) (h24 : 24 * ml.length ≤ 281474976710656) (hR : ∀ w', Below w.heap.size w w' → R (.bool true) w')
    (hL : ∀ w7 gb nx, Below w.heap.size w w7 → NxOk nx → IsG w7 gb nx → Sound nx ml → ml.length = nx.length → nx.length ≤ 64 → L (some (Gk.blk gb)) w7) :
    callR Try.prog 28 #[(.slice t.a t.l t.c)] w fun v1 w1 =>
      ∃ x2 : Option Addr, ∃ x3 : Int, v1 = (.tuple #[(.pointer x2), (.int .i64 x3)]) ∧
      JoinW (S := Unit) (fun m4 =>
          ifB (x3 != (0 : Int))
            (callR Try.prog 72 #[] w1 fun v6 w2 =>
            ∃ x7 : Bool, v6 = (.bool x7) ∧
            R (.bool x7) w2)
            (ifB (decide ((t.l : Int) > (64 : Int)))
              (callR Try.prog 72 #[] w1 fun v8 w3 =>
              ∃ x9 : Bool, v8 = (.bool x9) ∧
              R (.bool x9) w3)
              (callR Try.prog 66 #[(.slice s.a s.l s.c)] w1 fun v10 w4 =>
              ∃ x11 : Sl, v10 = (.slice x11.a x11.l x11.c) ∧
              callR Try.prog 70 #[(.pointer x2), (.slice x11.a x11.l x11.c)] w4 fun v12 w5 =>
              ∃ x13 : (Int × Int × Unit), v12 = (.agg #[(.int .i64 x13.1), (.int .i64 x13.2.1)]) ∧
              ifB (x13.1 != (0 : Int))
                (callR Try.prog 72 #[] w5 fun v14 w6 =>
                ∃ x15 : Bool, v14 = (.bool x15) ∧
                R (.bool x15) w6)
                (m4 (()) w5))))
        (fun s5 w7 => L x2 w7) := by
  have aw : ∀ w2, Below w.heap.size w w2 → callR Try.prog 72 #[] w2 fun v w3 => ∃ x : Bool, v = .bool x ∧ R (.bool x) w3 := fun w2 b2 => nawake_spec fun w3 b3 => ⟨true, rfl, hR w3 (b2.trans (b3.mono b2.size))⟩
  have htl : t.l = ll.length := by have := hI.top.len; have := hI.len; omega
  refine graph_Of_spec hI (fun h0 => ⟨none, 2, rfl, ?_⟩) (fun h0 => ⟨none, 4, rfl, ?_⟩) (fun _ _ hG w1 b1 => ⟨none, 141, rfl, ?_⟩) fun h0 h1 hG w1 gb b1 _ hg => ⟨some (Gk.blk gb), 0, rfl, ?_⟩
  · exact JoinW.cut (fun _ _ => False) (ifB_true (by decide) (aw w (Below.refl _ _))) fun _ _ h => h.elim
  · exact JoinW.cut (fun _ _ => False) (ifB_true (by decide) (aw w (Below.refl _ _))) fun _ _ h => h.elim
  · exact JoinW.cut (fun _ _ => False) (ifB_true (by decide) (aw w1 b1)) fun _ _ h => h.elim
  have hx : NxOk (edges ll) := edges_ok h0 h1 hG
  have hnl : (edges ll).length = ll.length := edges_length ll
  generalize edges ll = nx at *
  refine JoinW.cut (fun _ w' => Below w1.heap.size w1 w' ∧ Sound nx ml ∧ ml.length = nx.length ∧ ll.length ≤ 64) (ifB_false (by decide) (ifB_dec (fun h => aw w1 b1) fun h => ?_)) ?_
  · have hP : PG w1 (some (Gk.blk gb)) gb nx := PG.some hx hg
    have z1 := b1.size
    refine copiedM_spec (IsC.mbelow hM b1) h24 fun w4 s4 b4 _ _ m4 _ => ⟨s4, rfl, ?_⟩
    have b14 := b1.trans (b4.mono z1)
    refine Check_spec (hP.below b4) m4 (fun e => by cases e) (fun _ _ w5 b5 => ⟨(2, 0, ()), rfl, ifB_true (by decide) (aw w5 (b14.trans (b5.mono b14.size)))⟩) fun _ hf w5 w9 nb g b5 hn => ⟨(_, _, ()), rfl, ifB_bne (fun _ => aw w5 (b14.trans (b5.mono b14.size))) fun e => ⟨b4.trans (b5.mono b4.size), hn.sound (spotOf_nil e), hf.1, by omega⟩⟩
  · rintro _ w7 ⟨b7, hs, hl, h64⟩
    exact hL w7 gb nx (b1.trans (b7.mono b1.size)) hx (hg.below b7) hs hl (by omega)

set_option maxRecDepth 20000 in
set_option maxHeartbeats 4000000 in
theorem NestEnters_spec {t : Sl} {hs : List Sl} {ll : List (List Int)} {w : World} {R : Value → World → Prop} (hI : IsII w t hs ll) (_h24 : 24 * ll.length ≤ 281474976710656) (_h8 : ∀ l ∈ ll, 8 * l.length ≤ 281474976710656)
    (hM : IsM w s ml) (h24 : 24 * ml.length ≤ 281474976710656) (_hk : ∀ x ∈ ml, 0 ≤ x.1) (hR : ∀ w', Below w.heap.size w w' → R (.bool true) w') :
    callR Try.prog 15 #[.slice t.a t.l t.c, .slice s.a s.l s.c] w R := by
  refine callR.of (intagliolaw16_NestEnters_calls t s R w ?_) fun _ _ h => h
  refine sound_open hI hM h24 hR fun w7 gb nx b7 hx hg hS hml h64 => ?_
  have aw : ∀ w2, Below w7.heap.size w7 w2 → callR Try.prog 72 #[] w2 fun v w3 => ∃ x : Bool, v = .bool x ∧ R (.bool x) w3 := fun w2 b2 => nawake_spec fun w3 b3 => ⟨true, rfl, hR w3 ((b7.trans (b2.mono b7.size)).trans (b3.mono (by have := b7.size; have := b2.size; omega)))⟩
  have hP7 : PG w7 (some (Gk.blk gb)) gb nx := PG.some hx hg
  have hM7 := IsC.mbelow hM b7
  have hsl := hM.len
  refine LoopW.count nx.length (by omega) (fun _ w' => Below w7.heap.size w7 w') (Below.refl _ _) ?_
  rintro h w8 hh b8 next hnext
  refine ifB_dec (fun hlt => ?_) (fun _ => aw w8 b8)
  have hlt : h < nx.length := by dsimp only at hlt; omega
  have hltm : h < ml.length := by omega
  refine JoinW.cut (fun _ w' => Below w7.heap.size w7 w') ?_ fun _ w' b => hnext _ hlt b
  refine cons_call (hP7.below b8) (IsC.mbelow hM7 b8) hS.d.fit h24 hlt fun r f w10 b10 o10 hcase => ifB_bne (fun _ => b8.trans (b10.mono b8.size)) fun e => ?_
  have b710 := b8.trans (b10.mono b8.size)
  have z10 := b710.size
  have hM10 := IsC.mbelow hM7 b710
  obtain ⟨hk, ho⟩ : (ml.getD h (0, 0, 0)).1 ≠ 0 ∧ h ∈ orderOf (wideX nx ml) := by
    rcases hcase with hc | hc
    · exact hc.2
    · omega
  obtain ⟨hin, hto, hco⟩ := hS.head hk ho
  have io : IsI w10 r ((consM nx ml h).map fun (x : Nat) => (x : Int)) := IsS.toI (Own.isS o10)
  refine JoinW.cut (fun _ w' => w' = w10) ?_ ?_
  · refine nin_spec io fun b hb => ⟨b, rfl, ifB_not (ifB_bool (fun _ => ?_) fun eb => ?_)⟩
    · refine elemMt hM10 hltm (nin_spec io fun b2 hb2 => ⟨b2, rfl, ifB_bool (fun e2 => ?_) fun _ => ?_⟩)
      · obtain ⟨y, hy, e3⟩ := List.mem_map.1 (hb2.1 e2)
        rw [getD_get hltm] at e3
        exact absurd (mem_consM.1 hy).2 (hto y e3.symm)
      · refine elemMk hM10 hltm (ifB_beq (fun e2 => elemMc hM10 hltm (nin_spec io fun b3 hb3 => ⟨b3, rfl, ifB_not (ifB_bool (fun _ => rfl) fun eb => ?_)⟩)) fun _ => rfl)
        rw [getD_get hltm] at e2
        obtain ⟨c, e3, hc⟩ := hco e2
        have := hb3.2 (by rw [getD_get hltm, e3]; exact mem_cast.2 (mem_consM.2 ⟨(hc.lt hS.d).2, hc⟩))
        rw [this] at eb
        cases eb
    · have := hb.2 (mem_cast.2 (mem_consM.2 ⟨hlt, hin⟩))
      rw [this] at eb
      cases eb
  rintro _ _ rfl
  rename_i w10
  refine LoopW.count nx.length (by omega) (fun _ w' => Below w10.heap.size w10 w') (Below.refl _ _) ?_
  rintro n w15 hn b15 next2 hnext2
  have b715 := b710.trans (b15.mono z10)
  refine ifB_dec (fun hlt2 => ?_) (fun _ => b715)
  have hlt2 : n < nx.length := by dsimp only at hlt2; omega
  have hltm2 : n < ml.length := by omega
  refine JoinW.cut (fun _ w' => Below w10.heap.size w10 w') ?_ fun _ w' b => hnext2 _ hlt2 b
  refine Next_spec hx (hg.below b715) fun r44 w16 o16 _ b16 => ⟨r44, rfl, ?_⟩
  rw [rowAt_nat] at o16
  have b1016 := b15.trans (b16.mono b15.size)
  have b716 := b710.trans (b1016.mono z10)
  have hg16 := hg.below b716
  have io16 := io.below b1016
  have hM16 := IsC.mbelow hM7 b716
  have i44 : IsI w16 r44 ((nx.getD n []).map fun (x : Nat) => (x : Int)) := IsS.toI (Own.isS o16)
  have l44 := own_len o16
  have hrl := hx.row_le n
  refine LoopW.count (nx.getD n []).length (by omega) (fun _ w' => w' = w16) rfl ?_
  rintro k w17 hk rfl next3 hnext3
  refine ifB_dec (fun hlt3 => ?_) (fun _ => ?_)
  · have hlt3 : k < (nx.getD n []).length := by dsimp only at hlt3; omega
    refine JoinW.cut (fun _ w' => w' = w17) ?_ fun _ w' e => by rw [e]; exact hnext3 _ hlt3 rfl
    refine Reached_spec hx hg16 ⟨_, rfl, ifB_bool (fun er => ?_) fun _ => rfl⟩
    rw [reached_inOd hx, inOd_nat, List.contains_iff_mem] at er
    refine nin_spec io16 fun b hb => ⟨b, rfl, ifB_not (ifB_bool (fun _ => rfl) fun eb => ?_)⟩
    refine elemI i44 (k := k) (by rw [List.length_map]; exact hlt3) ?_
    rw [List.getElem_map]
    refine nin_spec io16 fun b2 hb2 => ⟨b2, rfl, ifB_bool (fun e2 => ?_) fun _ => rfl⟩
    refine elemI i44 (k := k) (by rw [List.length_map]; exact hlt3) ?_
    rw [List.getElem_map]
    refine ifB_bne (fun hne => ?_) fun _ => rfl
    have h1 := (mem_consM.1 (mem_cast.1 (hb2.1 e2))).2
    have h2 : ¬ InM nx ml h n := fun hi => by
      have := hb.2 (mem_cast.2 (mem_consM.2 ⟨hlt2, hi⟩))
      rw [this] at eb
      cases eb
    have := hS.enter er (List.getElem_mem hlt3) h2 h1
    exact absurd (by rw [this]) hne
  · refine Reached_spec hx hg16 ⟨_, rfl, ifB_bool (fun er => ifB_dec (fun hl => ?_) fun _ => b1016) fun _ => b1016⟩
    rw [reached_inOd hx, inOd_nat, List.contains_iff_mem] at er
    refine elemMk hM16 hltm2 (ifB_beq (fun e => ?_) fun _ => b1016)
    rw [getD_get hltm2] at e
    exact absurd e (hS.two er (by omega))
end

end Go.Proofs
