/-
  The program's code: texts and instructions as words; what is wrong with an instruction.
-/
import Derived.Test.YtpeonjpjphhenaaL04
import Derived.Test.Ytpeonjpjphhenaa04p
import Derived.Test.Ytpeonjpjphhenaa14T
import Derived.Lib.Bytealg
namespace Go.Proofs
open Go.Gk Go.RowKit Go.Gm

theorem index_ge (l : List UInt8) (c : UInt8) : (Lib.indexByte l c = -1 ∨ 0 ≤ Lib.indexByte l c) ∧ (0 ≤ Lib.indexByte l c ↔ l.contains c = true) := by
  induction l with
  | nil => exact ⟨.inl rfl, by simp [Lib.indexByte]⟩
  | cons b l ih =>
    obtain ⟨h1, h2⟩ := ih
    unfold Lib.indexByte
    by_cases e : b = c
    · subst e
      simp
    · rw [if_neg (by simpa using e)]
      have e' : (c == b) = false := beq_eq_false_iff_ne.2 fun h => e h.symm
      rw [List.contains_cons, e', Bool.false_or, ← h2]
      rcases h1 with h1 | h1
      · rw [h1]; simp
      · rw [if_neg (by simp; omega)]
        constructor
        · right; omega
        · constructor <;> intro _ <;> omega
theorem IndexByte_spec {s : ByteArray} {w : World} {R : Value → World → Prop} (hR : ∀ i : Int, (0 ≤ i ↔ nul s = true) → R (.int .i64 i) w) : callR Try.prog 158 #[.string s, .int .u8 0] w R := by
  refine callR.of (strings_IndexByte_calls s 0 R w ?_) fun _ _ h => h
  refine callR.of (internal_stringslite_IndexByte_calls s 0 _ w ?_) fun _ _ h => h
  refine ⟨.int .i64 (Lib.indexByte s.data.toList 0), w, ?_, _, rfl, _, rfl, hR _ (index_ge _ _).2⟩
  rw [run_callFunc_extern Try.func165 (by kernel_rfl) (by kernel_rfl) (by kernel_rfl) (e := Extern.BytealgIndexByte.indexByte) (by kernel_rfl), Lib.run_indexByteString]
  rfl
theorem byteI_ne {s : ByteArray} (h : nul s = false) {k : Nat} (hk : k < s.size) : byteI s (k : Int) ≠ 0 := by
  intro e
  unfold byteI at e
  rw [Int.toNat_natCast] at e
  have hk' : k < s.data.size := hk
  have e1 : s.data.getD k 0 = s.data[k] := by rw [Array.getD_eq_getD_getElem?, Array.getElem?_eq_getElem hk']; rfl
  rw [e1] at e
  have e2 : s.data[k] = 0 := UInt8.toNat.inj (show (s.data[k]).toNat = 0 by omega)
  have hm : (0 : UInt8) ∈ s.data.toList := by
    rw [← e2, ← Array.getElem_toList]
    exact List.getElem_mem _
  have := List.contains_iff_mem.2 hm
  unfold nul at h
  rw [h] at this
  cases this
theorem Room_val {s : ByteArray} (hs : s.size ≤ 9223372036854775807) : IntKind.i64.wrap (IntKind.i64.wrap (Int.tdiv (s.size : Int) 4) + 1) = ((s.size / 4 + 1 : Nat) : Int) := by
  rw [show Int.tdiv (s.size : Int) 4 = ((s.size / 4 : Nat) : Int) from (Int.ofNat_tdiv s.size 4).symm]
  have : s.size / 4 ≤ 2305843009213693951 := by omega
  generalize s.size / 4 = q at this
  rw [wrap64_in (x := (q : Int)) (by omega) (by omega), wrap64_in (by omega) (by omega)]
  omega
theorem Room_spec {s : ByteArray} (hs : s.size ≤ 9223372036854775807) {w : World} {R : Value → World → Prop} (hR : R (.int .i64 ((s.size / 4 + 1 : Nat) : Int)) w) : callR Try.prog 160 #[.string s] w R := by
  refine callR.of (words_Room_calls s R w ?_) fun _ _ h => h
  show R (.int .i64 _) w
  rw [Room_val hs]
  exact hR
theorem setU {w : World} {b : Nat} {T : TypeId} {xs : List Int} (hB : Blk w b T (xs.map (Value.int .u32))) (k : Nat) (v : Int) : ∃ ys : List Int, Blk (w.setCell ((blk b).add k) (.int .u32 v)) b T (ys.map (Value.int .u32)) ∧ ys.length = xs.length :=
  ⟨xs.set k v, by rw [List.map_set]; exact hB.set k _, by simp⟩
/-- A text as words: the block of its words, or that it is too long. -/
theorem OfText_spec {s : ByteArray} (hs : s.size ≤ 9223372036854775807) (hn : nul s = false) {w : World} {R : Value → World → Prop}
    (h1 : 65535 < s.size / 4 + 1 → R (.tuple #[.slice none 0 0, .int .i64 4]) w)
    (h2 : s.size / 4 + 1 ≤ 65535 → ∀ (b : Nat) (xs : List Int) w', w.heap.size ≤ b → Blk w' b 22 (xs.map (Value.int .u32)) → xs.length = s.size / 4 + 1 → Below w.heap.size w w' → R (.tuple #[.slice (some (blk b)) (s.size / 4 + 1) (s.size / 4 + 1), .int .i64 0]) w') :
    callR Try.prog 159 #[.string s] w R := by
  refine callR.of (words_OfText_calls s R w ?_) fun _ _ h => h
  refine LoopW.count s.size hs (fun k w' => w' = w) rfl ?_
  rintro k wk hk hw next hnext
  subst hw
  refine ifB_dec (fun h => ?_) (fun h => ?_)
  · have hlt : k < s.size := by dsimp only at h; omega
    exact ⟨⟨by omega, by omega⟩, ifB_beq (fun e => absurd e (byteI_ne hn hlt)) (fun _ => hnext _ hlt rfl)⟩
  · refine Room_spec hs ⟨_, rfl, ?_⟩
    refine ifB_dec (fun hgt => h1 (by omega)) (fun hle => ?_)
    have hle : s.size / 4 + 1 ≤ 65535 := by omega
    refine Room_spec hs ⟨_, rfl, ?_⟩
    rw [Int.toNat_natCast]
    refine ⟨⟨by omega, by omega, by omega, by omega⟩, ?_⟩
    refine Nw.gen fun w4 e4 => ?_
    have hB4 : Blk w4 wk.heap.size 22 (List.replicate (s.size / 4 + 1) (.int .u32 0)) := by rw [e4]; exact Blk.made wk _ _ _
    have z4 : w4.heap.size = wk.heap.size + 1 := by rw [e4]; simp
    have b4 : Below wk.heap.size wk w4 := by rw [e4]; exact (Below.refl _ _).alloc (Nat.le_refl _) _
    clear e4
    refine LoopW.count s.size hs (fun k w' => Below wk.heap.size wk w' ∧ ∃ xs : List Int, Blk w' wk.heap.size 22 (xs.map (Value.int .u32)) ∧ xs.length = s.size / 4 + 1) ⟨b4, List.replicate (s.size / 4 + 1) 0, by simpa using hB4, by simp⟩ ?_
    rintro k w5 hk ⟨hb, xs, hB, hxl⟩ next hnext
    refine ifB_dec (fun h => ?_) (fun h => ?_)
    · have hlt : k < s.size := by dsimp only at h; omega
      have e1 : IntKind.i64.wrap (Int.tdiv (k : Int) 4) = ((k / 4 : Nat) : Int) := by
        rw [show Int.tdiv (k : Int) 4 = ((k / 4 : Nat) : Int) from (Int.ofNat_tdiv k 4).symm]
        exact wrap64_in (by omega) (by omega)
      have e2 : IntKind.i64.wrap (8 * Int.tmod (k : Int) 4) = ((8 * (k % 4) : Nat) : Int) := by
        rw [show Int.tmod (k : Int) 4 = ((k % 4 : Nat) : Int) from (Int.ofNat_tmod k 4).symm, wrap64_in (by omega) (by omega)]
        omega
      have hq : k / 4 < xs.length := by omega
      dsimp only
      rw [e1, e2, Int.toNat_natCast]
      refine ⟨⟨by omega, by omega⟩, hB.drew.rI (n := k / 4) (x := xs[k / 4]) (by simp [hq]) ⟨⟨by omega, by omega⟩, ifB_dec (fun h => absurd h (by omega)) (fun _ => ⟨⟨by omega, by omega⟩, hB.drew.wr (by simpa using hq), ?_⟩)⟩⟩
      refine Nw.mk (hnext _ hlt ⟨(Chg.set _ _ _ _).below hb.drew (Nat.le_refl _), ?_⟩)
      exact (setU hB.drew (k / 4) _).imp fun ys h => ⟨h.1, h.2.trans hxl⟩
    · exact h2 hle _ xs w5 (Nat.le_refl _) hB hxl hb

/-! ### The writer -/
abbrev wrV (f : Fm) (bd : Int) (s : Sl) (room : Nat) : List Value :=
  [.int .u16 f.1, .string f.2.1, .bool f.2.2.1, .bool f.2.2.2.1, .string f.2.2.2.2.1, .string f.2.2.2.2.2.1, .int .i64 f.2.2.2.2.2.2.1, .int .u8 f.2.2.2.2.2.2.2.1, .int .u32 bd, .slice s.a s.l s.c, .int .i64 (room : Int)]
/-- Blocks of other types than the words' stay, but b. -/
def Oth (b : Nat) (w w' : World) : Prop := ∀ k T cs, Blk w k T cs → k ≠ b → T ≠ 22 → Blk w' k T cs
theorem Oth.refl (b : Nat) (w : World) : Oth b w w := fun _ _ _ h _ _ => h
theorem Oth.trans {b : Nat} {w w' w2 : World} (h : Oth b w w') (h' : Oth b w' w2) : Oth b w w2 := fun k T cs hB h1 h2 => h' k T cs (h k T cs hB h1 h2) h1 h2
theorem Oth.below {b : Nat} {w w' : World} (h : Below w.heap.size w w') : Oth b w w' := fun _ _ _ hB _ _ => hB.below h
structure WtS (w0 w : World) (b : Nat) (f : Fm) (bd : Int) (room n : Nat) : Prop where
  old : w0.heap.size ≤ b
  below : Below w0.heap.size w0 w
  own : ∃ r xs, Blk w b 189 (wrV f bd r room) ∧ Own w 22 1 r xs ∧ Fresh w0.heap.size r ∧ r.l = n
section
variable {w0 w : World} {b : Nat} {f : Fm} {bd : Int} {room n : Nat} {R : Value → World → Prop}
theorem WtS.step {w' : World} (h : WtS w0 w b f bd room n) (hb : Below w.heap.size w w') : WtS w0 w' b f bd room n := by
  obtain ⟨h1, h2, r, xs, h3, h4, h5, h6⟩ := h
  exact ⟨h1, h2.on hb, r, xs, h3.below hb, h4.below hb, h5, h6⟩
theorem WtS.drew (h : WtS w0 w b f bd room n) : WtS w0 w.drew b f bd room n := h.step (Below.refl _ _).drew
/-- What is appended to the words. -/
theorem WtS.app (h : WtS w0 w b f bd room n) {c m k : Nat} {news : List Value} {T : TypeId} (hB : Blk w c T news) (hl : news.length = m) (h1 : ∀ u ∈ news, u.oneCell' = true) (hm : 0 < m) (hn : (n + m) * 4 ≤ 140737488355328) {r : Sl} {xs : List Value}
    (hW : Blk w b 189 (wrV f bd r room)) (hO : Own w 22 1 r xs) (hF : Fresh w0.heap.size r) (hrl : r.l = n) {K : Sl → World → Prop}
    (hK : ∀ r' w2, Blk w2 b 189 (wrV f bd r room) → (∀ room' w4, Chg b w2 w4 → Blk w4 b 189 (wrV f bd r' room') → WtS w0 w4 b f bd room' (n + m) ∧ Oth b w w4) → K r' w2) :
    appendS Try.prog 36 (.slice r.a r.l r.c) (.slice (some (blk c)) m k) w K := by
  have hold := h.old
  have hbel := h.below
  refine append_own eU32 hO (news := news) (by omega) (fun j u hj => hB.cell hj) h1 (by omega) (by omega) fun r' w2 hO' hl' hg => ?_
  rcases hg with ⟨_, _, h3⟩ | ⟨b', hb', hab, hg⟩
  · rw [h3] at hl'; omega
  · have hbb : w0.heap.size ≤ b' := by
      rcases hab with h | h
      · exact hF _ h
      · have := hbel.size
        omega
    have hne : ∀ {k T cs}, Blk w k T cs → T ≠ 22 → k ≠ b' := by
      intro k T cs hk hT e
      subst e
      rcases hab with h | h
      · obtain ⟨cs', hc⟩ := hO.type h
        exact hT (hk.type hc)
      · have := hk.lt
        omega
    have hkeep : ∀ {k T cs}, Blk w k T cs → T ≠ 22 → Blk w2 k T cs := fun hk hT => hk.of_block (hg.block _ hk.lt (fun e => hne hk hT (Option.some.inj e)))
    have hb2 : Below w0.heap.size w0 w2 := hbel.trans (below_grown hg hbb hbel.size)
    refine hK r' w2 (hkeep hW (by decide)) fun room' w4 cc hW4 => ?_
    have hO4 : Own w4 22 1 r' (xs ++ news) := hO'.of_block fun a ha => cc.block _ (by
      rw [hb'] at ha
      cases ha
      exact (hne hW (by decide)).symm)
    refine ⟨⟨hold, cc.below hb2 hold, r', _, hW4, hO4, ?_, by omega⟩, ?_⟩
    · intro a ha
      rw [hb'] at ha
      cases ha
      exact hbb
    · intro k T cs hk h1 h2
      exact cc.blk (hkeep hk h2) h1
theorem put_spec (h : WtS w0 w b f bd room n) {x : Int} (hr : room ≤ 4611686018427387904) (hn : (n + 1) * 4 ≤ 140737488355328) (hR : ∀ w', WtS w0 w' b f bd (room + 1) (n + 1) → Oth b w w' → R (.tuple #[]) w') :
    callR Try.prog 145 #[.pointer (some (blk b)), .int .u32 x] w R := by
  refine callR.of (code_writer_put_calls (some (blk b)) x R w ?_) fun _ _ h => h
  obtain ⟨r, xs, hW, hO, hF, hrl⟩ := h.own
  refine derefP_some rfl (hW.rS (n := 9) (x := r) rfl ?_)
  refine lay_of fun w1 hB1 b1 z1 => ?_
  refine (h.step b1).app hB1 (m := 1) rfl (by simp [Value.oneCell']) (by omega) hn (hW.below b1) (hO.below b1) hF hrl fun r' w2 hW2 hfin => ?_
  refine derefP_some rfl ⟨hW2.wr (n := 9) (by simp), Nw.gen fun w3 e3 => ?_⟩
  have c3 : Chg b w2 w3 := by rw [e3]; exact Chg.set _ _ _ _
  have hW3 : Blk w3 b 189 (wrV f bd r' room) := by rw [e3]; exact hW2.set 9 _
  clear e3
  refine derefP_some rfl (hW3.rI (n := 10) rfl (derefP_some rfl ⟨hW3.wr (n := 10) (by simp), Nw.mk ?_⟩))
  have e : IntKind.i64.wrap ((room : Int) + 1) = ((room + 1 : Nat) : Int) := by rw [wrap64_in (by omega) (by omega)]; omega
  rw [e]
  obtain ⟨k1, k2⟩ := hfin (room + 1) _ (c3.trans (Chg.set b 10 w3 (.int .i64 ((room + 1 : Nat) : Int)))) (hW3.set 10 _)
  exact hR _ k1 ((Oth.below b1).trans k2)
theorem id_val {x bd : Int} (hR : R (.int .i64 (if x = 0 then 43 else if bd ≤ x then 43 else 0)) w) : callR Try.prog 146 #[.int .u32 x, .int .u32 bd] w R := by
  refine callR.of (code_id_calls x bd R w ?_) fun _ _ h => h
  refine ifB_beq (fun e => by rwa [if_pos e] at hR) (fun e => ?_)
  rw [if_neg e] at hR
  exact ifB_dec (fun h => by rwa [if_pos h] at hR) (fun h => by rwa [if_neg h] at hR)
theorem head_spec (h : WtS w0 w b f bd room n) {must : Bool} {x e : Int} (hr : room ≤ 4611686018427387904) (hn : (n + 1) * 4 ≤ 140737488355328)
    (hR : ∀ w' room' n', WtS w0 w' b f bd room' n' → room' ≤ room + 1 → n' ≤ n + 1 → (idP must x bd e = 0 → e ≠ 0 → room' = room + must.toNat ∧ n' = n + must.toNat) → R (.int .i64 (idP must x bd e)) w') :
    callR Try.prog 124 #[.pointer (some (blk b)), .bool must, .int .u32 x, .int .i64 e] w R := by
  refine callR.of (code_writer_head_calls (some (blk b)) must x e R w ?_) fun _ _ h => h
  unfold idP at hR
  refine ifB_not (ifB_bool (fun hm => ?_) (fun hm => ?_))
  · have hm : must = (x != 0) := eq_of_beq hm
    rw [if_pos hm] at hR
    refine ifB_not (ifB_bool (fun ht => ?_) (fun hf => ?_))
    · refine put_spec h hr hn fun w1 h1 _ => ⟨rfl, ?_⟩
      obtain ⟨r, xs, hW, _⟩ := h1.own
      refine derefP_some rfl (hW.rI (n := 8) rfl ?_)
      refine id_val ⟨_, rfl, ?_⟩
      have hx : x ≠ 0 := by rw [ht] at hm; exact bne_iff_ne.1 hm.symm
      rw [if_neg hx]
      have := hR w1 (room + 1) (n + 1) h1 (Nat.le_refl _) (Nat.le_refl _) (fun _ _ => by rw [ht]; exact ⟨rfl, rfl⟩)
      simpa [ht] using this
    · have := hR w room n h (by omega) (by omega) (fun _ _ => by rw [hf]; exact ⟨rfl, rfl⟩)
      simpa [hf] using this
  · have hm : ¬ must = (x != 0) := fun h => by rw [h] at hm; simp at hm
    have := hR w room n h (by omega) (by omega) (fun h0 he => by rw [if_neg hm] at h0; exact absurd h0 he)
    rwa [if_neg hm] at this
theorem text_spec (h : WtS w0 w b f bd room n) {s : ByteArray} (hs : s.size ≤ 9223372036854775807) (hr : room ≤ 4611686018427387904) (hn : (n + 65535) * 4 ≤ 140737488355328)
    (hR : ∀ w' room' n', WtS w0 w' b f bd room' n' → Oth b w w' → (nul s = false → room' = room + (s.size / 4 + 1) ∧ (n' = n + (s.size / 4 + 1) ∨ 65535 < s.size / 4 + 1) ∧ n' ≤ n + 65535) → R (.int .i64 (if nul s = true then 13 else 0)) w') :
    callR Try.prog 148 #[.pointer (some (blk b)), .string s] w R := by
  refine callR.of (code_writer_text_calls (some (blk b)) s R w ?_) fun _ _ h => h
  refine IndexByte_spec fun i hi => ⟨_, rfl, ?_⟩
  refine ifB_dec (fun h0 => ?_) (fun h0 => ?_)
  · have hnul := hi.1 h0
    have := hR w room n h (Oth.refl _ _) (fun h => by rw [hnul] at h; cases h)
    rwa [if_pos hnul] at this
  · have hnul : nul s = false := by
      rw [← Bool.not_eq_true]
      exact fun hn => h0 (hi.2 hn)
    rw [if_neg (by rw [hnul]; simp)] at hR
    have hdiv : s.size / 4 ≤ 2305843009213693951 := by omega
    refine OfText_spec hs hnul (fun hgt => ⟨⟨none, 0, 0⟩, _, rfl, ?_⟩) (fun hle c ys w2 hc hB2 hyl b2 => ⟨⟨some (blk c), s.size / 4 + 1, s.size / 4 + 1⟩, _, rfl, ?_⟩)
    · refine ifB_true rfl ?_
      obtain ⟨r, xs, hW, hO, hF, hrl⟩ := h.own
      have hW1 := hW.drew
      refine derefP_some rfl (hW1.rI (n := 10) rfl ?_)
      refine Room_spec hs ⟨_, rfl, hW1.cell (n := 10) rfl, derefP_some rfl ⟨hW1.wr (n := 10) (by simp), Nw.mk ?_⟩⟩
      have e : IntKind.i64.wrap ((room : Int) + ((s.size / 4 + 1 : Nat) : Int)) = ((room + (s.size / 4 + 1) : Nat) : Int) := by
        generalize s.size / 4 = q at hdiv
        rw [wrap64_in (by omega) (by omega)]
        omega
      rw [e]
      have cc := Chg.set b 10 w.drew (.int .i64 ((room + (s.size / 4 + 1) : Nat) : Int))
      refine hR _ (room + (s.size / 4 + 1)) n ⟨h.old, cc.below h.below.drew h.old, r, xs, hW1.set 10 _, hO.drew.of_block fun a ha => cc.block _ ?_, hF, hrl⟩ (fun k T cs hk h1 _ => cc.blk hk.drew h1) (fun _ => ⟨rfl, .inr hgt, by omega⟩)
      obtain ⟨cs', hc⟩ := hO.type ha
      exact hc.apart hW (by decide)
    · refine ifB_false rfl ?_
      have h2 := h.step b2
      obtain ⟨r, xs, hW, hO, hF, hrl⟩ := h2.own
      refine derefP_some rfl (hW.rS (n := 9) (x := r) rfl ?_)
      refine h2.app hB2 (m := s.size / 4 + 1) (by rw [List.length_map]; exact hyl) (by simp [Value.oneCell']) (by omega) (by omega) hW hO hF hrl fun r' w3 hW3 hfin => ?_
      refine derefP_some rfl ⟨hW3.wr (n := 9) (by simp), Nw.gen fun w4 e4 => ?_⟩
      have c4 : Chg b w3 w4 := by rw [e4]; exact Chg.set _ _ _ _
      have hW4 : Blk w4 b 189 (wrV f bd r' room) := by rw [e4]; exact hW3.set 9 _
      clear e4
      refine derefP_some rfl (hW4.rI (n := 10) rfl (derefP_some rfl ⟨hW4.wr (n := 10) (by simp), Nw.mk ?_⟩))
      have e : IntKind.i64.wrap ((room : Int) + ((s.size / 4 + 1 : Nat) : Int)) = ((room + (s.size / 4 + 1) : Nat) : Int) := by
        generalize s.size / 4 = q at hdiv
        rw [wrap64_in (by omega) (by omega)]
        omega
      dsimp only
      rw [e]
      obtain ⟨k1, k2⟩ := hfin (room + (s.size / 4 + 1)) _ (c4.trans (Chg.set b 10 w4 (.int .i64 ((room + (s.size / 4 + 1) : Nat) : Int)))) (hW4.set 10 _)
      exact hR _ _ _ k1 ((Oth.below b2).trans k2) (fun _ => ⟨rfl, .inl rfl, by omega⟩)
end

theorem Letter_spec {op : Int} {i : Nat} {w : World} {R : Value → World → Prop} (hi : i ≤ 9223372036854775807) (hR : ∀ w', Below w.heap.size w w' → R (.int .u8 (letP (flOf op) i : Int)) w') :
    callR Try.prog 147 #[.int .u16 op, .int .i64 (i : Int)] w R := by
  refine callR.of (grammar_Letter_calls op i R w ?_) fun _ _ h => h
  have hg := lOk (flOf_ok op)
  have hfm := fmIs op
  refine gOf_spec fun w1 b1 => ⟨fmO op (frm op), (frm op).isSome, rfl, ?_⟩
  refine box8 rfl fun w2 hB b2 z2 => ?_
  have hB : Blk w2 w1.heap.size 133 (fmV (fmO op (frm op))) := hB
  refine Fm.load hB ?_
  exact letter_spec hfm hg hi fun w3 b3 => ⟨_, rfl, hR w3 ((b1.on b2).on b3)⟩
theorem named_spec {c n : Int} {w : World} {R : Value → World → Prop} (hR : ∀ w', Below w.heap.size w w' → R (.int .i64 (if enumP c n = false then 31 else 0)) w') :
    callR Try.prog 149 #[.int .u8 c, .int .u32 n] w R := by
  refine callR.of (code_named_calls c n R w ?_) fun _ _ h => h
  refine Enum_spec fun s w1 b1 => ⟨s, _, rfl, ?_⟩
  have := hR w1 b1
  refine ifB_not (ifB_bool (fun h => ?_) (fun h => ?_))
  · rwa [if_neg (by rw [h]; simp)] at this
  · rwa [if_pos h] at this
section
variable {w0 w : World} {b : Nat} {f : Fm} {bd : Int} {room n : Nat} {R : Value → World → Prop}
theorem arg_spec (h : WtS w0 w b f bd room n) {k : Nat} (hk : k ≤ 9223372036854775807) {a : Ag} (hs : a.2.2.size ≤ 9223372036854775807) (hr : room ≤ 4611686018427387904) (hn : (n + 65535) * 4 ≤ 140737488355328)
    (hR : ∀ w' room' n', WtS w0 w' b f bd room' n' → (wrongP (letP (flOf f.1) k : Int) a bd = 0 → room' = room + cost a ∧ (n' = n + cost a ∨ 65535 < cost a) ∧ n' ≤ n + (if a.1 = 3 then 65535 else 1)) → R (.int .i64 (wrongP (letP (flOf f.1) k : Int) a bd)) w') :
    callR Try.prog 125 #[.pointer (some (blk b)), .int .i64 (k : Int), .agg #[.int .u8 a.1, .int .u32 a.2.1, .string a.2.2]] w R := by
  refine callR.of (code_writer_arg_calls (some (blk b)) k (a.1, a.2.1, a.2.2, ()) R w ?_) fun _ _ h => h
  refine lay_of fun w1 hA1 b1 z1 => ?_
  have hA1 : Blk w1 w.heap.size 87 [.int .u8 a.1, .int .u32 a.2.1, .string a.2.2] := hA1
  have h1 := h.step b1
  obtain ⟨r1, xs1, hW1, _⟩ := h1.own
  refine derefP_some rfl (hW1.rI0 rfl ?_)
  refine Letter_spec hk fun w2 b2 => ⟨_, rfl, ?_⟩
  generalize letP (flOf f.1) k = c at hR
  have hA2 := hA1.below b2
  have h2 := h1.step b2
  refine hA2.rI0 rfl ?_
  have hbne : w.heap.size ≠ b := by
    obtain ⟨r, xs, hW, _⟩ := h.own
    have := hW.lt
    omega
  have key : wrongP (c : Int) a bd = if (c : Int) = 0 ∨ a.1 ≠ kindP c then 42 else if (a.1 = 3 ∧ a.2.1 ≠ 0) ∨ (a.1 ≠ 3 ∧ a.2.2.size ≠ 0) then 42
      else if a.1 = 1 ∧ (a.2.1 = 0 ∨ bd ≤ a.2.1) then 43 else if a.1 = 4 ∧ enumP c a.2.1 = false then 31 else if nul a.2.2 = true then 13 else 0 := rfl
  refine JoinW.cut (fun _ w' => WtS w0 w' b f bd room n ∧ Blk w' w.heap.size 87 [.int .u8 a.1, .int .u32 a.2.1, .string a.2.2] ∧ ¬ ((c : Int) = 0 ∨ a.1 ≠ kindP c) ∧ a.1 ≠ 3 ∧ a.2.2.size = 0) ?_ ?_
  · refine ifB_beq (fun e => ?_) (fun e => ?_)
    · have := hR w2.drew room n h2.drew (fun h => by rw [key, if_pos (.inl e)] at h; cases h)
      rwa [key, if_pos (.inl e)] at this
    · refine hA2.drew.rI0 rfl ?_
      refine Kind_spec ⟨_, rfl, hA2.drew.cell0 rfl, ?_⟩
      refine ifB_bne (fun e2 => ?_) (fun e2 => ?_)
      · have := hR w2.drew room n h2.drew (fun h => by rw [key, if_pos (.inr e2)] at h; cases h)
        rwa [key, if_pos (.inr e2)] at this
      · have hno : ¬ ((c : Int) = 0 ∨ a.1 ≠ kindP c) := fun h => h.elim e (fun h => h e2)
        rw [if_neg hno] at key
        refine ifB_beq (fun e3 => ?_) (fun e3 => ?_)
        · refine hA2.drew.rI (n := 1) rfl (ifB_bne (fun e4 => ?_) (fun e4 => ?_))
          · have := hR w2.drew room n h2.drew (fun h => by rw [key, if_pos (.inl ⟨e3, e4⟩)] at h; cases h)
            rwa [key, if_pos (.inl ⟨e3, e4⟩)] at this
          · refine ifB_not (ifB_beq (fun _ => ifB_beq (fun _ => ?_) (fun h => absurd e3 h)) (fun h => absurd e3 h))
            refine hA2.drew.rT (n := 2) rfl ?_
            have e3' : a.1 = 3 := e3
            rw [if_neg (fun h => h.elim (fun h => h.2 e4) (fun h => h.1 e3)), if_neg (fun h => by have := h.1; omega), if_neg (fun h => by have := h.1; omega)] at key
            refine text_spec h2.drew hs hr hn fun w3 room' n' h3 _ hrn => ⟨_, rfl, ?_⟩
            have := hR w3 room' n' h3 (fun h0 => by
              have hnul : nul a.2.2 = false := by
                rw [key] at h0
                split at h0
                · cases h0
                · rename_i hh; simpa using hh
              obtain ⟨g1, g2, g3⟩ := hrn hnul
              unfold cost
              rw [if_pos e3', if_pos e3']
              exact ⟨g1, g2, g3⟩)
            rwa [key] at this
        · refine ifB_not (ifB_beq (fun h => absurd h e3) (fun _ => ?_))
          refine hA2.drew.rT (n := 2) rfl ?_
          rw [bytes_empty]
          refine ifB_not (ifB_dec (fun e5 => ?_) (fun e5 => ?_))
          · exact ifB_beq (fun h => absurd h e3) (fun _ => ⟨h2.drew, hA2.drew, hno, e3, e5⟩)
          · have := hR w2.drew room n h2.drew (fun h => by rw [key, if_pos (.inr ⟨e3, e5⟩)] at h; cases h)
            rwa [key, if_pos (.inr ⟨e3, e5⟩)] at this
  · rintro _ w3 ⟨h3, hA3, hno, hn3, hsz⟩
    have hnul : nul a.2.2 = false := by
      unfold nul
      have : a.2.2.data.toList = [] := List.eq_nil_of_length_eq_zero (by rw [Array.length_toList]; exact hsz)
      rw [this]
      rfl
    rw [if_neg hno, if_neg (fun h => h.elim (fun h => hn3 h.1) (fun h => h.2 hsz)), hnul] at key
    simp only [Bool.false_eq_true, if_false] at key
    have hcost : cost a = 1 := by unfold cost; rw [if_neg hn3]
    refine hA3.rI (n := 1) rfl ?_
    refine put_spec h3 hr (by omega) fun w4 h4 o4 => ⟨rfl, ?_⟩
    have hA4 := o4 _ _ _ hA3 hbne (by decide)
    have fin : ∀ w', Below w4.heap.size w4 w' → R (.int .i64 (wrongP c a bd)) w' := fun w' hb => hR w' (room + 1) (n + 1) (h4.step hb) (fun _ => by rw [hcost, if_neg hn3]; exact ⟨rfl, .inl rfl, Nat.le_refl _⟩)
    refine hA4.rI0 rfl (ifB_beq (fun e1 => ?_) (fun e1 => ?_))
    · refine hA4.drew.rI (n := 1) rfl ?_
      obtain ⟨r, xs, hW, _⟩ := h4.own
      refine derefP_some rfl (hW.drew.rI (n := 8) rfl ?_)
      refine id_val ⟨_, rfl, ?_⟩
      have := fin w4.drew (Below.refl _ _).drew
      have e1' : a.1 = 1 := e1
      have ev : wrongP c a bd = if a.2.1 = 0 then 43 else if bd ≤ a.2.1 then 43 else 0 := by
        rw [key]
        by_cases x1 : a.2.1 = 0
        · rw [if_pos ⟨e1', .inl x1⟩, if_pos x1]
        · rw [if_neg x1]
          by_cases x2 : bd ≤ a.2.1
          · rw [if_pos ⟨e1', .inr x2⟩, if_pos x2]
          · rw [if_neg (fun h => h.2.elim x1 x2), if_neg (fun h => by have := h.1; omega), if_neg x2]
      rwa [ev] at this
    · rw [if_neg (fun h => e1 h.1)] at key
      refine ifB_beq (fun e4 => ?_) (fun e4 => ?_)
      · refine hA4.rI (n := 1) rfl ?_
        refine named_spec fun w5 b5 => ⟨_, rfl, ?_⟩
        have := fin w5 b5
        have e4' : a.1 = 4 := e4
        have ev : wrongP c a bd = if enumP c a.2.1 = false then 31 else 0 := by
          rw [key]
          by_cases x1 : enumP c a.2.1 = false
          · rw [if_pos ⟨e4', x1⟩, if_pos x1]
          · rw [if_neg (fun h => x1 h.2), if_neg x1]
        rwa [ev] at this
      · have := fin w4 (Below.refl _ _)
        rwa [key, if_neg (fun h => e4 h.1)] at this
end
theorem whole_spec {f : Fm} {s : Sl} {al : List Ag} {w : World} {R : Value → World → Prop} (hI : IsAg w s al) (h24 : 24 * al.length ≤ 140737488351232)
    (hR : ∀ w', Below w.heap.size w w' → R (.int .i64 (if (fitP f.1 (al.map (·.1))).2 = true then 0 else 42)) w') : callR Try.prog 126 #[fmA f, .slice s.a s.l s.c] w R := by
  refine callR.of (code_whole_calls f s R w ?_) fun _ _ h => h
  refine lay_of fun w1 hB b1 z1 => ?_
  have hB : Blk w1 w.heap.size 133 (fmV f) := hB
  have hlen := hI.len
  refine LoopW.countSl al.length hI.bound (fun k r w' => Own w' 5 1 r ((al.take k).map fun a => Value.int .u8 a.1) ∧ Fresh w1.heap.size r ∧ Below w1.heap.size w1 w') ⟨Own.nil _ _ _, fun a ha => by (cases ha), Below.refl _ _⟩ ?_
  rintro k r w2 hk ⟨hO, hF, hb⟩ next hnext
  have hb0 := b1.on hb
  have hI2 := hI.below hb0
  refine ifB_dec (fun h => ?_) (fun h => ?_)
  · have hlt : k < al.length := by dsimp only at h; omega
    refine elemA3 hI2 hlt ?_
    refine box3 rfl fun w3 h3 b3 z3 => ?_
    refine h3.rI0 rfl ?_
    refine lay_of fun w4 h4 b4 z4 => ?_
    have hrl : r.l = k := by have := hO.1; simp [Nat.min_eq_left hk] at this; omega
    refine push_fresh eU8 ((hO.below b3).below b4) ((hb.on b3).on b4) hF (v := .int .u8 al[k].1) rfl h4 (by omega) (by omega) fun r' w5 h5 b5 F5 => ?_
    refine hnext r' w5 hlt ⟨?_, F5, b5⟩
    rw [List.take_succ_eq_append_getElem hlt, List.map_append]
    exact h5
  · have hk : k = al.length := by dsimp only at h; omega
    subst hk
    rw [List.take_length] at hO
    have hB2 := hB.below hb
    refine hB2.rI0 rfl ?_
    have hO' : Own w2 5 1 r ((al.map (·.1)).map (Value.int .u8)) := by rw [List.map_map]; exact hO
    refine Fits_spec hO'.isS fun w3 b3 => ⟨_, _, rfl, ?_⟩
    have := hR w3 (hb0.on b3)
    refine ifB_not (ifB_bool (fun h => by rwa [if_pos h] at this) (fun h => by rwa [if_neg (by rw [h]; simp)] at this))

end Go.Proofs
