/-
  Twenty cells, stored and loaded one after another. Printed by gen20.py.
-/
import Derived.Test.Ytpeonjpjphhenaa05z
namespace Go.Proofs
open Go.Gk Go.RowKit Go.Gm

abbrev T20 := Int × Int × Int × Int × Int × Int × Int × Int × Int × Int × Int × Int × Int × Int × Int × Int × Int × Int × Int × Int × Unit
abbrev l20 (x : T20) : List Int := [x.1, x.2.1, x.2.2.1, x.2.2.2.1, x.2.2.2.2.1, x.2.2.2.2.2.1, x.2.2.2.2.2.2.1, x.2.2.2.2.2.2.2.1, x.2.2.2.2.2.2.2.2.1, x.2.2.2.2.2.2.2.2.2.1, x.2.2.2.2.2.2.2.2.2.2.1, x.2.2.2.2.2.2.2.2.2.2.2.1, x.2.2.2.2.2.2.2.2.2.2.2.2.1, x.2.2.2.2.2.2.2.2.2.2.2.2.2.1, x.2.2.2.2.2.2.2.2.2.2.2.2.2.2.1, x.2.2.2.2.2.2.2.2.2.2.2.2.2.2.2.1, x.2.2.2.2.2.2.2.2.2.2.2.2.2.2.2.2.1, x.2.2.2.2.2.2.2.2.2.2.2.2.2.2.2.2.2.1, x.2.2.2.2.2.2.2.2.2.2.2.2.2.2.2.2.2.2.1, x.2.2.2.2.2.2.2.2.2.2.2.2.2.2.2.2.2.2.2.1]
abbrev sp20 (x : T20) : List Value := [.int .i64 x.1, .int .i64 x.2.1, .int .i64 x.2.2.1, .int .i64 x.2.2.2.1, .int .i64 x.2.2.2.2.1, .int .i64 x.2.2.2.2.2.1, .int .i64 x.2.2.2.2.2.2.1, .int .i64 x.2.2.2.2.2.2.2.1, .int .i64 x.2.2.2.2.2.2.2.2.1, .int .i64 x.2.2.2.2.2.2.2.2.2.1, .int .i64 x.2.2.2.2.2.2.2.2.2.2.1, .int .i64 x.2.2.2.2.2.2.2.2.2.2.2.1, .int .i64 x.2.2.2.2.2.2.2.2.2.2.2.2.1, .int .i64 x.2.2.2.2.2.2.2.2.2.2.2.2.2.1, .int .i64 x.2.2.2.2.2.2.2.2.2.2.2.2.2.2.1, .int .i64 x.2.2.2.2.2.2.2.2.2.2.2.2.2.2.2.1, .int .i64 x.2.2.2.2.2.2.2.2.2.2.2.2.2.2.2.2.1, .int .i64 x.2.2.2.2.2.2.2.2.2.2.2.2.2.2.2.2.2.1, .int .i64 x.2.2.2.2.2.2.2.2.2.2.2.2.2.2.2.2.2.2.1, .int .i64 x.2.2.2.2.2.2.2.2.2.2.2.2.2.2.2.2.2.2.2.1]
abbrev ag20 (x : T20) : Value := .agg #[.int .i64 x.1, .int .i64 x.2.1, .int .i64 x.2.2.1, .int .i64 x.2.2.2.1, .int .i64 x.2.2.2.2.1, .int .i64 x.2.2.2.2.2.1, .int .i64 x.2.2.2.2.2.2.1, .int .i64 x.2.2.2.2.2.2.2.1, .int .i64 x.2.2.2.2.2.2.2.2.1, .int .i64 x.2.2.2.2.2.2.2.2.2.1, .int .i64 x.2.2.2.2.2.2.2.2.2.2.1, .int .i64 x.2.2.2.2.2.2.2.2.2.2.2.1, .int .i64 x.2.2.2.2.2.2.2.2.2.2.2.2.1, .int .i64 x.2.2.2.2.2.2.2.2.2.2.2.2.2.1, .int .i64 x.2.2.2.2.2.2.2.2.2.2.2.2.2.2.1, .int .i64 x.2.2.2.2.2.2.2.2.2.2.2.2.2.2.2.1, .int .i64 x.2.2.2.2.2.2.2.2.2.2.2.2.2.2.2.2.1, .int .i64 x.2.2.2.2.2.2.2.2.2.2.2.2.2.2.2.2.2.1, .int .i64 x.2.2.2.2.2.2.2.2.2.2.2.2.2.2.2.2.2.2.1, .int .i64 x.2.2.2.2.2.2.2.2.2.2.2.2.2.2.2.2.2.2.2.1]
theorem l20_of {ps : List Int} (h : ps.length = 20) : ∃ x : T20, ps = l20 x := by
  match ps, h with
  | [a0, a1, a2, a3, a4, a5, a6, a7, a8, a9, a10, a11, a12, a13, a14, a15, a16, a17, a18, a19], _ => exact ⟨(a0, a1, a2, a3, a4, a5, a6, a7, a8, a9, a10, a11, a12, a13, a14, a15, a16, a17, a18, a19, ()), rfl⟩
theorem l20_map (x : T20) : (l20 x).map (Value.int .i64) = sp20 x := rfl
theorem _root_.Go.Gk.Blk.rI2 {w : World} {b : Nat} {T : TypeId} {cs : List Value} (h : Blk w b T cs) {m n : Nat} {κ : IntKind} {x : Int} (hn : cs[m + n]? = some (.int κ x)) {φ : Int → Prop} (hφ : φ x) : ldI w (((Gk.blk b).add m).add n) κ φ := by
  rw [add_add']; exact h.rI hn hφ
theorem ld20 {w : World} {b : Nat} {T : TypeId} {x : T20} (h : Blk w b T (sp20 x)) {φ : Int → Int → Int → Int → Int → Int → Int → Int → Int → Int → Int → Int → Int → Int → Int → Int → Int → Int → Int → Int → Prop} (hφ : φ x.1 x.2.1 x.2.2.1 x.2.2.2.1 x.2.2.2.2.1 x.2.2.2.2.2.1 x.2.2.2.2.2.2.1 x.2.2.2.2.2.2.2.1 x.2.2.2.2.2.2.2.2.1 x.2.2.2.2.2.2.2.2.2.1 x.2.2.2.2.2.2.2.2.2.2.1 x.2.2.2.2.2.2.2.2.2.2.2.1 x.2.2.2.2.2.2.2.2.2.2.2.2.1 x.2.2.2.2.2.2.2.2.2.2.2.2.2.1 x.2.2.2.2.2.2.2.2.2.2.2.2.2.2.1 x.2.2.2.2.2.2.2.2.2.2.2.2.2.2.2.1 x.2.2.2.2.2.2.2.2.2.2.2.2.2.2.2.2.1 x.2.2.2.2.2.2.2.2.2.2.2.2.2.2.2.2.2.1 x.2.2.2.2.2.2.2.2.2.2.2.2.2.2.2.2.2.2.1 x.2.2.2.2.2.2.2.2.2.2.2.2.2.2.2.2.2.2.2.1) :
      ldI w ((blk b).add 0) .i64 fun x0 =>
      ldI w ((blk b).add 1) .i64 fun x1 =>
      ldI w ((blk b).add 2) .i64 fun x2 =>
      ldI w ((blk b).add 3) .i64 fun x3 =>
      ldI w ((blk b).add 4) .i64 fun x4 =>
      ldI w ((blk b).add 5) .i64 fun x5 =>
      ldI w ((blk b).add 6) .i64 fun x6 =>
      ldI w ((blk b).add 7) .i64 fun x7 =>
      ldI w ((blk b).add 8) .i64 fun x8 =>
      ldI w ((blk b).add 9) .i64 fun x9 =>
      ldI w ((blk b).add 10) .i64 fun x10 =>
      ldI w ((blk b).add 11) .i64 fun x11 =>
      ldI w ((blk b).add 12) .i64 fun x12 =>
      ldI w ((blk b).add 13) .i64 fun x13 =>
      ldI w ((blk b).add 14) .i64 fun x14 =>
      ldI w ((blk b).add 15) .i64 fun x15 =>
      ldI w ((blk b).add 16) .i64 fun x16 =>
      ldI w ((blk b).add 17) .i64 fun x17 =>
      ldI w ((blk b).add 18) .i64 fun x18 =>
      ldI w ((blk b).add 19) .i64 fun x19 =>
      φ x0 x1 x2 x3 x4 x5 x6 x7 x8 x9 x10 x11 x12 x13 x14 x15 x16 x17 x18 x19 :=
  h.rI (n := 0) rfl (h.rI (n := 1) rfl (h.rI (n := 2) rfl (h.rI (n := 3) rfl (h.rI (n := 4) rfl (h.rI (n := 5) rfl (h.rI (n := 6) rfl (h.rI (n := 7) rfl (h.rI (n := 8) rfl (h.rI (n := 9) rfl (h.rI (n := 10) rfl (h.rI (n := 11) rfl (h.rI (n := 12) rfl (h.rI (n := 13) rfl (h.rI (n := 14) rfl (h.rI (n := 15) rfl (h.rI (n := 16) rfl (h.rI (n := 17) rfl (h.rI (n := 18) rfl (h.rI (n := 19) rfl (hφ))))))))))))))))))))
theorem ld20c {w : World} {b : Nat} {T : TypeId} {v0 v1 : Value} {r : List Value} {x : T20} (h : Blk w b T (v0 :: v1 :: (sp20 x ++ r))) {φ : Int → Int → Int → Int → Int → Int → Int → Int → Int → Int → Int → Int → Int → Int → Int → Int → Int → Int → Int → Int → Prop} (hφ : φ x.1 x.2.1 x.2.2.1 x.2.2.2.1 x.2.2.2.2.1 x.2.2.2.2.2.1 x.2.2.2.2.2.2.1 x.2.2.2.2.2.2.2.1 x.2.2.2.2.2.2.2.2.1 x.2.2.2.2.2.2.2.2.2.1 x.2.2.2.2.2.2.2.2.2.2.1 x.2.2.2.2.2.2.2.2.2.2.2.1 x.2.2.2.2.2.2.2.2.2.2.2.2.1 x.2.2.2.2.2.2.2.2.2.2.2.2.2.1 x.2.2.2.2.2.2.2.2.2.2.2.2.2.2.1 x.2.2.2.2.2.2.2.2.2.2.2.2.2.2.2.1 x.2.2.2.2.2.2.2.2.2.2.2.2.2.2.2.2.1 x.2.2.2.2.2.2.2.2.2.2.2.2.2.2.2.2.2.1 x.2.2.2.2.2.2.2.2.2.2.2.2.2.2.2.2.2.2.1 x.2.2.2.2.2.2.2.2.2.2.2.2.2.2.2.2.2.2.2.1) :
      ldI w (((blk b).add 2).add 0) .i64 fun x0 =>
      ldI w (((blk b).add 2).add 1) .i64 fun x1 =>
      ldI w (((blk b).add 2).add 2) .i64 fun x2 =>
      ldI w (((blk b).add 2).add 3) .i64 fun x3 =>
      ldI w (((blk b).add 2).add 4) .i64 fun x4 =>
      ldI w (((blk b).add 2).add 5) .i64 fun x5 =>
      ldI w (((blk b).add 2).add 6) .i64 fun x6 =>
      ldI w (((blk b).add 2).add 7) .i64 fun x7 =>
      ldI w (((blk b).add 2).add 8) .i64 fun x8 =>
      ldI w (((blk b).add 2).add 9) .i64 fun x9 =>
      ldI w (((blk b).add 2).add 10) .i64 fun x10 =>
      ldI w (((blk b).add 2).add 11) .i64 fun x11 =>
      ldI w (((blk b).add 2).add 12) .i64 fun x12 =>
      ldI w (((blk b).add 2).add 13) .i64 fun x13 =>
      ldI w (((blk b).add 2).add 14) .i64 fun x14 =>
      ldI w (((blk b).add 2).add 15) .i64 fun x15 =>
      ldI w (((blk b).add 2).add 16) .i64 fun x16 =>
      ldI w (((blk b).add 2).add 17) .i64 fun x17 =>
      ldI w (((blk b).add 2).add 18) .i64 fun x18 =>
      ldI w (((blk b).add 2).add 19) .i64 fun x19 =>
      φ x0 x1 x2 x3 x4 x5 x6 x7 x8 x9 x10 x11 x12 x13 x14 x15 x16 x17 x18 x19 :=
  h.rI2 (m := 2) (n := 0) rfl (h.rI2 (m := 2) (n := 1) rfl (h.rI2 (m := 2) (n := 2) rfl (h.rI2 (m := 2) (n := 3) rfl (h.rI2 (m := 2) (n := 4) rfl (h.rI2 (m := 2) (n := 5) rfl (h.rI2 (m := 2) (n := 6) rfl (h.rI2 (m := 2) (n := 7) rfl (h.rI2 (m := 2) (n := 8) rfl (h.rI2 (m := 2) (n := 9) rfl (h.rI2 (m := 2) (n := 10) rfl (h.rI2 (m := 2) (n := 11) rfl (h.rI2 (m := 2) (n := 12) rfl (h.rI2 (m := 2) (n := 13) rfl (h.rI2 (m := 2) (n := 14) rfl (h.rI2 (m := 2) (n := 15) rfl (h.rI2 (m := 2) (n := 16) rfl (h.rI2 (m := 2) (n := 17) rfl (h.rI2 (m := 2) (n := 18) rfl (h.rI2 (m := 2) (n := 19) rfl (hφ))))))))))))))))))))
theorem st20 {b : Nat} {T : TypeId} {cs : List Value} {x : T20} {K : World → Prop} {w : World} (hB : Blk w b T cs) (hl : cs.length = 20) (hK : ∀ w', Blk w' b T (sp20 x) → Chg b w w' → K w') :
      Wr w (blk b) ∧ Nw (w.setCell (blk b) (.int .i64 x.1)) fun u0 =>
      Wr u0 ((blk b).add 1) ∧ Nw (u0.setCell ((blk b).add 1) (.int .i64 x.2.1)) fun u1 =>
      Wr u1 ((blk b).add 2) ∧ Nw (u1.setCell ((blk b).add 2) (.int .i64 x.2.2.1)) fun u2 =>
      Wr u2 ((blk b).add 3) ∧ Nw (u2.setCell ((blk b).add 3) (.int .i64 x.2.2.2.1)) fun u3 =>
      Wr u3 ((blk b).add 4) ∧ Nw (u3.setCell ((blk b).add 4) (.int .i64 x.2.2.2.2.1)) fun u4 =>
      Wr u4 ((blk b).add 5) ∧ Nw (u4.setCell ((blk b).add 5) (.int .i64 x.2.2.2.2.2.1)) fun u5 =>
      Wr u5 ((blk b).add 6) ∧ Nw (u5.setCell ((blk b).add 6) (.int .i64 x.2.2.2.2.2.2.1)) fun u6 =>
      Wr u6 ((blk b).add 7) ∧ Nw (u6.setCell ((blk b).add 7) (.int .i64 x.2.2.2.2.2.2.2.1)) fun u7 =>
      Wr u7 ((blk b).add 8) ∧ Nw (u7.setCell ((blk b).add 8) (.int .i64 x.2.2.2.2.2.2.2.2.1)) fun u8 =>
      Wr u8 ((blk b).add 9) ∧ Nw (u8.setCell ((blk b).add 9) (.int .i64 x.2.2.2.2.2.2.2.2.2.1)) fun u9 =>
      Wr u9 ((blk b).add 10) ∧ Nw (u9.setCell ((blk b).add 10) (.int .i64 x.2.2.2.2.2.2.2.2.2.2.1)) fun u10 =>
      Wr u10 ((blk b).add 11) ∧ Nw (u10.setCell ((blk b).add 11) (.int .i64 x.2.2.2.2.2.2.2.2.2.2.2.1)) fun u11 =>
      Wr u11 ((blk b).add 12) ∧ Nw (u11.setCell ((blk b).add 12) (.int .i64 x.2.2.2.2.2.2.2.2.2.2.2.2.1)) fun u12 =>
      Wr u12 ((blk b).add 13) ∧ Nw (u12.setCell ((blk b).add 13) (.int .i64 x.2.2.2.2.2.2.2.2.2.2.2.2.2.1)) fun u13 =>
      Wr u13 ((blk b).add 14) ∧ Nw (u13.setCell ((blk b).add 14) (.int .i64 x.2.2.2.2.2.2.2.2.2.2.2.2.2.2.1)) fun u14 =>
      Wr u14 ((blk b).add 15) ∧ Nw (u14.setCell ((blk b).add 15) (.int .i64 x.2.2.2.2.2.2.2.2.2.2.2.2.2.2.2.1)) fun u15 =>
      Wr u15 ((blk b).add 16) ∧ Nw (u15.setCell ((blk b).add 16) (.int .i64 x.2.2.2.2.2.2.2.2.2.2.2.2.2.2.2.2.1)) fun u16 =>
      Wr u16 ((blk b).add 17) ∧ Nw (u16.setCell ((blk b).add 17) (.int .i64 x.2.2.2.2.2.2.2.2.2.2.2.2.2.2.2.2.2.1)) fun u17 =>
      Wr u17 ((blk b).add 18) ∧ Nw (u17.setCell ((blk b).add 18) (.int .i64 x.2.2.2.2.2.2.2.2.2.2.2.2.2.2.2.2.2.2.1)) fun u18 =>
      Wr u18 ((blk b).add 19) ∧ Nw (u18.setCell ((blk b).add 19) (.int .i64 x.2.2.2.2.2.2.2.2.2.2.2.2.2.2.2.2.2.2.2.1)) fun u19 =>
      K u19 :=
  stC_all (vs := sp20 x) hB hl hK
end Go.Proofs
