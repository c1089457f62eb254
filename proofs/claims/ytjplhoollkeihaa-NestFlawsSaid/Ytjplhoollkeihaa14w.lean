/-
  Ranges over a graph's walk.
-/
import Derived.Test.Ytjplhoollkeihaa14u
import Derived.Test.YtjplhoollkeihaaL14b
namespace Go.Gk
open Go.RowKit
/-- The blocks from B on that wC has are as they were. -/
def Keep (B : Nat) (wC w : World) : Prop := ∀ k, B ≤ k → k < wC.heap.size → w.heap[k]? = wC.heap[k]?
theorem Keep.refl (B : Nat) (w : World) : Keep B w w := fun _ _ _ => rfl
theorem Keep.below {B : Nat} {wC w w' : World} (h : Keep B wC w) (hs : wC.heap.size ≤ w.heap.size) (hb : Below w.heap.size w w') : Keep B wC w' := fun k h1 h2 => (hb.block k (by omega)).trans (h k h1 h2)
theorem Keep.belowC {B C : Nat} {wC w w' : World} (h : Keep B wC w) (hs : wC.heap.size ≤ C) (hb : Below C w w') : Keep B wC w' := fun k h1 h2 => (hb.block k (by omega)).trans (h k h1 h2)
theorem Keep.set {B : Nat} {wC w : World} (h : Keep B wC w) {b : Nat} (hb : b < B ∨ wC.heap.size ≤ b) (n : Nat) (v : Value) : Keep B wC (w.setCell ((blk b).add n) v) :=
  fun k h1 h2 => (Below.heap_setCell _ _ _ _ (by rw [add_block]; show k ≠ b; omega)).trans (h k h1 h2)
theorem Keep.put {B : Nat} {wC w : World} (h : Keep B wC w) {b : Nat} (hb : b < B ∨ wC.heap.size ≤ b) (o : Obj) : Keep B wC (w.putObj b o) :=
  fun k h1 h2 => (World.putObj_heap_other (by omega)).trans (h k h1 h2)
theorem Keep.alloc {B : Nat} {wC w : World} (h : Keep B wC w) (hs : wC.heap.size ≤ w.heap.size) (o : Obj) : Keep B wC (w.alloc o) := fun k h1 h2 => (alloc_old w o (by omega)).trans (h k h1 h2)
theorem Blk.put {w : World} {b : Nat} {T : TypeId} {cs : List Value} (h : Blk w b T cs) {l : Nat} (hl : b ≠ l) (o : Obj) : Blk (w.putObj l o) b T cs := h.of_block (World.putObj_heap_other hl)
theorem _root_.Go.RowKit.Below.putObj {B : Nat} {w w' : World} (h : Below B w w') {b : Nat} (hb : B ≤ b) (o : Obj) : Below B w (w'.putObj b o) :=
  ⟨h.os, h.tape, h.output, by simpa using h.size, fun k hk => (World.putObj_heap_other (by omega)).trans (h.block k hk)⟩
theorem heap_set_other {w : World} {b k : Nat} (h : k ≠ b) (n : Nat) (v : Value) : (w.setCell ((blk b).add n) v).heap[k]? = w.heap[k]? := Below.heap_setCell _ _ _ _ (by rw [add_block]; exact h)
/-- The two blocks that a range lays. -/
theorem laid_below (w : World) (o o' : Obj) : Below w.heap.size w ((w.alloc o).alloc o') := (((Below.refl _ _).alloc (Nat.le_refl _) o).alloc (by simp) o')
theorem laid_size (w : World) (o o' : Obj) : ((w.alloc o).alloc o').heap.size = w.heap.size + 2 := by simp
theorem laid_d (w : World) (o o' : Obj) : ((w.alloc o).alloc o').heap[w.heap.size]? = some o := (alloc_old (w.alloc o) o' (by simp)).trans (World.alloc_heap_new w o)
theorem laid_l (w : World) (o o' : Obj) : ((w.alloc o).alloc o').heap[w.heap.size + 1]? = some o' := by
  have := World.alloc_heap_new (w.alloc o) o'
  simpa using this
theorem funcNil_func {f : Fn} {a b : Array Value} {k : Bool → Prop} (h : k false) : funcNil (.func f a b) k := h
theorem closeM_one {d : Nat} {w : World} {k : World → Prop} (h : w.heap[d]? = some (.deferred (some []))) (hk : k (w.putObj d (.deferred none))) : closeM [d] w k := ⟨h, hk⟩
theorem callV.mono {P : Program} {fs : List Nat} {f : Value} {args : List Value} {w : World} {S T : Value → World → Prop} (h : callV P fs f args w S) (hk : ∀ v w', S v w' → T v w') : callV P fs f args w T := by
  revert h
  unfold callV
  split
  · split
    · exact fun h => callR.mono h hk
    · exact id
  · rintro ⟨r, h1, h2, h3⟩
    exact ⟨r, h1, h2, RoundIn.mono h3 fun e w' he => by cases e <;> first | exact hk _ _ he | exact he.elim⟩
  · exact id
end Go.Gk
namespace Go.Proofs
open Go.Gk Go.RowKit Go.Gr

/-- graph.Walk. -/
theorem Walk_spec {p : Option Addr} {w : World} {R : Value → World → Prop} (hR : ∀ w', Blk w' w.heap.size 28 [.pointer p] → Below w.heap.size w w' → R (.func (.func 106) #[] #[.pointer (some (blk w.heap.size))]) w') :
    callR Try.prog 41 #[.pointer p] w R :=
  callR.of (graph_Graph_Walk_calls p R w (hR _ (Blk.new w _ #[_]) ((Below.refl _ _).alloc (Nat.le_refl _) _))) fun _ _ h => h

theorem Walk1_spec {y : Value} {p : Option Addr} {nx : List (List Nat)} {B pb : Nat} {wC w : World} (hp : w.cell? (blk pb) = some (.pointer p)) (hg : GPB wC B p nx) (Inv : Nat → World → Prop) (S : World → Prop)
    (h0 : Inv 0 w) (hkeep : ∀ k w', Inv k w' → Keep B wC w')
    (hround : ∀ k (hk : k < (walkOf nx).length) w', Inv k w' → callV Try.prog Try.fs y [.int .i64 ((walkOf nx)[k] : Int)] w' fun v w'' => (v = .bool true ∧ Inv (k + 1) w'') ∨ (v = .bool false ∧ S w''))
    (hend : ∀ w', Inv (walkOf nx).length w' → S w') : Calls Try.prog 106 #[y, .pointer (some (blk pb))] w (Ret fun _ w' => S w') := by
  refine graph_Graph_Walk_1_calls y (blk pb) _ w ?_
  rcases hg with ⟨rfl, rfl⟩ | ⟨gb, rfl, hx, hg⟩
  · exact ⟨none, hp, ifB_true rfl (hend _ h0)⟩
  · refine ⟨some (blk gb), hp, ifB_false rfl ⟨some (blk gb), hp, derefP_some rfl ?_⟩⟩
    have look : ∀ w', Keep B wC w' → IsGB w' B gb nx := fun w' hk => hg.keep hk
    have hl : ∀ w', Keep B wC w' → ∀ wk, (∃ sn sa od bs, Blk w gb 118 (gCells sn sa wk od bs)) → IsN w' wk (walkOf nx) := by
      rintro w' hk wk ⟨sn, sa, od, bs, hb⟩
      obtain ⟨hB, sn1, sa1, wk1, od1, bs1, hn1, ha1, h1, h2, h3, h4, _⟩ := look w' hk
      have hgw := hkeep 0 w h0
      have hlt : gb < wC.heap.size := by obtain ⟨_, _, _, _, _, _, _, _, g1, _⟩ := hg; exact g1.lt
      have e : w'.heap[gb]? = w.heap[gb]? := (hk gb hB hlt).trans (hgw gb hB hlt).symm
      have := (hb.of_block e).uniq h1
      simp only [gCells, List.cons.injEq] at this
      have e3 := this.2.2.1
      have : wk = wk1 := by
        cases wk; cases wk1
        simp only [Sl.val, Value.slice.injEq] at e3
        simp [e3]
      subst this
      exact h4
    obtain ⟨hB, sn, sa, wk, od, bs, hn, ha, h1, h2, h3, h4, _⟩ := look w (hkeep 0 w h0)
    have hwk : ∀ w', Keep B wC w' → IsN w' wk (walkOf nx) := fun w' hk => hl w' hk wk ⟨sn, sa, od, bs, h1⟩
    have hwl := hx.walk_le
    have hm := hx.max
    refine ⟨wk, h1.cell (n := 2) rfl, ?_⟩
    refine LoopW.count (walkOf nx).length (by omega) Inv h0 ?_
    intro k w' hk hI next hnext
    have hlen := h4.len
    refine ifB_dec (fun hlt => ?_) (fun hge => ?_)
    · have hlt : k < (walkOf nx).length := by dsimp only at hlt; omega
      refine (hwk w' (hkeep k w' hI)).addr hlt fun a _ hc => ⟨((walkOf nx)[k] : Int), hc, ?_⟩
      refine callV.mono (hround k hlt w' hI) fun v w'' hv => ?_
      rcases hv with ⟨rfl, hv⟩ | ⟨rfl, hv⟩
      · exact ⟨true, rfl, ifB_false rfl (hnext w'' hlt hv)⟩
      · exact ⟨false, rfl, ifB_true rfl hv⟩
    · have : k = (walkOf nx).length := by dsimp only at hge; omega
      subst this
      exact hend _ hI

/-- A range over a graph's walk: Inv after k nodes. -/
theorem walk_range {p : Option Addr} {nx : List (List Nat)} {B pb : Nat} {T : TypeId} {wC w : World} (hp : Blk w pb T [.pointer p]) (hg : GPB wC B p nx) {round : Gk.Mk → Nat → Int × Unit → World → (Value → World → Prop) → Prop} {fin : Gk.Mk → Nat → Nat → World → Prop}
    (h : ∀ mk : Gk.Mk, ∃ Inv : Nat → World → Prop, Inv 0 ((w.alloc (.deferred (some []))).alloc (mk .ready none)) ∧ (∀ k w', Inv k w' → Keep B wC w') ∧
      (∀ k (hk : k < (walkOf nx).length) w', Inv k w' → w'.heap[w.heap.size + 1]? = some (mk .ready none) ∧ round mk (w.heap.size + 1) (((walkOf nx)[k] : Int), ()) w' fun v w'' => (v = .bool true ∧ Inv (k + 1) w'') ∨ (v = .bool false ∧ fin mk (w.heap.size + 1) w.heap.size w'')) ∧
      ∀ w', Inv (walkOf nx).length w' → fin mk (w.heap.size + 1) w.heap.size w') :
    RangeW Try.prog Try.fs (.func (.func 106) #[] #[.pointer (some (blk pb))]) w (T := Int × Unit) (fun s => [.int .i64 s.1]) round fin := by
  intro mk hy
  obtain ⟨Inv, h0, hk, hr, he⟩ := h mk
  have hc : Try.fs.contains 106 = true := by kernel_rfl
  unfold callF
  simp only [hc]
  refine Walk1_spec (y := .func (.yield (w.heap.size + 1)) #[] #[]) ((hp.below (laid_below w _ _)).cell0 rfl) hg Inv _ h0 hk (fun k hk w' hI => ?_) he
  obtain ⟨h1, h2⟩ := hr k hk w' hI
  exact hy (((walkOf nx)[k] : Int), ()) w' _ h1 h2

end Go.Proofs
