/-
  Contract of graph.walked.
-/
import Derived.Test.Ytjplhoollkeihaa14d
namespace Go.Proofs
open Go.Gk Go.RowKit Go.Gr

theorem fr_only {B : Nat} {X : Nat → Prop} {w w' w'' : World} {s : Sl} (h : Fr B X w w') (ho : Only s w' w'') (hs : Fresh B s) : Fr B X w w'' := h.trans (Fr.of_below (ho.below hs))

theorem walked_spec {gb : Nat} {sn sa : Sl} {hs : List Sl} {nx : List (List Nat)} {w : World} {R : Value → World → Prop}
    (hG : Blk w gb 118 (gCells sn sa ⟨none, 0, 0⟩ ⟨none, 0, 0⟩ (List.replicate 64 (.int .u64 (0 : Int))))) (hnx : IsNN w sn hs nx) (hav : Avoids gb sn hs)
    (h0 : 0 < nx.length) (hmax : nx.length ≤ 4096) (hrows : ∀ i, ∀ t ∈ nx.getD i [], t < nx.length)
    (hR : ∀ w' wk od bs, Fr w.heap.size (· = gb) w w' → Blk w' gb 118 (gCells sn sa wk od bs) → BitsL bs (fun i => (walkOf nx).contains i) → Own w' 3 1 wk ((walkOf nx).map iN) →
      Own w' 3 1 od ((orderOf nx).map iN) → Fresh w.heap.size wk → Fresh w.heap.size od → R (.tuple #[]) w') :
    callR Try.prog 96 #[.pointer (some (blk gb))] w R := by
  refine callR.of (graph_Graph_walked_calls _ R w ?_) fun _ _ h => h
  have hgl := hG.lt
  refine Nw.gen fun w1 hw1 => Nw.gen fun w2 hw2 => ?_
  have hz1 : w1.heap.size = w.heap.size + 1 := by rw [hw1]; simp
  have hB0 : Blk w2 w.heap.size 28 [.pointer (some (blk gb))] := by rw [hw2, hw1]; exact (Blk.new w _ #[_]).alloc _
  have hB1 : Blk w2 w1.heap.size 119 [.nilFunc] := by rw [hw2]; exact Blk.new w1 _ #[_]
  have hb2 : Below w.heap.size w w2 := by rw [hw2, hw1]; exact ((Below.refl _ _).alloc (Nat.le_refl _) _).alloc (by simp) _
  have hz2 : w2.heap.size = w.heap.size + 2 := by rw [hw2, hw1]; simp
  refine ⟨hB1.wr0 (by simp), Nw.gen fun w3 hw3 => ?_⟩
  have hz3 : w3.heap.size = w.heap.size + 2 := by rw [hw3]; simpa [World.setCell] using hz2
  have hb3 : Below w.heap.size w w3 := by rw [hw3]; exact hb2.setCell (by simp; omega) _
  have hB0' : Blk w3 w.heap.size 28 [.pointer (some (blk gb))] := by rw [hw3]; exact hB0.other (by simp; omega) _
  have hB1' : Blk w3 w1.heap.size 119 [.func (.func 147) #[] #[.pointer (some (blk w.heap.size)), .pointer (some (blk w1.heap.size))]] := by rw [hw3]; exact hB1.set0 _
  have hG3 := hG.below hb3
  have cw : CW w3 w3.heap.size w.heap.size w1.heap.size gb sn hs nx :=
    ⟨rfl, by omega, hB0', hB1', by omega, by omega, hnx.below hb3, hav, hmax, hrows⟩
  refine ⟨_, hB1'.cell0 rfl, ?_⟩
  have cs : CS w3 w3.heap.size gb sn sa w3 ([], []) :=
    ⟨Fr.refl _ _ _, ⟨none, 0, 0⟩, ⟨none, 0, 0⟩, _, hG3, BitsL.zero.congr (fun i => by simp), Own.nil _ _ _, Own.nil _ _ _, fun a h => (by cases h), fun a h => (by cases h), fun a b h => by cases h⟩
  refine come_spec cw nx.length 0 ([], []) w3 _ h0 (by simp) (by simp) (by simp) (by simp) (by simp) cs fun w4 hcs _ => ⟨rfl, ?_⟩
  obtain ⟨hfr, wk, od, bs, hG4, hbits, hwk, hod, hfw, hfo, hap⟩ := hcs
  have hB04 : Blk w4 w.heap.size 28 [.pointer (some (blk gb))] := hB0'.of_block (hfr.block _ (by omega) (by show ¬ w.heap.size = gb; omega))
  refine ⟨some (blk gb), hB04.cell0 rfl, od, hG4.cell rfl, ?_⟩
  refine Reverse_spec hod fun w5 hod5 honly => ⟨rfl, ?_⟩
  have hne : ∀ a, od.a = some a → a.block ≠ gb := fun a ha => own_ne hod hG4 (by decide) ha
  have hG5 := hG4.of_block (honly.block gb hne)
  have hwk5 : Own w5 3 1 wk ((visit nx nx.length 0 ([], [])).1.map iN) := hwk.of_block fun a ha => honly.block _ fun b hb => (hap a b ha hb).symm
  have hfr5 : Fr w3.heap.size (· = gb) w3 w5 := fr_only hfr honly hfo
  refine hR w5 wk od bs (Fr.trans (Fr.of_below hb3) (hfr5.mono (by omega) (fun _ _ h => h))) hG5 hbits hwk5 (by simpa [orderOf] using hod5) (fun a ha => ?_) (fun a ha => ?_)
  · have := hfw a ha; omega
  · have := hfo a ha; omega

end Go.Proofs
