/-
  No cell of these rows narrows 'for every input' (looked for: loops, veiled, ifaces, maps, wideKeys, modest, calm, conditions, laid).
  DERIVED. THE GIVEN ROWS OF THIS SEAT. 3 by the template 'for every input the law returns true; each argument reads behind the call as it read before'; 0 by the template 'total and deterministic' (their statements: YtgkgagmdkgdjdaaGreatTotals.lean).
  GIVEN WITH THE SEED: the statements are not yours to turn. If you find one false, say at which input.
  Laid BY PROGRAM, IN A SANDBOX (cutbox-rows.mjs): the forced cells as the released guide's own fill.sh prints them over the translation 5da2fb3f82368fbc… (all of the seat's roots in one cut). By AI agents, Wed Nov 11 2026. No macro, syntax, notation, axiom, sorry.
-/
import Derived.Test.YtgkgagmdkgdjdaaGreatChecked
import GoSem.Claim
import GoSem.ClaimJoined
import GoSem.ClaimMapViews
import Derived.JoinedTies
import Derived.KernelRfl
namespace Go.Proofs.YtgkgagmdkgdjdaaGreat
/- THE CELL 'sum', in the pinned program and in every row, IS THE sha256 OF THE DUMP (.gsa) THAT YtgkgagmdkgdjdaaGreatProg.lean LOADS. Nothing in Lean hashes anything: it is a label: what it is worth is what the hold of that sum in a sandbox is worth. -/
noncomputable def Tryz.pinned : Pinned := { name := "ytgkgagmdkgdjdaagreat", sum := "5da2fb3f82368fbcc723621e47b2d316ebcbfdd684479d11a9b27dad7c09f98e", checked := Tryz.checked }
namespace Rows
def none {H : Type} : Left H := { results := [], args := [] }

/-- 'intagliolaw19.FlowLives': WHATEVER THE INPUT: true; the input reads as it did. -/
def flowLivesSpec : ChangeSpec := { name := "flowLives", fn := fun _ => fun
  | [d1, d2] => { results := [.lit (.bool true)], args := [d1, d2] }
  | _ => none }
def flowLivesRow : OpenClaim := { program := "ytgkgagmdkgdjdaagreat", sum := "5da2fb3f82368fbcc723621e47b2d316ebcbfdd684479d11a9b27dad7c09f98e", func := "intaglio/intagliolaw19.FlowLives", spec := "flowLives", inPlace := ["internal/bytealg.IndexByteString"], unfollowed := true, recurses := true, apart := false }
def FlowLivesSaid : Prop := flowLivesRow.holds Tryz.pinned (OpenSpec.ofChange flowLivesSpec)

/-- ITS FALSE NEIGHBOUR: 'it returns false'. Refute it at one input. -/
def flowLivesWrong : ChangeSpec := { name := "flowLives", fn := fun _ => fun
  | [d1, d2] => { results := [.lit (.bool false)], args := [d1, d2] }
  | _ => none }
def FlowLivesWrongFalsely : Prop := flowLivesRow.holds Tryz.pinned (OpenSpec.ofChange flowLivesWrong)

/-- 'intagliolaw19.FlowFirst': WHATEVER THE INPUT: true; the input reads as it did. -/
def flowFirstSpec : ChangeSpec := { name := "flowFirst", fn := fun _ => fun
  | [d1, d2] => { results := [.lit (.bool true)], args := [d1, d2] }
  | _ => none }
def flowFirstRow : OpenClaim := { program := "ytgkgagmdkgdjdaagreat", sum := "5da2fb3f82368fbcc723621e47b2d316ebcbfdd684479d11a9b27dad7c09f98e", func := "intaglio/intagliolaw19.FlowFirst", spec := "flowFirst", inPlace := ["internal/bytealg.IndexByteString"], unfollowed := true, recurses := true, apart := false }
def FlowFirstSaid : Prop := flowFirstRow.holds Tryz.pinned (OpenSpec.ofChange flowFirstSpec)

/-- ITS FALSE NEIGHBOUR: 'it returns false'. Refute it at one input. -/
def flowFirstWrong : ChangeSpec := { name := "flowFirst", fn := fun _ => fun
  | [d1, d2] => { results := [.lit (.bool false)], args := [d1, d2] }
  | _ => none }
def FlowFirstWrongFalsely : Prop := flowFirstRow.holds Tryz.pinned (OpenSpec.ofChange flowFirstWrong)

/-- 'intagliolaw19.FlowRenamed': WHATEVER THE INPUT: true; the input reads as it did. -/
def flowRenamedSpec : ChangeSpec := { name := "flowRenamed", fn := fun _ => fun
  | [d1, d2, d3] => { results := [.lit (.bool true)], args := [d1, d2, d3] }
  | _ => none }
def flowRenamedRow : OpenClaim := { program := "ytgkgagmdkgdjdaagreat", sum := "5da2fb3f82368fbcc723621e47b2d316ebcbfdd684479d11a9b27dad7c09f98e", func := "intaglio/intagliolaw19.FlowRenamed", spec := "flowRenamed", inPlace := ["internal/bytealg.IndexByteString"], unfollowed := true, recurses := true, apart := false }
def FlowRenamedSaid : Prop := flowRenamedRow.holds Tryz.pinned (OpenSpec.ofChange flowRenamedSpec)

/-- ITS FALSE NEIGHBOUR: 'it returns false'. Refute it at one input. -/
def flowRenamedWrong : ChangeSpec := { name := "flowRenamed", fn := fun _ => fun
  | [d1, d2, d3] => { results := [.lit (.bool false)], args := [d1, d2, d3] }
  | _ => none }
def FlowRenamedWrongFalsely : Prop := flowRenamedRow.holds Tryz.pinned (OpenSpec.ofChange flowRenamedWrong)

/- THE SECOND FORM. 'bulk': how many values and letters a reading holds, each counted each time it is reached (what is shared counts as often as it is met; a slice's spare places count too). A statement '..UptoSaid' is the law's where the arguments, and the package variables that the reading takes, are together of bulk at most 1048576: NARROWER than '..Said'. Prove '..Said' where nothing that the law and all that it calls make is longer than what came in: it says more and counts as full. Else prove '..UptoSaid'. A law counts once. -/
mutual
def uptoBulk {H : Type} : DataW H → Nat
  | .lit (.string bytes) => bytes.length + 1
  | .lit _ => 1
  | .nil => 1
  | .ptr d => uptoBulk d + 1
  | .slice elems spare => uptoBulkAll elems + uptoBulkAll spare + 1
  | .agg parts => uptoBulkAll parts + 1
  | .iface _ d => uptoBulk d + 1
  | .map entries => uptoBulkEntries entries + 1
  | .held _ => 1
def uptoBulkAll {H : Type} : List (DataW H) → Nat
  | [] => 0
  | d :: r => uptoBulk d + uptoBulkAll r
def uptoBulkEntries {H : Type} : List (Lit × DataW H) → Nat
  | [] => 0
  | x :: r => uptoBulkEntry x + uptoBulkEntries r
def uptoBulkEntry {H : Type} : Lit × DataW H → Nat
  | (.string bytes, d) => bytes.length + uptoBulk d + 1
  | (_, d) => uptoBulk d + 1
 end
def uptoSmall : (H : Type) → List (DataW H) → Bool := fun _ ds => decide (uptoBulkAll ds ≤ 1048576)
def OpenSpec.upto (s : _root_.Go.ChangeSpec) : _root_.Go.OpenSpec := { _root_.Go.OpenSpec.ofChange s with cond := some uptoSmall }

/-- 'intagliolaw19.FlowLives', WHERE WHAT IT READS IS OF BULK AT MOST 1048576: true; the input reads as it did. -/
def flowLivesUptoRow : OpenClaim := { program := "ytgkgagmdkgdjdaagreat", sum := "5da2fb3f82368fbcc723621e47b2d316ebcbfdd684479d11a9b27dad7c09f98e", func := "intaglio/intagliolaw19.FlowLives", spec := "flowLives", inPlace := ["internal/bytealg.IndexByteString"], unfollowed := true, recurses := true, apart := false, narrowed := true }
def FlowLivesUptoSaid : Prop := flowLivesUptoRow.holds Tryz.pinned (OpenSpec.upto flowLivesSpec)

/-- 'intagliolaw19.FlowFirst', WHERE WHAT IT READS IS OF BULK AT MOST 1048576: true; the input reads as it did. -/
def flowFirstUptoRow : OpenClaim := { program := "ytgkgagmdkgdjdaagreat", sum := "5da2fb3f82368fbcc723621e47b2d316ebcbfdd684479d11a9b27dad7c09f98e", func := "intaglio/intagliolaw19.FlowFirst", spec := "flowFirst", inPlace := ["internal/bytealg.IndexByteString"], unfollowed := true, recurses := true, apart := false, narrowed := true }
def FlowFirstUptoSaid : Prop := flowFirstUptoRow.holds Tryz.pinned (OpenSpec.upto flowFirstSpec)

/-- 'intagliolaw19.FlowRenamed', WHERE WHAT IT READS IS OF BULK AT MOST 1048576: true; the input reads as it did. -/
def flowRenamedUptoRow : OpenClaim := { program := "ytgkgagmdkgdjdaagreat", sum := "5da2fb3f82368fbcc723621e47b2d316ebcbfdd684479d11a9b27dad7c09f98e", func := "intaglio/intagliolaw19.FlowRenamed", spec := "flowRenamed", inPlace := ["internal/bytealg.IndexByteString"], unfollowed := true, recurses := true, apart := false, narrowed := true }
def FlowRenamedUptoSaid : Prop := flowRenamedUptoRow.holds Tryz.pinned (OpenSpec.upto flowRenamedSpec)

end Rows
end Go.Proofs.YtgkgagmdkgdjdaaGreat
