/-
  No cell of these rows narrows 'for every input' (looked for: loops, veiled, ifaces, maps, wideKeys, modest, calm, conditions, laid).
  DERIVED. THE GIVEN ROWS OF THIS SEAT. 6 by the template 'for every input the law returns true; each argument reads behind the call as it read before'; 0 by the template 'total and deterministic' (their statements: YtijgeifjccoieaaGreatTotals.lean).
  GIVEN WITH THE SEED: the statements are not yours to turn. If you find one false, say at which input.
  Laid BY PROGRAM, IN A SANDBOX (cutbox-rows.mjs): the forced cells as the released guide's own fill.sh prints them over the translation afd02ca0f2e000e4… (all of the seat's roots in one cut). By AI agents, Wed Nov 11 2026. No macro, syntax, notation, axiom, sorry.
-/
import Derived.Test.YtijgeifjccoieaaGreatChecked
import GoSem.Claim
import GoSem.ClaimJoined
import GoSem.ClaimMapViews
import Derived.JoinedTies
import Derived.KernelRfl
namespace Go.Proofs.YtijgeifjccoieaaGreat
/- THE CELL 'sum', in the pinned program and in every row, IS THE sha256 OF THE DUMP (.gsa) THAT YtijgeifjccoieaaGreatProg.lean LOADS. Nothing in Lean hashes anything: it is a label: what it is worth is what the hold of that sum in a sandbox is worth. -/
noncomputable def Tryz.pinned : Pinned := { name := "ytijgeifjccoieaagreat", sum := "afd02ca0f2e000e499d5abd0d8cb697b4ba1fbda1cb35ebf2282510f227c8903", checked := Tryz.checked }
namespace Rows
def none {H : Type} : Left H := { results := [], args := [] }

/-- 'intagliolaw19.FlowChecks': WHATEVER THE INPUT: true; the input reads as it did. -/
def flowChecksSpec : ChangeSpec := { name := "flowChecks", fn := fun _ => fun
  | [d] => { results := [.lit (.bool true)], args := [d] }
  | _ => none }
def flowChecksRow : OpenClaim := { program := "ytijgeifjccoieaagreat", sum := "afd02ca0f2e000e499d5abd0d8cb697b4ba1fbda1cb35ebf2282510f227c8903", func := "intaglio/intagliolaw19.FlowChecks", spec := "flowChecks", inPlace := ["internal/bytealg.IndexByteString"], unfollowed := true, recurses := true, apart := false }
def FlowChecksSaid : Prop := flowChecksRow.holds Tryz.pinned (OpenSpec.ofChange flowChecksSpec)

/-- ITS FALSE NEIGHBOUR: 'it returns false'. Refute it at one input. -/
def flowChecksWrong : ChangeSpec := { name := "flowChecks", fn := fun _ => fun
  | [d] => { results := [.lit (.bool false)], args := [d] }
  | _ => none }
def FlowChecksWrongFalsely : Prop := flowChecksRow.holds Tryz.pinned (OpenSpec.ofChange flowChecksWrong)

/-- 'intagliolaw19.FlowWays': WHATEVER THE INPUT: true; the input reads as it did. -/
def flowWaysSpec : ChangeSpec := { name := "flowWays", fn := fun _ => fun
  | [d1, d2, d3] => { results := [.lit (.bool true)], args := [d1, d2, d3] }
  | _ => none }
def flowWaysRow : OpenClaim := { program := "ytijgeifjccoieaagreat", sum := "afd02ca0f2e000e499d5abd0d8cb697b4ba1fbda1cb35ebf2282510f227c8903", func := "intaglio/intagliolaw19.FlowWays", spec := "flowWays", inPlace := ["internal/bytealg.IndexByteString"], unfollowed := true, recurses := true, apart := false }
def FlowWaysSaid : Prop := flowWaysRow.holds Tryz.pinned (OpenSpec.ofChange flowWaysSpec)

/-- ITS FALSE NEIGHBOUR: 'it returns false'. Refute it at one input. -/
def flowWaysWrong : ChangeSpec := { name := "flowWays", fn := fun _ => fun
  | [d1, d2, d3] => { results := [.lit (.bool false)], args := [d1, d2, d3] }
  | _ => none }
def FlowWaysWrongFalsely : Prop := flowWaysRow.holds Tryz.pinned (OpenSpec.ofChange flowWaysWrong)

/-- 'intagliolaw19.FlowSeen': WHATEVER THE INPUT: true; the input reads as it did. -/
def flowSeenSpec : ChangeSpec := { name := "flowSeen", fn := fun _ => fun
  | [d1, d2, d3] => { results := [.lit (.bool true)], args := [d1, d2, d3] }
  | _ => none }
def flowSeenRow : OpenClaim := { program := "ytijgeifjccoieaagreat", sum := "afd02ca0f2e000e499d5abd0d8cb697b4ba1fbda1cb35ebf2282510f227c8903", func := "intaglio/intagliolaw19.FlowSeen", spec := "flowSeen", inPlace := ["internal/bytealg.IndexByteString"], unfollowed := true, recurses := true, apart := false }
def FlowSeenSaid : Prop := flowSeenRow.holds Tryz.pinned (OpenSpec.ofChange flowSeenSpec)

/-- ITS FALSE NEIGHBOUR: 'it returns false'. Refute it at one input. -/
def flowSeenWrong : ChangeSpec := { name := "flowSeen", fn := fun _ => fun
  | [d1, d2, d3] => { results := [.lit (.bool false)], args := [d1, d2, d3] }
  | _ => none }
def FlowSeenWrongFalsely : Prop := flowSeenRow.holds Tryz.pinned (OpenSpec.ofChange flowSeenWrong)

/-- 'intagliolaw19.FlowLives': WHATEVER THE INPUT: true; the input reads as it did. -/
def flowLivesSpec : ChangeSpec := { name := "flowLives", fn := fun _ => fun
  | [d1, d2] => { results := [.lit (.bool true)], args := [d1, d2] }
  | _ => none }
def flowLivesRow : OpenClaim := { program := "ytijgeifjccoieaagreat", sum := "afd02ca0f2e000e499d5abd0d8cb697b4ba1fbda1cb35ebf2282510f227c8903", func := "intaglio/intagliolaw19.FlowLives", spec := "flowLives", inPlace := ["internal/bytealg.IndexByteString"], unfollowed := true, recurses := true, apart := false }
def FlowLivesSaid : Prop := flowLivesRow.holds Tryz.pinned (OpenSpec.ofChange flowLivesSpec)

/-- ITS FALSE NEIGHBOUR: 'it returns false'. Refute it at one input. -/
def flowLivesWrong : ChangeSpec := { name := "flowLives", fn := fun _ => fun
  | [d1, d2] => { results := [.lit (.bool false)], args := [d1, d2] }
  | _ => none }
def FlowLivesWrongFalsely : Prop := flowLivesRow.holds Tryz.pinned (OpenSpec.ofChange flowLivesWrong)

/-- 'intagliolaw19.FlowFirst': WHATEVER THE INPUT: true; the input reads as it did. -/
def flowFirstSpec : ChangeSpec := { name := "flowFirst", fn := fun _ => fun
  | [d1, d2] => { results := [.lit (.bool true)], args := [d1, d2] }
  | _ => none }
def flowFirstRow : OpenClaim := { program := "ytijgeifjccoieaagreat", sum := "afd02ca0f2e000e499d5abd0d8cb697b4ba1fbda1cb35ebf2282510f227c8903", func := "intaglio/intagliolaw19.FlowFirst", spec := "flowFirst", inPlace := ["internal/bytealg.IndexByteString"], unfollowed := true, recurses := true, apart := false }
def FlowFirstSaid : Prop := flowFirstRow.holds Tryz.pinned (OpenSpec.ofChange flowFirstSpec)

/-- ITS FALSE NEIGHBOUR: 'it returns false'. Refute it at one input. -/
def flowFirstWrong : ChangeSpec := { name := "flowFirst", fn := fun _ => fun
  | [d1, d2] => { results := [.lit (.bool false)], args := [d1, d2] }
  | _ => none }
def FlowFirstWrongFalsely : Prop := flowFirstRow.holds Tryz.pinned (OpenSpec.ofChange flowFirstWrong)

/-- 'intagliolaw19.FlowRenamed': WHATEVER THE INPUT: true; the input reads as it did. -/
def flowRenamedSpec : ChangeSpec := { name := "flowRenamed", fn := fun _ => fun
  | [d1, d2, d3] => { results := [.lit (.bool true)], args := [d1, d2, d3] }
  | _ => none }
def flowRenamedRow : OpenClaim := { program := "ytijgeifjccoieaagreat", sum := "afd02ca0f2e000e499d5abd0d8cb697b4ba1fbda1cb35ebf2282510f227c8903", func := "intaglio/intagliolaw19.FlowRenamed", spec := "flowRenamed", inPlace := ["internal/bytealg.IndexByteString"], unfollowed := true, recurses := true, apart := false }
def FlowRenamedSaid : Prop := flowRenamedRow.holds Tryz.pinned (OpenSpec.ofChange flowRenamedSpec)

/-- ITS FALSE NEIGHBOUR: 'it returns false'. Refute it at one input. -/
def flowRenamedWrong : ChangeSpec := { name := "flowRenamed", fn := fun _ => fun
  | [d1, d2, d3] => { results := [.lit (.bool false)], args := [d1, d2, d3] }
  | _ => none }
def FlowRenamedWrongFalsely : Prop := flowRenamedRow.holds Tryz.pinned (OpenSpec.ofChange flowRenamedWrong)

/- THE SECOND FORM. 'bulk': how many values and letters a reading holds, each counted each time it is reached (what is shared counts as often as it is met; a slice's spare places count too). A statement '..UptoSaid' is the law's where the arguments, and the package variables that the reading takes, are together of bulk at most 1048576: NARROWER than '..Said'. Prove '..Said' where nothing that the law and all that it calls make is longer than what came in: it says more and counts as full. Else prove '..UptoSaid'. A law counts once. -/
mutual
def uptoBulk {H : Type} : DataW H → Nat
  | .lit (.string bytes) => bytes.length + 1
  | .lit _ => 1
  | .nil => 1
  | .ptr d => uptoBulk d + 1
  | .slice elems spare => uptoBulkAll elems + uptoBulkAll spare + 1
  | .agg parts => uptoBulkAll parts + 1
  | .iface _ d => uptoBulk d + 1
  | .map entries => uptoBulkEntries entries + 1
  | .held _ => 1
def uptoBulkAll {H : Type} : List (DataW H) → Nat
  | [] => 0
  | d :: r => uptoBulk d + uptoBulkAll r
def uptoBulkEntries {H : Type} : List (Lit × DataW H) → Nat
  | [] => 0
  | x :: r => uptoBulkEntry x + uptoBulkEntries r
def uptoBulkEntry {H : Type} : Lit × DataW H → Nat
  | (.string bytes, d) => bytes.length + uptoBulk d + 1
  | (_, d) => uptoBulk d + 1
 end
def uptoSmall : (H : Type) → List (DataW H) → Bool := fun _ ds => decide (uptoBulkAll ds ≤ 1048576)
def OpenSpec.upto (s : _root_.Go.ChangeSpec) : _root_.Go.OpenSpec := { _root_.Go.OpenSpec.ofChange s with cond := some uptoSmall }

/-- 'intagliolaw19.FlowChecks', WHERE WHAT IT READS IS OF BULK AT MOST 1048576: true; the input reads as it did. -/
def flowChecksUptoRow : OpenClaim := { program := "ytijgeifjccoieaagreat", sum := "afd02ca0f2e000e499d5abd0d8cb697b4ba1fbda1cb35ebf2282510f227c8903", func := "intaglio/intagliolaw19.FlowChecks", spec := "flowChecks", inPlace := ["internal/bytealg.IndexByteString"], unfollowed := true, recurses := true, apart := false, narrowed := true }
def FlowChecksUptoSaid : Prop := flowChecksUptoRow.holds Tryz.pinned (OpenSpec.upto flowChecksSpec)

/-- 'intagliolaw19.FlowWays', WHERE WHAT IT READS IS OF BULK AT MOST 1048576: true; the input reads as it did. -/
def flowWaysUptoRow : OpenClaim := { program := "ytijgeifjccoieaagreat", sum := "afd02ca0f2e000e499d5abd0d8cb697b4ba1fbda1cb35ebf2282510f227c8903", func := "intaglio/intagliolaw19.FlowWays", spec := "flowWays", inPlace := ["internal/bytealg.IndexByteString"], unfollowed := true, recurses := true, apart := false, narrowed := true }
def FlowWaysUptoSaid : Prop := flowWaysUptoRow.holds Tryz.pinned (OpenSpec.upto flowWaysSpec)

/-- 'intagliolaw19.FlowSeen', WHERE WHAT IT READS IS OF BULK AT MOST 1048576: true; the input reads as it did. -/
def flowSeenUptoRow : OpenClaim := { program := "ytijgeifjccoieaagreat", sum := "afd02ca0f2e000e499d5abd0d8cb697b4ba1fbda1cb35ebf2282510f227c8903", func := "intaglio/intagliolaw19.FlowSeen", spec := "flowSeen", inPlace := ["internal/bytealg.IndexByteString"], unfollowed := true, recurses := true, apart := false, narrowed := true }
def FlowSeenUptoSaid : Prop := flowSeenUptoRow.holds Tryz.pinned (OpenSpec.upto flowSeenSpec)

/-- 'intagliolaw19.FlowLives', WHERE WHAT IT READS IS OF BULK AT MOST 1048576: true; the input reads as it did. -/
def flowLivesUptoRow : OpenClaim := { program := "ytijgeifjccoieaagreat", sum := "afd02ca0f2e000e499d5abd0d8cb697b4ba1fbda1cb35ebf2282510f227c8903", func := "intaglio/intagliolaw19.FlowLives", spec := "flowLives", inPlace := ["internal/bytealg.IndexByteString"], unfollowed := true, recurses := true, apart := false, narrowed := true }
def FlowLivesUptoSaid : Prop := flowLivesUptoRow.holds Tryz.pinned (OpenSpec.upto flowLivesSpec)

/-- 'intagliolaw19.FlowFirst', WHERE WHAT IT READS IS OF BULK AT MOST 1048576: true; the input reads as it did. -/
def flowFirstUptoRow : OpenClaim := { program := "ytijgeifjccoieaagreat", sum := "afd02ca0f2e000e499d5abd0d8cb697b4ba1fbda1cb35ebf2282510f227c8903", func := "intaglio/intagliolaw19.FlowFirst", spec := "flowFirst", inPlace := ["internal/bytealg.IndexByteString"], unfollowed := true, recurses := true, apart := false, narrowed := true }
def FlowFirstUptoSaid : Prop := flowFirstUptoRow.holds Tryz.pinned (OpenSpec.upto flowFirstSpec)

/-- 'intagliolaw19.FlowRenamed', WHERE WHAT IT READS IS OF BULK AT MOST 1048576: true; the input reads as it did. -/
def flowRenamedUptoRow : OpenClaim := { program := "ytijgeifjccoieaagreat", sum := "afd02ca0f2e000e499d5abd0d8cb697b4ba1fbda1cb35ebf2282510f227c8903", func := "intaglio/intagliolaw19.FlowRenamed", spec := "flowRenamed", inPlace := ["internal/bytealg.IndexByteString"], unfollowed := true, recurses := true, apart := false, narrowed := true }
def FlowRenamedUptoSaid : Prop := flowRenamedUptoRow.holds Tryz.pinned (OpenSpec.upto flowRenamedSpec)

end Rows
end Go.Proofs.YtijgeifjccoieaaGreat
