/-
  No cell of these rows narrows 'for every input' (looked for: loops, veiled, ifaces, maps, wideKeys, modest, calm, conditions, laid).
  DERIVED. THE GIVEN ROWS OF THIS SEAT. 7 by the template 'for every input the law returns true; each argument reads behind the call as it read before'; 0 by the template 'total and deterministic' (their statements: YtpeonjpjphhenaaTotals.lean).
  GIVEN WITH THE SEED: the statements are not yours to turn. If you find one false, say at which input.
  Laid BY PROGRAM, IN A SANDBOX (cutbox-rows.mjs): the forced cells as the released guide's own fill.sh prints them over the translation 9c66b0e247d49a1c… (all of the seat's roots in one cut). By AI agents, Wed Nov 11 2026. No macro, syntax, notation, axiom, sorry.
-/
import Derived.Test.YtpeonjpjphhenaaChecked
import GoSem.Claim
import GoSem.ClaimJoined
import GoSem.ClaimMapViews
import Derived.JoinedTies
import Derived.KernelRfl
namespace Go.Proofs.Ytpeonjpjphhenaa
/- THE CELL 'sum', in the pinned program and in every row, IS THE sha256 OF THE DUMP (.gsa) THAT YtpeonjpjphhenaaProg.lean LOADS. Nothing in Lean hashes anything: it is a label: what it is worth is what the hold of that sum in a sandbox is worth. -/
noncomputable def Try.pinned : Pinned := { name := "ytpeonjpjphhenaa", sum := "9c66b0e247d49a1c4837617311d7a440a4b51eb7489f4dd397b24986f7480bfc", checked := Try.checked }
namespace Rows
def none {H : Type} : Left H := { results := [], args := [] }

/-- 'intagliolaw09.IdsChecks': WHATEVER THE INPUT: true; the input reads as it did. -/
def idsChecksSpec : ChangeSpec := { name := "idsChecks", fn := fun _ => fun
  | [d] => { results := [.lit (.bool true)], args := [d] }
  | _ => none }
def idsChecksRow : OpenClaim := { program := "ytpeonjpjphhenaa", sum := "9c66b0e247d49a1c4837617311d7a440a4b51eb7489f4dd397b24986f7480bfc", func := "intaglio/intagliolaw09.IdsChecks", spec := "idsChecks", inPlace := ["internal/bytealg.IndexByteString"], unfollowed := true, recurses := true, apart := false }
def IdsChecksSaid : Prop := idsChecksRow.holds Try.pinned (OpenSpec.ofChange idsChecksSpec)

/-- ITS FALSE NEIGHBOUR: 'it returns false'. Refute it at one input. -/
def idsChecksWrong : ChangeSpec := { name := "idsChecks", fn := fun _ => fun
  | [d] => { results := [.lit (.bool false)], args := [d] }
  | _ => none }
def IdsChecksWrongFalsely : Prop := idsChecksRow.holds Try.pinned (OpenSpec.ofChange idsChecksWrong)

/-- 'intagliolaw09.IdsRenumbers': WHATEVER THE INPUT: true; the input reads as it did. -/
def idsRenumbersSpec : ChangeSpec := { name := "idsRenumbers", fn := fun _ => fun
  | [d] => { results := [.lit (.bool true)], args := [d] }
  | _ => none }
def idsRenumbersRow : OpenClaim := { program := "ytpeonjpjphhenaa", sum := "9c66b0e247d49a1c4837617311d7a440a4b51eb7489f4dd397b24986f7480bfc", func := "intaglio/intagliolaw09.IdsRenumbers", spec := "idsRenumbers", inPlace := ["internal/bytealg.IndexByteString"], unfollowed := true, recurses := true, apart := false }
def IdsRenumbersSaid : Prop := idsRenumbersRow.holds Try.pinned (OpenSpec.ofChange idsRenumbersSpec)

/-- ITS FALSE NEIGHBOUR: 'it returns false'. Refute it at one input. -/
def idsRenumbersWrong : ChangeSpec := { name := "idsRenumbers", fn := fun _ => fun
  | [d] => { results := [.lit (.bool false)], args := [d] }
  | _ => none }
def IdsRenumbersWrongFalsely : Prop := idsRenumbersRow.holds Try.pinned (OpenSpec.ofChange idsRenumbersWrong)

/-- 'intagliolaw09.IdsRenames': WHATEVER THE INPUT: true; the input reads as it did. -/
def idsRenamesSpec : ChangeSpec := { name := "idsRenames", fn := fun _ => fun
  | [d1, d2] => { results := [.lit (.bool true)], args := [d1, d2] }
  | _ => none }
def idsRenamesRow : OpenClaim := { program := "ytpeonjpjphhenaa", sum := "9c66b0e247d49a1c4837617311d7a440a4b51eb7489f4dd397b24986f7480bfc", func := "intaglio/intagliolaw09.IdsRenames", spec := "idsRenames", inPlace := ["internal/bytealg.IndexByteString"], unfollowed := true, recurses := true, apart := false }
def IdsRenamesSaid : Prop := idsRenamesRow.holds Try.pinned (OpenSpec.ofChange idsRenamesSpec)

/-- ITS FALSE NEIGHBOUR: 'it returns false'. Refute it at one input. -/
def idsRenamesWrong : ChangeSpec := { name := "idsRenames", fn := fun _ => fun
  | [d1, d2] => { results := [.lit (.bool false)], args := [d1, d2] }
  | _ => none }
def IdsRenamesWrongFalsely : Prop := idsRenamesRow.holds Try.pinned (OpenSpec.ofChange idsRenamesWrong)

/-- 'intagliolaw09.IdsBack': WHATEVER THE INPUT: true; the input reads as it did. -/
def idsBackSpec : ChangeSpec := { name := "idsBack", fn := fun _ => fun
  | [d1, d2] => { results := [.lit (.bool true)], args := [d1, d2] }
  | _ => none }
def idsBackRow : OpenClaim := { program := "ytpeonjpjphhenaa", sum := "9c66b0e247d49a1c4837617311d7a440a4b51eb7489f4dd397b24986f7480bfc", func := "intaglio/intagliolaw09.IdsBack", spec := "idsBack", inPlace := ["internal/bytealg.IndexByteString"], unfollowed := true, recurses := true, apart := false }
def IdsBackSaid : Prop := idsBackRow.holds Try.pinned (OpenSpec.ofChange idsBackSpec)

/-- ITS FALSE NEIGHBOUR: 'it returns false'. Refute it at one input. -/
def idsBackWrong : ChangeSpec := { name := "idsBack", fn := fun _ => fun
  | [d1, d2] => { results := [.lit (.bool false)], args := [d1, d2] }
  | _ => none }
def IdsBackWrongFalsely : Prop := idsBackRow.holds Try.pinned (OpenSpec.ofChange idsBackWrong)

/-- 'intagliolaw09.IdsOne': WHATEVER THE INPUT: true; the input reads as it did. -/
def idsOneSpec : ChangeSpec := { name := "idsOne", fn := fun _ => fun
  | [d1, d2] => { results := [.lit (.bool true)], args := [d1, d2] }
  | _ => none }
def idsOneRow : OpenClaim := { program := "ytpeonjpjphhenaa", sum := "9c66b0e247d49a1c4837617311d7a440a4b51eb7489f4dd397b24986f7480bfc", func := "intaglio/intagliolaw09.IdsOne", spec := "idsOne", inPlace := ["internal/bytealg.IndexByteString"], unfollowed := true, recurses := true, apart := false }
def IdsOneSaid : Prop := idsOneRow.holds Try.pinned (OpenSpec.ofChange idsOneSpec)

/-- ITS FALSE NEIGHBOUR: 'it returns false'. Refute it at one input. -/
def idsOneWrong : ChangeSpec := { name := "idsOne", fn := fun _ => fun
  | [d1, d2] => { results := [.lit (.bool false)], args := [d1, d2] }
  | _ => none }
def IdsOneWrongFalsely : Prop := idsOneRow.holds Try.pinned (OpenSpec.ofChange idsOneWrong)

/-- 'intagliolaw14.GraphBlocks': WHATEVER THE INPUT: true; the input reads as it did. -/
def graphBlocksSpec : ChangeSpec := { name := "graphBlocks", fn := fun _ => fun
  | [d] => { results := [.lit (.bool true)], args := [d] }
  | _ => none }
def graphBlocksRow : OpenClaim := { program := "ytpeonjpjphhenaa", sum := "9c66b0e247d49a1c4837617311d7a440a4b51eb7489f4dd397b24986f7480bfc", func := "intaglio/intagliolaw14.GraphBlocks", spec := "graphBlocks", inPlace := ["internal/bytealg.IndexByteString"], unfollowed := true, recurses := true, apart := false }
def GraphBlocksSaid : Prop := graphBlocksRow.holds Try.pinned (OpenSpec.ofChange graphBlocksSpec)

/-- ITS FALSE NEIGHBOUR: 'it returns false'. Refute it at one input. -/
def graphBlocksWrong : ChangeSpec := { name := "graphBlocks", fn := fun _ => fun
  | [d] => { results := [.lit (.bool false)], args := [d] }
  | _ => none }
def GraphBlocksWrongFalsely : Prop := graphBlocksRow.holds Try.pinned (OpenSpec.ofChange graphBlocksWrong)

/-- 'intagliolaw14.GraphRenamed': WHATEVER THE INPUT: true; the input reads as it did. -/
def graphRenamedSpec : ChangeSpec := { name := "graphRenamed", fn := fun _ => fun
  | [d] => { results := [.lit (.bool true)], args := [d] }
  | _ => none }
def graphRenamedRow : OpenClaim := { program := "ytpeonjpjphhenaa", sum := "9c66b0e247d49a1c4837617311d7a440a4b51eb7489f4dd397b24986f7480bfc", func := "intaglio/intagliolaw14.GraphRenamed", spec := "graphRenamed", inPlace := ["internal/bytealg.IndexByteString"], unfollowed := true, recurses := true, apart := false }
def GraphRenamedSaid : Prop := graphRenamedRow.holds Try.pinned (OpenSpec.ofChange graphRenamedSpec)

/-- ITS FALSE NEIGHBOUR: 'it returns false'. Refute it at one input. -/
def graphRenamedWrong : ChangeSpec := { name := "graphRenamed", fn := fun _ => fun
  | [d] => { results := [.lit (.bool false)], args := [d] }
  | _ => none }
def GraphRenamedWrongFalsely : Prop := graphRenamedRow.holds Try.pinned (OpenSpec.ofChange graphRenamedWrong)

/- THE SECOND FORM. 'bulk': how many values and letters a reading holds, each counted each time it is reached (what is shared counts as often as it is met; a slice's spare places count too). A statement '..UptoSaid' is the law's where the arguments, and the package variables that the reading takes, are together of bulk at most 1048576: NARROWER than '..Said'. Prove '..Said' where nothing that the law and all that it calls make is longer than what came in: it says more and counts as full. Else prove '..UptoSaid'. A law counts once. -/
mutual
def uptoBulk {H : Type} : DataW H → Nat
  | .lit (.string bytes) => bytes.length + 1
  | .lit _ => 1
  | .nil => 1
  | .ptr d => uptoBulk d + 1
  | .slice elems spare => uptoBulkAll elems + uptoBulkAll spare + 1
  | .agg parts => uptoBulkAll parts + 1
  | .iface _ d => uptoBulk d + 1
  | .map entries => uptoBulkEntries entries + 1
  | .held _ => 1
def uptoBulkAll {H : Type} : List (DataW H) → Nat
  | [] => 0
  | d :: r => uptoBulk d + uptoBulkAll r
def uptoBulkEntries {H : Type} : List (Lit × DataW H) → Nat
  | [] => 0
  | x :: r => uptoBulkEntry x + uptoBulkEntries r
def uptoBulkEntry {H : Type} : Lit × DataW H → Nat
  | (.string bytes, d) => bytes.length + uptoBulk d + 1
  | (_, d) => uptoBulk d + 1
 end
def uptoSmall : (H : Type) → List (DataW H) → Bool := fun _ ds => decide (uptoBulkAll ds ≤ 1048576)
def OpenSpec.upto (s : _root_.Go.ChangeSpec) : _root_.Go.OpenSpec := { _root_.Go.OpenSpec.ofChange s with cond := some uptoSmall }

/-- 'intagliolaw09.IdsChecks', WHERE WHAT IT READS IS OF BULK AT MOST 1048576: true; the input reads as it did. -/
def idsChecksUptoRow : OpenClaim := { program := "ytpeonjpjphhenaa", sum := "9c66b0e247d49a1c4837617311d7a440a4b51eb7489f4dd397b24986f7480bfc", func := "intaglio/intagliolaw09.IdsChecks", spec := "idsChecks", inPlace := ["internal/bytealg.IndexByteString"], unfollowed := true, recurses := true, apart := false, narrowed := true }
def IdsChecksUptoSaid : Prop := idsChecksUptoRow.holds Try.pinned (OpenSpec.upto idsChecksSpec)

/-- 'intagliolaw09.IdsRenumbers', WHERE WHAT IT READS IS OF BULK AT MOST 1048576: true; the input reads as it did. -/
def idsRenumbersUptoRow : OpenClaim := { program := "ytpeonjpjphhenaa", sum := "9c66b0e247d49a1c4837617311d7a440a4b51eb7489f4dd397b24986f7480bfc", func := "intaglio/intagliolaw09.IdsRenumbers", spec := "idsRenumbers", inPlace := ["internal/bytealg.IndexByteString"], unfollowed := true, recurses := true, apart := false, narrowed := true }
def IdsRenumbersUptoSaid : Prop := idsRenumbersUptoRow.holds Try.pinned (OpenSpec.upto idsRenumbersSpec)

/-- 'intagliolaw09.IdsRenames', WHERE WHAT IT READS IS OF BULK AT MOST 1048576: true; the input reads as it did. -/
def idsRenamesUptoRow : OpenClaim := { program := "ytpeonjpjphhenaa", sum := "9c66b0e247d49a1c4837617311d7a440a4b51eb7489f4dd397b24986f7480bfc", func := "intaglio/intagliolaw09.IdsRenames", spec := "idsRenames", inPlace := ["internal/bytealg.IndexByteString"], unfollowed := true, recurses := true, apart := false, narrowed := true }
def IdsRenamesUptoSaid : Prop := idsRenamesUptoRow.holds Try.pinned (OpenSpec.upto idsRenamesSpec)

/-- 'intagliolaw09.IdsBack', WHERE WHAT IT READS IS OF BULK AT MOST 1048576: true; the input reads as it did. -/
def idsBackUptoRow : OpenClaim := { program := "ytpeonjpjphhenaa", sum := "9c66b0e247d49a1c4837617311d7a440a4b51eb7489f4dd397b24986f7480bfc", func := "intaglio/intagliolaw09.IdsBack", spec := "idsBack", inPlace := ["internal/bytealg.IndexByteString"], unfollowed := true, recurses := true, apart := false, narrowed := true }
def IdsBackUptoSaid : Prop := idsBackUptoRow.holds Try.pinned (OpenSpec.upto idsBackSpec)

/-- 'intagliolaw09.IdsOne', WHERE WHAT IT READS IS OF BULK AT MOST 1048576: true; the input reads as it did. -/
def idsOneUptoRow : OpenClaim := { program := "ytpeonjpjphhenaa", sum := "9c66b0e247d49a1c4837617311d7a440a4b51eb7489f4dd397b24986f7480bfc", func := "intaglio/intagliolaw09.IdsOne", spec := "idsOne", inPlace := ["internal/bytealg.IndexByteString"], unfollowed := true, recurses := true, apart := false, narrowed := true }
def IdsOneUptoSaid : Prop := idsOneUptoRow.holds Try.pinned (OpenSpec.upto idsOneSpec)

/-- 'intagliolaw14.GraphBlocks', WHERE WHAT IT READS IS OF BULK AT MOST 1048576: true; the input reads as it did. -/
def graphBlocksUptoRow : OpenClaim := { program := "ytpeonjpjphhenaa", sum := "9c66b0e247d49a1c4837617311d7a440a4b51eb7489f4dd397b24986f7480bfc", func := "intaglio/intagliolaw14.GraphBlocks", spec := "graphBlocks", inPlace := ["internal/bytealg.IndexByteString"], unfollowed := true, recurses := true, apart := false, narrowed := true }
def GraphBlocksUptoSaid : Prop := graphBlocksUptoRow.holds Try.pinned (OpenSpec.upto graphBlocksSpec)

/-- 'intagliolaw14.GraphRenamed', WHERE WHAT IT READS IS OF BULK AT MOST 1048576: true; the input reads as it did. -/
def graphRenamedUptoRow : OpenClaim := { program := "ytpeonjpjphhenaa", sum := "9c66b0e247d49a1c4837617311d7a440a4b51eb7489f4dd397b24986f7480bfc", func := "intaglio/intagliolaw14.GraphRenamed", spec := "graphRenamed", inPlace := ["internal/bytealg.IndexByteString"], unfollowed := true, recurses := true, apart := false, narrowed := true }
def GraphRenamedUptoSaid : Prop := graphRenamedUptoRow.holds Try.pinned (OpenSpec.upto graphRenamedSpec)

end Rows
end Go.Proofs.Ytpeonjpjphhenaa
