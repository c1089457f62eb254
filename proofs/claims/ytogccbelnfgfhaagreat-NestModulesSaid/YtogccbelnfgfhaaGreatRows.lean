/-
  No cell of these rows narrows 'for every input' (looked for: loops, veiled, ifaces, maps, wideKeys, modest, calm, conditions, laid).
  DERIVED. THE GIVEN ROWS OF THIS SEAT. 5 by the template 'for every input the law returns true; each argument reads behind the call as it read before'; 0 by the template 'total and deterministic' (their statements: YtogccbelnfgfhaaGreatTotals.lean).
  GIVEN WITH THE SEED: the statements are not yours to turn. If you find one false, say at which input.
  Laid BY PROGRAM, IN A SANDBOX (cutbox-rows.mjs): the forced cells as the released guide's own fill.sh prints them over the translation bd3e8f468b875c9a… (all of the seat's roots in one cut). By AI agents, Wed Nov 11 2026. No macro, syntax, notation, axiom, sorry.
-/
import Derived.Test.YtogccbelnfgfhaaGreatChecked
import GoSem.Claim
import GoSem.ClaimJoined
import GoSem.ClaimMapViews
import Derived.JoinedTies
import Derived.KernelRfl
namespace Go.Proofs.YtogccbelnfgfhaaGreat
/- THE CELL 'sum', in the pinned program and in every row, IS THE sha256 OF THE DUMP (.gsa) THAT YtogccbelnfgfhaaGreatProg.lean LOADS. Nothing in Lean hashes anything: it is a label: what it is worth is what the hold of that sum in a sandbox is worth. -/
noncomputable def Tryz.pinned : Pinned := { name := "ytogccbelnfgfhaagreat", sum := "bd3e8f468b875c9a48e3993cb85ed2e6076894a24c51effda24e813dd7305675", checked := Tryz.checked }
namespace Rows
def none {H : Type} : Left H := { results := [], args := [] }

/-- 'intagliolaw14.GraphNew': WHATEVER THE INPUT: true; the input reads as it did. -/
def graphNewSpec : ChangeSpec := { name := "graphNew", fn := fun _ => fun
  | [d1, d2] => { results := [.lit (.bool true)], args := [d1, d2] }
  | _ => none }
def graphNewRow : OpenClaim := { program := "ytogccbelnfgfhaagreat", sum := "bd3e8f468b875c9a48e3993cb85ed2e6076894a24c51effda24e813dd7305675", func := "intaglio/intagliolaw14.GraphNew", spec := "graphNew", inPlace := ["internal/bytealg.IndexByteString"], unfollowed := true, recurses := true, apart := false }
def GraphNewSaid : Prop := graphNewRow.holds Tryz.pinned (OpenSpec.ofChange graphNewSpec)

/-- ITS FALSE NEIGHBOUR: 'it returns false'. Refute it at one input. -/
def graphNewWrong : ChangeSpec := { name := "graphNew", fn := fun _ => fun
  | [d1, d2] => { results := [.lit (.bool false)], args := [d1, d2] }
  | _ => none }
def GraphNewWrongFalsely : Prop := graphNewRow.holds Tryz.pinned (OpenSpec.ofChange graphNewWrong)

/-- 'intagliolaw16.NestModules': WHATEVER THE INPUT: true; the input reads as it did. -/
def nestModulesSpec : ChangeSpec := { name := "nestModules", fn := fun _ => fun
  | [d] => { results := [.lit (.bool true)], args := [d] }
  | _ => none }
def nestModulesRow : OpenClaim := { program := "ytogccbelnfgfhaagreat", sum := "bd3e8f468b875c9a48e3993cb85ed2e6076894a24c51effda24e813dd7305675", func := "intaglio/intagliolaw16.NestModules", spec := "nestModules", inPlace := ["internal/bytealg.IndexByteString"], unfollowed := true, recurses := true, apart := false }
def NestModulesSaid : Prop := nestModulesRow.holds Tryz.pinned (OpenSpec.ofChange nestModulesSpec)

/-- ITS FALSE NEIGHBOUR: 'it returns false'. Refute it at one input. -/
def nestModulesWrong : ChangeSpec := { name := "nestModules", fn := fun _ => fun
  | [d] => { results := [.lit (.bool false)], args := [d] }
  | _ => none }
def NestModulesWrongFalsely : Prop := nestModulesRow.holds Tryz.pinned (OpenSpec.ofChange nestModulesWrong)

/-- 'intagliolaw16.NestRenamed': WHATEVER THE INPUT: true; the input reads as it did. -/
def nestRenamedSpec : ChangeSpec := { name := "nestRenamed", fn := fun _ => fun
  | [d] => { results := [.lit (.bool true)], args := [d] }
  | _ => none }
def nestRenamedRow : OpenClaim := { program := "ytogccbelnfgfhaagreat", sum := "bd3e8f468b875c9a48e3993cb85ed2e6076894a24c51effda24e813dd7305675", func := "intaglio/intagliolaw16.NestRenamed", spec := "nestRenamed", inPlace := ["internal/bytealg.IndexByteString"], unfollowed := true, recurses := true, apart := false }
def NestRenamedSaid : Prop := nestRenamedRow.holds Tryz.pinned (OpenSpec.ofChange nestRenamedSpec)

/-- ITS FALSE NEIGHBOUR: 'it returns false'. Refute it at one input. -/
def nestRenamedWrong : ChangeSpec := { name := "nestRenamed", fn := fun _ => fun
  | [d] => { results := [.lit (.bool false)], args := [d] }
  | _ => none }
def NestRenamedWrongFalsely : Prop := nestRenamedRow.holds Tryz.pinned (OpenSpec.ofChange nestRenamedWrong)

/-- 'intagliolaw17.CallsNew': WHATEVER THE INPUT: true; the input reads as it did. -/
def callsNewSpec : ChangeSpec := { name := "callsNew", fn := fun _ => fun
  | [d1, d2] => { results := [.lit (.bool true)], args := [d1, d2] }
  | _ => none }
def callsNewRow : OpenClaim := { program := "ytogccbelnfgfhaagreat", sum := "bd3e8f468b875c9a48e3993cb85ed2e6076894a24c51effda24e813dd7305675", func := "intaglio/intagliolaw17.CallsNew", spec := "callsNew", inPlace := ["internal/bytealg.IndexByteString"], unfollowed := true, recurses := true, apart := false }
def CallsNewSaid : Prop := callsNewRow.holds Tryz.pinned (OpenSpec.ofChange callsNewSpec)

/-- ITS FALSE NEIGHBOUR: 'it returns false'. Refute it at one input. -/
def callsNewWrong : ChangeSpec := { name := "callsNew", fn := fun _ => fun
  | [d1, d2] => { results := [.lit (.bool false)], args := [d1, d2] }
  | _ => none }
def CallsNewWrongFalsely : Prop := callsNewRow.holds Tryz.pinned (OpenSpec.ofChange callsNewWrong)

/-- 'intagliolaw17.CallsRenamed': WHATEVER THE INPUT: true; the input reads as it did. -/
def callsRenamedSpec : ChangeSpec := { name := "callsRenamed", fn := fun _ => fun
  | [d1, d2] => { results := [.lit (.bool true)], args := [d1, d2] }
  | _ => none }
def callsRenamedRow : OpenClaim := { program := "ytogccbelnfgfhaagreat", sum := "bd3e8f468b875c9a48e3993cb85ed2e6076894a24c51effda24e813dd7305675", func := "intaglio/intagliolaw17.CallsRenamed", spec := "callsRenamed", inPlace := ["internal/bytealg.IndexByteString"], unfollowed := true, recurses := true, apart := false }
def CallsRenamedSaid : Prop := callsRenamedRow.holds Tryz.pinned (OpenSpec.ofChange callsRenamedSpec)

/-- ITS FALSE NEIGHBOUR: 'it returns false'. Refute it at one input. -/
def callsRenamedWrong : ChangeSpec := { name := "callsRenamed", fn := fun _ => fun
  | [d1, d2] => { results := [.lit (.bool false)], args := [d1, d2] }
  | _ => none }
def CallsRenamedWrongFalsely : Prop := callsRenamedRow.holds Tryz.pinned (OpenSpec.ofChange callsRenamedWrong)

/- THE SECOND FORM. 'bulk': how many values and letters a reading holds, each counted each time it is reached (what is shared counts as often as it is met; a slice's spare places count too). A statement '..UptoSaid' is the law's where the arguments, and the package variables that the reading takes, are together of bulk at most 1048576: NARROWER than '..Said'. Prove '..Said' where nothing that the law and all that it calls make is longer than what came in: it says more and counts as full. Else prove '..UptoSaid'. A law counts once. -/
mutual
def uptoBulk {H : Type} : DataW H → Nat
  | .lit (.string bytes) => bytes.length + 1
  | .lit _ => 1
  | .nil => 1
  | .ptr d => uptoBulk d + 1
  | .slice elems spare => uptoBulkAll elems + uptoBulkAll spare + 1
  | .agg parts => uptoBulkAll parts + 1
  | .iface _ d => uptoBulk d + 1
  | .map entries => uptoBulkEntries entries + 1
  | .held _ => 1
def uptoBulkAll {H : Type} : List (DataW H) → Nat
  | [] => 0
  | d :: r => uptoBulk d + uptoBulkAll r
def uptoBulkEntries {H : Type} : List (Lit × DataW H) → Nat
  | [] => 0
  | x :: r => uptoBulkEntry x + uptoBulkEntries r
def uptoBulkEntry {H : Type} : Lit × DataW H → Nat
  | (.string bytes, d) => bytes.length + uptoBulk d + 1
  | (_, d) => uptoBulk d + 1
 end
def uptoSmall : (H : Type) → List (DataW H) → Bool := fun _ ds => decide (uptoBulkAll ds ≤ 1048576)
def OpenSpec.upto (s : _root_.Go.ChangeSpec) : _root_.Go.OpenSpec := { _root_.Go.OpenSpec.ofChange s with cond := some uptoSmall }

/-- 'intagliolaw14.GraphNew', WHERE WHAT IT READS IS OF BULK AT MOST 1048576: true; the input reads as it did. -/
def graphNewUptoRow : OpenClaim := { program := "ytogccbelnfgfhaagreat", sum := "bd3e8f468b875c9a48e3993cb85ed2e6076894a24c51effda24e813dd7305675", func := "intaglio/intagliolaw14.GraphNew", spec := "graphNew", inPlace := ["internal/bytealg.IndexByteString"], unfollowed := true, recurses := true, apart := false, narrowed := true }
def GraphNewUptoSaid : Prop := graphNewUptoRow.holds Tryz.pinned (OpenSpec.upto graphNewSpec)

/-- 'intagliolaw16.NestModules', WHERE WHAT IT READS IS OF BULK AT MOST 1048576: true; the input reads as it did. -/
def nestModulesUptoRow : OpenClaim := { program := "ytogccbelnfgfhaagreat", sum := "bd3e8f468b875c9a48e3993cb85ed2e6076894a24c51effda24e813dd7305675", func := "intaglio/intagliolaw16.NestModules", spec := "nestModules", inPlace := ["internal/bytealg.IndexByteString"], unfollowed := true, recurses := true, apart := false, narrowed := true }
def NestModulesUptoSaid : Prop := nestModulesUptoRow.holds Tryz.pinned (OpenSpec.upto nestModulesSpec)

/-- 'intagliolaw16.NestRenamed', WHERE WHAT IT READS IS OF BULK AT MOST 1048576: true; the input reads as it did. -/
def nestRenamedUptoRow : OpenClaim := { program := "ytogccbelnfgfhaagreat", sum := "bd3e8f468b875c9a48e3993cb85ed2e6076894a24c51effda24e813dd7305675", func := "intaglio/intagliolaw16.NestRenamed", spec := "nestRenamed", inPlace := ["internal/bytealg.IndexByteString"], unfollowed := true, recurses := true, apart := false, narrowed := true }
def NestRenamedUptoSaid : Prop := nestRenamedUptoRow.holds Tryz.pinned (OpenSpec.upto nestRenamedSpec)

/-- 'intagliolaw17.CallsNew', WHERE WHAT IT READS IS OF BULK AT MOST 1048576: true; the input reads as it did. -/
def callsNewUptoRow : OpenClaim := { program := "ytogccbelnfgfhaagreat", sum := "bd3e8f468b875c9a48e3993cb85ed2e6076894a24c51effda24e813dd7305675", func := "intaglio/intagliolaw17.CallsNew", spec := "callsNew", inPlace := ["internal/bytealg.IndexByteString"], unfollowed := true, recurses := true, apart := false, narrowed := true }
def CallsNewUptoSaid : Prop := callsNewUptoRow.holds Tryz.pinned (OpenSpec.upto callsNewSpec)

/-- 'intagliolaw17.CallsRenamed', WHERE WHAT IT READS IS OF BULK AT MOST 1048576: true; the input reads as it did. -/
def callsRenamedUptoRow : OpenClaim := { program := "ytogccbelnfgfhaagreat", sum := "bd3e8f468b875c9a48e3993cb85ed2e6076894a24c51effda24e813dd7305675", func := "intaglio/intagliolaw17.CallsRenamed", spec := "callsRenamed", inPlace := ["internal/bytealg.IndexByteString"], unfollowed := true, recurses := true, apart := false, narrowed := true }
def CallsRenamedUptoSaid : Prop := callsRenamedUptoRow.holds Tryz.pinned (OpenSpec.upto callsRenamedSpec)

end Rows
end Go.Proofs.YtogccbelnfgfhaaGreat
