/-
  No cell of these rows narrows 'for every input' (looked for: loops, veiled, ifaces, maps, wideKeys, modest, calm, conditions, laid).
  DERIVED. THE GIVEN ROWS OF THIS SEAT. 6 by the template 'for every input the law returns true; each argument reads behind the call as it read before'; 0 by the template 'total and deterministic' (their statements: YtocnlbhoibplbaaTotals.lean).
  GIVEN WITH THE SEED: the statements are not yours to turn. If you find one false, say at which input.
  Laid BY PROGRAM, IN A SANDBOX (cutbox-rows.mjs): the forced cells as the released guide's own fill.sh prints them over the translation 71f819fa9468e6ee… (all of the seat's roots in one cut). By AI agents, Wed Nov 11 2026. No macro, syntax, notation, axiom, sorry.
-/
import Derived.Test.YtocnlbhoibplbaaChecked
import GoSem.Claim
import GoSem.ClaimJoined
import GoSem.ClaimMapViews
import Derived.JoinedTies
import Derived.KernelRfl
namespace Go.Proofs.Ytocnlbhoibplbaa
/- THE CELL 'sum', in the pinned program and in every row, IS THE sha256 OF THE DUMP (.gsa) THAT YtocnlbhoibplbaaProg.lean LOADS. Nothing in Lean hashes anything: it is a label: what it is worth is what the hold of that sum in a sandbox is worth. -/
noncomputable def Try.pinned : Pinned := { name := "ytocnlbhoibplbaa", sum := "71f819fa9468e6eee84a841275fd2420e0e0b7189f9849d8843d47a7190300cc", checked := Try.checked }
namespace Rows
def none {H : Type} : Left H := { results := [], args := [] }

/-- 'intagliolaw14.GraphTargets': WHATEVER THE INPUT: true; the input reads as it did. -/
def graphTargetsSpec : ChangeSpec := { name := "graphTargets", fn := fun _ => fun
  | [d] => { results := [.lit (.bool true)], args := [d] }
  | _ => none }
def graphTargetsRow : OpenClaim := { program := "ytocnlbhoibplbaa", sum := "71f819fa9468e6eee84a841275fd2420e0e0b7189f9849d8843d47a7190300cc", func := "intaglio/intagliolaw14.GraphTargets", spec := "graphTargets", unfollowed := true, recurses := true, apart := false }
def GraphTargetsSaid : Prop := graphTargetsRow.holds Try.pinned (OpenSpec.ofChange graphTargetsSpec)

/-- ITS FALSE NEIGHBOUR: 'it returns false'. Refute it at one input. -/
def graphTargetsWrong : ChangeSpec := { name := "graphTargets", fn := fun _ => fun
  | [d] => { results := [.lit (.bool false)], args := [d] }
  | _ => none }
def GraphTargetsWrongFalsely : Prop := graphTargetsRow.holds Try.pinned (OpenSpec.ofChange graphTargetsWrong)

/-- 'intagliolaw09.IdsAlikes': WHATEVER THE INPUT: true; the input reads as it did. -/
def idsAlikesSpec : ChangeSpec := { name := "idsAlikes", fn := fun _ => fun
  | [d1, d2] => { results := [.lit (.bool true)], args := [d1, d2] }
  | _ => none }
def idsAlikesRow : OpenClaim := { program := "ytocnlbhoibplbaa", sum := "71f819fa9468e6eee84a841275fd2420e0e0b7189f9849d8843d47a7190300cc", func := "intaglio/intagliolaw09.IdsAlikes", spec := "idsAlikes", inPlace := ["internal/bytealg.IndexByteString"], unfollowed := true, recurses := true, apart := false }
def IdsAlikesSaid : Prop := idsAlikesRow.holds Try.pinned (OpenSpec.ofChange idsAlikesSpec)

/-- ITS FALSE NEIGHBOUR: 'it returns false'. Refute it at one input. -/
def idsAlikesWrong : ChangeSpec := { name := "idsAlikes", fn := fun _ => fun
  | [d1, d2] => { results := [.lit (.bool false)], args := [d1, d2] }
  | _ => none }
def IdsAlikesWrongFalsely : Prop := idsAlikesRow.holds Try.pinned (OpenSpec.ofChange idsAlikesWrong)

/-- 'intagliolaw09.IdsUses': WHATEVER THE INPUT: true; the input reads as it did. -/
def idsUsesSpec : ChangeSpec := { name := "idsUses", fn := fun _ => fun
  | [d1, d2] => { results := [.lit (.bool true)], args := [d1, d2] }
  | _ => none }
def idsUsesRow : OpenClaim := { program := "ytocnlbhoibplbaa", sum := "71f819fa9468e6eee84a841275fd2420e0e0b7189f9849d8843d47a7190300cc", func := "intaglio/intagliolaw09.IdsUses", spec := "idsUses", inPlace := ["internal/bytealg.IndexByteString"], unfollowed := true, recurses := true, apart := false }
def IdsUsesSaid : Prop := idsUsesRow.holds Try.pinned (OpenSpec.ofChange idsUsesSpec)

/-- ITS FALSE NEIGHBOUR: 'it returns false'. Refute it at one input. -/
def idsUsesWrong : ChangeSpec := { name := "idsUses", fn := fun _ => fun
  | [d1, d2] => { results := [.lit (.bool false)], args := [d1, d2] }
  | _ => none }
def IdsUsesWrongFalsely : Prop := idsUsesRow.holds Try.pinned (OpenSpec.ofChange idsUsesWrong)

/-- 'intagliolaw09.IdsMade': WHATEVER THE INPUT: true; the input reads as it did. -/
def idsMadeSpec : ChangeSpec := { name := "idsMade", fn := fun _ => fun
  | [d] => { results := [.lit (.bool true)], args := [d] }
  | _ => none }
def idsMadeRow : OpenClaim := { program := "ytocnlbhoibplbaa", sum := "71f819fa9468e6eee84a841275fd2420e0e0b7189f9849d8843d47a7190300cc", func := "intaglio/intagliolaw09.IdsMade", spec := "idsMade", inPlace := ["internal/bytealg.IndexByteString"], unfollowed := true, recurses := true, apart := false }
def IdsMadeSaid : Prop := idsMadeRow.holds Try.pinned (OpenSpec.ofChange idsMadeSpec)

/-- ITS FALSE NEIGHBOUR: 'it returns false'. Refute it at one input. -/
def idsMadeWrong : ChangeSpec := { name := "idsMade", fn := fun _ => fun
  | [d] => { results := [.lit (.bool false)], args := [d] }
  | _ => none }
def IdsMadeWrongFalsely : Prop := idsMadeRow.holds Try.pinned (OpenSpec.ofChange idsMadeWrong)

/-- 'intagliolaw09.IdsChecks': WHATEVER THE INPUT: true; the input reads as it did. -/
def idsChecksSpec : ChangeSpec := { name := "idsChecks", fn := fun _ => fun
  | [d] => { results := [.lit (.bool true)], args := [d] }
  | _ => none }
def idsChecksRow : OpenClaim := { program := "ytocnlbhoibplbaa", sum := "71f819fa9468e6eee84a841275fd2420e0e0b7189f9849d8843d47a7190300cc", func := "intaglio/intagliolaw09.IdsChecks", spec := "idsChecks", inPlace := ["internal/bytealg.IndexByteString"], unfollowed := true, recurses := true, apart := false }
def IdsChecksSaid : Prop := idsChecksRow.holds Try.pinned (OpenSpec.ofChange idsChecksSpec)

/-- ITS FALSE NEIGHBOUR: 'it returns false'. Refute it at one input. -/
def idsChecksWrong : ChangeSpec := { name := "idsChecks", fn := fun _ => fun
  | [d] => { results := [.lit (.bool false)], args := [d] }
  | _ => none }
def IdsChecksWrongFalsely : Prop := idsChecksRow.holds Try.pinned (OpenSpec.ofChange idsChecksWrong)

/-- 'intagliolaw09.IdsRenumbers': WHATEVER THE INPUT: true; the input reads as it did. -/
def idsRenumbersSpec : ChangeSpec := { name := "idsRenumbers", fn := fun _ => fun
  | [d] => { results := [.lit (.bool true)], args := [d] }
  | _ => none }
def idsRenumbersRow : OpenClaim := { program := "ytocnlbhoibplbaa", sum := "71f819fa9468e6eee84a841275fd2420e0e0b7189f9849d8843d47a7190300cc", func := "intaglio/intagliolaw09.IdsRenumbers", spec := "idsRenumbers", inPlace := ["internal/bytealg.IndexByteString"], unfollowed := true, recurses := true, apart := false }
def IdsRenumbersSaid : Prop := idsRenumbersRow.holds Try.pinned (OpenSpec.ofChange idsRenumbersSpec)

/-- ITS FALSE NEIGHBOUR: 'it returns false'. Refute it at one input. -/
def idsRenumbersWrong : ChangeSpec := { name := "idsRenumbers", fn := fun _ => fun
  | [d] => { results := [.lit (.bool false)], args := [d] }
  | _ => none }
def IdsRenumbersWrongFalsely : Prop := idsRenumbersRow.holds Try.pinned (OpenSpec.ofChange idsRenumbersWrong)

/- THE SECOND FORM. 'bulk': how many values and letters a reading holds, each counted each time it is reached (what is shared counts as often as it is met; a slice's spare places count too). A statement '..UptoSaid' is the law's where the arguments, and the package variables that the reading takes, are together of bulk at most 1048576: NARROWER than '..Said'. Prove '..Said' where nothing that the law and all that it calls make is longer than what came in: it says more and counts as full. Else prove '..UptoSaid'. A law counts once. -/
mutual
def uptoBulk {H : Type} : DataW H → Nat
  | .lit (.string bytes) => bytes.length + 1
  | .lit _ => 1
  | .nil => 1
  | .ptr d => uptoBulk d + 1
  | .slice elems spare => uptoBulkAll elems + uptoBulkAll spare + 1
  | .agg parts => uptoBulkAll parts + 1
  | .iface _ d => uptoBulk d + 1
  | .map entries => uptoBulkEntries entries + 1
  | .held _ => 1
def uptoBulkAll {H : Type} : List (DataW H) → Nat
  | [] => 0
  | d :: r => uptoBulk d + uptoBulkAll r
def uptoBulkEntries {H : Type} : List (Lit × DataW H) → Nat
  | [] => 0
  | x :: r => uptoBulkEntry x + uptoBulkEntries r
def uptoBulkEntry {H : Type} : Lit × DataW H → Nat
  | (.string bytes, d) => bytes.length + uptoBulk d + 1
  | (_, d) => uptoBulk d + 1
 end
def uptoSmall : (H : Type) → List (DataW H) → Bool := fun _ ds => decide (uptoBulkAll ds ≤ 1048576)
def OpenSpec.upto (s : _root_.Go.ChangeSpec) : _root_.Go.OpenSpec := { _root_.Go.OpenSpec.ofChange s with cond := some uptoSmall }

/-- 'intagliolaw14.GraphTargets', WHERE WHAT IT READS IS OF BULK AT MOST 1048576: true; the input reads as it did. -/
def graphTargetsUptoRow : OpenClaim := { program := "ytocnlbhoibplbaa", sum := "71f819fa9468e6eee84a841275fd2420e0e0b7189f9849d8843d47a7190300cc", func := "intaglio/intagliolaw14.GraphTargets", spec := "graphTargets", unfollowed := true, recurses := true, apart := false, narrowed := true }
def GraphTargetsUptoSaid : Prop := graphTargetsUptoRow.holds Try.pinned (OpenSpec.upto graphTargetsSpec)

/-- 'intagliolaw09.IdsAlikes', WHERE WHAT IT READS IS OF BULK AT MOST 1048576: true; the input reads as it did. -/
def idsAlikesUptoRow : OpenClaim := { program := "ytocnlbhoibplbaa", sum := "71f819fa9468e6eee84a841275fd2420e0e0b7189f9849d8843d47a7190300cc", func := "intaglio/intagliolaw09.IdsAlikes", spec := "idsAlikes", inPlace := ["internal/bytealg.IndexByteString"], unfollowed := true, recurses := true, apart := false, narrowed := true }
def IdsAlikesUptoSaid : Prop := idsAlikesUptoRow.holds Try.pinned (OpenSpec.upto idsAlikesSpec)

/-- 'intagliolaw09.IdsUses', WHERE WHAT IT READS IS OF BULK AT MOST 1048576: true; the input reads as it did. -/
def idsUsesUptoRow : OpenClaim := { program := "ytocnlbhoibplbaa", sum := "71f819fa9468e6eee84a841275fd2420e0e0b7189f9849d8843d47a7190300cc", func := "intaglio/intagliolaw09.IdsUses", spec := "idsUses", inPlace := ["internal/bytealg.IndexByteString"], unfollowed := true, recurses := true, apart := false, narrowed := true }
def IdsUsesUptoSaid : Prop := idsUsesUptoRow.holds Try.pinned (OpenSpec.upto idsUsesSpec)

/-- 'intagliolaw09.IdsMade', WHERE WHAT IT READS IS OF BULK AT MOST 1048576: true; the input reads as it did. -/
def idsMadeUptoRow : OpenClaim := { program := "ytocnlbhoibplbaa", sum := "71f819fa9468e6eee84a841275fd2420e0e0b7189f9849d8843d47a7190300cc", func := "intaglio/intagliolaw09.IdsMade", spec := "idsMade", inPlace := ["internal/bytealg.IndexByteString"], unfollowed := true, recurses := true, apart := false, narrowed := true }
def IdsMadeUptoSaid : Prop := idsMadeUptoRow.holds Try.pinned (OpenSpec.upto idsMadeSpec)

/-- 'intagliolaw09.IdsChecks', WHERE WHAT IT READS IS OF BULK AT MOST 1048576: true; the input reads as it did. -/
def idsChecksUptoRow : OpenClaim := { program := "ytocnlbhoibplbaa", sum := "71f819fa9468e6eee84a841275fd2420e0e0b7189f9849d8843d47a7190300cc", func := "intaglio/intagliolaw09.IdsChecks", spec := "idsChecks", inPlace := ["internal/bytealg.IndexByteString"], unfollowed := true, recurses := true, apart := false, narrowed := true }
def IdsChecksUptoSaid : Prop := idsChecksUptoRow.holds Try.pinned (OpenSpec.upto idsChecksSpec)

/-- 'intagliolaw09.IdsRenumbers', WHERE WHAT IT READS IS OF BULK AT MOST 1048576: true; the input reads as it did. -/
def idsRenumbersUptoRow : OpenClaim := { program := "ytocnlbhoibplbaa", sum := "71f819fa9468e6eee84a841275fd2420e0e0b7189f9849d8843d47a7190300cc", func := "intaglio/intagliolaw09.IdsRenumbers", spec := "idsRenumbers", inPlace := ["internal/bytealg.IndexByteString"], unfollowed := true, recurses := true, apart := false, narrowed := true }
def IdsRenumbersUptoSaid : Prop := idsRenumbersUptoRow.holds Try.pinned (OpenSpec.upto idsRenumbersSpec)

end Rows
end Go.Proofs.Ytocnlbhoibplbaa
