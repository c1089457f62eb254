/-
  No cell of these rows narrows 'for every input' (looked for: loops, veiled, ifaces, maps, wideKeys, modest, calm, conditions, laid).
  DERIVED. THE GIVEN ROWS OF THIS SEAT. 23 by the template 'for every input the law returns true; each argument reads behind the call as it read before'; 0 by the template 'total and deterministic' (their statements: YtjplhoollkeihaaTotals.lean).
  GIVEN WITH THE SEED: the statements are not yours to turn. If you find one false, say at which input.
  Laid BY PROGRAM, IN A SANDBOX (cutbox-rows.mjs): the forced cells as the released guide's own fill.sh prints them over the translation dafd18fa22b9152d… (all of the seat's roots in one cut). By AI agents, Wed Nov 11 2026. No macro, syntax, notation, axiom, sorry.
-/
import Derived.Test.YtjplhoollkeihaaChecked
import GoSem.Claim
import GoSem.ClaimJoined
import GoSem.ClaimMapViews
import Derived.JoinedTies
import Derived.KernelRfl
namespace Go.Proofs.Ytjplhoollkeihaa
/- THE CELL 'sum', in the pinned program and in every row, IS THE sha256 OF THE DUMP (.gsa) THAT YtjplhoollkeihaaProg.lean LOADS. Nothing in Lean hashes anything: it is a label: what it is worth is what the hold of that sum in a sandbox is worth. -/
noncomputable def Try.pinned : Pinned := { name := "ytjplhoollkeihaa", sum := "dafd18fa22b9152df7c17af9c4238da15d94d467fcc973f3b7224375b577622c", checked := Try.checked }
namespace Rows
def none {H : Type} : Left H := { results := [], args := [] }

/-- 'intagliolaw14.GraphOf': WHATEVER THE INPUT: true; the input reads as it did. -/
def graphOfSpec : ChangeSpec := { name := "graphOf", fn := fun _ => fun
  | [d] => { results := [.lit (.bool true)], args := [d] }
  | _ => none }
def graphOfRow : OpenClaim := { program := "ytjplhoollkeihaa", sum := "dafd18fa22b9152df7c17af9c4238da15d94d467fcc973f3b7224375b577622c", func := "intaglio/intagliolaw14.GraphOf", spec := "graphOf", unfollowed := true, recurses := true, apart := false }
def GraphOfSaid : Prop := graphOfRow.holds Try.pinned (OpenSpec.ofChange graphOfSpec)

/-- ITS FALSE NEIGHBOUR: 'it returns false'. Refute it at one input. -/
def graphOfWrong : ChangeSpec := { name := "graphOf", fn := fun _ => fun
  | [d] => { results := [.lit (.bool false)], args := [d] }
  | _ => none }
def GraphOfWrongFalsely : Prop := graphOfRow.holds Try.pinned (OpenSpec.ofChange graphOfWrong)

/-- 'intagliolaw14.GraphEdges': WHATEVER THE INPUT: true; the input reads as it did. -/
def graphEdgesSpec : ChangeSpec := { name := "graphEdges", fn := fun _ => fun
  | [d] => { results := [.lit (.bool true)], args := [d] }
  | _ => none }
def graphEdgesRow : OpenClaim := { program := "ytjplhoollkeihaa", sum := "dafd18fa22b9152df7c17af9c4238da15d94d467fcc973f3b7224375b577622c", func := "intaglio/intagliolaw14.GraphEdges", spec := "graphEdges", unfollowed := true, recurses := true, apart := false }
def GraphEdgesSaid : Prop := graphEdgesRow.holds Try.pinned (OpenSpec.ofChange graphEdgesSpec)

/-- ITS FALSE NEIGHBOUR: 'it returns false'. Refute it at one input. -/
def graphEdgesWrong : ChangeSpec := { name := "graphEdges", fn := fun _ => fun
  | [d] => { results := [.lit (.bool false)], args := [d] }
  | _ => none }
def GraphEdgesWrongFalsely : Prop := graphEdgesRow.holds Try.pinned (OpenSpec.ofChange graphEdgesWrong)

/-- 'intagliolaw14.GraphOrders': WHATEVER THE INPUT: true; the input reads as it did. -/
def graphOrdersSpec : ChangeSpec := { name := "graphOrders", fn := fun _ => fun
  | [d] => { results := [.lit (.bool true)], args := [d] }
  | _ => none }
def graphOrdersRow : OpenClaim := { program := "ytjplhoollkeihaa", sum := "dafd18fa22b9152df7c17af9c4238da15d94d467fcc973f3b7224375b577622c", func := "intaglio/intagliolaw14.GraphOrders", spec := "graphOrders", unfollowed := true, recurses := true, apart := false }
def GraphOrdersSaid : Prop := graphOrdersRow.holds Try.pinned (OpenSpec.ofChange graphOrdersSpec)

/-- ITS FALSE NEIGHBOUR: 'it returns false'. Refute it at one input. -/
def graphOrdersWrong : ChangeSpec := { name := "graphOrders", fn := fun _ => fun
  | [d] => { results := [.lit (.bool false)], args := [d] }
  | _ => none }
def GraphOrdersWrongFalsely : Prop := graphOrdersRow.holds Try.pinned (OpenSpec.ofChange graphOrdersWrong)

/-- 'intagliolaw14.GraphWalk': WHATEVER THE INPUT: true; the input reads as it did. -/
def graphWalkSpec : ChangeSpec := { name := "graphWalk", fn := fun _ => fun
  | [d1, d2] => { results := [.lit (.bool true)], args := [d1, d2] }
  | _ => none }
def graphWalkRow : OpenClaim := { program := "ytjplhoollkeihaa", sum := "dafd18fa22b9152df7c17af9c4238da15d94d467fcc973f3b7224375b577622c", func := "intaglio/intagliolaw14.GraphWalk", spec := "graphWalk", unfollowed := true, recurses := true, apart := false }
def GraphWalkSaid : Prop := graphWalkRow.holds Try.pinned (OpenSpec.ofChange graphWalkSpec)

/-- ITS FALSE NEIGHBOUR: 'it returns false'. Refute it at one input. -/
def graphWalkWrong : ChangeSpec := { name := "graphWalk", fn := fun _ => fun
  | [d1, d2] => { results := [.lit (.bool false)], args := [d1, d2] }
  | _ => none }
def GraphWalkWrongFalsely : Prop := graphWalkRow.holds Try.pinned (OpenSpec.ofChange graphWalkWrong)

/-- 'intagliolaw14.GraphNil': WHATEVER THE INPUT: true; the input reads as it did. -/
def graphNilSpec : ChangeSpec := { name := "graphNil", fn := fun _ => fun
  | [d] => { results := [.lit (.bool true)], args := [d] }
  | _ => none }
def graphNilRow : OpenClaim := { program := "ytjplhoollkeihaa", sum := "dafd18fa22b9152df7c17af9c4238da15d94d467fcc973f3b7224375b577622c", func := "intaglio/intagliolaw14.GraphNil", spec := "graphNil", unfollowed := true, recurses := true, apart := false }
def GraphNilSaid : Prop := graphNilRow.holds Try.pinned (OpenSpec.ofChange graphNilSpec)

/-- ITS FALSE NEIGHBOUR: 'it returns false'. Refute it at one input. -/
def graphNilWrong : ChangeSpec := { name := "graphNil", fn := fun _ => fun
  | [d] => { results := [.lit (.bool false)], args := [d] }
  | _ => none }
def GraphNilWrongFalsely : Prop := graphNilRow.holds Try.pinned (OpenSpec.ofChange graphNilWrong)

/-- 'intagliolaw14.GraphReaches': WHATEVER THE INPUT: true; the input reads as it did. -/
def graphReachesSpec : ChangeSpec := { name := "graphReaches", fn := fun _ => fun
  | [d] => { results := [.lit (.bool true)], args := [d] }
  | _ => none }
def graphReachesRow : OpenClaim := { program := "ytjplhoollkeihaa", sum := "dafd18fa22b9152df7c17af9c4238da15d94d467fcc973f3b7224375b577622c", func := "intaglio/intagliolaw14.GraphReaches", spec := "graphReaches", unfollowed := true, recurses := true, apart := false }
def GraphReachesSaid : Prop := graphReachesRow.holds Try.pinned (OpenSpec.ofChange graphReachesSpec)

/-- ITS FALSE NEIGHBOUR: 'it returns false'. Refute it at one input. -/
def graphReachesWrong : ChangeSpec := { name := "graphReaches", fn := fun _ => fun
  | [d] => { results := [.lit (.bool false)], args := [d] }
  | _ => none }
def GraphReachesWrongFalsely : Prop := graphReachesRow.holds Try.pinned (OpenSpec.ofChange graphReachesWrong)

/-- 'intagliolaw15.DomOvers': WHATEVER THE INPUT: true; the input reads as it did. -/
def domOversSpec : ChangeSpec := { name := "domOvers", fn := fun _ => fun
  | [d1, d2] => { results := [.lit (.bool true)], args := [d1, d2] }
  | _ => none }
def domOversRow : OpenClaim := { program := "ytjplhoollkeihaa", sum := "dafd18fa22b9152df7c17af9c4238da15d94d467fcc973f3b7224375b577622c", func := "intaglio/intagliolaw15.DomOvers", spec := "domOvers", unfollowed := true, recurses := true, apart := false }
def DomOversSaid : Prop := domOversRow.holds Try.pinned (OpenSpec.ofChange domOversSpec)

/-- ITS FALSE NEIGHBOUR: 'it returns false'. Refute it at one input. -/
def domOversWrong : ChangeSpec := { name := "domOvers", fn := fun _ => fun
  | [d1, d2] => { results := [.lit (.bool false)], args := [d1, d2] }
  | _ => none }
def DomOversWrongFalsely : Prop := domOversRow.holds Try.pinned (OpenSpec.ofChange domOversWrong)

/-- 'intagliolaw15.DomDominates': WHATEVER THE INPUT: true; the input reads as it did. -/
def domDominatesSpec : ChangeSpec := { name := "domDominates", fn := fun _ => fun
  | [d1, d2, d3] => { results := [.lit (.bool true)], args := [d1, d2, d3] }
  | _ => none }
def domDominatesRow : OpenClaim := { program := "ytjplhoollkeihaa", sum := "dafd18fa22b9152df7c17af9c4238da15d94d467fcc973f3b7224375b577622c", func := "intaglio/intagliolaw15.DomDominates", spec := "domDominates", unfollowed := true, recurses := true, apart := false }
def DomDominatesSaid : Prop := domDominatesRow.holds Try.pinned (OpenSpec.ofChange domDominatesSpec)

/-- ITS FALSE NEIGHBOUR: 'it returns false'. Refute it at one input. -/
def domDominatesWrong : ChangeSpec := { name := "domDominates", fn := fun _ => fun
  | [d1, d2, d3] => { results := [.lit (.bool false)], args := [d1, d2, d3] }
  | _ => none }
def DomDominatesWrongFalsely : Prop := domDominatesRow.holds Try.pinned (OpenSpec.ofChange domDominatesWrong)

/-- 'intagliolaw15.DomOrders': WHATEVER THE INPUT: true; the input reads as it did. -/
def domOrdersSpec : ChangeSpec := { name := "domOrders", fn := fun _ => fun
  | [d] => { results := [.lit (.bool true)], args := [d] }
  | _ => none }
def domOrdersRow : OpenClaim := { program := "ytjplhoollkeihaa", sum := "dafd18fa22b9152df7c17af9c4238da15d94d467fcc973f3b7224375b577622c", func := "intaglio/intagliolaw15.DomOrders", spec := "domOrders", unfollowed := true, recurses := true, apart := false }
def DomOrdersSaid : Prop := domOrdersRow.holds Try.pinned (OpenSpec.ofChange domOrdersSpec)

/-- ITS FALSE NEIGHBOUR: 'it returns false'. Refute it at one input. -/
def domOrdersWrong : ChangeSpec := { name := "domOrders", fn := fun _ => fun
  | [d] => { results := [.lit (.bool false)], args := [d] }
  | _ => none }
def DomOrdersWrongFalsely : Prop := domOrdersRow.holds Try.pinned (OpenSpec.ofChange domOrdersWrong)

/-- 'intagliolaw15.DomUps': WHATEVER THE INPUT: true; the input reads as it did. -/
def domUpsSpec : ChangeSpec := { name := "domUps", fn := fun _ => fun
  | [d1, d2, d3] => { results := [.lit (.bool true)], args := [d1, d2, d3] }
  | _ => none }
def domUpsRow : OpenClaim := { program := "ytjplhoollkeihaa", sum := "dafd18fa22b9152df7c17af9c4238da15d94d467fcc973f3b7224375b577622c", func := "intaglio/intagliolaw15.DomUps", spec := "domUps", unfollowed := true, recurses := true, apart := false }
def DomUpsSaid : Prop := domUpsRow.holds Try.pinned (OpenSpec.ofChange domUpsSpec)

/-- ITS FALSE NEIGHBOUR: 'it returns false'. Refute it at one input. -/
def domUpsWrong : ChangeSpec := { name := "domUps", fn := fun _ => fun
  | [d1, d2, d3] => { results := [.lit (.bool false)], args := [d1, d2, d3] }
  | _ => none }
def DomUpsWrongFalsely : Prop := domUpsRow.holds Try.pinned (OpenSpec.ofChange domUpsWrong)

/-- 'intagliolaw17.CallsNil': WHATEVER THE INPUT: true; the input reads as it did. -/
def callsNilSpec : ChangeSpec := { name := "callsNil", fn := fun _ => fun
  | [d] => { results := [.lit (.bool true)], args := [d] }
  | _ => none }
def callsNilRow : OpenClaim := { program := "ytjplhoollkeihaa", sum := "dafd18fa22b9152df7c17af9c4238da15d94d467fcc973f3b7224375b577622c", func := "intaglio/intagliolaw17.CallsNil", spec := "callsNil", unfollowed := true, recurses := true, apart := false }
def CallsNilSaid : Prop := callsNilRow.holds Try.pinned (OpenSpec.ofChange callsNilSpec)

/-- ITS FALSE NEIGHBOUR: 'it returns false'. Refute it at one input. -/
def callsNilWrong : ChangeSpec := { name := "callsNil", fn := fun _ => fun
  | [d] => { results := [.lit (.bool false)], args := [d] }
  | _ => none }
def CallsNilWrongFalsely : Prop := callsNilRow.holds Try.pinned (OpenSpec.ofChange callsNilWrong)

/-- 'intagliolaw16.NestFlaws': WHATEVER THE INPUT: true; the input reads as it did. -/
def nestFlawsSpec : ChangeSpec := { name := "nestFlaws", fn := fun _ => fun
  | [d1, d2] => { results := [.lit (.bool true)], args := [d1, d2] }
  | _ => none }
def nestFlawsRow : OpenClaim := { program := "ytjplhoollkeihaa", sum := "dafd18fa22b9152df7c17af9c4238da15d94d467fcc973f3b7224375b577622c", func := "intaglio/intagliolaw16.NestFlaws", spec := "nestFlaws", unfollowed := true, recurses := true, apart := false }
def NestFlawsSaid : Prop := nestFlawsRow.holds Try.pinned (OpenSpec.ofChange nestFlawsSpec)

/-- ITS FALSE NEIGHBOUR: 'it returns false'. Refute it at one input. -/
def nestFlawsWrong : ChangeSpec := { name := "nestFlaws", fn := fun _ => fun
  | [d1, d2] => { results := [.lit (.bool false)], args := [d1, d2] }
  | _ => none }
def NestFlawsWrongFalsely : Prop := nestFlawsRow.holds Try.pinned (OpenSpec.ofChange nestFlawsWrong)

/-- 'intagliolaw16.NestEnters': WHATEVER THE INPUT: true; the input reads as it did. -/
def nestEntersSpec : ChangeSpec := { name := "nestEnters", fn := fun _ => fun
  | [d1, d2] => { results := [.lit (.bool true)], args := [d1, d2] }
  | _ => none }
def nestEntersRow : OpenClaim := { program := "ytjplhoollkeihaa", sum := "dafd18fa22b9152df7c17af9c4238da15d94d467fcc973f3b7224375b577622c", func := "intaglio/intagliolaw16.NestEnters", spec := "nestEnters", unfollowed := true, recurses := true, apart := false }
def NestEntersSaid : Prop := nestEntersRow.holds Try.pinned (OpenSpec.ofChange nestEntersSpec)

/-- ITS FALSE NEIGHBOUR: 'it returns false'. Refute it at one input. -/
def nestEntersWrong : ChangeSpec := { name := "nestEnters", fn := fun _ => fun
  | [d1, d2] => { results := [.lit (.bool false)], args := [d1, d2] }
  | _ => none }
def NestEntersWrongFalsely : Prop := nestEntersRow.holds Try.pinned (OpenSpec.ofChange nestEntersWrong)

/-- 'intagliolaw16.NestRings': WHATEVER THE INPUT: true; the input reads as it did. -/
def nestRingsSpec : ChangeSpec := { name := "nestRings", fn := fun _ => fun
  | [d1, d2] => { results := [.lit (.bool true)], args := [d1, d2] }
  | _ => none }
def nestRingsRow : OpenClaim := { program := "ytjplhoollkeihaa", sum := "dafd18fa22b9152df7c17af9c4238da15d94d467fcc973f3b7224375b577622c", func := "intaglio/intagliolaw16.NestRings", spec := "nestRings", unfollowed := true, recurses := true, apart := false }
def NestRingsSaid : Prop := nestRingsRow.holds Try.pinned (OpenSpec.ofChange nestRingsSpec)

/-- ITS FALSE NEIGHBOUR: 'it returns false'. Refute it at one input. -/
def nestRingsWrong : ChangeSpec := { name := "nestRings", fn := fun _ => fun
  | [d1, d2] => { results := [.lit (.bool false)], args := [d1, d2] }
  | _ => none }
def NestRingsWrongFalsely : Prop := nestRingsRow.holds Try.pinned (OpenSpec.ofChange nestRingsWrong)

/-- 'intagliolaw14.GraphTargets': WHATEVER THE INPUT: true; the input reads as it did. -/
def graphTargetsSpec : ChangeSpec := { name := "graphTargets", fn := fun _ => fun
  | [d] => { results := [.lit (.bool true)], args := [d] }
  | _ => none }
def graphTargetsRow : OpenClaim := { program := "ytjplhoollkeihaa", sum := "dafd18fa22b9152df7c17af9c4238da15d94d467fcc973f3b7224375b577622c", func := "intaglio/intagliolaw14.GraphTargets", spec := "graphTargets", unfollowed := true, recurses := true, apart := false }
def GraphTargetsSaid : Prop := graphTargetsRow.holds Try.pinned (OpenSpec.ofChange graphTargetsSpec)

/-- ITS FALSE NEIGHBOUR: 'it returns false'. Refute it at one input. -/
def graphTargetsWrong : ChangeSpec := { name := "graphTargets", fn := fun _ => fun
  | [d] => { results := [.lit (.bool false)], args := [d] }
  | _ => none }
def GraphTargetsWrongFalsely : Prop := graphTargetsRow.holds Try.pinned (OpenSpec.ofChange graphTargetsWrong)

/-- 'intagliolaw16.NestConstructs': WHATEVER THE INPUT: true; the input reads as it did. -/
def nestConstructsSpec : ChangeSpec := { name := "nestConstructs", fn := fun _ => fun
  | [d1, d2, d3] => { results := [.lit (.bool true)], args := [d1, d2, d3] }
  | _ => none }
def nestConstructsRow : OpenClaim := { program := "ytjplhoollkeihaa", sum := "dafd18fa22b9152df7c17af9c4238da15d94d467fcc973f3b7224375b577622c", func := "intaglio/intagliolaw16.NestConstructs", spec := "nestConstructs", unfollowed := true, recurses := true, apart := false }
def NestConstructsSaid : Prop := nestConstructsRow.holds Try.pinned (OpenSpec.ofChange nestConstructsSpec)

/-- ITS FALSE NEIGHBOUR: 'it returns false'. Refute it at one input. -/
def nestConstructsWrong : ChangeSpec := { name := "nestConstructs", fn := fun _ => fun
  | [d1, d2, d3] => { results := [.lit (.bool false)], args := [d1, d2, d3] }
  | _ => none }
def NestConstructsWrongFalsely : Prop := nestConstructsRow.holds Try.pinned (OpenSpec.ofChange nestConstructsWrong)

/-- 'intagliolaw16.NestNil': WHATEVER THE INPUT: true; the input reads as it did. -/
def nestNilSpec : ChangeSpec := { name := "nestNil", fn := fun _ => fun
  | [d1, d2] => { results := [.lit (.bool true)], args := [d1, d2] }
  | _ => none }
def nestNilRow : OpenClaim := { program := "ytjplhoollkeihaa", sum := "dafd18fa22b9152df7c17af9c4238da15d94d467fcc973f3b7224375b577622c", func := "intaglio/intagliolaw16.NestNil", spec := "nestNil", unfollowed := true, recurses := true, apart := false }
def NestNilSaid : Prop := nestNilRow.holds Try.pinned (OpenSpec.ofChange nestNilSpec)

/-- ITS FALSE NEIGHBOUR: 'it returns false'. Refute it at one input. -/
def nestNilWrong : ChangeSpec := { name := "nestNil", fn := fun _ => fun
  | [d1, d2] => { results := [.lit (.bool false)], args := [d1, d2] }
  | _ => none }
def NestNilWrongFalsely : Prop := nestNilRow.holds Try.pinned (OpenSpec.ofChange nestNilWrong)

/-- 'intagliolaw16.NestWithin': WHATEVER THE INPUT: true; the input reads as it did. -/
def nestWithinSpec : ChangeSpec := { name := "nestWithin", fn := fun _ => fun
  | [d1, d2] => { results := [.lit (.bool true)], args := [d1, d2] }
  | _ => none }
def nestWithinRow : OpenClaim := { program := "ytjplhoollkeihaa", sum := "dafd18fa22b9152df7c17af9c4238da15d94d467fcc973f3b7224375b577622c", func := "intaglio/intagliolaw16.NestWithin", spec := "nestWithin", unfollowed := true, recurses := true, apart := false }
def NestWithinSaid : Prop := nestWithinRow.holds Try.pinned (OpenSpec.ofChange nestWithinSpec)

/-- ITS FALSE NEIGHBOUR: 'it returns false'. Refute it at one input. -/
def nestWithinWrong : ChangeSpec := { name := "nestWithin", fn := fun _ => fun
  | [d1, d2] => { results := [.lit (.bool false)], args := [d1, d2] }
  | _ => none }
def NestWithinWrongFalsely : Prop := nestWithinRow.holds Try.pinned (OpenSpec.ofChange nestWithinWrong)

/-- 'intagliolaw15.DomBacks': WHATEVER THE INPUT: true; the input reads as it did. -/
def domBacksSpec : ChangeSpec := { name := "domBacks", fn := fun _ => fun
  | [d] => { results := [.lit (.bool true)], args := [d] }
  | _ => none }
def domBacksRow : OpenClaim := { program := "ytjplhoollkeihaa", sum := "dafd18fa22b9152df7c17af9c4238da15d94d467fcc973f3b7224375b577622c", func := "intaglio/intagliolaw15.DomBacks", spec := "domBacks", unfollowed := true, recurses := true, apart := false }
def DomBacksSaid : Prop := domBacksRow.holds Try.pinned (OpenSpec.ofChange domBacksSpec)

/-- ITS FALSE NEIGHBOUR: 'it returns false'. Refute it at one input. -/
def domBacksWrong : ChangeSpec := { name := "domBacks", fn := fun _ => fun
  | [d] => { results := [.lit (.bool false)], args := [d] }
  | _ => none }
def DomBacksWrongFalsely : Prop := domBacksRow.holds Try.pinned (OpenSpec.ofChange domBacksWrong)

/-- 'intagliolaw15.DomEdges': WHATEVER THE INPUT: true; the input reads as it did. -/
def domEdgesSpec : ChangeSpec := { name := "domEdges", fn := fun _ => fun
  | [d1, d2] => { results := [.lit (.bool true)], args := [d1, d2] }
  | _ => none }
def domEdgesRow : OpenClaim := { program := "ytjplhoollkeihaa", sum := "dafd18fa22b9152df7c17af9c4238da15d94d467fcc973f3b7224375b577622c", func := "intaglio/intagliolaw15.DomEdges", spec := "domEdges", unfollowed := true, recurses := true, apart := false }
def DomEdgesSaid : Prop := domEdgesRow.holds Try.pinned (OpenSpec.ofChange domEdgesSpec)

/-- ITS FALSE NEIGHBOUR: 'it returns false'. Refute it at one input. -/
def domEdgesWrong : ChangeSpec := { name := "domEdges", fn := fun _ => fun
  | [d1, d2] => { results := [.lit (.bool false)], args := [d1, d2] }
  | _ => none }
def DomEdgesWrongFalsely : Prop := domEdgesRow.holds Try.pinned (OpenSpec.ofChange domEdgesWrong)

/-- 'intagliolaw15.DomNil': WHATEVER THE INPUT: true; the input reads as it did. -/
def domNilSpec : ChangeSpec := { name := "domNil", fn := fun _ => fun
  | [d1, d2] => { results := [.lit (.bool true)], args := [d1, d2] }
  | _ => none }
def domNilRow : OpenClaim := { program := "ytjplhoollkeihaa", sum := "dafd18fa22b9152df7c17af9c4238da15d94d467fcc973f3b7224375b577622c", func := "intaglio/intagliolaw15.DomNil", spec := "domNil", unfollowed := true, recurses := true, apart := false }
def DomNilSaid : Prop := domNilRow.holds Try.pinned (OpenSpec.ofChange domNilSpec)

/-- ITS FALSE NEIGHBOUR: 'it returns false'. Refute it at one input. -/
def domNilWrong : ChangeSpec := { name := "domNil", fn := fun _ => fun
  | [d1, d2] => { results := [.lit (.bool false)], args := [d1, d2] }
  | _ => none }
def DomNilWrongFalsely : Prop := domNilRow.holds Try.pinned (OpenSpec.ofChange domNilWrong)

/-- 'intagliolaw17.CallsOf': WHATEVER THE INPUT: true; the input reads as it did. -/
def callsOfSpec : ChangeSpec := { name := "callsOf", fn := fun _ => fun
  | [d1, d2] => { results := [.lit (.bool true)], args := [d1, d2] }
  | _ => none }
def callsOfRow : OpenClaim := { program := "ytjplhoollkeihaa", sum := "dafd18fa22b9152df7c17af9c4238da15d94d467fcc973f3b7224375b577622c", func := "intaglio/intagliolaw17.CallsOf", spec := "callsOf", unfollowed := true, recurses := true, apart := false }
def CallsOfSaid : Prop := callsOfRow.holds Try.pinned (OpenSpec.ofChange callsOfSpec)

/-- ITS FALSE NEIGHBOUR: 'it returns false'. Refute it at one input. -/
def callsOfWrong : ChangeSpec := { name := "callsOf", fn := fun _ => fun
  | [d1, d2] => { results := [.lit (.bool false)], args := [d1, d2] }
  | _ => none }
def CallsOfWrongFalsely : Prop := callsOfRow.holds Try.pinned (OpenSpec.ofChange callsOfWrong)

/-- 'intagliolaw17.CallsOrder': WHATEVER THE INPUT: true; the input reads as it did. -/
def callsOrderSpec : ChangeSpec := { name := "callsOrder", fn := fun _ => fun
  | [d] => { results := [.lit (.bool true)], args := [d] }
  | _ => none }
def callsOrderRow : OpenClaim := { program := "ytjplhoollkeihaa", sum := "dafd18fa22b9152df7c17af9c4238da15d94d467fcc973f3b7224375b577622c", func := "intaglio/intagliolaw17.CallsOrder", spec := "callsOrder", unfollowed := true, recurses := true, apart := false }
def CallsOrderSaid : Prop := callsOrderRow.holds Try.pinned (OpenSpec.ofChange callsOrderSpec)

/-- ITS FALSE NEIGHBOUR: 'it returns false'. Refute it at one input. -/
def callsOrderWrong : ChangeSpec := { name := "callsOrder", fn := fun _ => fun
  | [d] => { results := [.lit (.bool false)], args := [d] }
  | _ => none }
def CallsOrderWrongFalsely : Prop := callsOrderRow.holds Try.pinned (OpenSpec.ofChange callsOrderWrong)

/- THE SECOND FORM. 'bulk': how many values and letters a reading holds, each counted each time it is reached (what is shared counts as often as it is met; a slice's spare places count too). A statement '..UptoSaid' is the law's where the arguments, and the package variables that the reading takes, are together of bulk at most 1048576: NARROWER than '..Said'. Prove '..Said' where nothing that the law and all that it calls make is longer than what came in: it says more and counts as full. Else prove '..UptoSaid'. A law counts once. -/
mutual
def uptoBulk {H : Type} : DataW H → Nat
  | .lit (.string bytes) => bytes.length + 1
  | .lit _ => 1
  | .nil => 1
  | .ptr d => uptoBulk d + 1
  | .slice elems spare => uptoBulkAll elems + uptoBulkAll spare + 1
  | .agg parts => uptoBulkAll parts + 1
  | .iface _ d => uptoBulk d + 1
  | .map entries => uptoBulkEntries entries + 1
  | .held _ => 1
def uptoBulkAll {H : Type} : List (DataW H) → Nat
  | [] => 0
  | d :: r => uptoBulk d + uptoBulkAll r
def uptoBulkEntries {H : Type} : List (Lit × DataW H) → Nat
  | [] => 0
  | x :: r => uptoBulkEntry x + uptoBulkEntries r
def uptoBulkEntry {H : Type} : Lit × DataW H → Nat
  | (.string bytes, d) => bytes.length + uptoBulk d + 1
  | (_, d) => uptoBulk d + 1
 end
def uptoSmall : (H : Type) → List (DataW H) → Bool := fun _ ds => decide (uptoBulkAll ds ≤ 1048576)
def OpenSpec.upto (s : _root_.Go.ChangeSpec) : _root_.Go.OpenSpec := { _root_.Go.OpenSpec.ofChange s with cond := some uptoSmall }

/-- 'intagliolaw14.GraphOf', WHERE WHAT IT READS IS OF BULK AT MOST 1048576: true; the input reads as it did. -/
def graphOfUptoRow : OpenClaim := { program := "ytjplhoollkeihaa", sum := "dafd18fa22b9152df7c17af9c4238da15d94d467fcc973f3b7224375b577622c", func := "intaglio/intagliolaw14.GraphOf", spec := "graphOf", unfollowed := true, recurses := true, apart := false, narrowed := true }
def GraphOfUptoSaid : Prop := graphOfUptoRow.holds Try.pinned (OpenSpec.upto graphOfSpec)

/-- 'intagliolaw14.GraphEdges', WHERE WHAT IT READS IS OF BULK AT MOST 1048576: true; the input reads as it did. -/
def graphEdgesUptoRow : OpenClaim := { program := "ytjplhoollkeihaa", sum := "dafd18fa22b9152df7c17af9c4238da15d94d467fcc973f3b7224375b577622c", func := "intaglio/intagliolaw14.GraphEdges", spec := "graphEdges", unfollowed := true, recurses := true, apart := false, narrowed := true }
def GraphEdgesUptoSaid : Prop := graphEdgesUptoRow.holds Try.pinned (OpenSpec.upto graphEdgesSpec)

/-- 'intagliolaw14.GraphOrders', WHERE WHAT IT READS IS OF BULK AT MOST 1048576: true; the input reads as it did. -/
def graphOrdersUptoRow : OpenClaim := { program := "ytjplhoollkeihaa", sum := "dafd18fa22b9152df7c17af9c4238da15d94d467fcc973f3b7224375b577622c", func := "intaglio/intagliolaw14.GraphOrders", spec := "graphOrders", unfollowed := true, recurses := true, apart := false, narrowed := true }
def GraphOrdersUptoSaid : Prop := graphOrdersUptoRow.holds Try.pinned (OpenSpec.upto graphOrdersSpec)

/-- 'intagliolaw14.GraphWalk', WHERE WHAT IT READS IS OF BULK AT MOST 1048576: true; the input reads as it did. -/
def graphWalkUptoRow : OpenClaim := { program := "ytjplhoollkeihaa", sum := "dafd18fa22b9152df7c17af9c4238da15d94d467fcc973f3b7224375b577622c", func := "intaglio/intagliolaw14.GraphWalk", spec := "graphWalk", unfollowed := true, recurses := true, apart := false, narrowed := true }
def GraphWalkUptoSaid : Prop := graphWalkUptoRow.holds Try.pinned (OpenSpec.upto graphWalkSpec)

/-- 'intagliolaw14.GraphNil', WHERE WHAT IT READS IS OF BULK AT MOST 1048576: true; the input reads as it did. -/
def graphNilUptoRow : OpenClaim := { program := "ytjplhoollkeihaa", sum := "dafd18fa22b9152df7c17af9c4238da15d94d467fcc973f3b7224375b577622c", func := "intaglio/intagliolaw14.GraphNil", spec := "graphNil", unfollowed := true, recurses := true, apart := false, narrowed := true }
def GraphNilUptoSaid : Prop := graphNilUptoRow.holds Try.pinned (OpenSpec.upto graphNilSpec)

/-- 'intagliolaw14.GraphReaches', WHERE WHAT IT READS IS OF BULK AT MOST 1048576: true; the input reads as it did. -/
def graphReachesUptoRow : OpenClaim := { program := "ytjplhoollkeihaa", sum := "dafd18fa22b9152df7c17af9c4238da15d94d467fcc973f3b7224375b577622c", func := "intaglio/intagliolaw14.GraphReaches", spec := "graphReaches", unfollowed := true, recurses := true, apart := false, narrowed := true }
def GraphReachesUptoSaid : Prop := graphReachesUptoRow.holds Try.pinned (OpenSpec.upto graphReachesSpec)

/-- 'intagliolaw15.DomOvers', WHERE WHAT IT READS IS OF BULK AT MOST 1048576: true; the input reads as it did. -/
def domOversUptoRow : OpenClaim := { program := "ytjplhoollkeihaa", sum := "dafd18fa22b9152df7c17af9c4238da15d94d467fcc973f3b7224375b577622c", func := "intaglio/intagliolaw15.DomOvers", spec := "domOvers", unfollowed := true, recurses := true, apart := false, narrowed := true }
def DomOversUptoSaid : Prop := domOversUptoRow.holds Try.pinned (OpenSpec.upto domOversSpec)

/-- 'intagliolaw15.DomDominates', WHERE WHAT IT READS IS OF BULK AT MOST 1048576: true; the input reads as it did. -/
def domDominatesUptoRow : OpenClaim := { program := "ytjplhoollkeihaa", sum := "dafd18fa22b9152df7c17af9c4238da15d94d467fcc973f3b7224375b577622c", func := "intaglio/intagliolaw15.DomDominates", spec := "domDominates", unfollowed := true, recurses := true, apart := false, narrowed := true }
def DomDominatesUptoSaid : Prop := domDominatesUptoRow.holds Try.pinned (OpenSpec.upto domDominatesSpec)

/-- 'intagliolaw15.DomOrders', WHERE WHAT IT READS IS OF BULK AT MOST 1048576: true; the input reads as it did. -/
def domOrdersUptoRow : OpenClaim := { program := "ytjplhoollkeihaa", sum := "dafd18fa22b9152df7c17af9c4238da15d94d467fcc973f3b7224375b577622c", func := "intaglio/intagliolaw15.DomOrders", spec := "domOrders", unfollowed := true, recurses := true, apart := false, narrowed := true }
def DomOrdersUptoSaid : Prop := domOrdersUptoRow.holds Try.pinned (OpenSpec.upto domOrdersSpec)

/-- 'intagliolaw15.DomUps', WHERE WHAT IT READS IS OF BULK AT MOST 1048576: true; the input reads as it did. -/
def domUpsUptoRow : OpenClaim := { program := "ytjplhoollkeihaa", sum := "dafd18fa22b9152df7c17af9c4238da15d94d467fcc973f3b7224375b577622c", func := "intaglio/intagliolaw15.DomUps", spec := "domUps", unfollowed := true, recurses := true, apart := false, narrowed := true }
def DomUpsUptoSaid : Prop := domUpsUptoRow.holds Try.pinned (OpenSpec.upto domUpsSpec)

/-- 'intagliolaw17.CallsNil', WHERE WHAT IT READS IS OF BULK AT MOST 1048576: true; the input reads as it did. -/
def callsNilUptoRow : OpenClaim := { program := "ytjplhoollkeihaa", sum := "dafd18fa22b9152df7c17af9c4238da15d94d467fcc973f3b7224375b577622c", func := "intaglio/intagliolaw17.CallsNil", spec := "callsNil", unfollowed := true, recurses := true, apart := false, narrowed := true }
def CallsNilUptoSaid : Prop := callsNilUptoRow.holds Try.pinned (OpenSpec.upto callsNilSpec)

/-- 'intagliolaw16.NestFlaws', WHERE WHAT IT READS IS OF BULK AT MOST 1048576: true; the input reads as it did. -/
def nestFlawsUptoRow : OpenClaim := { program := "ytjplhoollkeihaa", sum := "dafd18fa22b9152df7c17af9c4238da15d94d467fcc973f3b7224375b577622c", func := "intaglio/intagliolaw16.NestFlaws", spec := "nestFlaws", unfollowed := true, recurses := true, apart := false, narrowed := true }
def NestFlawsUptoSaid : Prop := nestFlawsUptoRow.holds Try.pinned (OpenSpec.upto nestFlawsSpec)

/-- 'intagliolaw16.NestEnters', WHERE WHAT IT READS IS OF BULK AT MOST 1048576: true; the input reads as it did. -/
def nestEntersUptoRow : OpenClaim := { program := "ytjplhoollkeihaa", sum := "dafd18fa22b9152df7c17af9c4238da15d94d467fcc973f3b7224375b577622c", func := "intaglio/intagliolaw16.NestEnters", spec := "nestEnters", unfollowed := true, recurses := true, apart := false, narrowed := true }
def NestEntersUptoSaid : Prop := nestEntersUptoRow.holds Try.pinned (OpenSpec.upto nestEntersSpec)

/-- 'intagliolaw16.NestRings', WHERE WHAT IT READS IS OF BULK AT MOST 1048576: true; the input reads as it did. -/
def nestRingsUptoRow : OpenClaim := { program := "ytjplhoollkeihaa", sum := "dafd18fa22b9152df7c17af9c4238da15d94d467fcc973f3b7224375b577622c", func := "intaglio/intagliolaw16.NestRings", spec := "nestRings", unfollowed := true, recurses := true, apart := false, narrowed := true }
def NestRingsUptoSaid : Prop := nestRingsUptoRow.holds Try.pinned (OpenSpec.upto nestRingsSpec)

/-- 'intagliolaw14.GraphTargets', WHERE WHAT IT READS IS OF BULK AT MOST 1048576: true; the input reads as it did. -/
def graphTargetsUptoRow : OpenClaim := { program := "ytjplhoollkeihaa", sum := "dafd18fa22b9152df7c17af9c4238da15d94d467fcc973f3b7224375b577622c", func := "intaglio/intagliolaw14.GraphTargets", spec := "graphTargets", unfollowed := true, recurses := true, apart := false, narrowed := true }
def GraphTargetsUptoSaid : Prop := graphTargetsUptoRow.holds Try.pinned (OpenSpec.upto graphTargetsSpec)

/-- 'intagliolaw16.NestConstructs', WHERE WHAT IT READS IS OF BULK AT MOST 1048576: true; the input reads as it did. -/
def nestConstructsUptoRow : OpenClaim := { program := "ytjplhoollkeihaa", sum := "dafd18fa22b9152df7c17af9c4238da15d94d467fcc973f3b7224375b577622c", func := "intaglio/intagliolaw16.NestConstructs", spec := "nestConstructs", unfollowed := true, recurses := true, apart := false, narrowed := true }
def NestConstructsUptoSaid : Prop := nestConstructsUptoRow.holds Try.pinned (OpenSpec.upto nestConstructsSpec)

/-- 'intagliolaw16.NestNil', WHERE WHAT IT READS IS OF BULK AT MOST 1048576: true; the input reads as it did. -/
def nestNilUptoRow : OpenClaim := { program := "ytjplhoollkeihaa", sum := "dafd18fa22b9152df7c17af9c4238da15d94d467fcc973f3b7224375b577622c", func := "intaglio/intagliolaw16.NestNil", spec := "nestNil", unfollowed := true, recurses := true, apart := false, narrowed := true }
def NestNilUptoSaid : Prop := nestNilUptoRow.holds Try.pinned (OpenSpec.upto nestNilSpec)

/-- 'intagliolaw16.NestWithin', WHERE WHAT IT READS IS OF BULK AT MOST 1048576: true; the input reads as it did. -/
def nestWithinUptoRow : OpenClaim := { program := "ytjplhoollkeihaa", sum := "dafd18fa22b9152df7c17af9c4238da15d94d467fcc973f3b7224375b577622c", func := "intaglio/intagliolaw16.NestWithin", spec := "nestWithin", unfollowed := true, recurses := true, apart := false, narrowed := true }
def NestWithinUptoSaid : Prop := nestWithinUptoRow.holds Try.pinned (OpenSpec.upto nestWithinSpec)

/-- 'intagliolaw15.DomBacks', WHERE WHAT IT READS IS OF BULK AT MOST 1048576: true; the input reads as it did. -/
def domBacksUptoRow : OpenClaim := { program := "ytjplhoollkeihaa", sum := "dafd18fa22b9152df7c17af9c4238da15d94d467fcc973f3b7224375b577622c", func := "intaglio/intagliolaw15.DomBacks", spec := "domBacks", unfollowed := true, recurses := true, apart := false, narrowed := true }
def DomBacksUptoSaid : Prop := domBacksUptoRow.holds Try.pinned (OpenSpec.upto domBacksSpec)

/-- 'intagliolaw15.DomEdges', WHERE WHAT IT READS IS OF BULK AT MOST 1048576: true; the input reads as it did. -/
def domEdgesUptoRow : OpenClaim := { program := "ytjplhoollkeihaa", sum := "dafd18fa22b9152df7c17af9c4238da15d94d467fcc973f3b7224375b577622c", func := "intaglio/intagliolaw15.DomEdges", spec := "domEdges", unfollowed := true, recurses := true, apart := false, narrowed := true }
def DomEdgesUptoSaid : Prop := domEdgesUptoRow.holds Try.pinned (OpenSpec.upto domEdgesSpec)

/-- 'intagliolaw15.DomNil', WHERE WHAT IT READS IS OF BULK AT MOST 1048576: true; the input reads as it did. -/
def domNilUptoRow : OpenClaim := { program := "ytjplhoollkeihaa", sum := "dafd18fa22b9152df7c17af9c4238da15d94d467fcc973f3b7224375b577622c", func := "intaglio/intagliolaw15.DomNil", spec := "domNil", unfollowed := true, recurses := true, apart := false, narrowed := true }
def DomNilUptoSaid : Prop := domNilUptoRow.holds Try.pinned (OpenSpec.upto domNilSpec)

/-- 'intagliolaw17.CallsOf', WHERE WHAT IT READS IS OF BULK AT MOST 1048576: true; the input reads as it did. -/
def callsOfUptoRow : OpenClaim := { program := "ytjplhoollkeihaa", sum := "dafd18fa22b9152df7c17af9c4238da15d94d467fcc973f3b7224375b577622c", func := "intaglio/intagliolaw17.CallsOf", spec := "callsOf", unfollowed := true, recurses := true, apart := false, narrowed := true }
def CallsOfUptoSaid : Prop := callsOfUptoRow.holds Try.pinned (OpenSpec.upto callsOfSpec)

/-- 'intagliolaw17.CallsOrder', WHERE WHAT IT READS IS OF BULK AT MOST 1048576: true; the input reads as it did. -/
def callsOrderUptoRow : OpenClaim := { program := "ytjplhoollkeihaa", sum := "dafd18fa22b9152df7c17af9c4238da15d94d467fcc973f3b7224375b577622c", func := "intaglio/intagliolaw17.CallsOrder", spec := "callsOrder", unfollowed := true, recurses := true, apart := false, narrowed := true }
def CallsOrderUptoSaid : Prop := callsOrderUptoRow.holds Try.pinned (OpenSpec.upto callsOrderSpec)

end Rows
end Go.Proofs.Ytjplhoollkeihaa
