/-
  DERIVED. GIVEN WITH THE SEED: THE CARDS: each row of YtnpdnjmpmeikiaaGreatDoorRows.lean that lists a variable, with what it lists TIED to the program's text (the seventh form; the later family's looks); each row that meets fmt, with fmt's text TOLD by the authors' own Lean function (tested against real Go, not proved from fmt's source: count such statements apart). THE CARD IS WHAT COUNTS. Prove the row's statement (the work); the ties are given (YtnpdnjmpmeikiaaGreatDoorTie.lean); close each card by the builder's one call (the guide's Derived/Test/ToyasCard.lean, 'card_holds'). Laid BY PROGRAM, IN A SANDBOX (cutbox-door.mjs). By AI agents, Wed Nov 11 2026. No macro, syntax, notation, axiom, sorry.
-/
import Derived.Test.YtnpdnjmpmeikiaaGreatDoorRows
import GoSem.ClaimSeven
namespace Go.Proofs.YtnpdnjmpmeikiaaGreatDoor
namespace Rows

/-- THE TIED CARD OF 'intagliolaw20.FaceSound'. -/
def faceSoundCard : Claim7 := { stood := { row := faceSoundRow, standIns := [], harness := (true, "997d909f6d23eb306fc7c3ba091def81477e7cba8869a52df5a9c11fd84edea7"), looks := false }, kinds := [], alts := [], laidByText := true, laidKinds := [.data, .data, .data], laidTests := true, laidLooks := .later }
def FaceSoundCardSaid : Prop := Claim7.holds Tryz.pinned (.plain (OpenSpec.ofChange faceSoundSpec)) faceSoundCard

/-- THE TIED CARD OF 'intagliolaw20.FaceFits'. -/
def faceFitsCard : Claim7 := { stood := { row := faceFitsRow, standIns := [], harness := (true, "997d909f6d23eb306fc7c3ba091def81477e7cba8869a52df5a9c11fd84edea7"), looks := false }, kinds := [], alts := [], laidByText := true, laidKinds := [.data, .data, .data], laidTests := true, laidLooks := .later }
def FaceFitsCardSaid : Prop := Claim7.holds Tryz.pinned (.plain (OpenSpec.ofChange faceFitsSpec)) faceFitsCard

/-- THE TIED CARD OF 'intagliolaw20.FaceMatch'. -/
def faceMatchCard : Claim7 := { stood := { row := faceMatchRow, standIns := [], harness := (true, "997d909f6d23eb306fc7c3ba091def81477e7cba8869a52df5a9c11fd84edea7"), looks := false }, kinds := [], alts := [], laidByText := true, laidKinds := [.data, .data, .data], laidTests := true, laidLooks := .later }
def FaceMatchCardSaid : Prop := Claim7.holds Tryz.pinned (.plain (OpenSpec.ofChange faceMatchSpec)) faceMatchCard

/-- THE TIED CARD OF 'intagliolaw20.FaceRenamed'. -/
def faceRenamedCard : Claim7 := { stood := { row := faceRenamedRow, standIns := [], harness := (true, "997d909f6d23eb306fc7c3ba091def81477e7cba8869a52df5a9c11fd84edea7"), looks := false }, kinds := [], alts := [], laidByText := true, laidKinds := [.data, .data, .data], laidTests := true, laidLooks := .later }
def FaceRenamedCardSaid : Prop := Claim7.holds Tryz.pinned (.plain (OpenSpec.ofChange faceRenamedSpec)) faceRenamedCard

/-- THE TIED CARD OF 'intagliolaw20.FaceSlots'. -/
def faceSlotsCard : Claim7 := { stood := { row := faceSlotsRow, standIns := [], harness := (true, "997d909f6d23eb306fc7c3ba091def81477e7cba8869a52df5a9c11fd84edea7"), looks := false }, kinds := [], alts := [], laidByText := true, laidKinds := [.data, .data, .data], laidTests := true, laidLooks := .later }
def FaceSlotsCardSaid : Prop := Claim7.holds Tryz.pinned (.plain (OpenSpec.ofChange faceSlotsSpec)) faceSlotsCard

/-- THE SECOND FORM's CARD OF 'intagliolaw20.FaceSound'. -/
def faceSoundUptoCard : Claim7 := { stood := { row := faceSoundUptoRow, standIns := [], harness := (true, "997d909f6d23eb306fc7c3ba091def81477e7cba8869a52df5a9c11fd84edea7"), looks := false }, kinds := [], alts := [], laidByText := true, laidKinds := [.data, .data, .data], laidTests := true, laidLooks := .later }
def FaceSoundUptoCardSaid : Prop := Claim7.holds Tryz.pinned (.plain (OpenSpec.upto faceSoundSpec)) faceSoundUptoCard

/-- THE SECOND FORM's CARD OF 'intagliolaw20.FaceFits'. -/
def faceFitsUptoCard : Claim7 := { stood := { row := faceFitsUptoRow, standIns := [], harness := (true, "997d909f6d23eb306fc7c3ba091def81477e7cba8869a52df5a9c11fd84edea7"), looks := false }, kinds := [], alts := [], laidByText := true, laidKinds := [.data, .data, .data], laidTests := true, laidLooks := .later }
def FaceFitsUptoCardSaid : Prop := Claim7.holds Tryz.pinned (.plain (OpenSpec.upto faceFitsSpec)) faceFitsUptoCard

/-- THE SECOND FORM's CARD OF 'intagliolaw20.FaceMatch'. -/
def faceMatchUptoCard : Claim7 := { stood := { row := faceMatchUptoRow, standIns := [], harness := (true, "997d909f6d23eb306fc7c3ba091def81477e7cba8869a52df5a9c11fd84edea7"), looks := false }, kinds := [], alts := [], laidByText := true, laidKinds := [.data, .data, .data], laidTests := true, laidLooks := .later }
def FaceMatchUptoCardSaid : Prop := Claim7.holds Tryz.pinned (.plain (OpenSpec.upto faceMatchSpec)) faceMatchUptoCard

/-- THE SECOND FORM's CARD OF 'intagliolaw20.FaceRenamed'. -/
def faceRenamedUptoCard : Claim7 := { stood := { row := faceRenamedUptoRow, standIns := [], harness := (true, "997d909f6d23eb306fc7c3ba091def81477e7cba8869a52df5a9c11fd84edea7"), looks := false }, kinds := [], alts := [], laidByText := true, laidKinds := [.data, .data, .data], laidTests := true, laidLooks := .later }
def FaceRenamedUptoCardSaid : Prop := Claim7.holds Tryz.pinned (.plain (OpenSpec.upto faceRenamedSpec)) faceRenamedUptoCard

/-- THE SECOND FORM's CARD OF 'intagliolaw20.FaceSlots'. -/
def faceSlotsUptoCard : Claim7 := { stood := { row := faceSlotsUptoRow, standIns := [], harness := (true, "997d909f6d23eb306fc7c3ba091def81477e7cba8869a52df5a9c11fd84edea7"), looks := false }, kinds := [], alts := [], laidByText := true, laidKinds := [.data, .data, .data], laidTests := true, laidLooks := .later }
def FaceSlotsUptoCardSaid : Prop := Claim7.holds Tryz.pinned (.plain (OpenSpec.upto faceSlotsSpec)) faceSlotsUptoCard
end Rows
end Go.Proofs.YtnpdnjmpmeikiaaGreatDoor
