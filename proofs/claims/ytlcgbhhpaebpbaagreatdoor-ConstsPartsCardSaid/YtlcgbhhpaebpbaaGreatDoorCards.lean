/-
  DERIVED. GIVEN WITH THE SEED: THE CARDS: each row of YtlcgbhhpaebpbaaGreatDoorRows.lean that lists a variable, with what it lists TIED to the program's text (the seventh form; the later family's looks); each row that meets fmt, with fmt's text TOLD by the authors' own Lean function (tested against real Go, not proved from fmt's source: count such statements apart). THE CARD IS WHAT COUNTS. Prove the row's statement (the work); the ties are given (YtlcgbhhpaebpbaaGreatDoorTie.lean); close each card by the builder's one call (the guide's Derived/Test/ToyasCard.lean, 'card_holds'). Laid BY PROGRAM, IN A SANDBOX (cutbox-door.mjs). By AI agents, Wed Nov 11 2026. No macro, syntax, notation, axiom, sorry.
-/
import Derived.Test.YtlcgbhhpaebpbaaGreatDoorRows
import GoSem.ClaimSeven
namespace Go.Proofs.YtlcgbhhpaebpbaaGreatDoor
namespace Rows

/-- THE TIED CARD OF 'intagliolaw11.ConstsValues'. -/
def constsValuesCard : Claim7 := { stood := { row := constsValuesRow, standIns := [], harness := (true, "a769fd08ef0e7aeb3f5f8dcb7f918c38f74fde3a16b132ed936a0e56c71e81db"), looks := false }, kinds := [], alts := [], laidByText := true, laidKinds := [.data, .data, .data], laidTests := true, laidLooks := .later }
def ConstsValuesCardSaid : Prop := Claim7.holds Tryz.pinned (.plain (OpenSpec.ofChange constsValuesSpec)) constsValuesCard

/-- THE TIED CARD OF 'intagliolaw11.ConstsVariables'. -/
def constsVariablesCard : Claim7 := { stood := { row := constsVariablesRow, standIns := [], harness := (true, "a769fd08ef0e7aeb3f5f8dcb7f918c38f74fde3a16b132ed936a0e56c71e81db"), looks := false }, kinds := [], alts := [], laidByText := true, laidKinds := [.data, .data, .data], laidTests := true, laidLooks := .later }
def ConstsVariablesCardSaid : Prop := Claim7.holds Tryz.pinned (.plain (OpenSpec.ofChange constsVariablesSpec)) constsVariablesCard

/-- THE TIED CARD OF 'intagliolaw11.ConstsNew'. -/
def constsNewCard : Claim7 := { stood := { row := constsNewRow, standIns := [], harness := (true, "a769fd08ef0e7aeb3f5f8dcb7f918c38f74fde3a16b132ed936a0e56c71e81db"), looks := false }, kinds := [], alts := [], laidByText := true, laidKinds := [.data, .data, .data], laidTests := true, laidLooks := .later }
def ConstsNewCardSaid : Prop := Claim7.holds Tryz.pinned (.plain (OpenSpec.ofChange constsNewSpec)) constsNewCard

/-- THE TIED CARD OF 'intagliolaw11.ConstsParts'. -/
def constsPartsCard : Claim7 := { stood := { row := constsPartsRow, standIns := [], harness := (true, "a769fd08ef0e7aeb3f5f8dcb7f918c38f74fde3a16b132ed936a0e56c71e81db"), looks := false }, kinds := [], alts := [], laidByText := true, laidKinds := [.data, .data, .data], laidTests := true, laidLooks := .later }
def ConstsPartsCardSaid : Prop := Claim7.holds Tryz.pinned (.plain (OpenSpec.ofChange constsPartsSpec)) constsPartsCard

/-- THE TIED CARD OF 'intagliolaw11.ConstsFinds'. -/
def constsFindsCard : Claim7 := { stood := { row := constsFindsRow, standIns := [], harness := (true, "a769fd08ef0e7aeb3f5f8dcb7f918c38f74fde3a16b132ed936a0e56c71e81db"), looks := false }, kinds := [], alts := [], laidByText := true, laidKinds := [.data, .data, .data], laidTests := true, laidLooks := .later }
def ConstsFindsCardSaid : Prop := Claim7.holds Tryz.pinned (.plain (OpenSpec.ofChange constsFindsSpec)) constsFindsCard

/-- THE TIED CARD OF 'intagliolaw11.ConstsNil'. -/
def constsNilCard : Claim7 := { stood := { row := constsNilRow, standIns := [], harness := (true, "a769fd08ef0e7aeb3f5f8dcb7f918c38f74fde3a16b132ed936a0e56c71e81db"), looks := false }, kinds := [], alts := [], laidByText := true, laidKinds := [.data, .data, .data], laidTests := true, laidLooks := .later }
def ConstsNilCardSaid : Prop := Claim7.holds Tryz.pinned (.plain (OpenSpec.ofChange constsNilSpec)) constsNilCard

/-- THE TIED CARD OF 'intagliolaw11.ConstsRenamed'. -/
def constsRenamedCard : Claim7 := { stood := { row := constsRenamedRow, standIns := [], harness := (true, "a769fd08ef0e7aeb3f5f8dcb7f918c38f74fde3a16b132ed936a0e56c71e81db"), looks := false }, kinds := [], alts := [], laidByText := true, laidKinds := [.data, .data, .data], laidTests := true, laidLooks := .later }
def ConstsRenamedCardSaid : Prop := Claim7.holds Tryz.pinned (.plain (OpenSpec.ofChange constsRenamedSpec)) constsRenamedCard

/-- THE TIED CARD OF 'intagliolaw20.FaceSound'. -/
def faceSoundCard : Claim7 := { stood := { row := faceSoundRow, standIns := [], harness := (true, "a769fd08ef0e7aeb3f5f8dcb7f918c38f74fde3a16b132ed936a0e56c71e81db"), looks := false }, kinds := [], alts := [], laidByText := true, laidKinds := [.data, .data, .data], laidTests := true, laidLooks := .later }
def FaceSoundCardSaid : Prop := Claim7.holds Tryz.pinned (.plain (OpenSpec.ofChange faceSoundSpec)) faceSoundCard

/-- THE TIED CARD OF 'intagliolaw20.FaceFits'. -/
def faceFitsCard : Claim7 := { stood := { row := faceFitsRow, standIns := [], harness := (true, "a769fd08ef0e7aeb3f5f8dcb7f918c38f74fde3a16b132ed936a0e56c71e81db"), looks := false }, kinds := [], alts := [], laidByText := true, laidKinds := [.data, .data, .data], laidTests := true, laidLooks := .later }
def FaceFitsCardSaid : Prop := Claim7.holds Tryz.pinned (.plain (OpenSpec.ofChange faceFitsSpec)) faceFitsCard

/-- THE TIED CARD OF 'intagliolaw20.FaceMatch'. -/
def faceMatchCard : Claim7 := { stood := { row := faceMatchRow, standIns := [], harness := (true, "a769fd08ef0e7aeb3f5f8dcb7f918c38f74fde3a16b132ed936a0e56c71e81db"), looks := false }, kinds := [], alts := [], laidByText := true, laidKinds := [.data, .data, .data], laidTests := true, laidLooks := .later }
def FaceMatchCardSaid : Prop := Claim7.holds Tryz.pinned (.plain (OpenSpec.ofChange faceMatchSpec)) faceMatchCard

/-- THE TIED CARD OF 'intagliolaw20.FaceRenamed'. -/
def faceRenamedCard : Claim7 := { stood := { row := faceRenamedRow, standIns := [], harness := (true, "a769fd08ef0e7aeb3f5f8dcb7f918c38f74fde3a16b132ed936a0e56c71e81db"), looks := false }, kinds := [], alts := [], laidByText := true, laidKinds := [.data, .data, .data], laidTests := true, laidLooks := .later }
def FaceRenamedCardSaid : Prop := Claim7.holds Tryz.pinned (.plain (OpenSpec.ofChange faceRenamedSpec)) faceRenamedCard

/-- THE TIED CARD OF 'intagliolaw20.FaceSlots'. -/
def faceSlotsCard : Claim7 := { stood := { row := faceSlotsRow, standIns := [], harness := (true, "a769fd08ef0e7aeb3f5f8dcb7f918c38f74fde3a16b132ed936a0e56c71e81db"), looks := false }, kinds := [], alts := [], laidByText := true, laidKinds := [.data, .data, .data], laidTests := true, laidLooks := .later }
def FaceSlotsCardSaid : Prop := Claim7.holds Tryz.pinned (.plain (OpenSpec.ofChange faceSlotsSpec)) faceSlotsCard

/-- THE SECOND FORM's CARD OF 'intagliolaw11.ConstsValues'. -/
def constsValuesUptoCard : Claim7 := { stood := { row := constsValuesUptoRow, standIns := [], harness := (true, "a769fd08ef0e7aeb3f5f8dcb7f918c38f74fde3a16b132ed936a0e56c71e81db"), looks := false }, kinds := [], alts := [], laidByText := true, laidKinds := [.data, .data, .data], laidTests := true, laidLooks := .later }
def ConstsValuesUptoCardSaid : Prop := Claim7.holds Tryz.pinned (.plain (OpenSpec.upto constsValuesSpec)) constsValuesUptoCard

/-- THE SECOND FORM's CARD OF 'intagliolaw11.ConstsVariables'. -/
def constsVariablesUptoCard : Claim7 := { stood := { row := constsVariablesUptoRow, standIns := [], harness := (true, "a769fd08ef0e7aeb3f5f8dcb7f918c38f74fde3a16b132ed936a0e56c71e81db"), looks := false }, kinds := [], alts := [], laidByText := true, laidKinds := [.data, .data, .data], laidTests := true, laidLooks := .later }
def ConstsVariablesUptoCardSaid : Prop := Claim7.holds Tryz.pinned (.plain (OpenSpec.upto constsVariablesSpec)) constsVariablesUptoCard

/-- THE SECOND FORM's CARD OF 'intagliolaw11.ConstsNew'. -/
def constsNewUptoCard : Claim7 := { stood := { row := constsNewUptoRow, standIns := [], harness := (true, "a769fd08ef0e7aeb3f5f8dcb7f918c38f74fde3a16b132ed936a0e56c71e81db"), looks := false }, kinds := [], alts := [], laidByText := true, laidKinds := [.data, .data, .data], laidTests := true, laidLooks := .later }
def ConstsNewUptoCardSaid : Prop := Claim7.holds Tryz.pinned (.plain (OpenSpec.upto constsNewSpec)) constsNewUptoCard

/-- THE SECOND FORM's CARD OF 'intagliolaw11.ConstsParts'. -/
def constsPartsUptoCard : Claim7 := { stood := { row := constsPartsUptoRow, standIns := [], harness := (true, "a769fd08ef0e7aeb3f5f8dcb7f918c38f74fde3a16b132ed936a0e56c71e81db"), looks := false }, kinds := [], alts := [], laidByText := true, laidKinds := [.data, .data, .data], laidTests := true, laidLooks := .later }
def ConstsPartsUptoCardSaid : Prop := Claim7.holds Tryz.pinned (.plain (OpenSpec.upto constsPartsSpec)) constsPartsUptoCard

/-- THE SECOND FORM's CARD OF 'intagliolaw11.ConstsFinds'. -/
def constsFindsUptoCard : Claim7 := { stood := { row := constsFindsUptoRow, standIns := [], harness := (true, "a769fd08ef0e7aeb3f5f8dcb7f918c38f74fde3a16b132ed936a0e56c71e81db"), looks := false }, kinds := [], alts := [], laidByText := true, laidKinds := [.data, .data, .data], laidTests := true, laidLooks := .later }
def ConstsFindsUptoCardSaid : Prop := Claim7.holds Tryz.pinned (.plain (OpenSpec.upto constsFindsSpec)) constsFindsUptoCard

/-- THE SECOND FORM's CARD OF 'intagliolaw11.ConstsNil'. -/
def constsNilUptoCard : Claim7 := { stood := { row := constsNilUptoRow, standIns := [], harness := (true, "a769fd08ef0e7aeb3f5f8dcb7f918c38f74fde3a16b132ed936a0e56c71e81db"), looks := false }, kinds := [], alts := [], laidByText := true, laidKinds := [.data, .data, .data], laidTests := true, laidLooks := .later }
def ConstsNilUptoCardSaid : Prop := Claim7.holds Tryz.pinned (.plain (OpenSpec.upto constsNilSpec)) constsNilUptoCard

/-- THE SECOND FORM's CARD OF 'intagliolaw11.ConstsRenamed'. -/
def constsRenamedUptoCard : Claim7 := { stood := { row := constsRenamedUptoRow, standIns := [], harness := (true, "a769fd08ef0e7aeb3f5f8dcb7f918c38f74fde3a16b132ed936a0e56c71e81db"), looks := false }, kinds := [], alts := [], laidByText := true, laidKinds := [.data, .data, .data], laidTests := true, laidLooks := .later }
def ConstsRenamedUptoCardSaid : Prop := Claim7.holds Tryz.pinned (.plain (OpenSpec.upto constsRenamedSpec)) constsRenamedUptoCard

/-- THE SECOND FORM's CARD OF 'intagliolaw20.FaceSound'. -/
def faceSoundUptoCard : Claim7 := { stood := { row := faceSoundUptoRow, standIns := [], harness := (true, "a769fd08ef0e7aeb3f5f8dcb7f918c38f74fde3a16b132ed936a0e56c71e81db"), looks := false }, kinds := [], alts := [], laidByText := true, laidKinds := [.data, .data, .data], laidTests := true, laidLooks := .later }
def FaceSoundUptoCardSaid : Prop := Claim7.holds Tryz.pinned (.plain (OpenSpec.upto faceSoundSpec)) faceSoundUptoCard

/-- THE SECOND FORM's CARD OF 'intagliolaw20.FaceFits'. -/
def faceFitsUptoCard : Claim7 := { stood := { row := faceFitsUptoRow, standIns := [], harness := (true, "a769fd08ef0e7aeb3f5f8dcb7f918c38f74fde3a16b132ed936a0e56c71e81db"), looks := false }, kinds := [], alts := [], laidByText := true, laidKinds := [.data, .data, .data], laidTests := true, laidLooks := .later }
def FaceFitsUptoCardSaid : Prop := Claim7.holds Tryz.pinned (.plain (OpenSpec.upto faceFitsSpec)) faceFitsUptoCard

/-- THE SECOND FORM's CARD OF 'intagliolaw20.FaceMatch'. -/
def faceMatchUptoCard : Claim7 := { stood := { row := faceMatchUptoRow, standIns := [], harness := (true, "a769fd08ef0e7aeb3f5f8dcb7f918c38f74fde3a16b132ed936a0e56c71e81db"), looks := false }, kinds := [], alts := [], laidByText := true, laidKinds := [.data, .data, .data], laidTests := true, laidLooks := .later }
def FaceMatchUptoCardSaid : Prop := Claim7.holds Tryz.pinned (.plain (OpenSpec.upto faceMatchSpec)) faceMatchUptoCard

/-- THE SECOND FORM's CARD OF 'intagliolaw20.FaceRenamed'. -/
def faceRenamedUptoCard : Claim7 := { stood := { row := faceRenamedUptoRow, standIns := [], harness := (true, "a769fd08ef0e7aeb3f5f8dcb7f918c38f74fde3a16b132ed936a0e56c71e81db"), looks := false }, kinds := [], alts := [], laidByText := true, laidKinds := [.data, .data, .data], laidTests := true, laidLooks := .later }
def FaceRenamedUptoCardSaid : Prop := Claim7.holds Tryz.pinned (.plain (OpenSpec.upto faceRenamedSpec)) faceRenamedUptoCard

/-- THE SECOND FORM's CARD OF 'intagliolaw20.FaceSlots'. -/
def faceSlotsUptoCard : Claim7 := { stood := { row := faceSlotsUptoRow, standIns := [], harness := (true, "a769fd08ef0e7aeb3f5f8dcb7f918c38f74fde3a16b132ed936a0e56c71e81db"), looks := false }, kinds := [], alts := [], laidByText := true, laidKinds := [.data, .data, .data], laidTests := true, laidLooks := .later }
def FaceSlotsUptoCardSaid : Prop := Claim7.holds Tryz.pinned (.plain (OpenSpec.upto faceSlotsSpec)) faceSlotsUptoCard
end Rows
end Go.Proofs.YtlcgbhhpaebpbaaGreatDoor
