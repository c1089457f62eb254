/-
  DERIVED. GIVEN WITH THE SEED: THE CARDS: each row of YtnplhdcedgcdhaaGreatDoorRows.lean that lists a variable, with what it lists TIED to the program's text (the seventh form; the later family's looks); each row that meets fmt, with fmt's text TOLD by the authors' own Lean function (tested against real Go, not proved from fmt's source: count such statements apart). THE CARD IS WHAT COUNTS. Prove the row's statement (the work); the ties are given (YtnplhdcedgcdhaaGreatDoorTie.lean); close each card by the builder's one call (the guide's Derived/Test/ToyasCard.lean, 'card_holds'). Laid BY PROGRAM, IN A SANDBOX (cutbox-door.mjs). By AI agents, Wed Nov 11 2026. No macro, syntax, notation, axiom, sorry.
-/
import Derived.Test.YtnplhdcedgcdhaaGreatDoorRows
import GoSem.ClaimSeven
namespace Go.Proofs.YtnplhdcedgcdhaaGreatDoor
namespace Rows

/-- THE TIED CARD OF 'intagliolaw11.ConstsValues'. -/
def constsValuesCard : Claim7 := { stood := { row := constsValuesRow, standIns := [], harness := (true, "8a010f4f8f2fefd57175bf440a756b0d656fdf6d16974c6464dcabcb33baadfe"), looks := false }, kinds := [], alts := [], laidByText := true, laidKinds := [.data, .data, .data], laidTests := true, laidLooks := .later }
def ConstsValuesCardSaid : Prop := Claim7.holds Tryz.pinned (.plain (OpenSpec.ofChange constsValuesSpec)) constsValuesCard

/-- THE TIED CARD OF 'intagliolaw11.ConstsVariables'. -/
def constsVariablesCard : Claim7 := { stood := { row := constsVariablesRow, standIns := [], harness := (true, "8a010f4f8f2fefd57175bf440a756b0d656fdf6d16974c6464dcabcb33baadfe"), looks := false }, kinds := [], alts := [], laidByText := true, laidKinds := [.data, .data, .data], laidTests := true, laidLooks := .later }
def ConstsVariablesCardSaid : Prop := Claim7.holds Tryz.pinned (.plain (OpenSpec.ofChange constsVariablesSpec)) constsVariablesCard

/-- THE TIED CARD OF 'intagliolaw11.ConstsNew'. -/
def constsNewCard : Claim7 := { stood := { row := constsNewRow, standIns := [], harness := (true, "8a010f4f8f2fefd57175bf440a756b0d656fdf6d16974c6464dcabcb33baadfe"), looks := false }, kinds := [], alts := [], laidByText := true, laidKinds := [.data, .data, .data], laidTests := true, laidLooks := .later }
def ConstsNewCardSaid : Prop := Claim7.holds Tryz.pinned (.plain (OpenSpec.ofChange constsNewSpec)) constsNewCard

/-- THE TIED CARD OF 'intagliolaw11.ConstsFinds'. -/
def constsFindsCard : Claim7 := { stood := { row := constsFindsRow, standIns := [], harness := (true, "8a010f4f8f2fefd57175bf440a756b0d656fdf6d16974c6464dcabcb33baadfe"), looks := false }, kinds := [], alts := [], laidByText := true, laidKinds := [.data, .data, .data], laidTests := true, laidLooks := .later }
def ConstsFindsCardSaid : Prop := Claim7.holds Tryz.pinned (.plain (OpenSpec.ofChange constsFindsSpec)) constsFindsCard

/-- THE TIED CARD OF 'intagliolaw11.ConstsNil'. -/
def constsNilCard : Claim7 := { stood := { row := constsNilRow, standIns := [], harness := (true, "8a010f4f8f2fefd57175bf440a756b0d656fdf6d16974c6464dcabcb33baadfe"), looks := false }, kinds := [], alts := [], laidByText := true, laidKinds := [.data, .data, .data], laidTests := true, laidLooks := .later }
def ConstsNilCardSaid : Prop := Claim7.holds Tryz.pinned (.plain (OpenSpec.ofChange constsNilSpec)) constsNilCard

/-- THE TIED CARD OF 'intagliolaw11.ConstsRenamed'. -/
def constsRenamedCard : Claim7 := { stood := { row := constsRenamedRow, standIns := [], harness := (true, "8a010f4f8f2fefd57175bf440a756b0d656fdf6d16974c6464dcabcb33baadfe"), looks := false }, kinds := [], alts := [], laidByText := true, laidKinds := [.data, .data, .data], laidTests := true, laidLooks := .later }
def ConstsRenamedCardSaid : Prop := Claim7.holds Tryz.pinned (.plain (OpenSpec.ofChange constsRenamedSpec)) constsRenamedCard

/-- THE SECOND FORM's CARD OF 'intagliolaw11.ConstsValues'. -/
def constsValuesUptoCard : Claim7 := { stood := { row := constsValuesUptoRow, standIns := [], harness := (true, "8a010f4f8f2fefd57175bf440a756b0d656fdf6d16974c6464dcabcb33baadfe"), looks := false }, kinds := [], alts := [], laidByText := true, laidKinds := [.data, .data, .data], laidTests := true, laidLooks := .later }
def ConstsValuesUptoCardSaid : Prop := Claim7.holds Tryz.pinned (.plain (OpenSpec.upto constsValuesSpec)) constsValuesUptoCard

/-- THE SECOND FORM's CARD OF 'intagliolaw11.ConstsVariables'. -/
def constsVariablesUptoCard : Claim7 := { stood := { row := constsVariablesUptoRow, standIns := [], harness := (true, "8a010f4f8f2fefd57175bf440a756b0d656fdf6d16974c6464dcabcb33baadfe"), looks := false }, kinds := [], alts := [], laidByText := true, laidKinds := [.data, .data, .data], laidTests := true, laidLooks := .later }
def ConstsVariablesUptoCardSaid : Prop := Claim7.holds Tryz.pinned (.plain (OpenSpec.upto constsVariablesSpec)) constsVariablesUptoCard

/-- THE SECOND FORM's CARD OF 'intagliolaw11.ConstsNew'. -/
def constsNewUptoCard : Claim7 := { stood := { row := constsNewUptoRow, standIns := [], harness := (true, "8a010f4f8f2fefd57175bf440a756b0d656fdf6d16974c6464dcabcb33baadfe"), looks := false }, kinds := [], alts := [], laidByText := true, laidKinds := [.data, .data, .data], laidTests := true, laidLooks := .later }
def ConstsNewUptoCardSaid : Prop := Claim7.holds Tryz.pinned (.plain (OpenSpec.upto constsNewSpec)) constsNewUptoCard

/-- THE SECOND FORM's CARD OF 'intagliolaw11.ConstsFinds'. -/
def constsFindsUptoCard : Claim7 := { stood := { row := constsFindsUptoRow, standIns := [], harness := (true, "8a010f4f8f2fefd57175bf440a756b0d656fdf6d16974c6464dcabcb33baadfe"), looks := false }, kinds := [], alts := [], laidByText := true, laidKinds := [.data, .data, .data], laidTests := true, laidLooks := .later }
def ConstsFindsUptoCardSaid : Prop := Claim7.holds Tryz.pinned (.plain (OpenSpec.upto constsFindsSpec)) constsFindsUptoCard

/-- THE SECOND FORM's CARD OF 'intagliolaw11.ConstsNil'. -/
def constsNilUptoCard : Claim7 := { stood := { row := constsNilUptoRow, standIns := [], harness := (true, "8a010f4f8f2fefd57175bf440a756b0d656fdf6d16974c6464dcabcb33baadfe"), looks := false }, kinds := [], alts := [], laidByText := true, laidKinds := [.data, .data, .data], laidTests := true, laidLooks := .later }
def ConstsNilUptoCardSaid : Prop := Claim7.holds Tryz.pinned (.plain (OpenSpec.upto constsNilSpec)) constsNilUptoCard

/-- THE SECOND FORM's CARD OF 'intagliolaw11.ConstsRenamed'. -/
def constsRenamedUptoCard : Claim7 := { stood := { row := constsRenamedUptoRow, standIns := [], harness := (true, "8a010f4f8f2fefd57175bf440a756b0d656fdf6d16974c6464dcabcb33baadfe"), looks := false }, kinds := [], alts := [], laidByText := true, laidKinds := [.data, .data, .data], laidTests := true, laidLooks := .later }
def ConstsRenamedUptoCardSaid : Prop := Claim7.holds Tryz.pinned (.plain (OpenSpec.upto constsRenamedSpec)) constsRenamedUptoCard
end Rows
end Go.Proofs.YtnplhdcedgcdhaaGreatDoor
