/- ConstsFive, part 10; made small by a program. -/
import Derived.Test.YtnplhdcedgcdhaaGreatDoorPConstsFive9
set_option linter.unusedVariables false
namespace Go.Proofs.YtnplhdcedgcdhaaGreatDoor
theorem consts_five : Rows.ConstsNewCardSaid/\Rows.ConstsValuesCardSaid/\Rows.ConstsVariablesCardSaid/\Rows.ConstsFindsCardSaid/\Rows.ConstsNilCardSaid:=
 ⟨constsNew_card,constsValues_card,constsVariables_card,constsFinds_card,constsNil_card⟩
end Go.Proofs.YtnplhdcedgcdhaaGreatDoor
