/- FaceB, part 11; made small by a program. -/
import Derived.Test.YtnpdnjmpmeikiaaGreatDoorPFaceB10
set_option linter.unusedVariables false
namespace Go.Proofs.YtnpdnjmpmeikiaaGreatDoor
theorem zv5:Rows.FaceFitsCardSaid/\Rows.FaceMatchCardSaid:=
 ⟨faceFits_card,faceMatch_card⟩
end Go.Proofs.YtnpdnjmpmeikiaaGreatDoor
