/-
  Printed by a program of the author: what each function comes to.
-/
import Derived.Test.YtocnlbhoibplbaaProg
import Derived.Test.YtocnlbhoibplbaaGkR
namespace Go.Proofs
open Go.Gk
set_option linter.unusedVariables false
set_option maxRecDepth 100000

def Try.fs : List Nat := [2, 3, 4, 5, 6, 7, 8, 9, 10, 11, 12, 13, 14, 15, 16, 17, 18, 19, 20, 21, 22, 23, 24, 25, 26, 27, 28, 29, 30, 31, 32, 33, 34, 35, 36, 37, 38, 39, 40, 41, 42, 43, 44, 45, 46, 47, 48, 49, 50, 51, 52, 53, 54, 55, 56, 57, 58, 59, 60, 61, 62, 63, 64, 65, 66, 67, 68, 69, 70, 71, 72, 73, 74, 75, 76, 77, 78, 79, 80, 81, 82, 83, 84, 85, 86, 87, 88, 89, 90, 91, 92, 93, 94, 95, 96, 97, 98, 99, 100, 101, 102, 103, 104, 105, 106, 107, 108, 109, 110, 111, 112, 113, 114, 115, 116, 117, 118, 119, 120, 121, 122, 123, 124, 125, 126, 127, 128, 129, 130, 132, 133]
theorem Try.fsOK : AllOK Try.prog Try.fs := ⟨Try.call2, ⟨Try.call3, ⟨Try.call4, ⟨Try.call5, ⟨Try.call6, ⟨Try.call7, ⟨Try.call8, ⟨Try.call9, ⟨Try.call10, ⟨Try.call11, ⟨Try.call12, ⟨Try.call13, ⟨Try.call14, ⟨Try.call15, ⟨Try.call16, ⟨Try.call17, ⟨Try.call18, ⟨Try.call19, ⟨Try.call20, ⟨Try.call21, ⟨Try.call22, ⟨Try.call23, ⟨Try.call24, ⟨Try.call25, ⟨Try.call26, ⟨Try.call27, ⟨Try.call28, ⟨Try.call29, ⟨Try.call30, ⟨Try.call31, ⟨Try.call32, ⟨Try.call33, ⟨Try.call34, ⟨Try.call35, ⟨Try.call36, ⟨Try.call37, ⟨Try.call38, ⟨Try.call39, ⟨Try.call40, ⟨Try.call41, ⟨Try.call42, ⟨Try.call43, ⟨Try.call44, ⟨Try.call45, ⟨Try.call46, ⟨Try.call47, ⟨Try.call48, ⟨Try.call49, ⟨Try.call50, ⟨Try.call51, ⟨Try.call52, ⟨Try.call53, ⟨Try.call54, ⟨Try.call55, ⟨Try.call56, ⟨Try.call57, ⟨Try.call58, ⟨Try.call59, ⟨Try.call60, ⟨Try.call61, ⟨Try.call62, ⟨Try.call63, ⟨Try.call64, ⟨Try.call65, ⟨Try.call66, ⟨Try.call67, ⟨Try.call68, ⟨Try.call69, ⟨Try.call70, ⟨Try.call71, ⟨Try.call72, ⟨Try.call73, ⟨Try.call74, ⟨Try.call75, ⟨Try.call76, ⟨Try.call77, ⟨Try.call78, ⟨Try.call79, ⟨Try.call80, ⟨Try.call81, ⟨Try.call82, ⟨Try.call83, ⟨Try.call84, ⟨Try.call85, ⟨Try.call86, ⟨Try.call87, ⟨Try.call88, ⟨Try.call89, ⟨Try.call90, ⟨Try.call91, ⟨Try.call92, ⟨Try.call93, ⟨Try.call94, ⟨Try.call95, ⟨Try.call96, ⟨Try.call97, ⟨Try.call98, ⟨Try.call99, ⟨Try.call100, ⟨Try.call101, ⟨Try.call102, ⟨Try.call103, ⟨Try.call104, ⟨Try.call105, ⟨Try.call106, ⟨Try.call107, ⟨Try.call108, ⟨Try.call109, ⟨Try.call110, ⟨Try.call111, ⟨Try.call112, ⟨Try.call113, ⟨Try.call114, ⟨Try.call115, ⟨Try.call116, ⟨Try.call117, ⟨Try.call118, ⟨Try.call119, ⟨Try.call120, ⟨Try.call121, ⟨Try.call122, ⟨Try.call123, ⟨Try.call124, ⟨Try.call125, ⟨Try.call126, ⟨Try.call127, ⟨Try.call128, ⟨Try.call129, ⟨Try.call130, ⟨Try.call132, ⟨Try.call133, trivial⟩⟩⟩⟩⟩⟩⟩⟩⟩⟩⟩⟩⟩⟩⟩⟩⟩⟩⟩⟩⟩⟩⟩⟩⟩⟩⟩⟩⟩⟩⟩⟩⟩⟩⟩⟩⟩⟩⟩⟩⟩⟩⟩⟩⟩⟩⟩⟩⟩⟩⟩⟩⟩⟩⟩⟩⟩⟩⟩⟩⟩⟩⟩⟩⟩⟩⟩⟩⟩⟩⟩⟩⟩⟩⟩⟩⟩⟩⟩⟩⟩⟩⟩⟩⟩⟩⟩⟩⟩⟩⟩⟩⟩⟩⟩⟩⟩⟩⟩⟩⟩⟩⟩⟩⟩⟩⟩⟩⟩⟩⟩⟩⟩⟩⟩⟩⟩⟩⟩⟩⟩⟩⟩⟩⟩⟩⟩⟩⟩⟩⟩
theorem Try.mixed : Try.prog.follows .mixedOrders = true := by kernel_rfl

end Go.Proofs
