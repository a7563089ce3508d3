/-
  PIECES OF A CLOSED FUNCTION, reckoned. No condition.
-/
import Derived.Test.YtkbmmoobcikbaaaGreatDoorPcS
namespace Go.Proofs.YtkbmmoobcikbaaaGreatDoor.Ev
open Go
set_option maxRecDepth 1000000
noncomputable def tbK_21 : Tb := tbOf tys fns eqs (hkL ([(7, atsH [at10])] ++ hksK)) mths
theorem pc21 : pieceS tbK_21 171 (callT tbK_21 60) 28 [0, 1, 2, 4, 29, 30, 31, 81, 82, 83, 84, 87, 88, 89, 90, 93, 94, 95, 96, 97, 98, 99, 102, 103, 104, 105, 106] [1016, 1094, 165335, 186640, 186641, 186643, 192103, 192104] st21 = some st22 := by kernel_rfl
noncomputable def tbK_22 : Tb := tbOf tys fns eqs (hkL ([(7, atsH [at11])] ++ hksK)) mths
theorem pc22 : pieceS tbK_22 171 (callT tbK_22 60) 28 [0, 1, 2, 4, 29, 30, 31, 81, 82, 83, 84, 87, 88, 89, 90, 93, 94, 95, 96, 97, 98, 99, 102, 103, 104, 105, 106] [1016, 1094, 165335, 197292, 197293, 197295, 202755, 202756] st22 = some st23 := by kernel_rfl
theorem pc23 : pieceS tbK 171 (callT tbK 60) 254 [0, 10, 125, 126, 127, 128, 129, 130, 131, 151, 152, 153, 154, 155, 156] [212924, 213166] st23 = some st24 := by kernel_rfl
end Go.Proofs.YtkbmmoobcikbaaaGreatDoor.Ev
