/-
  PIECES OF A CLOSED FUNCTION, reckoned. No condition.
-/
import Derived.Test.YtkbmmoobcikbaaaGreatDoorPcS
namespace Go.Proofs.YtkbmmoobcikbaaaGreatDoor.Ev
open Go
set_option maxRecDepth 1000000
noncomputable def tbK_18 : Tb := tbOf tys fns eqs (hkL ([(7, atsH [at7])] ++ hksK)) mths
theorem pc18 : pieceS tbK_18 171 (callT tbK_18 60) 28 [0, 1, 2, 4, 29, 30, 31, 81, 82, 83, 84, 87, 88, 89, 90, 93, 94, 95, 96, 97, 98, 99, 102, 103, 104, 105, 106] [1016, 1094, 122710, 154679, 154680, 154682, 160146, 160147] st18 = some st19 := by kernel_rfl
noncomputable def tbK_19 : Tb := tbOf tys fns eqs (hkL ([(7, atsH [at8])] ++ hksK)) mths
theorem pc19 : pieceS tbK_19 171 (callT tbK_19 60) 50 [0, 1, 2, 4, 29, 30, 31, 81, 82, 83, 84, 87, 88, 89, 90, 93, 94, 95, 96, 97, 98, 99, 102, 103, 104, 105, 106] [1016, 1094, 165335, 165336, 165337, 165339, 170799, 170800] st19 = some st20 := by kernel_rfl
noncomputable def tbK_20 : Tb := tbOf tys fns eqs (hkL ([(7, atsH [at9])] ++ hksK)) mths
theorem pc20 : pieceS tbK_20 171 (callT tbK_20 60) 28 [0, 1, 2, 4, 29, 30, 31, 81, 82, 83, 84, 87, 88, 89, 90, 93, 94, 95, 96, 97, 98, 99, 102, 103, 104, 105, 106] [1016, 1094, 165335, 175988, 175989, 175991, 181451, 181452] st20 = some st21 := by kernel_rfl
end Go.Proofs.YtkbmmoobcikbaaaGreatDoor.Ev
