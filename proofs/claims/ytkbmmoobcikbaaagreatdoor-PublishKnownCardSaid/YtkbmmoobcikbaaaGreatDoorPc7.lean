/-
  PIECES OF A CLOSED FUNCTION, reckoned. No condition.
-/
import Derived.Test.YtkbmmoobcikbaaaGreatDoorPcS
namespace Go.Proofs.YtkbmmoobcikbaaaGreatDoor.Ev
open Go
set_option maxRecDepth 1000000
noncomputable def tbK_12 : Tb := tbOf tys fns eqs (hkL ([(7, atsH [at1])] ++ hksK)) mths
theorem pc12 : pieceS tbK_12 171 (callT tbK_12 60) 28 [0, 1, 2, 4, 29, 30, 31, 81, 82, 83, 84, 87, 88, 89, 90, 93, 94, 95, 96, 97, 98, 99, 102, 103, 104, 105, 106] [1016, 1094, 80085, 90742, 90743, 90745, 96209, 96210] st12 = some st13 := by kernel_rfl
noncomputable def tbK_13 : Tb := tbOf tys fns eqs (hkL ([(7, atsH [at2])] ++ hksK)) mths
theorem pc13 : pieceS tbK_13 171 (callT tbK_13 60) 28 [0, 1, 2, 4, 29, 30, 31, 81, 82, 83, 84, 87, 88, 89, 90, 93, 94, 95, 96, 97, 98, 99, 102, 103, 104, 105, 106] [1016, 1094, 80085, 101398, 101399, 101401, 106865, 106866] st13 = some st14 := by kernel_rfl
noncomputable def tbK_14 : Tb := tbOf tys fns eqs (hkL ([(7, atsH [at3])] ++ hksK)) mths
theorem pc14 : pieceS tbK_14 171 (callT tbK_14 60) 28 [0, 1, 2, 4, 29, 30, 31, 81, 82, 83, 84, 87, 88, 89, 90, 93, 94, 95, 96, 97, 98, 99, 102, 103, 104, 105, 106] [1016, 1094, 80085, 112054, 112055, 112057, 117521, 117522] st14 = some st15 := by kernel_rfl
end Go.Proofs.YtkbmmoobcikbaaaGreatDoor.Ev
