/-
  PIECES OF A CLOSED FUNCTION, reckoned. No condition.
-/
import Derived.Test.YtkbmmoobcikbaaaGreatDoorPcS
namespace Go.Proofs.YtkbmmoobcikbaaaGreatDoor.Ev
open Go
set_option maxRecDepth 1000000
theorem pc9 : pieceS tbK 171 (callT tbK 60) 28 [0, 1, 2, 4, 29, 30, 31, 81, 82, 83, 84, 87, 88, 89, 90, 93, 94, 95, 96, 97, 98, 99, 102, 103, 104, 105, 106] [1016, 1094, 55412, 67555, 67556, 67558, 70968, 70969] st9 = some st10 := by kernel_rfl
theorem pc10 : pieceS tbK 171 (callT tbK 60) 28 [0, 1, 2, 4, 29, 30, 31, 81, 82, 83, 84, 87, 88, 89, 90, 93, 94, 95, 96, 97, 98, 99, 102, 103, 104, 105, 106] [1016, 1094, 55412, 74014, 74015, 74017, 77193, 77194] st10 = some st11 := by kernel_rfl
noncomputable def tbK_11 : Tb := tbOf tys fns eqs (hkL ([(7, atsH [at0])] ++ hksK)) mths
theorem pc11 : pieceS tbK_11 171 (callT tbK_11 60) 50 [0, 1, 2, 4, 29, 30, 31, 81, 82, 83, 84, 87, 88, 89, 90, 93, 94, 95, 96, 97, 98, 99, 102, 103, 104, 105, 106] [1016, 1094, 80085, 80086, 80087, 80089, 85553, 85554] st11 = some st12 := by kernel_rfl
end Go.Proofs.YtkbmmoobcikbaaaGreatDoor.Ev
