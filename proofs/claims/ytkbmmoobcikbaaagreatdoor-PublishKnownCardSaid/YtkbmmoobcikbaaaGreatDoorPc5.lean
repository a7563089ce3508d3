/-
  PIECES OF A CLOSED FUNCTION, reckoned. No condition.
-/
import Derived.Test.YtkbmmoobcikbaaaGreatDoorPcS
namespace Go.Proofs.YtkbmmoobcikbaaaGreatDoor.Ev
open Go
set_option maxRecDepth 1000000
theorem pc5 : pieceS tbK 171 (callT tbK 60) 78 [0, 1, 2, 4, 29, 30, 31, 81, 82, 83, 84, 87, 88, 89, 90, 93, 94, 95, 96, 97, 98, 99, 102, 103, 104, 105, 106] [1016, 1094, 41475, 44960, 44961, 44963, 46862, 46863] st5 = some st6 := by kernel_rfl
theorem pc6 : pieceS tbK 171 (callT tbK 60) 56 [0, 1, 2, 4, 29, 30, 31, 81, 82, 83, 84, 87, 88, 89, 90, 93, 94, 95, 96, 97, 98, 99, 102, 103, 104, 105, 106] [1016, 1094, 41475, 51928, 51929, 51931, 53830, 53831] st6 = some st7 := by kernel_rfl
theorem pc7 : pieceS tbK 171 (callT tbK 60) 50 [0, 1, 2, 4, 29, 30, 31, 81, 82, 83, 84, 87, 88, 89, 90, 93, 94, 95, 96, 97, 98, 99, 102, 103, 104, 105, 106] [1016, 1094, 55412, 55413, 55414, 55416, 58592, 58593] st7 = some st8 := by kernel_rfl
theorem pc8 : pieceS tbK 171 (callT tbK 60) 28 [0, 1, 2, 4, 29, 30, 31, 81, 82, 83, 84, 87, 88, 89, 90, 93, 94, 95, 96, 97, 98, 99, 102, 103, 104, 105, 106] [1016, 1094, 55412, 61484, 61485, 61487, 64663, 64664] st8 = some st9 := by kernel_rfl
end Go.Proofs.YtkbmmoobcikbaaaGreatDoor.Ev
