/-
  PIECES OF A CLOSED FUNCTION, reckoned. No condition.
-/
import Derived.Test.YtkbmmoobcikbaaaGreatDoorPcS
namespace Go.Proofs.YtkbmmoobcikbaaaGreatDoor.Ev
open Go
set_option maxRecDepth 1000000
theorem pc2 : pieceS tbK 171 (callT tbK 60) 106 [0, 1, 2, 4, 29, 30, 31, 81, 82, 83, 84, 87, 88, 89, 90, 93, 94, 95, 96, 97, 98, 99, 102, 103, 104, 105, 106] [1016, 1094, 18149, 20928, 20929, 20931, 22438, 22439] st2 = some st3 := by kernel_rfl
theorem pc3 : pieceS tbK 171 (callT tbK 60) 106 [0, 1, 2, 4, 29, 30, 31, 81, 82, 83, 84, 87, 88, 89, 90, 93, 94, 95, 96, 97, 98, 99, 102, 103, 104, 105, 106] [1016, 1094, 29262, 29263, 29264, 29266, 30918, 30919] st3 = some st4 := by kernel_rfl
theorem pc4 : pieceS tbK 171 (callT tbK 60) 84 [0, 1, 2, 4, 29, 30, 31, 81, 82, 83, 84, 87, 88, 89, 90, 93, 94, 95, 96, 97, 98, 99, 102, 103, 104, 105, 106] [1016, 1094, 29262, 38422, 38423, 38425, 40077, 40078] st4 = some st5 := by kernel_rfl
end Go.Proofs.YtkbmmoobcikbaaaGreatDoor.Ev
