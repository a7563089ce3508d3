/-
  PIECES OF A CLOSED FUNCTION, reckoned. No condition.
-/
import Derived.Test.YtkbmmoobcikbaaaGreatDoorPcS
namespace Go.Proofs.YtkbmmoobcikbaaaGreatDoor.Ev
open Go
set_option maxRecDepth 1000000
theorem pc24 : pieceS tbK 171 (callT tbK 60) 197 [0, 10, 11, 125, 126, 127, 128, 129, 130, 131, 132, 151, 152, 153, 154, 155] [216964, 219686] st24 = some st25 := by kernel_rfl
theorem pc25 : pieceS tbK 171 (callT tbK 60) 202 [0, 10, 11, 125, 126, 127, 128, 129, 130, 131, 132, 151, 152, 153, 154, 155] [223846, 225492] st25 = some st26 := by kernel_rfl
theorem pc26 : pieceS tbK 171 (callT tbK 60) 176 [0, 10, 125, 126, 127, 128, 129, 130, 131, 151, 152, 153, 154, 155, 156] [230377, 230656] st26 = some st27 := by kernel_rfl
theorem pc27 : pieceS tbK 171 (callT tbK 60) 211 [0, 10, 11, 125, 126, 127, 128, 129, 130, 131, 132, 151, 152, 153, 154, 155] [234034, 237640] st27 = some st28 := by kernel_rfl
theorem pcL : lastS tbK 171 (callT tbK 60) 35 Tryz.f3.results.toList st28 = true := by kernel_rfl
end Go.Proofs.YtkbmmoobcikbaaaGreatDoor.Ev
