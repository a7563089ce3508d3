/-
  PIECES OF A CLOSED FUNCTION, reckoned. No condition.
-/
import Derived.Test.YtkbmmoobcikbaaaGreatDoorPcS
namespace Go.Proofs.YtkbmmoobcikbaaaGreatDoor.Ev
open Go
set_option maxRecDepth 1000000
theorem cl10 : lastV tbK 127 (callT tbK 60) 80 Tryz.f7.results.toList [1016, 1094, 165335, 175988, 186640, 186641, 186643, 186644, 186646, 192103, 192104] ct10_1 = some (at10.v, at10.H1) := by kernel_rfl
theorem cp11_0 : pieceS tbK 127 (callT tbK 60) 718 [1, 4, 5, 7, 9, 10, 11, 66, 67, 68, 69, 70, 73, 74, 75, 76, 77, 80, 81, 82, 83, 84, 87, 88, 89, 90, 91] [1016, 1094, 165335, 186640, 197292, 197293, 197295, 197296, 197298, 202755, 202756, 202761, 202762, 202804, 202805, 203096, 203289, 203620, 203621, 204944, 205272, 206237, 206252, 206563] ct11_0 = some ct11_1 := by kernel_rfl
theorem cl11 : lastV tbK 127 (callT tbK 60) 80 Tryz.f7.results.toList [1016, 1094, 165335, 186640, 197292, 197293, 197295, 197296, 197298, 202755, 202756] ct11_1 = some (at11.v, at11.H1) := by kernel_rfl
theorem pc0 : pieceS tbK 171 (callT tbK 60) 134 [0, 1, 2, 4, 29, 30, 31, 81, 82, 83, 84, 87, 88, 89, 90, 93, 94, 95, 96, 97, 98, 99, 102, 103, 104, 105, 106] [1016, 1094, 1095, 6451, 6452, 6454, 7424, 7425] st0 = some st1 := by kernel_rfl
theorem pc1 : pieceS tbK 171 (callT tbK 60) 106 [0, 1, 2, 4, 29, 30, 31, 81, 82, 83, 84, 87, 88, 89, 90, 93, 94, 95, 96, 97, 98, 99, 102, 103, 104, 105, 106] [1016, 1094, 8236, 13193, 13194, 13196, 14543, 14544] st1 = some st2 := by kernel_rfl
end Go.Proofs.YtkbmmoobcikbaaaGreatDoor.Ev
