/-
  PIECES OF A CLOSED FUNCTION, reckoned. No condition.
-/
import Derived.Test.YtkbmmoobcikbaaaGreatDoorPcS
namespace Go.Proofs.YtkbmmoobcikbaaaGreatDoor.Ev
open Go
set_option maxRecDepth 1000000
theorem cl3 : lastV tbK 127 (callT tbK 60) 80 Tryz.f7.results.toList [1016, 1094, 80085, 101398, 112054, 112055, 112057, 112058, 112060, 117521, 117522] ct3_1 = some (at3.v, at3.H1) := by kernel_rfl
theorem cp4_0 : pieceS tbK 127 (callT tbK 60) 718 [1, 4, 5, 7, 9, 10, 11, 66, 67, 68, 69, 70, 73, 74, 75, 76, 77, 80, 81, 82, 83, 84, 87, 88, 89, 90, 91] [1016, 1094, 112054, 122710, 122711, 122712, 122714, 122715, 122717, 128178, 128179, 128184, 128185, 128227, 128228, 128519, 128712, 129043, 129044, 130367, 130695, 131660, 131675, 131986] ct4_0 = some ct4_1 := by kernel_rfl
theorem cl4 : lastV tbK 127 (callT tbK 60) 80 Tryz.f7.results.toList [1016, 1094, 112054, 122710, 122711, 122712, 122714, 122715, 122717, 128178, 128179] ct4_1 = some (at4.v, at4.H1) := by kernel_rfl
theorem cp5_0 : pieceS tbK 127 (callT tbK 60) 718 [1, 4, 5, 7, 9, 10, 11, 66, 67, 68, 69, 70, 73, 74, 75, 76, 77, 80, 81, 82, 83, 84, 87, 88, 89, 90, 91] [1016, 1094, 122710, 122711, 133367, 133368, 133370, 133371, 133373, 138834, 138835, 138840, 138841, 138883, 138884, 139175, 139368, 139699, 139700, 141023, 141351, 142316, 142331, 142642] ct5_0 = some ct5_1 := by kernel_rfl
theorem cl5 : lastV tbK 127 (callT tbK 60) 80 Tryz.f7.results.toList [1016, 1094, 122710, 122711, 133367, 133368, 133370, 133371, 133373, 138834, 138835] ct5_1 = some (at5.v, at5.H1) := by kernel_rfl
theorem cp6_0 : pieceS tbK 127 (callT tbK 60) 718 [1, 4, 5, 7, 9, 10, 11, 66, 67, 68, 69, 70, 73, 74, 75, 76, 77, 80, 81, 82, 83, 84, 87, 88, 89, 90, 91] [1016, 1094, 122710, 133367, 144023, 144024, 144026, 144027, 144029, 149490, 149491, 149496, 149497, 149539, 149540, 149831, 150024, 150355, 150356, 151679, 152007, 152972, 152987, 153298] ct6_0 = some ct6_1 := by kernel_rfl
theorem cl6 : lastV tbK 127 (callT tbK 60) 80 Tryz.f7.results.toList [1016, 1094, 122710, 133367, 144023, 144024, 144026, 144027, 144029, 149490, 149491] ct6_1 = some (at6.v, at6.H1) := by kernel_rfl
end Go.Proofs.YtkbmmoobcikbaaaGreatDoor.Ev
