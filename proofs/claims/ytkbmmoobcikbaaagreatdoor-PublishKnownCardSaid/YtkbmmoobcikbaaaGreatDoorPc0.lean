/-
  PIECES OF A CLOSED FUNCTION, reckoned. No condition.
-/
import Derived.Test.YtkbmmoobcikbaaaGreatDoorPcS
namespace Go.Proofs.YtkbmmoobcikbaaaGreatDoor.Ev
open Go
set_option maxRecDepth 1000000
theorem cp0_0 : pieceS tbK 127 (callT tbK 60) 718 [1, 4, 5, 7, 9, 10, 11, 66, 67, 68, 69, 70, 73, 74, 75, 76, 77, 80, 81, 82, 83, 84, 87, 88, 89, 90, 91] [1016, 1094, 74014, 80085, 80086, 80087, 80089, 80090, 80092, 85553, 85554, 85559, 85560, 85602, 85603, 85894, 86087, 86418, 86419, 87742, 88070, 89035, 89050, 89361] ct0_0 = some ct0_1 := by kernel_rfl
theorem cl0 : lastV tbK 127 (callT tbK 60) 80 Tryz.f7.results.toList [1016, 1094, 74014, 80085, 80086, 80087, 80089, 80090, 80092, 85553, 85554] ct0_1 = some (at0.v, at0.H1) := by kernel_rfl
theorem cp1_0 : pieceS tbK 127 (callT tbK 60) 718 [1, 4, 5, 7, 9, 10, 11, 66, 67, 68, 69, 70, 73, 74, 75, 76, 77, 80, 81, 82, 83, 84, 87, 88, 89, 90, 91] [1016, 1094, 80085, 80086, 90742, 90743, 90745, 90746, 90748, 96209, 96210, 96215, 96216, 96258, 96259, 96550, 96743, 97074, 97075, 98398, 98726, 99691, 99706, 100017] ct1_0 = some ct1_1 := by kernel_rfl
theorem cl1 : lastV tbK 127 (callT tbK 60) 80 Tryz.f7.results.toList [1016, 1094, 80085, 80086, 90742, 90743, 90745, 90746, 90748, 96209, 96210] ct1_1 = some (at1.v, at1.H1) := by kernel_rfl
theorem cp2_0 : pieceS tbK 127 (callT tbK 60) 718 [1, 4, 5, 7, 9, 10, 11, 66, 67, 68, 69, 70, 73, 74, 75, 76, 77, 80, 81, 82, 83, 84, 87, 88, 89, 90, 91] [1016, 1094, 80085, 90742, 101398, 101399, 101401, 101402, 101404, 106865, 106866, 106871, 106872, 106914, 106915, 107206, 107399, 107730, 107731, 109054, 109382, 110347, 110362, 110673] ct2_0 = some ct2_1 := by kernel_rfl
theorem cl2 : lastV tbK 127 (callT tbK 60) 80 Tryz.f7.results.toList [1016, 1094, 80085, 90742, 101398, 101399, 101401, 101402, 101404, 106865, 106866] ct2_1 = some (at2.v, at2.H1) := by kernel_rfl
theorem cp3_0 : pieceS tbK 127 (callT tbK 60) 718 [1, 4, 5, 7, 9, 10, 11, 66, 67, 68, 69, 70, 73, 74, 75, 76, 77, 80, 81, 82, 83, 84, 87, 88, 89, 90, 91] [1016, 1094, 80085, 101398, 112054, 112055, 112057, 112058, 112060, 117521, 117522, 117527, 117528, 117570, 117571, 117862, 118055, 118386, 118387, 119710, 120038, 121003, 121018, 121329] ct3_0 = some ct3_1 := by kernel_rfl
end Go.Proofs.YtkbmmoobcikbaaaGreatDoor.Ev
