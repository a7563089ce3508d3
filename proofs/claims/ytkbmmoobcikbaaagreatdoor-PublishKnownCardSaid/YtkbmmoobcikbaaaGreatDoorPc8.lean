/-
  PIECES OF A CLOSED FUNCTION, reckoned. No condition.
-/
import Derived.Test.YtkbmmoobcikbaaaGreatDoorPcS
namespace Go.Proofs.YtkbmmoobcikbaaaGreatDoor.Ev
open Go
set_option maxRecDepth 1000000
noncomputable def tbK_15 : Tb := tbOf tys fns eqs (hkL ([(7, atsH [at4])] ++ hksK)) mths
theorem pc15 : pieceS tbK_15 171 (callT tbK_15 60) 50 [0, 1, 2, 4, 29, 30, 31, 81, 82, 83, 84, 87, 88, 89, 90, 93, 94, 95, 96, 97, 98, 99, 102, 103, 104, 105, 106] [1016, 1094, 122710, 122711, 122712, 122714, 128178, 128179] st15 = some st16 := by kernel_rfl
noncomputable def tbK_16 : Tb := tbOf tys fns eqs (hkL ([(7, atsH [at5])] ++ hksK)) mths
theorem pc16 : pieceS tbK_16 171 (callT tbK_16 60) 28 [0, 1, 2, 4, 29, 30, 31, 81, 82, 83, 84, 87, 88, 89, 90, 93, 94, 95, 96, 97, 98, 99, 102, 103, 104, 105, 106] [1016, 1094, 122710, 133367, 133368, 133370, 138834, 138835] st16 = some st17 := by kernel_rfl
noncomputable def tbK_17 : Tb := tbOf tys fns eqs (hkL ([(7, atsH [at6])] ++ hksK)) mths
theorem pc17 : pieceS tbK_17 171 (callT tbK_17 60) 28 [0, 1, 2, 4, 29, 30, 31, 81, 82, 83, 84, 87, 88, 89, 90, 93, 94, 95, 96, 97, 98, 99, 102, 103, 104, 105, 106] [1016, 1094, 122710, 144023, 144024, 144026, 149490, 149491] st17 = some st18 := by kernel_rfl
end Go.Proofs.YtkbmmoobcikbaaaGreatDoor.Ev
