/-
  WHAT THE CARD OF THE LAW MendNeeds ASKS OF ITS ROW, part 0, each found by the kernel. No condition.
-/
import Derived.Test.YtcfmohjffnpfpaaGreatDoorEvShut
import Derived.Test.YtcfmohjffnpfpaaGreatDoorCards
import Derived.Test.YtcfmohjffnpfpaaGreatDoorTie
namespace Go.Proofs.YtcfmohjffnpfpaaGreatDoor
open Go Go.ChangeShapes Go.WideShapes Go.ChangeAt Go.RowKit

set_option maxRecDepth 100000
theorem mendNeeds_j0 : (Rows.mendNeedsRow.wf (OpenSpec.ofChange Rows.mendNeedsSpec)) = true := by kernel_rfl
theorem mendNeeds_j1 : (laidOutB Tryz.pinned.checked.prog) = true := by kernel_rfl
theorem mendNeeds_j2 : (mapsRowed Tryz.pinned.checked.prog) = true := by kernel_rfl
theorem mendNeeds_j3 : (Tryz.f3.params.all (Tryz.pinned.checked.prog.readableRec ·)) = true := by kernel_rfl
theorem mendNeeds_j4 : (namedTie Tryz.pinned.checked.prog Rows.mendNeedsRow.named Rows.mendNeedsSpec.vars) = true := by kernel_rfl
theorem mendNeeds_j5 : ((Rows.mendNeedsRow.stops == [])) = true := by kernel_rfl
theorem mendNeeds_j6 : ((Tryz.pinned.checked.prog.stops == [])) = true := by kernel_rfl
theorem mendNeeds_j7 : ((Rows.mendNeedsRow.knobs == [])) = true := by kernel_rfl
end Go.Proofs.YtcfmohjffnpfpaaGreatDoor
