/-
  WHAT THE CARD OF THE LAW CompactNone ASKS OF ITS ROW, part 0, each found by the kernel. No condition.
-/
import Derived.Test.YtkelnieipjgcoaaGreatDoorEvShut
import Derived.Test.YtkelnieipjgcoaaGreatDoorCards
import Derived.Test.YtkelnieipjgcoaaGreatDoorTie
namespace Go.Proofs.YtkelnieipjgcoaaGreatDoor
open Go Go.ChangeShapes Go.WideShapes Go.ChangeAt Go.RowKit

set_option maxRecDepth 100000
theorem compactNone_j0 : (Rows.compactNoneRow.wf (OpenSpec.ofChange Rows.compactNoneSpec)) = true := by kernel_rfl
theorem compactNone_j1 : (laidOutB Tryz.pinned.checked.prog) = true := by kernel_rfl
theorem compactNone_j2 : (mapsRowed Tryz.pinned.checked.prog) = true := by kernel_rfl
theorem compactNone_j3 : (Tryz.f3.params.all (Tryz.pinned.checked.prog.readableRec ·)) = true := by kernel_rfl
theorem compactNone_j4 : (namedTie Tryz.pinned.checked.prog Rows.compactNoneRow.named Rows.compactNoneSpec.vars) = true := by kernel_rfl
theorem compactNone_j5 : ((Rows.compactNoneRow.stops == [])) = true := by kernel_rfl
theorem compactNone_j6 : ((Tryz.pinned.checked.prog.stops == [])) = true := by kernel_rfl
theorem compactNone_j7 : ((Rows.compactNoneRow.knobs == [])) = true := by kernel_rfl
end Go.Proofs.YtkelnieipjgcoaaGreatDoor
