/-
  WHAT THE CARD OF THE LAW MendNone ASKS OF ITS ROW, part 0, each found by the kernel. No condition.
-/
import Derived.Test.YtiljolfolfgkiaaGreatDoorEvShut
import Derived.Test.YtiljolfolfgkiaaGreatDoorCards
import Derived.Test.YtiljolfolfgkiaaGreatDoorTie
namespace Go.Proofs.YtiljolfolfgkiaaGreatDoor
open Go Go.ChangeShapes Go.WideShapes Go.ChangeAt Go.RowKit

set_option maxRecDepth 100000
theorem mendNone_j0 : (Rows.mendNoneRow.wf (OpenSpec.ofChange Rows.mendNoneSpec)) = true := by kernel_rfl
theorem mendNone_j1 : (laidOutB Tryz.pinned.checked.prog) = true := by kernel_rfl
theorem mendNone_j2 : (mapsRowed Tryz.pinned.checked.prog) = true := by kernel_rfl
theorem mendNone_j3 : (Tryz.f3.params.all (Tryz.pinned.checked.prog.readableRec ·)) = true := by kernel_rfl
theorem mendNone_j4 : (namedTie Tryz.pinned.checked.prog Rows.mendNoneRow.named Rows.mendNoneSpec.vars) = true := by kernel_rfl
theorem mendNone_j5 : ((Rows.mendNoneRow.stops == [])) = true := by kernel_rfl
theorem mendNone_j6 : ((Tryz.pinned.checked.prog.stops == [])) = true := by kernel_rfl
theorem mendNone_j7 : ((Rows.mendNoneRow.knobs == [])) = true := by kernel_rfl
end Go.Proofs.YtiljolfolfgkiaaGreatDoor
