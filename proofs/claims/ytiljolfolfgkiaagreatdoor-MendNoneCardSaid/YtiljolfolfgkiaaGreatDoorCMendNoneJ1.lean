/-
  WHAT THE CARD OF THE LAW MendNone ASKS OF ITS ROW, part 1, each found by the kernel. No condition.
-/
import Derived.Test.YtiljolfolfgkiaaGreatDoorEvShut
import Derived.Test.YtiljolfolfgkiaaGreatDoorCards
import Derived.Test.YtiljolfolfgkiaaGreatDoorTie
namespace Go.Proofs.YtiljolfolfgkiaaGreatDoor
open Go Go.ChangeShapes Go.WideShapes Go.ChangeAt Go.RowKit

set_option maxRecDepth 100000
theorem mendNone_j8 : ((Tryz.pinned.checked.prog.stopKnobs == [])) = true := by kernel_rfl
theorem mendNone_j9 : ((Rows.mendNoneRow.inPlace == Tryz.pinned.checked.prog.inPlace 3)) = true := by kernel_rfl
theorem mendNone_j10 : ((Rows.mendNoneRow.unfollowed == Tryz.pinned.checked.prog.unfollowed 3)) = true := by kernel_rfl
theorem mendNone_j11 : ((Rows.mendNoneRow.recurses == Tryz.pinned.checked.prog.recurses 3)) = true := by kernel_rfl
theorem mendNone_j12 : ((Rows.mendNoneRow.named == Tryz.pinned.checked.prog.varsNamed 3)) = true := by kernel_rfl
theorem mendNone_j13 : ((Rows.mendNoneRow.maps == (Tryz.f3.params.toList ++ Rows.mendNoneSpec.plain.varTypes Tryz.pinned.checked.prog).any (Tryz.pinned.checked.prog.mapsRec ·))) = true := by kernel_rfl
theorem mendNone_j14 : ((Rows.mendNoneRow.ifaces == (Tryz.f3.params.toList ++ Rows.mendNoneSpec.plain.varTypes Tryz.pinned.checked.prog).any (Tryz.pinned.checked.prog.ifacesRec ·))) = true := by kernel_rfl
theorem mendNone_j15 : ((Rows.mendNoneRow.mapsOut == Tryz.pinned.checked.prog.mapsAmong Tryz.f3.resultTypes.toList)) = true := by kernel_rfl
end Go.Proofs.YtiljolfolfgkiaaGreatDoor
