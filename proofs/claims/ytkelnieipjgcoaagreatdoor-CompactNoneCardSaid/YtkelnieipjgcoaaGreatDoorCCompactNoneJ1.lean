/-
  WHAT THE CARD OF THE LAW CompactNone ASKS OF ITS ROW, part 1, each found by the kernel. No condition.
-/
import Derived.Test.YtkelnieipjgcoaaGreatDoorEvShut
import Derived.Test.YtkelnieipjgcoaaGreatDoorCards
import Derived.Test.YtkelnieipjgcoaaGreatDoorTie
namespace Go.Proofs.YtkelnieipjgcoaaGreatDoor
open Go Go.ChangeShapes Go.WideShapes Go.ChangeAt Go.RowKit

set_option maxRecDepth 100000
theorem compactNone_j8 : ((Tryz.pinned.checked.prog.stopKnobs == [])) = true := by kernel_rfl
theorem compactNone_j9 : ((Rows.compactNoneRow.inPlace == Tryz.pinned.checked.prog.inPlace 3)) = true := by kernel_rfl
theorem compactNone_j10 : ((Rows.compactNoneRow.unfollowed == Tryz.pinned.checked.prog.unfollowed 3)) = true := by kernel_rfl
theorem compactNone_j11 : ((Rows.compactNoneRow.recurses == Tryz.pinned.checked.prog.recurses 3)) = true := by kernel_rfl
theorem compactNone_j12 : ((Rows.compactNoneRow.named == Tryz.pinned.checked.prog.varsNamed 3)) = true := by kernel_rfl
theorem compactNone_j13 : ((Rows.compactNoneRow.maps == (Tryz.f3.params.toList ++ Rows.compactNoneSpec.plain.varTypes Tryz.pinned.checked.prog).any (Tryz.pinned.checked.prog.mapsRec ·))) = true := by kernel_rfl
theorem compactNone_j14 : ((Rows.compactNoneRow.ifaces == (Tryz.f3.params.toList ++ Rows.compactNoneSpec.plain.varTypes Tryz.pinned.checked.prog).any (Tryz.pinned.checked.prog.ifacesRec ·))) = true := by kernel_rfl
theorem compactNone_j15 : ((Rows.compactNoneRow.mapsOut == Tryz.pinned.checked.prog.mapsAmong Tryz.f3.resultTypes.toList)) = true := by kernel_rfl
end Go.Proofs.YtkelnieipjgcoaaGreatDoor
