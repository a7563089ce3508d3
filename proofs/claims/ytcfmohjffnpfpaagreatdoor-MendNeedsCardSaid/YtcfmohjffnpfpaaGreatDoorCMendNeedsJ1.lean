/-
  WHAT THE CARD OF THE LAW MendNeeds ASKS OF ITS ROW, part 1, each found by the kernel. No condition.
-/
import Derived.Test.YtcfmohjffnpfpaaGreatDoorEvShut
import Derived.Test.YtcfmohjffnpfpaaGreatDoorCards
import Derived.Test.YtcfmohjffnpfpaaGreatDoorTie
namespace Go.Proofs.YtcfmohjffnpfpaaGreatDoor
open Go Go.ChangeShapes Go.WideShapes Go.ChangeAt Go.RowKit

set_option maxRecDepth 100000
theorem mendNeeds_j8 : ((Tryz.pinned.checked.prog.stopKnobs == [])) = true := by kernel_rfl
theorem mendNeeds_j9 : ((Rows.mendNeedsRow.inPlace == Tryz.pinned.checked.prog.inPlace 3)) = true := by kernel_rfl
theorem mendNeeds_j10 : ((Rows.mendNeedsRow.unfollowed == Tryz.pinned.checked.prog.unfollowed 3)) = true := by kernel_rfl
theorem mendNeeds_j11 : ((Rows.mendNeedsRow.recurses == Tryz.pinned.checked.prog.recurses 3)) = true := by kernel_rfl
theorem mendNeeds_j12 : ((Rows.mendNeedsRow.named == Tryz.pinned.checked.prog.varsNamed 3)) = true := by kernel_rfl
theorem mendNeeds_j13 : ((Rows.mendNeedsRow.maps == (Tryz.f3.params.toList ++ Rows.mendNeedsSpec.plain.varTypes Tryz.pinned.checked.prog).any (Tryz.pinned.checked.prog.mapsRec ·))) = true := by kernel_rfl
theorem mendNeeds_j14 : ((Rows.mendNeedsRow.ifaces == (Tryz.f3.params.toList ++ Rows.mendNeedsSpec.plain.varTypes Tryz.pinned.checked.prog).any (Tryz.pinned.checked.prog.ifacesRec ·))) = true := by kernel_rfl
theorem mendNeeds_j15 : ((Rows.mendNeedsRow.mapsOut == Tryz.pinned.checked.prog.mapsAmong Tryz.f3.resultTypes.toList)) = true := by kernel_rfl
end Go.Proofs.YtcfmohjffnpfpaaGreatDoor
