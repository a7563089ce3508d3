/-
  WHAT THE CARD OF THE LAW PublishNone ASKS OF ITS ROW, part 0, each found by the kernel. No condition.
-/
import Derived.Test.YtglkcndgmocnbaaGreatDoorEvShut
import Derived.Test.YtglkcndgmocnbaaGreatDoorCards
import Derived.Test.YtglkcndgmocnbaaGreatDoorTie
namespace Go.Proofs.YtglkcndgmocnbaaGreatDoor
open Go Go.ChangeShapes Go.WideShapes Go.ChangeAt Go.RowKit

set_option maxRecDepth 100000
theorem publishNone_j0 : (Rows.publishNoneRow.wf (OpenSpec.ofChange Rows.publishNoneSpec)) = true := by kernel_rfl
theorem publishNone_j1 : (laidOutB Tryz.pinned.checked.prog) = true := by kernel_rfl
theorem publishNone_j2 : (mapsRowed Tryz.pinned.checked.prog) = true := by kernel_rfl
theorem publishNone_j3 : (Tryz.f3.params.all (Tryz.pinned.checked.prog.readableRec ·)) = true := by kernel_rfl
theorem publishNone_j4 : (namedTie Tryz.pinned.checked.prog Rows.publishNoneRow.named Rows.publishNoneSpec.vars) = true := by kernel_rfl
theorem publishNone_j5 : ((Rows.publishNoneRow.stops == [])) = true := by kernel_rfl
theorem publishNone_j6 : ((Tryz.pinned.checked.prog.stops == [])) = true := by kernel_rfl
theorem publishNone_j7 : ((Rows.publishNoneRow.knobs == [])) = true := by kernel_rfl
theorem publishNone_j8 : ((Tryz.pinned.checked.prog.stopKnobs == [])) = true := by kernel_rfl
theorem publishNone_j9 : ((Rows.publishNoneRow.inPlace == Tryz.pinned.checked.prog.inPlace 3)) = true := by kernel_rfl
theorem publishNone_j10 : ((Rows.publishNoneRow.unfollowed == Tryz.pinned.checked.prog.unfollowed 3)) = true := by kernel_rfl
theorem publishNone_j11 : ((Rows.publishNoneRow.recurses == Tryz.pinned.checked.prog.recurses 3)) = true := by kernel_rfl
theorem publishNone_j12 : ((Rows.publishNoneRow.named == Tryz.pinned.checked.prog.varsNamed 3)) = true := by kernel_rfl
theorem publishNone_j13 : ((Rows.publishNoneRow.maps == (Tryz.f3.params.toList ++ Rows.publishNoneSpec.plain.varTypes Tryz.pinned.checked.prog).any (Tryz.pinned.checked.prog.mapsRec ·))) = true := by kernel_rfl
theorem publishNone_j14 : ((Rows.publishNoneRow.ifaces == (Tryz.f3.params.toList ++ Rows.publishNoneSpec.plain.varTypes Tryz.pinned.checked.prog).any (Tryz.pinned.checked.prog.ifacesRec ·))) = true := by kernel_rfl
theorem publishNone_j15 : ((Rows.publishNoneRow.mapsOut == Tryz.pinned.checked.prog.mapsAmong Tryz.f3.resultTypes.toList)) = true := by kernel_rfl
end Go.Proofs.YtglkcndgmocnbaaGreatDoor
