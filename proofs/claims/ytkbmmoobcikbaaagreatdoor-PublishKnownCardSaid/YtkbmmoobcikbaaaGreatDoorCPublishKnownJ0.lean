/-
  WHAT THE CARD OF THE LAW PublishKnown ASKS OF ITS ROW, part 0, each found by the kernel. No condition.
-/
import Derived.Test.YtkbmmoobcikbaaaGreatDoorEvShut
import Derived.Test.YtkbmmoobcikbaaaGreatDoorCards
import Derived.Test.YtkbmmoobcikbaaaGreatDoorTie
namespace Go.Proofs.YtkbmmoobcikbaaaGreatDoor
open Go Go.ChangeShapes Go.WideShapes Go.ChangeAt Go.RowKit

set_option maxRecDepth 100000
theorem publishKnown_j0 : (Rows.publishKnownRow.wf (OpenSpec.ofChange Rows.publishKnownSpec)) = true := by kernel_rfl
theorem publishKnown_j1 : (laidOutB Tryz.pinned.checked.prog) = true := by kernel_rfl
theorem publishKnown_j2 : (mapsRowed Tryz.pinned.checked.prog) = true := by kernel_rfl
theorem publishKnown_j3 : (Tryz.f3.params.all (Tryz.pinned.checked.prog.readableRec ·)) = true := by kernel_rfl
theorem publishKnown_j4 : (namedTie Tryz.pinned.checked.prog Rows.publishKnownRow.named Rows.publishKnownSpec.vars) = true := by kernel_rfl
theorem publishKnown_j5 : ((Rows.publishKnownRow.stops == [])) = true := by kernel_rfl
theorem publishKnown_j6 : ((Tryz.pinned.checked.prog.stops == [])) = true := by kernel_rfl
theorem publishKnown_j7 : ((Rows.publishKnownRow.knobs == [])) = true := by kernel_rfl
theorem publishKnown_j8 : ((Tryz.pinned.checked.prog.stopKnobs == [])) = true := by kernel_rfl
theorem publishKnown_j9 : ((Rows.publishKnownRow.inPlace == Tryz.pinned.checked.prog.inPlace 3)) = true := by kernel_rfl
theorem publishKnown_j10 : ((Rows.publishKnownRow.unfollowed == Tryz.pinned.checked.prog.unfollowed 3)) = true := by kernel_rfl
theorem publishKnown_j11 : ((Rows.publishKnownRow.recurses == Tryz.pinned.checked.prog.recurses 3)) = true := by kernel_rfl
theorem publishKnown_j12 : ((Rows.publishKnownRow.named == Tryz.pinned.checked.prog.varsNamed 3)) = true := by kernel_rfl
theorem publishKnown_j13 : ((Rows.publishKnownRow.maps == (Tryz.f3.params.toList ++ Rows.publishKnownSpec.plain.varTypes Tryz.pinned.checked.prog).any (Tryz.pinned.checked.prog.mapsRec ·))) = true := by kernel_rfl
theorem publishKnown_j14 : ((Rows.publishKnownRow.ifaces == (Tryz.f3.params.toList ++ Rows.publishKnownSpec.plain.varTypes Tryz.pinned.checked.prog).any (Tryz.pinned.checked.prog.ifacesRec ·))) = true := by kernel_rfl
theorem publishKnown_j15 : ((Rows.publishKnownRow.mapsOut == Tryz.pinned.checked.prog.mapsAmong Tryz.f3.resultTypes.toList)) = true := by kernel_rfl
end Go.Proofs.YtkbmmoobcikbaaaGreatDoor
