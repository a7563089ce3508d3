/-
  WHAT THE CARD OF THE LAW PublishWalks ASKS OF ITS ROW, part 0, each found by the kernel. No condition.
-/
import Derived.Test.YtnkmpoplibnflaaGreatDoorGAA
import Derived.Test.YtnkmpoplibnflaaGreatDoorCards
import Derived.Test.YtnkmpoplibnflaaGreatDoorTie
set_option maxRecDepth 100000
set_option maxHeartbeats 16000000
namespace Go.Proofs.YtnkmpoplibnflaaGreatDoor
open Go Go.ChangeShapes Go.WideShapes Go.ChangeAt Go.RowKit
set_option maxRecDepth 100000
theorem publishWalks_j0 : (Rows.publishWalksRow.wf (OpenSpec.ofChange Rows.publishWalksSpec)) = true := by kernel_rfl
theorem publishWalks_j1 : (laidOutB Tryz.pinned.checked.prog) = true := by kernel_rfl
theorem publishWalks_j2 : (mapsRowed Tryz.pinned.checked.prog) = true := by kernel_rfl
theorem publishWalks_j3 : (Tryz.f3.params.all (Tryz.pinned.checked.prog.readableRec ·)) = true := by kernel_rfl
theorem publishWalks_j4 : (namedTie Tryz.pinned.checked.prog Rows.publishWalksRow.named Rows.publishWalksSpec.vars) = true := by kernel_rfl
theorem publishWalks_j5 : ((Rows.publishWalksRow.stops == [])) = true := by kernel_rfl
theorem publishWalks_j6 : ((Tryz.pinned.checked.prog.stops == [])) = true := by kernel_rfl
theorem publishWalks_j7 : ((Rows.publishWalksRow.knobs == [])) = true := by kernel_rfl
theorem publishWalks_j8 : ((Tryz.pinned.checked.prog.stopKnobs == [])) = true := by kernel_rfl
theorem publishWalks_j9 : ((Rows.publishWalksRow.inPlace == Tryz.pinned.checked.prog.inPlace 3)) = true := by kernel_rfl
theorem publishWalks_j10 : ((Rows.publishWalksRow.unfollowed == Tryz.pinned.checked.prog.unfollowed 3)) = true := by kernel_rfl
theorem publishWalks_j11 : ((Rows.publishWalksRow.recurses == Tryz.pinned.checked.prog.recurses 3)) = true := by kernel_rfl
theorem publishWalks_j12 : ((Rows.publishWalksRow.named == Tryz.pinned.checked.prog.varsNamed 3)) = true := by kernel_rfl
theorem publishWalks_j13 : ((Rows.publishWalksRow.maps == (Tryz.f3.params.toList ++ Rows.publishWalksSpec.plain.varTypes Tryz.pinned.checked.prog).any (Tryz.pinned.checked.prog.mapsRec ·))) = true := by kernel_rfl
theorem publishWalks_j14 : ((Rows.publishWalksRow.ifaces == (Tryz.f3.params.toList ++ Rows.publishWalksSpec.plain.varTypes Tryz.pinned.checked.prog).any (Tryz.pinned.checked.prog.ifacesRec ·))) = true := by kernel_rfl
theorem publishWalks_j15 : ((Rows.publishWalksRow.mapsOut == Tryz.pinned.checked.prog.mapsAmong Tryz.f3.resultTypes.toList)) = true := by kernel_rfl
end Go.Proofs.YtnkmpoplibnflaaGreatDoor
