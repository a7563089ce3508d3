/-
  WHAT THE CARD OF THE LAW PublishWalks ASKS OF ITS ROW, part 1, each found by the kernel. No condition.
-/
import Derived.Test.YtnkmpoplibnflaaGreatDoorGAA
import Derived.Test.YtnkmpoplibnflaaGreatDoorCards
import Derived.Test.YtnkmpoplibnflaaGreatDoorTie
set_option maxRecDepth 100000
set_option maxHeartbeats 16000000
namespace Go.Proofs.YtnkmpoplibnflaaGreatDoor
open Go Go.ChangeShapes Go.WideShapes Go.ChangeAt Go.RowKit
set_option maxRecDepth 100000
theorem publishWalks_j16 : ((Rows.publishWalksRow.loops == (Tryz.f3.params.toList ++ Rows.publishWalksSpec.plain.varTypes Tryz.pinned.checked.prog).any (Tryz.pinned.checked.prog.loopsFrom ·))) = true := by kernel_rfl
theorem publishWalks_j17 : ((Rows.publishWalksRow.wideKeys == (Tryz.f3.params.toList ++ Rows.publishWalksSpec.plain.varTypes Tryz.pinned.checked.prog ++ Tryz.f3.resultTypes.toList).any (Tryz.pinned.checked.prog.wideKeysFrom ·))) = true := by kernel_rfl
theorem publishWalks_j18 : (Rows.publishWalksSpec.vars.all (Tryz.pinned.checked.prog.varReadable ·)) = true := by kernel_rfl
theorem publishWalks_j19 : (Tryz.f3.resultTypes.all (fun t => Tryz.pinned.checked.prog.readableRec t && decide (t < Tryz.pinned.checked.prog.types.size))) = true := by kernel_rfl
theorem publishWalks_j20 : ((Rows.publishWalksRow.ifacesOut == Tryz.f3.resultTypes.toList.any (Tryz.pinned.checked.prog.ifacesRec ·))) = true := by kernel_rfl
theorem publishWalks_j21 : ((Rows.publishWalksRow.loopsOut == Tryz.f3.resultTypes.toList.any (Tryz.pinned.checked.prog.loopsFrom ·))) = true := by kernel_rfl
theorem publishWalks_j22 : ((Rows.publishWalksRow.plainKeys == Tryz.pinned.checked.prog.plainKeys)) = true := by kernel_rfl
theorem publishWalks_j23 : (Rows.publishWalksRow.shortTexts.isNone) = true := by kernel_rfl
theorem publishWalks_j24 : (Tryz.pinned.checked.prog.stopsHeard) = true := by kernel_rfl
theorem publishWalks_j25 : (Tryz.pinned.checked.prog.mayEnter) = true := by kernel_rfl
theorem publishWalks_j26 : ((Rows.publishWalksRow.lifted == Tryz.pinned.checked.prog.liftsFinal)) = true := by kernel_rfl
theorem publishWalks_j27 : ((Tryz.pinned.checked.prog.make == some Rows.publishWalksRow.make)) = true := by kernel_rfl
theorem publishWalks_j28 : ((Rows.publishWalksRow.kinds == (if Rows.publishWalksRow.domain.isEmpty then [] else Tryz.f3.params.toList.map fun t => match Tryz.pinned.checked.prog.underlying t with | some (.int k) => some k | _ => none))) = true := by kernel_rfl
theorem publishWalks_j29 : ((Rows.publishWalksRow.pinned == Rows.publishWalksRow.pinnedBy)) = true := by kernel_rfl
theorem publishWalks_j30 : ((Rows.publishWalksRow.veiled == (Tryz.f3.params.toList ++ Rows.publishWalksSpec.plain.varTypes Tryz.pinned.checked.prog ++ Tryz.f3.resultTypes.toList).any (Tryz.pinned.checked.prog.veiledRec ·))) = true := by kernel_rfl
theorem publishWalks_j31 : (Rows.publishWalksRow.veiledFits Tryz.pinned.checked.prog Tryz.f3.params.toList (Tryz.f3.params.toList ++ Rows.publishWalksSpec.plain.varTypes Tryz.pinned.checked.prog ++ Tryz.f3.resultTypes.toList)) = true := by kernel_rfl
end Go.Proofs.YtnkmpoplibnflaaGreatDoor
