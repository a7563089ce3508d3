/-
  WHAT THE CARD OF THE LAW PublishNone ASKS OF ITS ROW, part 1, each found by the kernel. No condition.
-/
import Derived.Test.YtglkcndgmocnbaaGreatDoorEvShut
import Derived.Test.YtglkcndgmocnbaaGreatDoorCards
import Derived.Test.YtglkcndgmocnbaaGreatDoorTie
namespace Go.Proofs.YtglkcndgmocnbaaGreatDoor
open Go Go.ChangeShapes Go.WideShapes Go.ChangeAt Go.RowKit

set_option maxRecDepth 100000
theorem publishNone_j16 : ((Rows.publishNoneRow.loops == (Tryz.f3.params.toList ++ Rows.publishNoneSpec.plain.varTypes Tryz.pinned.checked.prog).any (Tryz.pinned.checked.prog.loopsFrom ·))) = true := by kernel_rfl
theorem publishNone_j17 : ((Rows.publishNoneRow.wideKeys == (Tryz.f3.params.toList ++ Rows.publishNoneSpec.plain.varTypes Tryz.pinned.checked.prog ++ Tryz.f3.resultTypes.toList).any (Tryz.pinned.checked.prog.wideKeysFrom ·))) = true := by kernel_rfl
theorem publishNone_j18 : (Rows.publishNoneSpec.vars.all (Tryz.pinned.checked.prog.varReadable ·)) = true := by kernel_rfl
theorem publishNone_j19 : (Tryz.f3.resultTypes.all (fun t => Tryz.pinned.checked.prog.readableRec t && decide (t < Tryz.pinned.checked.prog.types.size))) = true := by kernel_rfl
theorem publishNone_j20 : ((Rows.publishNoneRow.ifacesOut == Tryz.f3.resultTypes.toList.any (Tryz.pinned.checked.prog.ifacesRec ·))) = true := by kernel_rfl
theorem publishNone_j21 : ((Rows.publishNoneRow.loopsOut == Tryz.f3.resultTypes.toList.any (Tryz.pinned.checked.prog.loopsFrom ·))) = true := by kernel_rfl
theorem publishNone_j22 : ((Rows.publishNoneRow.plainKeys == Tryz.pinned.checked.prog.plainKeys)) = true := by kernel_rfl
theorem publishNone_j23 : (Rows.publishNoneRow.shortTexts.isNone) = true := by kernel_rfl
theorem publishNone_j24 : (Tryz.pinned.checked.prog.stopsHeard) = true := by kernel_rfl
theorem publishNone_j25 : (Tryz.pinned.checked.prog.mayEnter) = true := by kernel_rfl
theorem publishNone_j26 : ((Rows.publishNoneRow.lifted == Tryz.pinned.checked.prog.liftsFinal)) = true := by kernel_rfl
theorem publishNone_j27 : ((Tryz.pinned.checked.prog.make == some Rows.publishNoneRow.make)) = true := by kernel_rfl
theorem publishNone_j28 : ((Rows.publishNoneRow.kinds == (if Rows.publishNoneRow.domain.isEmpty then [] else Tryz.f3.params.toList.map fun t => match Tryz.pinned.checked.prog.underlying t with | some (.int k) => some k | _ => none))) = true := by kernel_rfl
theorem publishNone_j29 : ((Rows.publishNoneRow.pinned == Rows.publishNoneRow.pinnedBy)) = true := by kernel_rfl
theorem publishNone_j30 : ((Rows.publishNoneRow.veiled == (Tryz.f3.params.toList ++ Rows.publishNoneSpec.plain.varTypes Tryz.pinned.checked.prog ++ Tryz.f3.resultTypes.toList).any (Tryz.pinned.checked.prog.veiledRec ·))) = true := by kernel_rfl
theorem publishNone_j31 : (Rows.publishNoneRow.veiledFits Tryz.pinned.checked.prog Tryz.f3.params.toList (Tryz.f3.params.toList ++ Rows.publishNoneSpec.plain.varTypes Tryz.pinned.checked.prog ++ Tryz.f3.resultTypes.toList)) = true := by kernel_rfl
end Go.Proofs.YtglkcndgmocnbaaGreatDoor
