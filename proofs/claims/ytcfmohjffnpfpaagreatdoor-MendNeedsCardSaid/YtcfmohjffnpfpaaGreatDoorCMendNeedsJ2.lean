/-
  WHAT THE CARD OF THE LAW MendNeeds ASKS OF ITS ROW, part 2, each found by the kernel. No condition.
-/
import Derived.Test.YtcfmohjffnpfpaaGreatDoorEvShut
import Derived.Test.YtcfmohjffnpfpaaGreatDoorCards
import Derived.Test.YtcfmohjffnpfpaaGreatDoorTie
namespace Go.Proofs.YtcfmohjffnpfpaaGreatDoor
open Go Go.ChangeShapes Go.WideShapes Go.ChangeAt Go.RowKit

set_option maxRecDepth 100000
theorem mendNeeds_j16 : ((Rows.mendNeedsRow.loops == (Tryz.f3.params.toList ++ Rows.mendNeedsSpec.plain.varTypes Tryz.pinned.checked.prog).any (Tryz.pinned.checked.prog.loopsFrom ·))) = true := by kernel_rfl
theorem mendNeeds_j17 : ((Rows.mendNeedsRow.wideKeys == (Tryz.f3.params.toList ++ Rows.mendNeedsSpec.plain.varTypes Tryz.pinned.checked.prog ++ Tryz.f3.resultTypes.toList).any (Tryz.pinned.checked.prog.wideKeysFrom ·))) = true := by kernel_rfl
theorem mendNeeds_j18 : (Rows.mendNeedsSpec.vars.all (Tryz.pinned.checked.prog.varReadable ·)) = true := by kernel_rfl
theorem mendNeeds_j19 : (Tryz.f3.resultTypes.all (fun t => Tryz.pinned.checked.prog.readableRec t && decide (t < Tryz.pinned.checked.prog.types.size))) = true := by kernel_rfl
theorem mendNeeds_j20 : ((Rows.mendNeedsRow.ifacesOut == Tryz.f3.resultTypes.toList.any (Tryz.pinned.checked.prog.ifacesRec ·))) = true := by kernel_rfl
theorem mendNeeds_j21 : ((Rows.mendNeedsRow.loopsOut == Tryz.f3.resultTypes.toList.any (Tryz.pinned.checked.prog.loopsFrom ·))) = true := by kernel_rfl
theorem mendNeeds_j22 : ((Rows.mendNeedsRow.plainKeys == Tryz.pinned.checked.prog.plainKeys)) = true := by kernel_rfl
theorem mendNeeds_j23 : (Rows.mendNeedsRow.shortTexts.isNone) = true := by kernel_rfl
end Go.Proofs.YtcfmohjffnpfpaaGreatDoor
