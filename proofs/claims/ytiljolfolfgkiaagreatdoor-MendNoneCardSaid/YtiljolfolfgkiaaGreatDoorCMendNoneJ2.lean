/-
  WHAT THE CARD OF THE LAW MendNone ASKS OF ITS ROW, part 2, each found by the kernel. No condition.
-/
import Derived.Test.YtiljolfolfgkiaaGreatDoorEvShut
import Derived.Test.YtiljolfolfgkiaaGreatDoorCards
import Derived.Test.YtiljolfolfgkiaaGreatDoorTie
namespace Go.Proofs.YtiljolfolfgkiaaGreatDoor
open Go Go.ChangeShapes Go.WideShapes Go.ChangeAt Go.RowKit

set_option maxRecDepth 100000
theorem mendNone_j16 : ((Rows.mendNoneRow.loops == (Tryz.f3.params.toList ++ Rows.mendNoneSpec.plain.varTypes Tryz.pinned.checked.prog).any (Tryz.pinned.checked.prog.loopsFrom ·))) = true := by kernel_rfl
theorem mendNone_j17 : ((Rows.mendNoneRow.wideKeys == (Tryz.f3.params.toList ++ Rows.mendNoneSpec.plain.varTypes Tryz.pinned.checked.prog ++ Tryz.f3.resultTypes.toList).any (Tryz.pinned.checked.prog.wideKeysFrom ·))) = true := by kernel_rfl
theorem mendNone_j18 : (Rows.mendNoneSpec.vars.all (Tryz.pinned.checked.prog.varReadable ·)) = true := by kernel_rfl
theorem mendNone_j19 : (Tryz.f3.resultTypes.all (fun t => Tryz.pinned.checked.prog.readableRec t && decide (t < Tryz.pinned.checked.prog.types.size))) = true := by kernel_rfl
theorem mendNone_j20 : ((Rows.mendNoneRow.ifacesOut == Tryz.f3.resultTypes.toList.any (Tryz.pinned.checked.prog.ifacesRec ·))) = true := by kernel_rfl
theorem mendNone_j21 : ((Rows.mendNoneRow.loopsOut == Tryz.f3.resultTypes.toList.any (Tryz.pinned.checked.prog.loopsFrom ·))) = true := by kernel_rfl
theorem mendNone_j22 : ((Rows.mendNoneRow.plainKeys == Tryz.pinned.checked.prog.plainKeys)) = true := by kernel_rfl
theorem mendNone_j23 : (Rows.mendNoneRow.shortTexts.isNone) = true := by kernel_rfl
end Go.Proofs.YtiljolfolfgkiaaGreatDoor
