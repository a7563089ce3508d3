/-
  WHAT THE CARD OF THE LAW CompactNone ASKS OF ITS ROW, part 2, each found by the kernel. No condition.
-/
import Derived.Test.YtkelnieipjgcoaaGreatDoorEvShut
import Derived.Test.YtkelnieipjgcoaaGreatDoorCards
import Derived.Test.YtkelnieipjgcoaaGreatDoorTie
namespace Go.Proofs.YtkelnieipjgcoaaGreatDoor
open Go Go.ChangeShapes Go.WideShapes Go.ChangeAt Go.RowKit

set_option maxRecDepth 100000
theorem compactNone_j16 : ((Rows.compactNoneRow.loops == (Tryz.f3.params.toList ++ Rows.compactNoneSpec.plain.varTypes Tryz.pinned.checked.prog).any (Tryz.pinned.checked.prog.loopsFrom ·))) = true := by kernel_rfl
theorem compactNone_j17 : ((Rows.compactNoneRow.wideKeys == (Tryz.f3.params.toList ++ Rows.compactNoneSpec.plain.varTypes Tryz.pinned.checked.prog ++ Tryz.f3.resultTypes.toList).any (Tryz.pinned.checked.prog.wideKeysFrom ·))) = true := by kernel_rfl
theorem compactNone_j18 : (Rows.compactNoneSpec.vars.all (Tryz.pinned.checked.prog.varReadable ·)) = true := by kernel_rfl
theorem compactNone_j19 : (Tryz.f3.resultTypes.all (fun t => Tryz.pinned.checked.prog.readableRec t && decide (t < Tryz.pinned.checked.prog.types.size))) = true := by kernel_rfl
theorem compactNone_j20 : ((Rows.compactNoneRow.ifacesOut == Tryz.f3.resultTypes.toList.any (Tryz.pinned.checked.prog.ifacesRec ·))) = true := by kernel_rfl
theorem compactNone_j21 : ((Rows.compactNoneRow.loopsOut == Tryz.f3.resultTypes.toList.any (Tryz.pinned.checked.prog.loopsFrom ·))) = true := by kernel_rfl
theorem compactNone_j22 : ((Rows.compactNoneRow.plainKeys == Tryz.pinned.checked.prog.plainKeys)) = true := by kernel_rfl
theorem compactNone_j23 : (Rows.compactNoneRow.shortTexts.isNone) = true := by kernel_rfl
end Go.Proofs.YtkelnieipjgcoaaGreatDoor
