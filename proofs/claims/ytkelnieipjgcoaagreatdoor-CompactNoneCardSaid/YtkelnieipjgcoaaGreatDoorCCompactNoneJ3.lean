/-
  WHAT THE CARD OF THE LAW CompactNone ASKS OF ITS ROW, part 3, each found by the kernel. No condition.
-/
import Derived.Test.YtkelnieipjgcoaaGreatDoorEvShut
import Derived.Test.YtkelnieipjgcoaaGreatDoorCards
import Derived.Test.YtkelnieipjgcoaaGreatDoorTie
namespace Go.Proofs.YtkelnieipjgcoaaGreatDoor
open Go Go.ChangeShapes Go.WideShapes Go.ChangeAt Go.RowKit

set_option maxRecDepth 100000
theorem compactNone_j24 : (Tryz.pinned.checked.prog.stopsHeard) = true := by kernel_rfl
theorem compactNone_j25 : (Tryz.pinned.checked.prog.mayEnter) = true := by kernel_rfl
theorem compactNone_j26 : ((Rows.compactNoneRow.lifted == Tryz.pinned.checked.prog.liftsFinal)) = true := by kernel_rfl
theorem compactNone_j27 : ((Tryz.pinned.checked.prog.make == some Rows.compactNoneRow.make)) = true := by kernel_rfl
theorem compactNone_j28 : ((Rows.compactNoneRow.kinds == (if Rows.compactNoneRow.domain.isEmpty then [] else Tryz.f3.params.toList.map fun t => match Tryz.pinned.checked.prog.underlying t with | some (.int k) => some k | _ => none))) = true := by kernel_rfl
theorem compactNone_j29 : ((Rows.compactNoneRow.pinned == Rows.compactNoneRow.pinnedBy)) = true := by kernel_rfl
theorem compactNone_j30 : ((Rows.compactNoneRow.veiled == (Tryz.f3.params.toList ++ Rows.compactNoneSpec.plain.varTypes Tryz.pinned.checked.prog ++ Tryz.f3.resultTypes.toList).any (Tryz.pinned.checked.prog.veiledRec ·))) = true := by kernel_rfl
theorem compactNone_j31 : (Rows.compactNoneRow.veiledFits Tryz.pinned.checked.prog Tryz.f3.params.toList (Tryz.f3.params.toList ++ Rows.compactNoneSpec.plain.varTypes Tryz.pinned.checked.prog ++ Tryz.f3.resultTypes.toList)) = true := by kernel_rfl
end Go.Proofs.YtkelnieipjgcoaaGreatDoor
