/-
  WHAT THE CARD OF THE LAW MendNone ASKS OF ITS ROW, part 3, each found by the kernel. No condition.
-/
import Derived.Test.YtiljolfolfgkiaaGreatDoorEvShut
import Derived.Test.YtiljolfolfgkiaaGreatDoorCards
import Derived.Test.YtiljolfolfgkiaaGreatDoorTie
namespace Go.Proofs.YtiljolfolfgkiaaGreatDoor
open Go Go.ChangeShapes Go.WideShapes Go.ChangeAt Go.RowKit

set_option maxRecDepth 100000
theorem mendNone_j24 : (Tryz.pinned.checked.prog.stopsHeard) = true := by kernel_rfl
theorem mendNone_j25 : (Tryz.pinned.checked.prog.mayEnter) = true := by kernel_rfl
theorem mendNone_j26 : ((Rows.mendNoneRow.lifted == Tryz.pinned.checked.prog.liftsFinal)) = true := by kernel_rfl
theorem mendNone_j27 : ((Tryz.pinned.checked.prog.make == some Rows.mendNoneRow.make)) = true := by kernel_rfl
theorem mendNone_j28 : ((Rows.mendNoneRow.kinds == (if Rows.mendNoneRow.domain.isEmpty then [] else Tryz.f3.params.toList.map fun t => match Tryz.pinned.checked.prog.underlying t with | some (.int k) => some k | _ => none))) = true := by kernel_rfl
theorem mendNone_j29 : ((Rows.mendNoneRow.pinned == Rows.mendNoneRow.pinnedBy)) = true := by kernel_rfl
theorem mendNone_j30 : ((Rows.mendNoneRow.veiled == (Tryz.f3.params.toList ++ Rows.mendNoneSpec.plain.varTypes Tryz.pinned.checked.prog ++ Tryz.f3.resultTypes.toList).any (Tryz.pinned.checked.prog.veiledRec ·))) = true := by kernel_rfl
theorem mendNone_j31 : (Rows.mendNoneRow.veiledFits Tryz.pinned.checked.prog Tryz.f3.params.toList (Tryz.f3.params.toList ++ Rows.mendNoneSpec.plain.varTypes Tryz.pinned.checked.prog ++ Tryz.f3.resultTypes.toList)) = true := by kernel_rfl
end Go.Proofs.YtiljolfolfgkiaaGreatDoor
