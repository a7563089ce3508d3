/-
  WHAT THE CARD OF THE LAW MendNeeds ASKS OF ITS ROW, part 3, each found by the kernel. No condition.
-/
import Derived.Test.YtcfmohjffnpfpaaGreatDoorEvShut
import Derived.Test.YtcfmohjffnpfpaaGreatDoorCards
import Derived.Test.YtcfmohjffnpfpaaGreatDoorTie
namespace Go.Proofs.YtcfmohjffnpfpaaGreatDoor
open Go Go.ChangeShapes Go.WideShapes Go.ChangeAt Go.RowKit

set_option maxRecDepth 100000
theorem mendNeeds_j24 : (Tryz.pinned.checked.prog.stopsHeard) = true := by kernel_rfl
theorem mendNeeds_j25 : (Tryz.pinned.checked.prog.mayEnter) = true := by kernel_rfl
theorem mendNeeds_j26 : ((Rows.mendNeedsRow.lifted == Tryz.pinned.checked.prog.liftsFinal)) = true := by kernel_rfl
theorem mendNeeds_j27 : ((Tryz.pinned.checked.prog.make == some Rows.mendNeedsRow.make)) = true := by kernel_rfl
theorem mendNeeds_j28 : ((Rows.mendNeedsRow.kinds == (if Rows.mendNeedsRow.domain.isEmpty then [] else Tryz.f3.params.toList.map fun t => match Tryz.pinned.checked.prog.underlying t with | some (.int k) => some k | _ => none))) = true := by kernel_rfl
theorem mendNeeds_j29 : ((Rows.mendNeedsRow.pinned == Rows.mendNeedsRow.pinnedBy)) = true := by kernel_rfl
theorem mendNeeds_j30 : ((Rows.mendNeedsRow.veiled == (Tryz.f3.params.toList ++ Rows.mendNeedsSpec.plain.varTypes Tryz.pinned.checked.prog ++ Tryz.f3.resultTypes.toList).any (Tryz.pinned.checked.prog.veiledRec ·))) = true := by kernel_rfl
theorem mendNeeds_j31 : (Rows.mendNeedsRow.veiledFits Tryz.pinned.checked.prog Tryz.f3.params.toList (Tryz.f3.params.toList ++ Rows.mendNeedsSpec.plain.varTypes Tryz.pinned.checked.prog ++ Tryz.f3.resultTypes.toList)) = true := by kernel_rfl
end Go.Proofs.YtcfmohjffnpfpaaGreatDoor
