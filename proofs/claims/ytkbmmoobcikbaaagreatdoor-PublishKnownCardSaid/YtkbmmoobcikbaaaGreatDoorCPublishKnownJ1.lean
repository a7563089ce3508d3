/-
  WHAT THE CARD OF THE LAW PublishKnown ASKS OF ITS ROW, part 1, each found by the kernel. No condition.
-/
import Derived.Test.YtkbmmoobcikbaaaGreatDoorEvShut
import Derived.Test.YtkbmmoobcikbaaaGreatDoorCards
import Derived.Test.YtkbmmoobcikbaaaGreatDoorTie
namespace Go.Proofs.YtkbmmoobcikbaaaGreatDoor
open Go Go.ChangeShapes Go.WideShapes Go.ChangeAt Go.RowKit

set_option maxRecDepth 100000
theorem publishKnown_j16 : ((Rows.publishKnownRow.loops == (Tryz.f3.params.toList ++ Rows.publishKnownSpec.plain.varTypes Tryz.pinned.checked.prog).any (Tryz.pinned.checked.prog.loopsFrom ·))) = true := by kernel_rfl
theorem publishKnown_j17 : ((Rows.publishKnownRow.wideKeys == (Tryz.f3.params.toList ++ Rows.publishKnownSpec.plain.varTypes Tryz.pinned.checked.prog ++ Tryz.f3.resultTypes.toList).any (Tryz.pinned.checked.prog.wideKeysFrom ·))) = true := by kernel_rfl
theorem publishKnown_j18 : (Rows.publishKnownSpec.vars.all (Tryz.pinned.checked.prog.varReadable ·)) = true := by kernel_rfl
theorem publishKnown_j19 : (Tryz.f3.resultTypes.all (fun t => Tryz.pinned.checked.prog.readableRec t && decide (t < Tryz.pinned.checked.prog.types.size))) = true := by kernel_rfl
theorem publishKnown_j20 : ((Rows.publishKnownRow.ifacesOut == Tryz.f3.resultTypes.toList.any (Tryz.pinned.checked.prog.ifacesRec ·))) = true := by kernel_rfl
theorem publishKnown_j21 : ((Rows.publishKnownRow.loopsOut == Tryz.f3.resultTypes.toList.any (Tryz.pinned.checked.prog.loopsFrom ·))) = true := by kernel_rfl
theorem publishKnown_j22 : ((Rows.publishKnownRow.plainKeys == Tryz.pinned.checked.prog.plainKeys)) = true := by kernel_rfl
theorem publishKnown_j23 : (Rows.publishKnownRow.shortTexts.isNone) = true := by kernel_rfl
theorem publishKnown_j24 : (Tryz.pinned.checked.prog.stopsHeard) = true := by kernel_rfl
theorem publishKnown_j25 : (Tryz.pinned.checked.prog.mayEnter) = true := by kernel_rfl
theorem publishKnown_j26 : ((Rows.publishKnownRow.lifted == Tryz.pinned.checked.prog.liftsFinal)) = true := by kernel_rfl
theorem publishKnown_j27 : ((Tryz.pinned.checked.prog.make == some Rows.publishKnownRow.make)) = true := by kernel_rfl
theorem publishKnown_j28 : ((Rows.publishKnownRow.kinds == (if Rows.publishKnownRow.domain.isEmpty then [] else Tryz.f3.params.toList.map fun t => match Tryz.pinned.checked.prog.underlying t with | some (.int k) => some k | _ => none))) = true := by kernel_rfl
theorem publishKnown_j29 : ((Rows.publishKnownRow.pinned == Rows.publishKnownRow.pinnedBy)) = true := by kernel_rfl
theorem publishKnown_j30 : ((Rows.publishKnownRow.veiled == (Tryz.f3.params.toList ++ Rows.publishKnownSpec.plain.varTypes Tryz.pinned.checked.prog ++ Tryz.f3.resultTypes.toList).any (Tryz.pinned.checked.prog.veiledRec ·))) = true := by kernel_rfl
theorem publishKnown_j31 : (Rows.publishKnownRow.veiledFits Tryz.pinned.checked.prog Tryz.f3.params.toList (Tryz.f3.params.toList ++ Rows.publishKnownSpec.plain.varTypes Tryz.pinned.checked.prog ++ Tryz.f3.resultTypes.toList)) = true := by kernel_rfl
end Go.Proofs.YtkbmmoobcikbaaaGreatDoor
