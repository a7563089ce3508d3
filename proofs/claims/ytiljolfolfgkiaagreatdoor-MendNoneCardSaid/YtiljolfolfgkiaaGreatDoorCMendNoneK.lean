/-
  WHAT THE CARD OF THE LAW MendNone ASKS OF ITS ROW, the rest. No condition.
-/
import Derived.Test.YtiljolfolfgkiaaGreatDoorEvGoes
import Derived.Test.YtiljolfolfgkiaaGreatDoorTie
namespace Go.Proofs.YtiljolfolfgkiaaGreatDoor
open Go Go.ChangeShapes Go.WideShapes Go.ChangeAt Go.RowKit

set_option maxRecDepth 100000
theorem mendNone_named : Tryz.pinned.checked.prog.funcNamed "chartroom/chartroomlaw27.MendNone" = some 3 := by kernel_rfl
theorem mendNone_wrap : Tryz.f3.isWrapper Tryz.pinned.checked.prog Rows.mendNoneRow.wrapper Rows.mendNoneRow.mainSum := by unfold Func.isWrapper; first | (rw [if_pos (by decide +kernel)]; kernel_rfl) | (rw [if_neg (by decide +kernel)]; exact ⟨rfl, rfl⟩)
theorem mendNone_wf : Rows.mendNoneRow.wfByText (OpenSpec.ofChange Rows.mendNoneSpec) = true := by kernel_rfl
theorem mendNone_main : Tryz.pinned.checked.prog.mainIs = some (true, ("c30524d97f6acae45eaa000eb32176ec4962832c22c8a70a34527ae4d1981115").toList) := by kernel_rfl
theorem mendNone_looks : true = Tryz.pinned.checked.prog.looks [] := by kernel_rfl
theorem mendNone_goes : false = Rows.mendNoneRow.goesBy Tryz.pinned.checked.prog := goesBy_none Tryz.noGo _
theorem mendNone_stand : (([26] : List TypeId).all fun u => !Tryz.prog.wantsStandIn u) = true := by kernel_rfl

end Go.Proofs.YtiljolfolfgkiaaGreatDoor
