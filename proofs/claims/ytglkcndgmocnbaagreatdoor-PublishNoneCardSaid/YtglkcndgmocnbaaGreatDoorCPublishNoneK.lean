/-
  WHAT THE CARD OF THE LAW PublishNone ASKS OF ITS ROW, the rest. No condition.
-/
import Derived.Test.YtglkcndgmocnbaaGreatDoorEvGoes
import Derived.Test.YtglkcndgmocnbaaGreatDoorTie
namespace Go.Proofs.YtglkcndgmocnbaaGreatDoor
open Go Go.ChangeShapes Go.WideShapes Go.ChangeAt Go.RowKit

set_option maxRecDepth 100000
theorem publishNone_named : Tryz.pinned.checked.prog.funcNamed "chartroom/chartroomlaw24.PublishNone" = some 3 := by kernel_rfl
theorem publishNone_wrap : Tryz.f3.isWrapper Tryz.pinned.checked.prog Rows.publishNoneRow.wrapper Rows.publishNoneRow.mainSum := by unfold Func.isWrapper; first | (rw [if_pos (by decide +kernel)]; kernel_rfl) | (rw [if_neg (by decide +kernel)]; exact ⟨rfl, rfl⟩)
theorem publishNone_wf : Rows.publishNoneRow.wfByText (OpenSpec.ofChange Rows.publishNoneSpec) = true := by kernel_rfl
theorem publishNone_main : Tryz.pinned.checked.prog.mainIs = some (true, ("b4acb33008790692fe4f8128a541e123aae1965400067e14cb1ab627d3d688e1").toList) := by kernel_rfl
theorem publishNone_looks : true = Tryz.pinned.checked.prog.looks [] := by kernel_rfl
theorem publishNone_goes : false = Rows.publishNoneRow.goesBy Tryz.pinned.checked.prog := goesBy_none Tryz.noGo _
theorem publishNone_stand : (([25, 29] : List TypeId).all fun u => !Tryz.prog.wantsStandIn u) = true := by kernel_rfl

end Go.Proofs.YtglkcndgmocnbaaGreatDoor
