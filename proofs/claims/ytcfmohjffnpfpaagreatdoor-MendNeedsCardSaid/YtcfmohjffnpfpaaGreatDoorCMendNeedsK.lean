/-
  WHAT THE CARD OF THE LAW MendNeeds ASKS OF ITS ROW, the rest. No condition.
-/
import Derived.Test.YtcfmohjffnpfpaaGreatDoorEvGoes
import Derived.Test.YtcfmohjffnpfpaaGreatDoorTie
namespace Go.Proofs.YtcfmohjffnpfpaaGreatDoor
open Go Go.ChangeShapes Go.WideShapes Go.ChangeAt Go.RowKit

set_option maxRecDepth 100000
theorem mendNeeds_named : Tryz.pinned.checked.prog.funcNamed "chartroom/chartroomlaw27.MendNeeds" = some 3 := by kernel_rfl
theorem mendNeeds_wrap : Tryz.f3.isWrapper Tryz.pinned.checked.prog Rows.mendNeedsRow.wrapper Rows.mendNeedsRow.mainSum := by unfold Func.isWrapper; first | (rw [if_pos (by decide +kernel)]; kernel_rfl) | (rw [if_neg (by decide +kernel)]; exact ⟨rfl, rfl⟩)
theorem mendNeeds_wf : Rows.mendNeedsRow.wfByText (OpenSpec.ofChange Rows.mendNeedsSpec) = true := by kernel_rfl
theorem mendNeeds_main : Tryz.pinned.checked.prog.mainIs = some (true, ("ba09b9e8541811a3ff728be260343ccda5a218c1baf4b64bfab8cb6c961bf1f2").toList) := by kernel_rfl
theorem mendNeeds_looks : true = Tryz.pinned.checked.prog.looks [] := by kernel_rfl
theorem mendNeeds_goes : false = Rows.mendNeedsRow.goesBy Tryz.pinned.checked.prog := goesBy_none Tryz.noGo _
theorem mendNeeds_stand : (([23] : List TypeId).all fun u => !Tryz.prog.wantsStandIn u) = true := by kernel_rfl

end Go.Proofs.YtcfmohjffnpfpaaGreatDoor
