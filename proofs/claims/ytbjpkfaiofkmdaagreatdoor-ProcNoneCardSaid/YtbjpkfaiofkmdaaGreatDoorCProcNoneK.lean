/-
  WHAT THE CARD OF THE LAW ProcNone ASKS OF ITS ROW, second part, each found by the kernel. No condition.
-/
import Derived.Test.YtbjpkfaiofkmdaaGreatDoorEvGoes
import Derived.Test.YtbjpkfaiofkmdaaGreatDoorCards
import Derived.Test.YtbjpkfaiofkmdaaGreatDoorTie
namespace Go.Proofs.YtbjpkfaiofkmdaaGreatDoor
open Go Go.ChangeShapes Go.WideShapes Go.ChangeAt Go.RowKit

set_option maxRecDepth 100000
theorem procNone_named : Tryz.pinned.checked.prog.funcNamed "chartroom/chartroomlaw28.ProcNone" = some 3 := by kernel_rfl
theorem procNone_wrap : Tryz.f3.isWrapper Tryz.pinned.checked.prog Rows.procNoneRow.wrapper Rows.procNoneRow.mainSum := by unfold Func.isWrapper; first | (rw [if_pos (by decide +kernel)]; kernel_rfl) | (rw [if_neg (by decide +kernel)]; exact ⟨rfl, rfl⟩)
theorem procNone_wf : Rows.procNoneRow.wfByText (OpenSpec.ofChange Rows.procNoneSpec) = true := by kernel_rfl
theorem procNone_main : Tryz.pinned.checked.prog.mainIs = some (true, ("a16d92cb219534d3489041a959e5c8626b3704ccc163e0eb25e512a5bbe764b6").toList) := by kernel_rfl
theorem procNone_looks : true = Tryz.pinned.checked.prog.looks [] := by kernel_rfl
theorem procNone_goes : false = Rows.procNoneRow.goesBy Tryz.pinned.checked.prog := goesBy_none Tryz.noGo _
theorem procNone_stand : (([25, 22] : List TypeId).all fun u => !Tryz.prog.wantsStandIn u) = true := by kernel_rfl
end Go.Proofs.YtbjpkfaiofkmdaaGreatDoor
