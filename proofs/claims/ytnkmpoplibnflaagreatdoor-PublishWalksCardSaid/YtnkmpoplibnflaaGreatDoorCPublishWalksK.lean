/-
  WHAT THE CARD OF THE LAW PublishWalks ASKS OF ITS ROW, the rest. No condition.
-/
import Derived.Test.YtnkmpoplibnflaaGreatDoorGAA
import Derived.Test.YtnkmpoplibnflaaGreatDoorTie
set_option maxRecDepth 100000
set_option maxHeartbeats 16000000
namespace Go.Proofs.YtnkmpoplibnflaaGreatDoor
open Go Go.ChangeShapes Go.WideShapes Go.ChangeAt Go.RowKit
set_option maxRecDepth 100000
theorem publishWalks_named : Tryz.pinned.checked.prog.funcNamed "chartroom/chartroomlaw24.PublishWalks" = some 3 := by kernel_rfl
theorem publishWalks_wrap : Tryz.f3.isWrapper Tryz.pinned.checked.prog Rows.publishWalksRow.wrapper Rows.publishWalksRow.mainSum := by unfold Func.isWrapper; first | (rw [if_pos (by decide +kernel)]; kernel_rfl) | (rw [if_neg (by decide +kernel)]; exact ⟨rfl, rfl⟩)
theorem publishWalks_wf : Rows.publishWalksRow.wfByText (OpenSpec.ofChange Rows.publishWalksSpec) = true := by kernel_rfl
theorem publishWalks_main : Tryz.pinned.checked.prog.mainIs = some (true, ("a505ffd601f2db83c54e7849bfc86538fadd539efbfce6b5c58da9b90d120fca").toList) := by kernel_rfl
theorem publishWalks_looks : true = Tryz.pinned.checked.prog.looks [] := by kernel_rfl
theorem publishWalks_goes : false = Rows.publishWalksRow.goesBy Tryz.pinned.checked.prog := goesBy_none Tryz.noGo _
theorem publishWalks_stand : (([25, 26] : List TypeId).all fun u => !Tryz.prog.wantsStandIn u) = true := by kernel_rfl
end Go.Proofs.YtnkmpoplibnflaaGreatDoor
