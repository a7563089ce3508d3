/-
  WHAT THE CARD OF THE LAW PublishKnown ASKS OF ITS ROW, the rest. No condition.
-/
import Derived.Test.YtkbmmoobcikbaaaGreatDoorEvGoes
import Derived.Test.YtkbmmoobcikbaaaGreatDoorTie
namespace Go.Proofs.YtkbmmoobcikbaaaGreatDoor
open Go Go.ChangeShapes Go.WideShapes Go.ChangeAt Go.RowKit

set_option maxRecDepth 100000
theorem publishKnown_named : Tryz.pinned.checked.prog.funcNamed "chartroom/chartroomlaw24.PublishKnown" = some 3 := by kernel_rfl
theorem publishKnown_wrap : Tryz.f3.isWrapper Tryz.pinned.checked.prog Rows.publishKnownRow.wrapper Rows.publishKnownRow.mainSum := by unfold Func.isWrapper; first | (rw [if_pos (by decide +kernel)]; kernel_rfl) | (rw [if_neg (by decide +kernel)]; exact ⟨rfl, rfl⟩)
theorem publishKnown_wf : Rows.publishKnownRow.wfByText (OpenSpec.ofChange Rows.publishKnownSpec) = true := by kernel_rfl
theorem publishKnown_main : Tryz.pinned.checked.prog.mainIs = some (true, ("cf7cd0688ddf99b851cb24427c2a944069fb605f4a74ef30c4a8e59385f89bac").toList) := by kernel_rfl
theorem publishKnown_looks : true = Tryz.pinned.checked.prog.looks [] := by kernel_rfl
theorem publishKnown_goes : false = Rows.publishKnownRow.goesBy Tryz.pinned.checked.prog := goesBy_none Tryz.noGo _
theorem publishKnown_stand : (([] : List TypeId).all fun u => !Tryz.prog.wantsStandIn u) = true := by kernel_rfl

end Go.Proofs.YtkbmmoobcikbaaaGreatDoor
