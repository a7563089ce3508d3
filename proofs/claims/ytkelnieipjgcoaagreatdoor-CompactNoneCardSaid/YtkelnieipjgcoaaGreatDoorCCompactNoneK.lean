/-
  WHAT THE CARD OF THE LAW CompactNone ASKS OF ITS ROW, the rest. No condition.
-/
import Derived.Test.YtkelnieipjgcoaaGreatDoorEvGoes
import Derived.Test.YtkelnieipjgcoaaGreatDoorTie
namespace Go.Proofs.YtkelnieipjgcoaaGreatDoor
open Go Go.ChangeShapes Go.WideShapes Go.ChangeAt Go.RowKit

set_option maxRecDepth 100000
theorem compactNone_named : Tryz.pinned.checked.prog.funcNamed "chartroom/chartroomlaw26.CompactNone" = some 3 := by kernel_rfl
theorem compactNone_wrap : Tryz.f3.isWrapper Tryz.pinned.checked.prog Rows.compactNoneRow.wrapper Rows.compactNoneRow.mainSum := by unfold Func.isWrapper; first | (rw [if_pos (by decide +kernel)]; kernel_rfl) | (rw [if_neg (by decide +kernel)]; exact ⟨rfl, rfl⟩)
theorem compactNone_wf : Rows.compactNoneRow.wfByText (OpenSpec.ofChange Rows.compactNoneSpec) = true := by kernel_rfl
theorem compactNone_main : Tryz.pinned.checked.prog.mainIs = some (true, ("e646cd7342fce9357a04451b001d8927297059f6289a60f970fbfb832b6c4a40").toList) := by kernel_rfl
theorem compactNone_looks : true = Tryz.pinned.checked.prog.looks [] := by kernel_rfl
theorem compactNone_goes : false = Rows.compactNoneRow.goesBy Tryz.pinned.checked.prog := goesBy_none Tryz.noGo _
theorem compactNone_stand : (([22, 27] : List TypeId).all fun u => !Tryz.prog.wantsStandIn u) = true := by kernel_rfl

end Go.Proofs.YtkelnieipjgcoaaGreatDoor
