/-
  chartroomlaw21.works, reckoned. No condition.
-/
import Derived.Test.YtfpioijfocmfcaaGreatDoorEvSeat
import Derived.Test.YtfpioijfocmfcaaGreatDoorEvTop
import Derived.Test.YtfpioijfocmfcaaGreatDoorNBase
namespace Go.Proofs.YtfpioijfocmfcaaGreatDoor
open Go
set_option maxRecDepth 1000000 in
theorem works_reckoned : Ev.topV Ev.tb 60 8 = some (.bool true) := by kernel_rfl
theorem works_any (w : World) : Calls Tryz.prog 8 #[] w fun e w' => e = .returned (.bool true) ∧ Ext w w' :=
  Calls.mono (Ev.top_true Ev.tb_ok Ev.hook_ok works_reckoned Tryz.call8 w) fun _ _ h => ⟨h.1, h.2.os, h.2.tape, h.2.output, h.2.size, fun k hk _ => h.2.block k hk⟩
end Go.Proofs.YtfpioijfocmfcaaGreatDoor
