/-
  works of chapter 27, reckoned. No condition.
-/
import Derived.Test.YtcfmohjffnpfpaaGreatDoorEvSeat
import Derived.Test.YtcfmohjffnpfpaaGreatDoorEvFTop
import Derived.Test.YtcfmohjffnpfpaaGreatDoorNBase
namespace Go.Proofs.YtcfmohjffnpfpaaGreatDoor.Ev
open Go
set_option maxRecDepth 1000000
theorem works_top : topF tb 60 4 [] = some (.bool true) := by kernel_rfl
end Go.Proofs.YtcfmohjffnpfpaaGreatDoor.Ev
namespace Go.Proofs.YtcfmohjffnpfpaaGreatDoor
open Go
theorem ext_same {w w' : World} (h : Ev.Same w w') : Ext w w' := ⟨h.os, h.tape, h.output, h.size, fun k hk _ => h.block k hk⟩
theorem works_any (w : World) : Calls Tryz.prog 4 #[] w fun e w' => e = .returned (.bool true) ∧ Ext w w' :=
  (Ev.topF_true Ev.tb_ok Ev.hook_ok Ev.works_top Tryz.call4 .nil w).mono fun _ _ h => ⟨h.1, ext_same h.2⟩
end Go.Proofs.YtcfmohjffnpfpaaGreatDoor
