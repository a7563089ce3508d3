/-
  MendNone, reckoned: whatever its argument's parts are. No condition.
-/
import Derived.Test.YtiljolfolfgkiaaGreatDoorEvSeat
import Derived.Test.YtiljolfolfgkiaaGreatDoorEvFTop
namespace Go.Proofs.YtiljolfolfgkiaaGreatDoor.Ev
open Go
set_option maxRecDepth 1000000
theorem run_top (x0 x1 x2 : Value) : topF tb 60 3 [.agg [.cst x0, .cst x1, .cst x2]] = some (.bool true) := by kernel_rfl
theorem run_any (W : World) (x0 x1 x2 : Value) : Calls Tryz.prog 3 #[.agg #[x0, x1, x2]] W fun r w' => r = .returned (.bool true) ∧ Same W w' :=
  topF_true tb_ok hook_ok (run_top x0 x1 x2) Tryz.call3 (.cons (.agg (.cons (.cst _) (.cons (.cst _) (.cons (.cst _) .nil)))) .nil) W
end Go.Proofs.YtiljolfolfgkiaaGreatDoor.Ev
