/-
  ProcNone, reckoned: whatever its argument's parts are. No condition.
-/
import Derived.Test.YtbjpkfaiofkmdaaGreatDoorEvSeat
import Derived.Test.YtbjpkfaiofkmdaaGreatDoorEvTop
namespace Go.Proofs.YtbjpkfaiofkmdaaGreatDoor.Ev
open Go
set_option maxRecDepth 1000000
theorem run_top (x0 x1 x2 x3 x4 x5 x6 x7 x8 u : Value) : topVA tb 60 3 [.agg [.cst x0, .cst x1, .cst x2, .cst x3, .cst x4, .cst x5, .cst x6, .cst x7, .cst x8], .cst u] = some (.bool true) := by kernel_rfl
theorem run_any (W : World) (x0 x1 x2 x3 x4 x5 x6 x7 x8 u : Value) : Calls Tryz.prog 3 #[.agg #[x0, x1, x2, x3, x4, x5, x6, x7, x8], u] W fun r w' => r = .returned (.bool true) ∧ Same W w' :=
  top_trueA tb_ok hook_ok (run_top x0 x1 x2 x3 x4 x5 x6 x7 x8 u) Tryz.call3 (.cons (.agg (.cons (.cst _) (.cons (.cst _) (.cons (.cst _) (.cons (.cst _) (.cons (.cst _) (.cons (.cst _) (.cons (.cst _) (.cons (.cst _) (.cons (.cst _) .nil)))))))))) (.cons (.cst _) .nil)) W
end Go.Proofs.YtbjpkfaiofkmdaaGreatDoor.Ev
