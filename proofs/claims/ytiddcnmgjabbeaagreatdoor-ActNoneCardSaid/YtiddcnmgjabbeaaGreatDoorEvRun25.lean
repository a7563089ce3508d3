/-
  ActNone, reckoned: whatever its argument's parts are. No condition.
-/
import Derived.Test.YtiddcnmgjabbeaaGreatDoorEvSeat
import Derived.Test.YtiddcnmgjabbeaaGreatDoorEvTop
namespace Go.Proofs.YtiddcnmgjabbeaaGreatDoor.Ev
open Go
set_option maxRecDepth 1000000
theorem run_top (x0 x1 x2 u : Value) : topVA tb 60 3 [.agg [.cst x0, .cst x1, .cst x2], .cst u] = some (.bool true) := by kernel_rfl
theorem run_any (W : World) (x0 x1 x2 u : Value) : Calls Tryz.prog 3 #[.agg #[x0, x1, x2], u] W fun r w' => r = .returned (.bool true) ∧ Same W w' :=
  top_trueA tb_ok hook_ok (run_top x0 x1 x2 u) Tryz.call3 (.cons (.agg (.cons (.cst _) (.cons (.cst _) (.cons (.cst _) .nil)))) (.cons (.cst _) .nil)) W
end Go.Proofs.YtiddcnmgjabbeaaGreatDoor.Ev
