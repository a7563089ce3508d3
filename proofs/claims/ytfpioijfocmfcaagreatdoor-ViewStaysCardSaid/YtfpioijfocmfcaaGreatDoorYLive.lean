/-
  CONTRACT of view's Live where nothing is live. No condition.
-/
import Derived.Test.YtfpioijfocmfcaaGreatDoorYTail
namespace Go.Proofs.YtfpioijfocmfcaaGreatDoor
open Go.RowKit

theorem live_nil (w : World) (v : Vw) (h : v.tail ≤ v.floor) : Calls Tryz.prog 18 #[.agg (vwCells v)] w fun e w' => e = .returned (.slice none 0 0) ∧ Ext w w' := by
  show Calls Tryz.prog 18 #[.agg #[.int .u64 v.chain, .int .u64 v.floor, .int .u64 v.tail]] w _
  have h' : ¬ ((v.floor : Int) < (v.tail : Int)) := by omega
  go_enter Tryz.func18, Tryz.ntmps18
  go_wp2
  refine wp_loop_rounds 1 ?_
  rw [rounds_succ]
  go_wp2
  go_ret
  exact ⟨rfl, (Upd.refl _ _).alloc _⟩
end Go.Proofs.YtfpioijfocmfcaaGreatDoor
