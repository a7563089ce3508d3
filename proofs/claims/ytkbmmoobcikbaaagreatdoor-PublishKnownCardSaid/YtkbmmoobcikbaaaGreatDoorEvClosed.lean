/-
  A RECKONER OF CLOSED CALLS: a closed call that was reckoned to be true, as a function by hand. No program in sight; no condition.
-/
import Derived.Test.YtkbmmoobcikbaaaGreatDoorGEG
namespace Go.Proofs.YtkbmmoobcikbaaaGreatDoor.Ev
open Go Go.RowKit

noncomputable def trueH : HookF
  | [], H => some (.bool true, H)
  | _, _ => none
theorem true_ok {P : Program} {sz : TypeId → Nat} {lo : Nat} {g : FuncId} (hc : ∀ args w, (callFunc g args).run P w = .ok (.enter g args) w) (h : ∀ w, Calls P g #[] w fun r w' => r = .returned (.bool true) ∧ Same w w') : HookOk P sz lo g trueH := by
  intro us H v H' e l w xs hr hx
  unfold trueH at e
  split at e
  · cases e
    cases hx
    refine .inr ⟨hc _ _, Calls.mono (h w) fun r w' => ?_⟩
    rintro ⟨rfl, hS⟩
    exact ⟨_, rfl, l, .bool _, Kp.same hr hS⟩
  · cases e
end Go.Proofs.YtkbmmoobcikbaaaGreatDoor.Ev
