/-
  WHAT COMES IN: numbers of 64 bits. No condition.
-/
import Derived.Test.YtfniemagbapeaaaDoorNShut
namespace Go.Proofs.YtfniemagbapeaaaDoor
open Go Go.ChangeShapes Go.WideShapes Go.ChangeAt Go.RowKit

set_option maxRecDepth 100000 in
theorem u64_wf {n : Int} (h : (Lit.int .u64 n).wf = true) : ∃ m : Nat, n = m ∧ m < 18446744073709551616 := by
  have m1 : IntKind.u64.min = 0 := by decide
  have m2 : IntKind.u64.max = 18446744073709551615 := by decide
  have h2 : IntKind.u64.min ≤ n ∧ n ≤ IntKind.u64.max := by
    unfold Lit.wf at h
    first | exact of_decide_eq_true h | (rw [Bool.and_eq_true, decide_eq_true_eq, decide_eq_true_eq] at h; exact h)
  rw [m1, m2] at h2
  obtain ⟨m, rfl⟩ := Int.eq_ofNat_of_zero_le h2.1
  exact ⟨m, rfl, by have := h2.2; omega⟩
end Go.Proofs.YtfniemagbapeaaaDoor
