/-
  NO FUNCTION OF THE PROGRAM STARTS A GOROUTINE: so no call does. Condition: that none does by its own text.
-/
import Derived.Test.YtkbmmoobcikbaaaGreatDoorEvShut
import Derived.Test.YtkbmmoobcikbaaaGreatDoorCards
namespace Go.Proofs.YtkbmmoobcikbaaaGreatDoor
open Go

theorem goes_none {P : Program} (h : P.funcs.toList.all (fun fn => !fn.goes) = true) (f : FuncId) : P.goes f = false := by
  have h1 : ∀ fn ∈ P.funcs.toList, fn.goes = false := fun fn hfn => by simpa using List.all_eq_true.1 h fn hfn
  have h2 : P.funcs.any Func.goes = false := by
    rw [← Array.any_toList]
    exact List.any_eq_false.2 (fun fn hfn => by rw [h1 fn hfn]; decide)
  have h3 : ∀ g : FuncId, (P.funcs[g]?).any Func.goes = false := fun g => by
    cases hg : P.funcs[g]? with
    | none => rfl
    | some fn => exact h1 fn (by simpa using Array.mem_of_getElem? hg)
  unfold Program.goes
  rw [h2]
  simp [h3]
theorem goesBy_none {P : Program} (h : P.funcs.toList.all (fun fn => !fn.goes) = true) (c : OpenClaim) : false = c.goesBy P := by
  unfold OpenClaim.goesBy Program.goesAt Program.goesFrom
  have h1 : (P.funcNamed c.func).any P.goes = false := by
    cases P.funcNamed c.func with
    | none => rfl
    | some f => exact goes_none h f
  rw [h1]
  have h2 : P.inits.toList.any P.goes = false := List.any_eq_false.2 fun f _ => by rw [goes_none h f]; decide
  rw [h2]
  cases c.start <;> rfl
theorem Tryz.noGo : (Tryz.pinned.checked.prog.funcs.toList.all fun fn => !fn.goes) = true := by kernel_rfl
end Go.Proofs.YtkbmmoobcikbaaaGreatDoor
