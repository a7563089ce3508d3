/-
  A RECKONER OF CLOSED CALLS: math/bits.Add64. Condition: what the entry is.
-/
import Derived.Test.YtcfmohjffnpfpaaGreatDoorEvHook
import Derived.Laws.Externs
namespace Go.Proofs.YtcfmohjffnpfpaaGreatDoor.Ev
open Go Go.RowKit

variable {P : Program}
noncomputable def addH : HookF
  | [.int .u64 (.ofNat x), .int .u64 (.ofNat y), .int .u64 (.ofNat c)], H => match Nat.ble c 1 with
    | true => some (.tup [.int .u64 (.ofNat ((x + y + c) % 18446744073709551616)), .int .u64 (.ofNat ((x + y + c) / 18446744073709551616))], H)
    | false => none
  | _, _ => none
theorem add_ok {sz : TypeId → Nat} {lo : Nat} {g : FuncId} {fn : Func} (hf : P.funcs[g]? = some fn) (hname : (fn.name == "runtime.NumGoroutine") = false) (hb : fn.body.isNone = true) (hn : Extern.findNext fn = none) (he : Extern.find fn = some add64Entry) : HookOk P sz lo g addH := by
  intro us H v H' e l w xs hr hx
  unfold addH at e
  split at e
  · rename_i x y c
    split at e
    · rename_i hc
      rw [Nat.ble_eq] at hc
      cases e
      cases hx with | cons h1 hx => ?_
      cases hx with | cons h2 hx => ?_
      cases hx with | cons h3 hx => ?_
      cases hx
      cases h1
      cases h2
      cases h3
      have h9 := run_add64 (P := P) (x : Int) (y : Int) (c : Int) (Int.natCast_nonneg _) (Int.natCast_nonneg _) (Int.natCast_nonneg _) (by omega) w
      exact .extern hf hname hb hn he hr h9 (.tup (.cons (.int _ _) (.cons (.int _ _) .nil)))
    · cases e
  · cases e
end Go.Proofs.YtcfmohjffnpfpaaGreatDoor.Ev
