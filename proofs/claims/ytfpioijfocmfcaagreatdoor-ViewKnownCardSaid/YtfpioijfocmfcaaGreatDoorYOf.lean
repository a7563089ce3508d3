/-
  CONTRACTS of name.OfSlot, name.OfBase, and of name.Parse at a known text. Condition: the library's variables lie as they are laid.
-/
import Derived.Test.YtfpioijfocmfcaaGreatDoorNParse
import Derived.Test.YtfpioijfocmfcaaGreatDoorGYP
import Derived.Test.YtfpioijfocmfcaaGreatDoorYRow
namespace Go.Proofs.YtfpioijfocmfcaaGreatDoor
open Go.RowKit

theorem z64 : (0 : Nat) < 18446744073709551616 := by decide
theorem ofSlot_any (w : World) (a b : Nat) (ha : a < 18446744073709551616) (hb : b < 18446744073709551616) (ht : Tab w) :
    Calls Tryz.prog 23 #[u64 a, u64 b] w fun e w' => e = .returned (str (putF ⟨1, a, b, 0, 0, 0⟩)) ∧ Ext w w' := by
  have hp := put_any w ⟨1, a, b, 0, 0, 0⟩ ⟨by show (1 : Nat) < 256; decide, ha, hb, z64, z64, z64⟩ ht
  have HP := Lib.hid hp
  clear hp
  go_enter Tryz.func23, Tryz.ntmps23
  go_wp2_with (go_at_call 36; fail)
  refine HP.out.mono ?_
  rintro e w1 ⟨rfl, hx1⟩
  go_wp2
  go_ret
  exact ⟨rfl, hx1⟩
theorem ofBase_any (w : World) (a b : Nat) (ha : a < 18446744073709551616) (hb : b < 18446744073709551616) (ht : Tab w) :
    Calls Tryz.prog 24 #[u64 a, u64 b] w fun e w' => e = .returned (str (putF ⟨2, a, b, 0, 0, 0⟩)) ∧ Ext w w' := by
  have hp := put_any w ⟨2, a, b, 0, 0, 0⟩ ⟨by show (2 : Nat) < 256; decide, ha, hb, z64, z64, z64⟩ ht
  have HP := Lib.hid hp
  clear hp
  go_enter Tryz.func24, Tryz.ntmps24
  go_wp2_with (go_at_call 36; fail)
  refine HP.out.mono ?_
  rintro e w1 ⟨rfl, hx1⟩
  go_wp2
  go_ret
  exact ⟨rfl, hx1⟩
theorem parse_lit (w : World) (s : List UInt8) (x : Nm) (ok : Bool) (hs : s.length ≤ 1000000) (hE : Env w) (hp : parseF s = (x, ok)) :
    Calls Tryz.prog 25 #[str s] w fun e w' => e = .returned (.tuple #[.agg (nmCells x), .bool ok]) ∧ Ext w w' := by
  refine (parse_any w s hs hE).mono ?_
  rintro e w' ⟨rfl, hx⟩
  rw [hp]; exact ⟨rfl, hx⟩
end Go.Proofs.YtfpioijfocmfcaaGreatDoor
