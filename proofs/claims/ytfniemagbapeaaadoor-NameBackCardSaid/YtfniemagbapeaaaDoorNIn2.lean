/-
  WHAT COMES IN: a Name of the input. No condition.
-/
import Derived.Test.YtfniemagbapeaaaDoorNIn
namespace Go.Proofs.YtfniemagbapeaaaDoor
open Go Go.ChangeShapes Go.WideShapes Go.ChangeAt Go.RowKit

section
variable {H : Type} {enc : TypeId × Value → H} {P : Program} {W : World}
abbrev Reads1 (enc : TypeId × Value → H) (P : Program) (W : World) (t : TypeId) (cs : List Value) : Prop := ∃ n y, DataW.trod enc P W 0 (fun _ => true) true n t cs = some y
theorem field_open {t : TypeId} {cs : List Value} {fs : Array Field} (ht : P.underlying t = some (.struct fs)) (h : Reads1 enc P W t cs) : cs.length = P.cellsOf t ∧
    ∀ (i : Nat) (f : Field), fs[i]? = some f → ∀ (ty : TypeId) (off n : Nat) (cs' : List Value), f.type = ty → f.offset = off → P.cellsOf ty = n → (cs.drop off).take n = cs' → Reads1 enc P W ty cs' := by
  obtain ⟨fuel, x, h⟩ := h
  obtain ⟨xs, n, -, -, hl, hxl, hf⟩ := DataW.trod_struct ht h
  refine ⟨hl, fun i f hi ty off m cs' e1 e2 e3 hcs => ?_⟩
  subst e1 e2 e3
  have hlt : i < fs.size := (Array.getElem?_eq_some_iff.1 hi).1
  have := hf i f hi
  rw [hcs, List.getElem?_eq_getElem (show i < xs.length by omega)] at this
  exact ⟨n, _, this⟩
theorem int_open {t : TypeId} {k : IntKind} {cs : List Value} (ht : P.underlying t = some (.int k)) (h : Reads1 enc P W t cs) : ∃ n, cs = [.int k n] ∧ k.min ≤ n ∧ n ≤ k.max := by
  obtain ⟨fuel, x, h⟩ := h
  obtain ⟨n, h1, -, h3⟩ := DataW.trod_int ht h
  simp [Lit.wf] at h3
  exact ⟨n, h1, h3⟩
end
section
variable {H : Type} {enc : TypeId × Value → H} {W : World}
theorem u8min : IntKind.u8.min = 0 := by decide
theorem u8max : IntKind.u8.max = 255 := by decide
theorem u64min : IntKind.u64.min = 0 := by decide
theorem u64max : IntKind.u64.max = 18446744073709551615 := by decide
theorem Tryd.k8 : Tryd.prog.cellsOf 5 = 1 := by kernel_rfl
theorem Tryd.k64 : Tryd.prog.cellsOf 23 = 1 := by kernel_rfl
theorem Tryd.knm : Tryd.prog.cellsOf 25 = 6 := by kernel_rfl
set_option maxRecDepth 100000 in
theorem nm_in {cs : List Value} (h : Reads1 enc Tryd.prog W 25 cs) : ∃ x : Nm, cs = (nmCells x).toList ∧ WfNm x := by
  obtain ⟨hl, hf⟩ := field_open Tryd.underlying25 h
  rw [Tryd.knm] at hl
  match cs, hl with
  | [c0, c1, c2, c3, c4, c5], _ =>
    obtain ⟨k, e0, k0, k1⟩ := int_open Tryd.underlying5 (hf 0 _ rfl 5 0 1 [c0] rfl rfl Tryd.k8 rfl)
    obtain ⟨a, e1, a0, a1⟩ := int_open Tryd.underlying23 (hf 1 _ rfl 23 1 1 [c1] rfl rfl Tryd.k64 rfl)
    obtain ⟨b, e2, b0, b1⟩ := int_open Tryd.underlying23 (hf 2 _ rfl 23 2 1 [c2] rfl rfl Tryd.k64 rfl)
    obtain ⟨c, e3, c0', c1'⟩ := int_open Tryd.underlying23 (hf 3 _ rfl 23 3 1 [c3] rfl rfl Tryd.k64 rfl)
    obtain ⟨d, e4, d0, d1⟩ := int_open Tryd.underlying23 (hf 4 _ rfl 23 4 1 [c4] rfl rfl Tryd.k64 rfl)
    obtain ⟨f, e5, f0, f1⟩ := int_open Tryd.underlying23 (hf 5 _ rfl 23 5 1 [c5] rfl rfl Tryd.k64 rfl)
    cases e0; cases e1; cases e2; cases e3; cases e4; cases e5
    rw [u8min] at k0; rw [u8max] at k1; rw [u64min] at a0 b0 c0' d0 f0; rw [u64max] at a1 b1 c1' d1 f1
    obtain ⟨k, rfl⟩ := Int.eq_ofNat_of_zero_le k0
    obtain ⟨a, rfl⟩ := Int.eq_ofNat_of_zero_le a0
    obtain ⟨b, rfl⟩ := Int.eq_ofNat_of_zero_le b0
    obtain ⟨c, rfl⟩ := Int.eq_ofNat_of_zero_le c0'
    obtain ⟨d, rfl⟩ := Int.eq_ofNat_of_zero_le d0
    obtain ⟨f, rfl⟩ := Int.eq_ofNat_of_zero_le f0
    exact ⟨⟨k, a, b, c, d, f⟩, rfl, ⟨by show k < 256; omega, by show a < 18446744073709551616; omega, by show b < 18446744073709551616; omega, by show c < 18446744073709551616; omega, by show d < 18446744073709551616; omega, by show f < 18446744073709551616; omega⟩⟩
end
end Go.Proofs.YtfniemagbapeaaaDoor
