/-
  WHAT COMES IN: a slice of bytes of the input as a row of bytes.
-/
import Derived.Test.YtlhpcgmbbeihiaaDoorGBase
import Derived.ProofKit
import Derived.OpenShut
import Derived.ShutString
import Derived.ChangeOld
import Derived.Below
namespace Go.Proofs.YtlhpcgmbbeihiaaDoor
open Go.ChangeShapes Go.WideShapes Go.ChangeAt Go.RowKit

theorem Tryd.own : ownKnob Tryd.prog.godebug = none := by kernel_rfl
theorem Tryd.laidOut : laidOutB Tryd.prog = true := by kernel_rfl

theorem has_lt {P : Program} {w : World} {r : Reach} {base : Nat} {x : Addr} {e : TypeId} {n : Nat} (h : w.has P r base x e n) : x.spot = none ∧ x.block < w.heap.size := by
  obtain ⟨-, h1, row, cells, h2, -⟩ := h
  refine ⟨h1, ?_⟩
  unfold World.shape? at h2
  cases hq : w.heap[x.block]? with
  | none => simp [hq] at h2
  | some o => exact lt_of_heap hq

set_option maxRecDepth 100000 in
theorem bytes_in {H : Type} {enc : TypeId × Value → H} {W : World} {base : Nat} {a : Option Addr} {len cap : Nat} {d : DataW H} {p : List MemPlace} (hval : Value.okWide Tryd.prog W .any base 26 (.slice a len cap)) (h : DataW.Trod enc Tryd.prog W 0 (fun _ => true) true 26 (.slice a len cap) d p) :
    ∃ l : List UInt8, l.length = len ∧ Bytes (Till W.heap.size) W (.slice a len cap) l := by
  obtain ⟨fuel, hf⟩ := h
  rcases open_ints Tryd.underlying26 Tryd.underlying5 (by kernel_rfl) hf with ⟨hcs, _⟩ | ⟨x, l, c, zs, hcs, _, hl, hm, hz, _, hcell, hwz⟩
  · simp [Value.cells] at hcs
    obtain ⟨rfl, rfl, rfl⟩ := hcs
    exact ⟨[], rfl, Row.nil _ _⟩
  · simp [Value.cells] at hcs
    obtain ⟨rfl, rfl, rfl⟩ := hcs
    have hx : x.spot = none ∧ x.block < W.heap.size := by
      simp only [Value.okWide, Tryd.underlying26, Cell.okWide, Cell.ok] at hval
      exact has_lt hval.2.2
    simp only [if_true] at hz
    have hlen : ((zs.take len).map fun n => UInt8.ofNat n.toNat).length = len := by simp; omega
    refine ⟨(zs.take len).map fun n => UInt8.ofNat n.toNat, hlen, some x, cap, by rw [hlen], by omega, hm, fun e => (by cases e), fun y e _ => by cases e; exact hx, fun b o e j u hj => ?_⟩
    cases e
    obtain ⟨hj1, hj2⟩ := List.getElem?_eq_some_iff.1 hj
    have hjl : j < len := by rw [List.length_map, hlen] at hj1; exact hj1
    have hc := hcell j (by omega)
    have hb := hwz (zs[j]'(by omega)) (List.getElem_mem _)
    have e : zs.getD j 0 = zs[j]'(by omega) := by simp [List.getD, List.getElem?_eq_getElem (show j < zs.length by omega)]
    rw [e] at hc
    rw [show (⟨b, o, none⟩ : Addr).add j = ⟨b, o + j, none⟩ from by unfold Addr.add; split <;> simp_all] at hc
    rw [hc, ← hj2]
    have hb := bounds_u8 hb
    simp only [List.getElem_map, List.getElem_take, u8, UInt8.toNat_ofNat']
    generalize zs[j]'(by omega) = z at hb ⊢
    obtain ⟨m, rfl⟩ := Int.eq_ofNat_of_zero_le hb.1
    have : m < 2 ^ 8 := by omega
    rw [Int.toNat_natCast, Nat.mod_eq_of_lt this]
end Go.Proofs.YtlhpcgmbbeihiaaDoor
