/-
  ROWS OF TEXTS OF THE CALL'S OWN, sorted and packed by the library. No condition but that they are no longer than a million.
-/
import Derived.Test.YtfpioijfocmfcaaGreatDoorNBase
import Derived.Test.YtfpioijfocmfcaaGreatDoorGYP
import Derived.Test.YtfpioijfocmfcaaGreatDoorShelf
import Derived.Sort.OwnSorted
namespace Go.Proofs.YtfpioijfocmfcaaGreatDoor
open Go.RowKit Go.Sort

theorem comp_length : ∀ (d : Array (List UInt8)) (m : Nat), (Lib.compactUpTo d m).length ≤ m
  | _, 0 => by simp [Lib.compactUpTo]
  | d, m + 1 => by
    rw [Lib.compactUpTo_succ, List.length_append]
    have := comp_length d m
    split <;> simp <;> omega
theorem sortS_any {B : Nat} (w : World) (v : Value) (l : List (List UInt8)) (h : w.ownsRow B 9 1 v l.length (strs l)) (hl : l.length ≤ 1000000) :
    Calls Tryz.prog 27 #[v] w fun e w' => e = .returned (.tuple #[]) ∧ w'.ownsRow B 9 1 v l.length (strs (l.mergeSort fun x y => decide (x ≤ y))) ∧ w.grownBy w' v.ownBlock := by
  rcases h.2 with ⟨rfl, h0⟩ | ⟨g, cap, cur, rfl, hbase, hb, h1, h2, h3, h4⟩
  · have hl0 : l = [] := List.eq_nil_of_length_eq_zero h0
    subst hl0
    have hc := Tryz.slices_Sort_string_none none 0 w
    change Calls Tryz.prog 27 _ _ _ at hc
    refine hc.mono ?_
    rintro e w' ⟨rfl, rfl⟩
    exact ⟨rfl, by simpa using h, ⟨rfl, rfl, rfl, Nat.le_refl _, fun _ _ _ => rfl⟩⟩
  · have hc := Tryz.slices_Sort_string g 0 cap l w (holds_of_block hb (by simpa using h4)) (lt_of_heap hb) (by omega)
    change Calls Tryz.prog 27 _ _ _ at hc
    refine hc.mono ?_
    rintro e w' ⟨rfl, n, os, rfl⟩
    exact ⟨rfl, ownsRow_sorted (by simp) hbase hb h1 h2 h3, grownBy_sorted _⟩
theorem compS_any {B : Nat} (w : World) (v : Value) (l : List (List UInt8)) (h : w.ownsRow B 9 1 v l.length (strs l)) (hl : l.length ≤ 1000000) :
    Calls Tryz.prog 28 #[v] w fun e w' => ∃ v', e = .returned v' ∧ w'.ownsRow B 9 1 v' (Lib.compact l).length (strs (Lib.compact l)) ∧ w.grownBy w' v.ownBlock := by
  rcases h.2 with ⟨rfl, h0⟩ | ⟨g, cap, cur, rfl, hbase, hb, h1, h2, h3, h4⟩
  · have hl0 : l = [] := List.eq_nil_of_length_eq_zero h0
    subst hl0
    have hc := Tryz.slices_Compact_string_empty none 0 w
    change Calls Tryz.prog 28 _ _ _ at hc
    refine hc.mono ?_
    rintro e w' ⟨rfl, rfl⟩
    exact ⟨_, rfl, by simpa [Lib.compact, Lib.compactUpTo] using h, ⟨rfl, rfl, rfl, Nat.le_refl _, fun _ _ _ => rfl⟩⟩
  · have hc := Tryz.slices_Compact_string g 0 cap l w (holds_of_block hb (by simpa using h4)) (by omega) h1
    change Calls Tryz.prog 28 _ _ _ at hc
    refine hc.mono ?_
    rintro e w' ⟨rfl, q, rfl⟩
    obtain ⟨z, hz⟩ : ∃ z, z = Lib.compact l := ⟨_, rfl⟩
    have hzl : z.length ≤ l.length := by rw [hz]; exact comp_length _ _
    rw [← hz]
    have hg : g < w.heap.size := lt_of_heap hb
    have hblk : (putRow encStr (Sort.ahead w q) g 0 (z ++ List.replicate (l.length - z.length) []).toArray).heap[g]? = some (.cells (putCells encStr 0 (z ++ List.replicate (l.length - z.length) []).toArray cur) 9 (0, 0)) := by
      simp [putRow, mapBlock, Sort.ahead, Array.getElem?_modify, hb, onCells]
    refine ⟨_, rfl, ⟨by simp, .inr ⟨g, cap, _, rfl, hbase, hblk, by omega, h2, by simp [putCells, h3], ?_⟩⟩, ⟨rfl, rfl, rfl, by simp [putRow, mapBlock, Sort.ahead], fun k hk hne => ?_⟩⟩
    · have ht := take_putCells cur (z ++ List.replicate (l.length - z.length) []) (by simp; omega)
      have e : (putCells encStr 0 (z ++ List.replicate (l.length - z.length) []).toArray cur).toList.take z.length = ((putCells encStr 0 (z ++ List.replicate (l.length - z.length) []).toArray cur).toList.take (z ++ List.replicate (l.length - z.length) []).length).take z.length := by
        rw [List.take_take]; congr 1; simp
      rw [Nat.mul_one, e, ht, List.map_append, List.take_left' (by simp)]
    · have : g ≠ k := fun e => hne (by rw [e]; rfl)
      simp [putRow, mapBlock, Sort.ahead, Array.getElem?_modify, this]
end Go.Proofs.YtfpioijfocmfcaaGreatDoor
