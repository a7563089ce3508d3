/-
  ROWS OF TWO CELLS AN ELEMENT, and what the library's sort leaves of one. No condition.
-/
import Derived.Test.YtcfmohjffnpfpaaGreatDoorEvCmpS
import Derived.Test.YtcfmohjffnpfpaaGreatDoorSort
import Derived.Shelf.SlSortCmp.NoneTotal
namespace Go.Proofs.YtcfmohjffnpfpaaGreatDoor.Ev
open Go Go.RowKit Go.Sort

section
variable {α : Type} {enc : α → List Value}
def flatE (enc : α → List Value) (l : List α) : List Value := l.flatMap enc
theorem flatE_length (hen : ∀ x : α, (enc x).length = 2) : ∀ l : List α, (flatE enc l).length = l.length * 2
  | [] => rfl
  | x :: r => by
    show (enc x ++ flatE enc r).length = _
    rw [List.length_append, flatE_length hen r, hen, List.length_cons]; omega
theorem flatE_append (l r : List α) : flatE enc (l ++ r) = flatE enc l ++ flatE enc r := by simp [flatE]
theorem flatE_one (x : α) : flatE enc [x] = enc x := by simp [flatE]
theorem flatE_get (hen : ∀ x : α, (enc x).length = 2) : ∀ (l : List α) (k i : Nat) (hk : k < l.length), i < 2 → (flatE enc l)[k * 2 + i]? = (enc l[k])[i]?
  | [], k, _, hk, _ => absurd hk (Nat.not_lt_zero _)
  | x :: r, 0, i, _, hi => by
    show (enc x ++ flatE enc r)[0 * 2 + i]? = _
    rw [Nat.zero_mul, Nat.zero_add, List.getElem?_append_left (by rw [hen]; exact hi)]; rfl
  | x :: r, k + 1, i, hk, hi => by
    show (enc x ++ flatE enc r)[(k + 1) * 2 + i]? = _
    rw [List.getElem?_append_right (by rw [hen]; omega), hen, show (k + 1) * 2 + i - 2 = k * 2 + i by omega]
    rw [flatE_get hen r k i (by simpa using hk) hi]; rfl
variable [Inhabited α]
theorem flatK_flatE (hen : ∀ x : α, (enc x).length = 2) (l : List α) : (flatK enc 2 l.toArray).toList = flatE enc l := by
  apply List.ext_getElem?
  intro t
  by_cases ht : t < l.length * 2
  · have hk : t / 2 < l.length := by omega
    have e := flatE_get hen l (t / 2) (t % 2) hk (Nat.mod_lt _ (by decide))
    rw [show t / 2 * 2 + t % 2 = t by omega] at e
    rw [e]
    have h1 : t < (flatK enc 2 l.toArray).size := by simpa using ht
    have h2 := get_flatK enc 2 l.toArray t (by simpa using ht)
    rw [getElem!_pos _ t h1] at h2
    rw [Array.getElem?_toList, Array.getElem?_eq_getElem h1, h2]
    have h3 : l.toArray[t / 2]! = l[t / 2] := by simp [hk]
    rw [h3]
    have h4 : t % 2 < (enc (l[t / 2])).length := by rw [hen]; exact Nat.mod_lt _ (by decide)
    rw [List.getElem?_eq_getElem h4, getElem!_pos (enc (l[t / 2])) (t % 2) h4]
  · rw [List.getElem?_eq_none (by simpa using ht), List.getElem?_eq_none (by rw [flatE_length hen]; omega)]
theorem own_sortedE (hen : ∀ x : α, (enc x).length = 2) {w : World} {B g n cap m : Nat} {T : TypeId} {xs ys : List α} {os : Array Obj} (h : w.ownsRow B T 2 (.slice (some ⟨g, 0, none⟩) n cap) n (flatE enc xs)) (hy : ys.length = n) :
    (sortWorldK enc 2 w g 0 m ys.toArray os).ownsRow B T 2 (.slice (some ⟨g, 0, none⟩) n cap) n (flatE enc ys) ∧ Upd (At g) w (sortWorldK enc 2 w g 0 m ys.toArray os) := by
  obtain ⟨h1, ⟨h2, -⟩ | ⟨g', cap', cur, e, hB, hg, hn, hc, hs, ht⟩⟩ := h
  · cases h2
  cases e
  have hlt := lt_of_heap hg
  have hcur : n * 2 ≤ cur.size := by rw [hs]; exact Nat.mul_le_mul_right 2 hn
  have hmod : (mapBlock (Sort.ahead w m) g (putCells id 0 (flatK enc 2 ys.toArray))).heap[g]? = some (.cells (putCells id 0 (flatK enc 2 ys.toArray) cur) T (0, 0)) := by
    show (w.heap.modify g _)[g]? = _
    have h' : w.heap[g] = .cells cur T (0, 0) := by simpa [Array.getElem?_eq_getElem hlt] using hg
    rw [Array.getElem?_eq_getElem (by simpa using hlt), Array.getElem_modify_self, h']
    rfl
  have hsz : (mapBlock (Sort.ahead w m) g (putCells id 0 (flatK enc 2 ys.toArray))).heap.size = w.heap.size := by
    show (w.heap.modify g _).size = _
    simp
  have hgrow : (sortWorldK enc 2 w g 0 m ys.toArray os).heap[g]? = some (.cells (putCells id 0 (flatK enc 2 ys.toArray) cur) T (0, 0)) :=
    (heap_grow_old _ os (by show g < (mapBlock _ _ _).heap.size; rw [hsz]; exact hlt)).trans hmod
  refine ⟨⟨by rw [flatE_length hen, hy], .inr ⟨g, cap, _, rfl, hB, hgrow, hn, hc, by simpa [putCells] using hs, ?_⟩⟩, ⟨rfl, rfl, rfl, ?_, fun k hk hne => ?_⟩⟩
  · apply List.ext_getElem?
    intro t
    by_cases htn : t < n * 2
    · rw [List.getElem?_take_of_lt htn, Array.getElem?_toList]
      unfold putCells
      rw [Array.getElem?_mapIdx, Array.getElem?_eq_getElem (show t < cur.size by omega)]
      simp only [Option.map_some]
      rw [if_pos ⟨Nat.zero_le _, by simp [hy]; omega⟩, Nat.sub_zero]
      have hf := flatK_flatE hen ys
      have h1 : t < (flatK enc 2 ys.toArray).size := by simp [hy]; omega
      rw [← hf, Array.getElem?_toList, Array.getElem?_eq_getElem h1, getElem!_pos _ t h1]; rfl
    · rw [List.getElem?_eq_none (by simp; omega), List.getElem?_eq_none (by rw [flatE_length hen, hy]; omega)]
  · show w.heap.size ≤ (grow _ os).heap.size
    rw [size_grow]
    show w.heap.size ≤ (mapBlock _ _ _).heap.size + _
    rw [hsz]; omega
  · refine (heap_grow_old _ os (by show k < (mapBlock _ _ _).heap.size; rw [hsz]; exact hk)).trans ?_
    show (w.heap.modify g _)[k]? = _
    rw [Array.getElem?_modify, if_neg (fun e => hne e.symm)]
theorem own_holdsE (hen : ∀ x : α, (enc x).length = 2) {w : World} {B g n cap : Nat} {T : TypeId} {xs : List α} (h : w.ownsRow B T 2 (.slice (some ⟨g, 0, none⟩) n cap) n (flatE enc xs)) (hx : xs.length = n) : HoldsK enc 2 w g 0 xs.toArray ∧ g < w.heap.size := by
  obtain ⟨h1, ⟨h2, -⟩ | ⟨g', cap', cur, e, hB, hg, hn, hc, hs, ht⟩⟩ := h
  · cases h2
  cases e
  refine ⟨fun j hj => ?_, lt_of_heap hg⟩
  have hj' : j < n * 2 := by simpa [hx] using hj
  have hcur : n * 2 ≤ cur.size := by rw [hs]; exact Nat.mul_le_mul_right 2 hn
  rw [Nat.zero_add]
  refine ⟨cellAt hg j _ ?_, freeAt hg j⟩
  have e : (flatE enc xs)[j]? = cur[j]? := by rw [← ht, List.getElem?_take_of_lt hj', Array.getElem?_toList]
  rw [← e, ← flatK_flatE hen, Array.getElem?_toList, Array.getElem?_eq_getElem hj, getElem!_pos _ j hj]; rfl
end
end Go.Proofs.YtcfmohjffnpfpaaGreatDoor.Ev
