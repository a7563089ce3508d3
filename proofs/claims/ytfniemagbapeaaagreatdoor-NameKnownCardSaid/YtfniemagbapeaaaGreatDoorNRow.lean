/-
  ROWS OF NAMES, six cells each, and what the library's sort leaves of one. No condition.
-/
import Derived.Test.YtfniemagbapeaaaGreatDoorNSortC
import Derived.Test.YtfniemagbapeaaaGreatDoorNOrd
import Derived.Test.YtfniemagbapeaaaGreatDoorSort
import Derived.Shelf.SlSortCmp.NoneTotal
namespace Go.Proofs.YtfniemagbapeaaaGreatDoor
open Go.RowKit Go.Sort

instance : Inhabited Nm := ⟨Nm.zero⟩
def encN (x : Nm) : List Value := (nmCells x).toList
def flatN (l : List Nm) : List Value := l.flatMap encN
theorem encN_length (x : Nm) : (encN x).length = 6 := rfl
theorem encN_one (x : Nm) : ∀ v ∈ encN x, v.oneCell' = true := by
  intro v hv
  simp [encN, nmCells] at hv
  rcases hv with rfl | rfl | rfl | rfl | rfl | rfl <;> rfl
theorem flatN_length : ∀ l : List Nm, (flatN l).length = l.length * 6
  | [] => rfl
  | x :: r => by
    show (encN x ++ flatN r).length = _
    rw [List.length_append, flatN_length r, encN_length, List.length_cons]; omega
theorem flatN_append (l r : List Nm) : flatN (l ++ r) = flatN l ++ flatN r := by simp [flatN]
theorem flatN_one (x : Nm) : flatN [x] = encN x := by simp [flatN]
theorem flatN_ones (l : List Nm) : OneCells (flatN l) := by
  intro v hv
  simp only [flatN, List.mem_flatMap] at hv
  obtain ⟨x, -, hx⟩ := hv
  exact encN_one x v hx
theorem flatN_get : ∀ (l : List Nm) (k i : Nat) (hk : k < l.length), i < 6 → (flatN l)[k * 6 + i]? = (encN l[k])[i]?
  | [], k, _, hk, _ => absurd hk (Nat.not_lt_zero _)
  | x :: r, 0, i, _, hi => by
    show (encN x ++ flatN r)[0 * 6 + i]? = _
    rw [Nat.zero_mul, Nat.zero_add, List.getElem?_append_left (by rw [encN_length]; exact hi)]; rfl
  | x :: r, k + 1, i, hk, hi => by
    show (encN x ++ flatN r)[(k + 1) * 6 + i]? = _
    rw [List.getElem?_append_right (by rw [encN_length]; omega), encN_length, show (k + 1) * 6 + i - 6 = k * 6 + i by omega]
    rw [flatN_get r k i (by simpa using hk) hi]; rfl
theorem flatK_flatN (l : List Nm) : (flatK encN 6 l.toArray).toList = flatN l := by
  apply List.ext_getElem?
  intro t
  by_cases ht : t < l.length * 6
  · have hk : t / 6 < l.length := by omega
    have e := flatN_get l (t / 6) (t % 6) hk (Nat.mod_lt _ (by decide))
    rw [show t / 6 * 6 + t % 6 = t by omega] at e
    rw [e]
    have h1 : t < (flatK encN 6 l.toArray).size := by simpa using ht
    have h2 := get_flatK encN 6 l.toArray t (by simpa using ht)
    rw [getElem!_pos _ t h1] at h2
    rw [Array.getElem?_toList, Array.getElem?_eq_getElem h1, h2]
    have h3 : l.toArray[t / 6]! = l[t / 6] := by simp [hk]
    rw [h3]
    have h4 : t % 6 < (encN (l[t / 6])).length := by rw [encN_length]; exact Nat.mod_lt _ (by decide)
    rw [List.getElem?_eq_getElem h4, getElem!_pos (encN (l[t / 6])) (t % 6) h4]
  · rw [List.getElem?_eq_none (by simpa using ht), List.getElem?_eq_none (by rw [flatN_length]; omega)]
abbrev NmRow (S : Nat → Prop) (w : World) (v : Value) (l : List Nm) : Prop := Row S w v l.length (flatN l)
theorem nm_at {S : Nat → Prop} {w : World} {v : Value} {l : List Nm} (h : NmRow S w v l) {k : Nat} (hk : k < l.length) :
    ∃ b o c, v = .slice (some ⟨b, o, none⟩) l.length c ∧ l.length ≤ c ∧ c ≤ maxLen ∧ w.rangeAt b (o + k * 6) (nmCells l[k]).toList := by
  obtain ⟨b, o, c, e, -, h1, h2, hq⟩ := h.addr (by omega)
  refine ⟨b, o, c, e, h1, h2, fun j u hj => ?_⟩
  have hj6 : j < 6 := by have := (List.getElem?_eq_some_iff.1 hj).1; simpa [nmCells] using this
  rw [Nat.add_assoc]
  apply hq
  rw [flatN_get l k j hk hj6]; exact hj
theorem ExtD.grows {w w' : World} (h : ExtD w w') : ∃ q os, w' = grow (w.drewN q) os := by
  refine ⟨w'.drawn - w.drawn, w'.heap.extract w.heap.size w'.heap.size, ?_⟩
  obtain ⟨⟨h1, h2, h3, h4, h5⟩, h6⟩ := h
  obtain ⟨hp, tp, dr, os, out⟩ := w'
  simp only at h1 h2 h3 h4 h5 h6
  subst h1 h2 h3
  unfold grow World.drewN
  simp only [World.mk.injEq, and_true, true_and]
  refine ⟨?_, by omega⟩
  apply Array.ext_getElem?
  intro i
  by_cases hi : i < w.heap.size
  · rw [h5 i hi id, Array.getElem?_append_left hi]
  · rw [Array.getElem?_append_right (by omega), Array.getElem?_extract]
    by_cases hi2 : i < hp.size
    · rw [if_pos (by omega)]; congr 1; omega
    · rw [if_neg (by omega), Array.getElem?_eq_none (by omega)]
theorem own_sorted {w : World} {B g n cap m : Nat} {T : TypeId} {xs ys : List Nm} {os : Array Obj} (h : w.ownsRow B T 6 (.slice (some ⟨g, 0, none⟩) n cap) n (flatN xs)) (hy : ys.length = n) :
    (sortWorldK encN 6 w g 0 m ys.toArray os).ownsRow B T 6 (.slice (some ⟨g, 0, none⟩) n cap) n (flatN ys) ∧ Upd (At g) w (sortWorldK encN 6 w g 0 m ys.toArray os) := by
  obtain ⟨h1, ⟨h2, -⟩ | ⟨g', cap', cur, e, hB, hg, hn, hc, hs, ht⟩⟩ := h
  · cases h2
  cases e
  have hlt := lt_of_heap hg
  have hcur : n * 6 ≤ cur.size := by rw [hs]; exact Nat.mul_le_mul_right 6 hn
  have hmod : (mapBlock (Sort.ahead w m) g (putCells id 0 (flatK encN 6 ys.toArray))).heap[g]? = some (.cells (putCells id 0 (flatK encN 6 ys.toArray) cur) T (0, 0)) := by
    show (w.heap.modify g _)[g]? = _
    have h' : w.heap[g] = .cells cur T (0, 0) := by simpa [Array.getElem?_eq_getElem hlt] using hg
    rw [Array.getElem?_eq_getElem (by simpa using hlt), Array.getElem_modify_self, h']
    rfl
  have hsz : (mapBlock (Sort.ahead w m) g (putCells id 0 (flatK encN 6 ys.toArray))).heap.size = w.heap.size := by
    show (w.heap.modify g _).size = _
    simp
  have hgrow : (sortWorldK encN 6 w g 0 m ys.toArray os).heap[g]? = some (.cells (putCells id 0 (flatK encN 6 ys.toArray) cur) T (0, 0)) :=
    (heap_grow_old _ os (by show g < (mapBlock _ _ _).heap.size; rw [hsz]; exact hlt)).trans hmod
  refine ⟨⟨by rw [flatN_length, hy], .inr ⟨g, cap, _, rfl, hB, hgrow, hn, hc, by simpa [putCells] using hs, ?_⟩⟩, ⟨rfl, rfl, rfl, ?_, fun k hk hne => ?_⟩⟩
  · apply List.ext_getElem?
    intro t
    by_cases htn : t < n * 6
    · rw [List.getElem?_take_of_lt htn, Array.getElem?_toList]
      unfold putCells
      rw [Array.getElem?_mapIdx, Array.getElem?_eq_getElem (show t < cur.size by omega)]
      simp only [Option.map_some]
      rw [if_pos ⟨Nat.zero_le _, by simp [hy]; omega⟩, Nat.sub_zero]
      have hf := flatK_flatN ys
      have h1 : t < (flatK encN 6 ys.toArray).size := by simp [hy]; omega
      rw [← hf, Array.getElem?_toList, Array.getElem?_eq_getElem h1, getElem!_pos _ t h1]; rfl
    · rw [List.getElem?_eq_none (by simp; omega), List.getElem?_eq_none (by rw [flatN_length, hy]; omega)]
  · show w.heap.size ≤ (grow _ os).heap.size
    rw [size_grow]
    show w.heap.size ≤ (mapBlock _ _ _).heap.size + _
    rw [hsz]; omega
  · refine (heap_grow_old _ os (by show k < (mapBlock _ _ _).heap.size; rw [hsz]; exact hk)).trans ?_
    show (w.heap.modify g _)[k]? = _
    rw [Array.getElem?_modify, if_neg (fun e => hne e.symm)]
theorem own_holds {w : World} {B g n cap : Nat} {T : TypeId} {xs : List Nm} (h : w.ownsRow B T 6 (.slice (some ⟨g, 0, none⟩) n cap) n (flatN xs)) (hx : xs.length = n) : HoldsK encN 6 w g 0 xs.toArray ∧ g < w.heap.size := by
  obtain ⟨h1, ⟨h2, -⟩ | ⟨g', cap', cur, e, hB, hg, hn, hc, hs, ht⟩⟩ := h
  · cases h2
  cases e
  refine ⟨fun j hj => ?_, lt_of_heap hg⟩
  have hj' : j < n * 6 := by simpa [hx] using hj
  have hcur : n * 6 ≤ cur.size := by rw [hs]; exact Nat.mul_le_mul_right 6 hn
  rw [Nat.zero_add]
  refine ⟨cellAt hg j _ ?_, freeAt hg j⟩
  have e : (flatN xs)[j]? = cur[j]? := by rw [← ht, List.getElem?_take_of_lt hj', Array.getElem?_toList]
  rw [← e, ← flatK_flatN, Array.getElem?_toList, Array.getElem?_eq_getElem hj, getElem!_pos _ j hj]; rfl
def ltN : Nm → Nm → Bool := ltOf fun x y => orF (cmps x y)
theorem cmpLaysN (blk off size : Nat) (w : World) : CmpLays Tryz.prog 49 #[] encN 6 (fun x y => orF (cmps x y)) blk off size w :=
  fun _ _ _ _ x y => (compare_D _ x y).mono fun _ _ ⟨he, hx⟩ => ⟨he, ExtD.grows hx⟩
end Go.Proofs.YtfniemagbapeaaaGreatDoor
