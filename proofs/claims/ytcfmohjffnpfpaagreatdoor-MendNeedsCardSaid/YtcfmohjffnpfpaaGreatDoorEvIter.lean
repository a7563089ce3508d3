/-
  A RECKONER OF CLOSED CALLS: a step of a range over a map, wherever the iterator lies. No program in sight; conditions: the stamps are elder than the range, no two alike.
-/
import Derived.Test.YtcfmohjffnpfpaaGreatDoorEvTop
import Derived.Test.YtcfmohjffnpfpaaGreatDoorEvHook
import Derived.Laws.IdiomRangeMap
namespace Go.Proofs.YtcfmohjffnpfpaaGreatDoor.Ev
open Go Go.RowKit

variable {P : Program} {w : World}

/-- What stays in a step. -/
structure Side (w w' : World) : Prop where
  os : w'.os = w.os
  tape : w'.tape = w.tape
  output : w'.output = w.output
theorem run_next_at (ty : TypeId) {r bm since c0 clock : Nat} {seen : Array Nat} {es : Array MapEntry} (hr : w.heap[r]? = some (.mapIter (some bm) since seen c0)) (hb : w.heap[bm]? = some (.map es clock)) (hold : ∀ x ∈ es.toList, x.born < since) (hsc : since ≤ c0) :
    ((leftOf es seen).size = 0 ∧ ∃ w', (Instr.next (.pointer (some ⟨r, 0, none⟩)) false ty).run P w = .ok (.tuple #[.bool false]) w' ∧ w'.heap = w.heap ∧ Side w w') ∨
    ∃ e ∈ (leftOf es seen).toList, ∃ w', (Instr.next (.pointer (some ⟨r, 0, none⟩)) false ty).run P w = .ok (.tuple #[.bool true, e.key, e.val]) w' ∧ w'.heap = w.heap.setIfInBounds r (.mapIter (some bm) since (seen.push e.born) clock) ∧ Side w w' := by
  have hset : ∀ (w1 : World) (o : Obj), w1.heap = w.heap → (setObj r o).run P w1 = .ok () { w1 with heap := w1.heap.setIfInBounds r o } := fun w1 o h => by
    simp [setObj, Sem.run, h, hr]
  simp only [Instr.next, getObj, Sem.run_bind, Sem.run, hr, hb, Result.andThen, next_test_false seen es since c0 hold hsc, Bool.false_eq_true, if_false]
  unfold leftOf
  have hmem : ∀ x ∈ (Array.filter (fun e => !seen.contains e.born) es).toList, x.born < since := fun x hx => hold x (by simp at hx ⊢; exact hx.1)
  generalize Array.filter (fun e => !seen.contains e.born) es = L at hmem ⊢
  have o1 : L.filter (fun x => decide (x.born < since)) = L := Array.filter_eq_self.2 fun x hx => by simpa using hmem x (by simpa using hx)
  have o2 : L.filter (fun x => decide (x.born ≥ since)) = #[] := Array.filter_eq_empty_iff.2 fun x hx => by
    have := hmem x (by simpa using hx)
    simp; omega
  simp only [o1, o2, Array.append_empty]
  rcases Nat.eq_zero_or_pos L.size with h0 | h0
  · have : L = #[] := Array.eq_empty_of_size_eq_zero h0
    subst this
    refine .inl ⟨rfl, w, ?_, rfl, rfl, rfl, rfl⟩
    simp [choose, Sem.run, Question.forced]
  · have hne : L.isEmpty = false := by cases he : L.isEmpty with | false => rfl | true => (rw [Array.isEmpty_iff] at he; rw [he] at h0; exact absurd h0 (by simp))
    simp only [hne, Bool.false_eq_true, if_false, Array.empty_append, Array.size_map]
    have hch : ∃ (j : Nat) (w1 : World), j < L.size ∧ w1.heap = w.heap ∧ Side w w1 ∧ (choose (Question.mapNext L.size)).run P w = .ok j w1 := by
      by_cases hf : L.size ≤ 1
      · exact ⟨0, w, h0, rfl, ⟨rfl, rfl, rfl⟩, by simp [choose, Sem.run, Question.forced, hf]⟩
      · exact ⟨_, w.drew, Nat.mod_lt _ h0, rfl, ⟨rfl, rfl, rfl⟩, by
          simp only [choose, Sem.run, Question.forced, decide_eq_true_eq, hf, if_false, Question.cut]
          rfl⟩
    obtain ⟨j, w1, hj, hh, hs, hrun⟩ := hch
    refine .inr ⟨L[j], by simp, { w1 with heap := w1.heap.setIfInBounds r (.mapIter (some bm) since (seen.push L[j].born) clock) }, ?_, by rw [hh], hs.os, hs.tape, hs.output⟩
    simp only [hrun, Array.getElem?_map, Array.getElem?_eq_getElem hj, Option.map_some, Sem.run_bind, hset w1 _ hh, Result.andThen]
    rfl
theorem run_entry_at {r bm since clock : Nat} {seen : Array Nat} {es : Array MapEntry} {e : MapEntry} (hr : w.heap[r]? = some (.mapIter (some bm) since (seen.push e.born) clock)) (hb : w.heap[bm]? = some (.map es clock)) (he : e ∈ es.toList) (hn : (es.toList.map (·.born)).Nodup) :
    (Instr.entry (.pointer (some ⟨r, 0, none⟩))).run P w = .ok (.tuple #[e.key, e.val]) w := by
  have hf : es.find? (·.born == e.born) = some e := by rw [← Array.find?_toList]; exact find_born e es.toList hn he
  simp only [Instr.entry, getObj, Sem.run_bind, Sem.run, hr, hb, Result.andThen, Array.back?_push, bne_self_eq_false, Bool.false_eq_true, if_false, hf]
  rfl
/-- How far the iterator in block r is. -/
def left_ (w : World) (r : Nat) (es : Array MapEntry) : Nat := (leftOf es (w.iterSeen r)).size
theorem left_eq {r bm since c0 : Nat} {seen : Array Nat} (hr : w.heap[r]? = some (.mapIter (some bm) since seen c0)) (es : Array MapEntry) : left_ w r es = (leftOf es seen).size := by
  unfold left_ World.iterSeen
  rw [hr]
end Go.Proofs.YtcfmohjffnpfpaaGreatDoor.Ev
