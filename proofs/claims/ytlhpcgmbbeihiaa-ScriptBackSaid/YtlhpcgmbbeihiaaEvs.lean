/-
  ROWS OF EVENTS as a reader sees them: 'EvsRow': the slice's cells, and the rows that each event's cells name. No program in sight but the types' numbers.
-/
import Derived.Test.YtlhpcgmbbeihiaaLaw2
namespace Go.Proofs.Ytlhpcgmbbeihiaa
open Go.RowKit

/-- An event's cells, its rows in blocks of S. -/
def EvRow (S : Nat → Prop) (w : World) (cs : List Value) (e : Ev) : Prop :=
  ∃ ve vk, cs = (evCells e ve vk).toList ∧ Row S w ve e.op.edits.length (editCells e.op.edits) ∧ Row S w vk e.keep.length (bools e.keep)
def EvsRow (S : Nat → Prop) (w : World) (v : Value) (l : List Ev) : Prop :=
  ∃ css : List (List Value), css.length = l.length ∧ Row S w v l.length css.flatten ∧ ∀ (i : Nat) (cs : List Value) (e : Ev), css[i]? = some cs → l[i]? = some e → EvRow S w cs e
namespace EvsRow
variable {S T : Nat → Prop} {w w1 : World} {v : Value} {l : List Ev}
theorem _root_.Go.Proofs.Ytlhpcgmbbeihiaa.EvRow.upd {cs : List Value} {e : Ev} (h : EvRow S w cs e) (hu : Upd T w w1) (hs : ∀ k, S k → ¬ T k) : EvRow S w1 cs e := by
  obtain ⟨ve, vk, hc, h1, h2⟩ := h
  exact ⟨ve, vk, hc, h1.upd hu hs, h2.upd hu hs⟩
theorem _root_.Go.Proofs.Ytlhpcgmbbeihiaa.EvRow.mono {cs : List Value} {e : Ev} (h : EvRow S w cs e) (hs : ∀ k, S k → T k) : EvRow T w cs e := by
  obtain ⟨ve, vk, hc, h1, h2⟩ := h
  exact ⟨ve, vk, hc, h1.mono hs, h2.mono hs⟩
theorem upd (h : EvsRow S w v l) (hu : Upd T w w1) (hs : ∀ k, S k → ¬ T k) : EvsRow S w1 v l := by
  obtain ⟨css, hl, hr, he⟩ := h
  exact ⟨css, hl, hr.upd hu hs, fun i cs e h1 h2 => (he i cs e h1 h2).upd hu hs⟩
theorem ext (h : EvsRow S w v l) (hu : Ext w w1) : EvsRow S w1 v l := h.upd hu fun _ _ e => e
theorem mono (h : EvsRow S w v l) (hs : ∀ k, S k → T k) : EvsRow T w v l := by
  obtain ⟨css, hl, hr, he⟩ := h
  exact ⟨css, hl, hr.mono hs, fun i cs e h1 h2 => (he i cs e h1 h2).mono hs⟩
theorem of_owns {B : Nat} (h : EvsOwn B w v l) : EvsRow (From B) w v l := by
  obtain ⟨css, hl, hr, he⟩ := h
  exact ⟨css, hl, Row.of_owns hr, fun i cs e h1 h2 => by obtain ⟨ve, vk, hc, h3, h4⟩ := he i cs e h1 h2; exact ⟨ve, vk, hc, Row.of_owns h3, Row.of_owns h4⟩⟩
theorem of_rowns {B : Nat} (h : REvsOwn B w v l) : EvsRow (From B) w v l := by
  obtain ⟨css, hl, hr, he⟩ := h
  exact ⟨css, hl, Row.of_owns hr, fun i cs e h1 h2 => by obtain ⟨ve, vk, hc, h3, h4⟩ := he i cs e h1 h2; exact ⟨ve, vk, hc, Row.of_owns h3, Row.of_owns h4⟩⟩
end EvsRow

theorem evCells_size (e : Ev) (a b : Value) : (evCells e a b).toList.length = 14 := rfl
theorem flat_at {m : Nat} {css : List (List Value)} (hm : ∀ cs ∈ css, cs.length = m) {i j : Nat} (hi : i < css.length) (hj : j < m) : css.flatten[i * m + j]? = (css[i])[j]? := by
  induction css generalizing i with
  | nil => simp at hi
  | cons c css ih =>
    have hc : c.length = m := hm c (by simp)
    cases i with
    | zero => simp only [List.flatten_cons, Nat.zero_mul, Nat.zero_add, List.getElem_cons_zero]; exact List.getElem?_append_left (by omega)
    | succ i =>
      simp only [List.flatten_cons, List.getElem_cons_succ]
      rw [List.getElem?_append_right (by rw [hc, Nat.succ_mul]; omega), hc, show (i + 1) * m + j - m = i * m + j from by rw [Nat.succ_mul]; omega]
      exact ih (fun cs h => hm cs (by simp [h])) (by simpa using hi)

/-- One event of a row. -/
theorem EvsRow.at_ {S : Nat → Prop} {w : World} {v : Value} {l : List Ev} (h : EvsRow S w v l) : l.length ≤ maxLen ∧ (∃ a c, v = .slice a l.length c ∧ l.length ≤ c ∧ c ≤ maxLen) ∧
    ∀ i (hi : i < l.length), ∃ b o c ve vk, v = .slice (some ⟨b, o, none⟩) l.length c ∧ S b ∧ w.rangeAt b (o + i * 14) (evCells l[i] ve vk).toList ∧ Row S w ve l[i].op.edits.length (editCells l[i].op.edits) ∧ Row S w vk l[i].keep.length (bools l[i].keep) := by
  obtain ⟨css, hl, hr, he⟩ := h
  have h14 : ∀ cs ∈ css, cs.length = 14 := fun cs hc => by
    obtain ⟨i, hi, rfl⟩ := List.getElem_of_mem hc
    obtain ⟨ve, vk, hc2, -⟩ := he i css[i] (l[i]'(by omega)) (by simp [hi]) (by simp)
    rw [hc2]; rfl
  have hr' := hr
  obtain ⟨a, c, rfl, h1, h2, h3, h4, h5⟩ := hr
  refine ⟨by omega, ⟨a, c, rfl, h1, h2⟩, fun i hi => ?_⟩
  obtain ⟨b, o, c', e, hS, -, -, hcell⟩ := hr'.addr (by omega)
  obtain ⟨ve, vk, hc2, g1, g2⟩ := he i (css[i]'(by omega)) l[i] (by simp [hl, hi]) (by simp [hi])
  refine ⟨b, o, c', ve, vk, e, hS, fun j u hj => ?_, g1, g2⟩
  have hj14 : j < 14 := by have := (List.getElem?_eq_some_iff.1 hj).1; simpa [evCells] using this
  rw [Nat.add_assoc]
  refine hcell _ _ ?_
  rw [flat_at h14 (by omega) hj14, hc2]; exact hj
end Go.Proofs.Ytlhpcgmbbeihiaa
