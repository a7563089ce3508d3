/-
  PLAIN FACTS on the order of Names: it is one, and two are the same in it just if they are. No condition.
-/
import Derived.Test.YtfniemagbapeaaaGreatDoorNCmp2
namespace Go.Proofs.YtfniemagbapeaaaGreatDoor

theorem cmpN_zero {a b : Nat} : cmpN a b = 0 ↔ a = b := by
  unfold cmpN
  split
  · simp; omega
  · split
    · simp; omega
    · simp; omega
theorem cmpN_neg (a b : Nat) : cmpN b a = - cmpN a b := by
  unfold cmpN
  split <;> split <;> first | rfl | omega | (split <;> first | rfl | omega)
theorem orF_eq_zero : ∀ l : List Int, orF l = 0 ↔ ∀ x ∈ l, x = 0
  | [] => by simp [orF]
  | x :: r => by
    unfold orF
    split
    · rename_i h; rw [orF_eq_zero r]; simp [h]
    · rename_i h; simp [h]
theorem orF_neg : ∀ l : List Int, orF (l.map fun x => -x) = - orF l
  | [] => rfl
  | x :: r => by
    simp only [List.map_cons, orF]
    by_cases h : x = 0
    · subst h; simp [orF_neg r]
    · rw [if_neg h, if_neg (by omega)]
theorem cmps_zero_iff (x y : Nm) : orF (cmps x y) = 0 ↔ x = y := by
  rw [orF_eq_zero]
  obtain ⟨a1, a2, a3, a4, a5, a6⟩ := x
  obtain ⟨b1, b2, b3, b4, b5, b6⟩ := y
  simp [cmps, cmpN_zero]
theorem cmps_neg (x y : Nm) : orF (cmps y x) = - orF (cmps x y) := by
  rw [← orF_neg]
  congr 1
  simp [cmps, cmpN_neg x.kind, cmpN_neg x.doc, cmpN_neg x.n, cmpN_neg x.proc, cmpN_neg x.inc, cmpN_neg x.k]
end Go.Proofs.YtfniemagbapeaaaGreatDoor
