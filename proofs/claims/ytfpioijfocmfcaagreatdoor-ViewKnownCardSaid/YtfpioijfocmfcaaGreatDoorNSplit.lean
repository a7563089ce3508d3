/-
  PLAIN: the library's cut at strokes is the plain one. No program in sight; no condition.
-/
import Derived.Test.YtfpioijfocmfcaaGreatDoorNPlain
namespace Go.Proofs.YtfpioijfocmfcaaGreatDoor
open Go

theorem index45 : ∀ s : List UInt8, ((45 : UInt8) ∉ s ∧ Lib.index s [45] = -1) ∨ ∃ a r, s = a ++ 45 :: r ∧ (45 : UInt8) ∉ a ∧ Lib.index s [45] = (a.length : Int)
  | [] => .inl ⟨by simp, rfl⟩
  | b :: l => by
    unfold Lib.index
    by_cases hb : b = 45
    · subst hb
      exact .inr ⟨[], l, rfl, by simp, by simp [List.isPrefixOf]⟩
    · have hp : ([45] : List UInt8).isPrefixOf (b :: l) = false := by simp [List.isPrefixOf]; exact fun e => hb e.symm
      rw [if_neg (by rw [hp]; decide)]
      rcases index45 l with ⟨h1, h2⟩ | ⟨a, r, h1, h2, h3⟩
      · exact .inl ⟨by simp only [List.mem_cons, not_or]; exact ⟨fun e => hb e.symm, h1⟩, by rw [h2]; rfl⟩
      · refine .inr ⟨b :: a, r, by rw [h1]; rfl, by simp only [List.mem_cons, not_or]; exact ⟨fun e => hb e.symm, h2⟩, ?_⟩
        rw [h3, if_neg (by simp)]
        simp
theorem split45 : ∀ (fuel : Nat) (s : List UInt8), s.length < fuel → (splitF s).length = Lib.countFrom [45] fuel s + 1 ∧ Lib.splitK [45] 0 (Lib.countFrom [45] fuel s) s = splitF s
  | 0, s, h => absurd h (Nat.not_lt_zero _)
  | fuel + 1, s, h => by
    unfold Lib.countFrom
    rcases index45 s with ⟨h1, h2⟩ | ⟨a, r, h1, h2, h3⟩
    · rw [h2, if_pos (by decide), splitF_word h1]
      exact ⟨rfl, rfl⟩
    · have hd : s.drop ((Lib.index s [45]).toNat + ([45] : List UInt8).length) = r := by
        rw [h3, h1]; simp
      rw [hd, if_neg (by rw [h3]; simp)]
      have hr : r.length < fuel := by rw [h1] at h; simp at h; omega
      obtain ⟨i1, i2⟩ := split45 fuel r hr
      have hs : splitF s = a :: splitF r := by rw [h1, splitF_cut h2]
      rw [hs, List.length_cons, i1]
      refine ⟨by omega, ?_⟩
      rw [Nat.add_comm 1, Lib.splitK, if_neg (by rw [h3]; simp), hd, i2]
      congr 1
      rw [h3, h1]; simp
theorem split_is (s : List UInt8) : Lib.splitK [45] 0 (Lib.count s [45]) s = splitF s ∧ (splitF s).length = Lib.count s [45] + 1 :=
  ⟨(split45 _ s (by omega)).2, (split45 _ s (by omega)).1⟩
end Go.Proofs.YtfpioijfocmfcaaGreatDoor
