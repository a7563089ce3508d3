/-
  PLAIN VIEWS, second part: what a name more, or a name less, does to a view. No program in sight; no condition.
-/
import Derived.Test.YtfpioijfocmfcaaGreatDoorYPlain
namespace Go.Proofs.YtfpioijfocmfcaaGreatDoor
open Go

def slotN (chain n : Nat) : Nm := ⟨1, chain, n, 0, 0, 0⟩
def baseN (chain n : Nat) : Nm := ⟨2, chain, n, 0, 0, 0⟩
theorem slotN_may (chain n : Nat) : mayF (slotN chain n) = true := by simp [slotN, mayF, ofF, numsF]
theorem baseN_may (chain n : Nat) : mayF (baseN chain n) = true := by simp [baseN, mayF, ofF, numsF]
theorem slot_parse {chain n : Nat} (hc : chain < 18446744073709551616) (hn : n < 18446744073709551616) : parseF (putF (slotN chain n)) = (slotN chain n, true) :=
  parse_put (slotN_may _ _) ⟨by simp [slotN], hc, hn, by simp [slotN], by simp [slotN], by simp [slotN]⟩
theorem base_parse {chain n : Nat} (hc : chain < 18446744073709551616) (hn : n < 18446744073709551616) : parseF (putF (baseN chain n)) = (baseN chain n, true) :=
  parse_put (baseN_may _ _) ⟨by simp [baseN], hc, hn, by simp [baseN], by simp [baseN], by simp [baseN]⟩
theorem floor_slot {l : List (List UInt8)} {chain n : Nat} (hc : chain < 18446744073709551616) (hn : n < 18446744073709551616) : floorF chain (l ++ [putF (slotN chain n)]) = floorF chain l := by
  rw [floor_snoc]; unfold floorStep; rw [slot_parse hc hn]; simp [slotN]
theorem floor_base {l : List (List UInt8)} {chain n : Nat} (hc : chain < 18446744073709551616) (hn : n < 18446744073709551616) : floorF chain (l ++ [putF (baseN chain n)]) = max (floorF chain l) n := by
  rw [floor_snoc]; unfold floorStep; rw [base_parse hc hn]; simp [baseN]
theorem has_slot {l : List (List UInt8)} {chain n : Nat} (hc : chain < 18446744073709551616) (hn : n < 18446744073709551616) (j : Nat) : hasF (l ++ [putF (slotN chain n)]) 1 chain j = (hasF l 1 chain j || decide (n = j)) := by
  rw [has_snoc, slot_parse hc hn]; simp [slotN]; rfl
theorem has_base {l : List (List UInt8)} {chain n : Nat} (hc : chain < 18446744073709551616) (hn : n < 18446744073709551616) (j : Nat) : hasF (l ++ [putF (baseN chain n)]) 1 chain j = hasF l 1 chain j := by
  rw [has_snoc, base_parse hc hn]; simp [baseN]
theorem tail_more {l : List (List UInt8)} {chain f t t' : Nat} (hc : chain < 18446744073709551616) (h : IsTail (hasF l 1 chain) f t) (ht : t < 18446744073709551615) (h' : IsTail (hasF (l ++ [putF (slotN chain (t + 1))]) 1 chain) f t') : t + 1 ≤ t' := by
  rcases Nat.lt_or_ge t' (t + 1) with hlt | hge
  · rcases h'.stop with e | e
    · omega
    · rw [has_slot hc (by omega), Bool.or_eq_false_iff] at e
      have := h'.le
      rcases Nat.lt_or_ge t' t with h1 | h1
      · rw [h.all (t' + 1) (by omega) (by omega)] at e; exact absurd e.1 (by decide)
      · have : t + 1 = t' + 1 := by omega
        exact absurd e.2 (by simp [this])
  · exact hge
theorem tail_other {l : List (List UInt8)} {chain f t t' n : Nat} (hc : chain < 18446744073709551616) (hn : n < 18446744073709551616) (h : IsTail (hasF l 1 chain) f t) (hne : n ≠ t + 1) (h' : IsTail (hasF (l ++ [putF (slotN chain n)]) 1 chain) f t') : t' = t :=
  h'.unique ⟨h.le, h.lt, fun j h1 h2 => by rw [has_slot hc hn, h.all j h1 h2]; rfl, h.stop.imp id fun e => by rw [has_slot hc hn, e]; simpa using hne⟩
theorem tail_base {l : List (List UInt8)} {chain f t t' n : Nat} (hc : chain < 18446744073709551616) (hn : n < 18446744073709551616) (h : IsTail (hasF l 1 chain) f t) (h' : IsTail (hasF (l ++ [putF (baseN chain n)]) 1 chain) t t') : t' = t :=
  h'.unique ⟨Nat.le_refl _, h.lt, fun j h1 h2 => by omega, h.stop.imp id fun e => by rw [has_base hc hn, e]⟩
theorem over_fine {v : Vw} {k : Kp} {s : List UInt8} (h : isOver v k s = true) : (parseF s).2 = true ∧ ((parseF s).1.kind = 1 → (parseF s).1.doc = v.chain ∧ (parseF s).1.n ≤ v.floor) ∧ ((parseF s).1.kind = 2 → (parseF s).1.doc = v.chain ∧ (parseF s).1.n < v.floor) ∧
    ((parseF s).1.kind = 4 → k.need.contains (markOf (parseF s).1) = false) := by
  unfold isOver at h
  rw [Bool.and_eq_true] at h
  obtain ⟨h1, h2⟩ := h
  generalize (parseF s).1 = x at h2
  refine ⟨h1, fun hk => ?_, fun hk => ?_, fun hk => ?_⟩
  · unfold overF at h2
    rw [if_neg (by omega)] at h2
    by_cases hd : x.doc ≠ v.chain
    · rw [if_pos hd] at h2; cases h2
    · rw [if_neg hd, if_pos hk] at h2
      simp only [Bool.and_eq_true, decide_eq_true_eq] at h2
      exact ⟨by simpa using hd, h2.2⟩
  · unfold overF at h2
    rw [if_neg (by omega)] at h2
    by_cases hd : x.doc ≠ v.chain
    · rw [if_pos hd] at h2; cases h2
    · rw [if_neg hd, if_neg (by omega), if_pos hk] at h2
      exact ⟨by simpa using hd, by simpa using h2⟩
  · unfold overF at h2
    rw [if_neg (by omega)] at h2
    by_cases hd : x.doc ≠ v.chain
    · rw [if_pos hd] at h2; cases h2
    · rw [if_neg hd, if_neg (by omega), if_neg (by omega), Bool.and_eq_true] at h2
      simpa using h2.1
/-- What is not left over. -/
def restF (v : Vw) (k : Kp) (l : List (List UInt8)) : List (List UInt8) := l.filter fun s => !isOver v k s
theorem rest_mem {v : Vw} {k : Kp} {l : List (List UInt8)} {s : List UInt8} : s ∈ restF v k l ↔ s ∈ l ∧ isOver v k s = false := by simp [restF]
theorem rest_floor {k : Kp} {l : List (List UInt8)} {chain t : Nat} : floorF chain (restF ⟨chain, floorF chain l, t⟩ k l) = floorF chain l := by
  obtain ⟨F, hF⟩ : ∃ F, F = floorF chain l := ⟨_, rfl⟩
  rw [← hF]
  have h1 : ∀ m, m < floorF chain (restF ⟨chain, F, t⟩ k l) → m < F := fun m hm => by
    rcases (floor_iff chain _ 0 m).1 hm with h | ⟨s, hs, h⟩
    · omega
    · rw [hF]; exact (floor_iff chain l 0 m).2 (.inr ⟨s, (rest_mem.1 hs).1, h⟩)
  have h2 : ∀ m, m < F → m < floorF chain (restF ⟨chain, F, t⟩ k l) := fun m hm => by
    rcases (floor_iff chain l 0 (F - 1)).1 (by show F - 1 < floorF chain l; omega) with h | ⟨s, hs, g1, g2, g3, g4⟩
    · omega
    · have hn : (parseF s).1.n = F := by
        rcases Nat.lt_or_ge F (parseF s).1.n with h | h
        · have := (floor_iff chain l 0 F).2 (.inr ⟨s, hs, g1, g2, g3, h⟩)
          have e : floorF chain l = l.foldl (floorStep chain) 0 := rfl
          omega
        · omega
      refine (floor_iff chain _ 0 m).2 (.inr ⟨s, rest_mem.2 ⟨hs, ?_⟩, g1, g2, g3, by omega⟩)
      unfold isOver overF
      rw [g1, if_neg (by omega), if_neg (by rw [g3]; simp), if_neg (by omega), if_pos g2, hn]
      simp
  have a := h1 (floorF chain (restF ⟨chain, F, t⟩ k l) - 1)
  have b := h2 (F - 1)
  omega
theorem rest_tail {k : Kp} {l : List (List UInt8)} {chain t t' : Nat} (h : IsTail (hasF l 1 chain) (floorF chain l) t) (h' : IsTail (hasF (restF ⟨chain, floorF chain l, t⟩ k l) 1 chain) (floorF chain l) t') : t' = t := by
  have key : ∀ j, floorF chain l < j → hasF (restF ⟨chain, floorF chain l, t⟩ k l) 1 chain j = hasF l 1 chain j := fun j hj => by
    rw [Bool.eq_iff_iff, has_iff, has_iff]
    constructor
    · rintro ⟨s, hs, g⟩; exact ⟨s, (rest_mem.1 hs).1, g⟩
    · rintro ⟨s, hs, g1, g2, g3, g4⟩
      refine ⟨s, rest_mem.2 ⟨hs, ?_⟩, g1, g2, g3, g4⟩
      unfold isOver overF
      rw [g1, if_neg (by omega), if_neg (by rw [g3]; simp), if_pos g2, g4]
      simp; omega
  exact h'.unique ⟨h.le, h.lt, fun j h1 h2 => by rw [key j h1]; exact h.all j h1 h2, h.stop.imp id fun e => by rw [key _ (by have := h.le; omega)]; exact e⟩
theorem rest_left {v : Vw} {k : Kp} {l : List (List UInt8)} : leftF v k (restF v k l) = [] := by
  cases h : leftF v k (restF v k l) with
  | nil => rfl
  | cons x r =>
    have := left_mem.1 (show x ∈ leftF v k (restF v k l) by rw [h]; simp)
    have h2 := (rest_mem.1 this.1).2
    rw [this.2] at h2; cases h2
theorem rest_snoc (v : Vw) (k : Kp) (l : List (List UInt8)) (s : List UInt8) : restF v k (l ++ [s]) = if isOver v k s then restF v k l else restF v k l ++ [s] := by
  unfold restF
  rw [List.filter_append]
  cases hq : isOver v k s <;> simp [List.filter, hq]
end Go.Proofs.YtfpioijfocmfcaaGreatDoor
