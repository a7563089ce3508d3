/-
  A FASTER RECKONER, FIRST PART: frames of eight rows of eight; what a value is; heaps. Each by its recursor, so that the kernel goes straight. No program in sight; no condition.
  A FASTER RECKONER, SECOND PART: what one operation gives, upon values. No program in sight; no condition.
  A FASTER RECKONER, THIRD PART: what one operation gives. No program in sight; no condition.
  A FASTER RECKONER, FOURTH PART: operations as instructions; regions. No program in sight; no condition.
  A FASTER RECKONER, FIFTH PART: regions, bodies, calls. No program in sight; no condition.
  A FASTER RECKONER: an operation looks at its operands alone. No program in sight; no condition.
  A FASTER RECKONER: regions that draw their order. No program in sight; no condition.
  A FASTER RECKONER, SIXTH PART: bodies, calls. No program in sight; no condition.
-/
import Derived.Test.YtkbmmoobcikbaaaGreatDoorGEC
import Derived.IntWalk
import Derived.Test.YtkbmmoobcikbaaaGreatDoorGEE
namespace Go.Proofs.YtkbmmoobcikbaaaGreatDoor.Ev
open Go Go.RowKit

structure F8 where
  a0 : Option AV
  a1 : Option AV
  a2 : Option AV
  a3 : Option AV
  a4 : Option AV
  a5 : Option AV
  a6 : Option AV
  a7 : Option AV
structure F64 where
  q0 : F8
  q1 : F8
  q2 : F8
  q3 : F8
  q4 : F8
  q5 : F8
  q6 : F8
  q7 : F8
structure Fr where
  q0 : F8
  q1 : F8
  q2 : F8
  q3 : F8
  q4 : F8
  q5 : F8
  q6 : F8
  q7 : F8
  hi : F64
  ex : Tr AV
inductive D8 where
  | d0
  | d1
  | d2
  | d3
  | d4
  | d5
  | d6
  | d7
deriving DecidableEq
noncomputable def colG (j : D8) : F8 → Option AV := @D8.rec (fun _ => F8 → Option AV) F8.a0 F8.a1 F8.a2 F8.a3 F8.a4 F8.a5 F8.a6 F8.a7 j
noncomputable def rowG (i : D8) : Fr → F8 := @D8.rec (fun _ => Fr → F8) Fr.q0 Fr.q1 Fr.q2 Fr.q3 Fr.q4 Fr.q5 Fr.q6 Fr.q7 i
noncomputable def cS0 (v : Option AV) (r : F8) : F8 := @F8.rec (fun _ => F8) (fun _ b1 b2 b3 b4 b5 b6 b7 => ⟨v, b1, b2, b3, b4, b5, b6, b7⟩) r
noncomputable def cS1 (v : Option AV) (r : F8) : F8 := @F8.rec (fun _ => F8) (fun b0 _ b2 b3 b4 b5 b6 b7 => ⟨b0, v, b2, b3, b4, b5, b6, b7⟩) r
noncomputable def cS2 (v : Option AV) (r : F8) : F8 := @F8.rec (fun _ => F8) (fun b0 b1 _ b3 b4 b5 b6 b7 => ⟨b0, b1, v, b3, b4, b5, b6, b7⟩) r
noncomputable def cS3 (v : Option AV) (r : F8) : F8 := @F8.rec (fun _ => F8) (fun b0 b1 b2 _ b4 b5 b6 b7 => ⟨b0, b1, b2, v, b4, b5, b6, b7⟩) r
noncomputable def cS4 (v : Option AV) (r : F8) : F8 := @F8.rec (fun _ => F8) (fun b0 b1 b2 b3 _ b5 b6 b7 => ⟨b0, b1, b2, b3, v, b5, b6, b7⟩) r
noncomputable def cS5 (v : Option AV) (r : F8) : F8 := @F8.rec (fun _ => F8) (fun b0 b1 b2 b3 b4 _ b6 b7 => ⟨b0, b1, b2, b3, b4, v, b6, b7⟩) r
noncomputable def cS6 (v : Option AV) (r : F8) : F8 := @F8.rec (fun _ => F8) (fun b0 b1 b2 b3 b4 b5 _ b7 => ⟨b0, b1, b2, b3, b4, b5, v, b7⟩) r
noncomputable def cS7 (v : Option AV) (r : F8) : F8 := @F8.rec (fun _ => F8) (fun b0 b1 b2 b3 b4 b5 b6 _ => ⟨b0, b1, b2, b3, b4, b5, b6, v⟩) r
noncomputable def rS0 (k : F8 → F8) (F : Fr) : Fr := @Fr.rec (fun _ => Fr) (fun b0 b1 b2 b3 b4 b5 b6 b7 h x => ⟨k b0, b1, b2, b3, b4, b5, b6, b7, h, x⟩) F
noncomputable def rS1 (k : F8 → F8) (F : Fr) : Fr := @Fr.rec (fun _ => Fr) (fun b0 b1 b2 b3 b4 b5 b6 b7 h x => ⟨b0, k b1, b2, b3, b4, b5, b6, b7, h, x⟩) F
noncomputable def rS2 (k : F8 → F8) (F : Fr) : Fr := @Fr.rec (fun _ => Fr) (fun b0 b1 b2 b3 b4 b5 b6 b7 h x => ⟨b0, b1, k b2, b3, b4, b5, b6, b7, h, x⟩) F
noncomputable def rS3 (k : F8 → F8) (F : Fr) : Fr := @Fr.rec (fun _ => Fr) (fun b0 b1 b2 b3 b4 b5 b6 b7 h x => ⟨b0, b1, b2, k b3, b4, b5, b6, b7, h, x⟩) F
noncomputable def rS4 (k : F8 → F8) (F : Fr) : Fr := @Fr.rec (fun _ => Fr) (fun b0 b1 b2 b3 b4 b5 b6 b7 h x => ⟨b0, b1, b2, b3, k b4, b5, b6, b7, h, x⟩) F
noncomputable def rS5 (k : F8 → F8) (F : Fr) : Fr := @Fr.rec (fun _ => Fr) (fun b0 b1 b2 b3 b4 b5 b6 b7 h x => ⟨b0, b1, b2, b3, b4, k b5, b6, b7, h, x⟩) F
noncomputable def rS6 (k : F8 → F8) (F : Fr) : Fr := @Fr.rec (fun _ => Fr) (fun b0 b1 b2 b3 b4 b5 b6 b7 h x => ⟨b0, b1, b2, b3, b4, b5, k b6, b7, h, x⟩) F
noncomputable def rS7 (k : F8 → F8) (F : Fr) : Fr := @Fr.rec (fun _ => Fr) (fun b0 b1 b2 b3 b4 b5 b6 b7 h x => ⟨b0, b1, b2, b3, b4, b5, b6, k b7, h, x⟩) F
noncomputable def hS0 (k : F8 → F8) (F : F64) : F64 := @F64.rec (fun _ => F64) (fun b0 b1 b2 b3 b4 b5 b6 b7 => ⟨k b0, b1, b2, b3, b4, b5, b6, b7⟩) F
noncomputable def hS1 (k : F8 → F8) (F : F64) : F64 := @F64.rec (fun _ => F64) (fun b0 b1 b2 b3 b4 b5 b6 b7 => ⟨b0, k b1, b2, b3, b4, b5, b6, b7⟩) F
noncomputable def hS2 (k : F8 → F8) (F : F64) : F64 := @F64.rec (fun _ => F64) (fun b0 b1 b2 b3 b4 b5 b6 b7 => ⟨b0, b1, k b2, b3, b4, b5, b6, b7⟩) F
noncomputable def hS3 (k : F8 → F8) (F : F64) : F64 := @F64.rec (fun _ => F64) (fun b0 b1 b2 b3 b4 b5 b6 b7 => ⟨b0, b1, b2, k b3, b4, b5, b6, b7⟩) F
noncomputable def hS4 (k : F8 → F8) (F : F64) : F64 := @F64.rec (fun _ => F64) (fun b0 b1 b2 b3 b4 b5 b6 b7 => ⟨b0, b1, b2, b3, k b4, b5, b6, b7⟩) F
noncomputable def hS5 (k : F8 → F8) (F : F64) : F64 := @F64.rec (fun _ => F64) (fun b0 b1 b2 b3 b4 b5 b6 b7 => ⟨b0, b1, b2, b3, b4, k b5, b6, b7⟩) F
noncomputable def hS6 (k : F8 → F8) (F : F64) : F64 := @F64.rec (fun _ => F64) (fun b0 b1 b2 b3 b4 b5 b6 b7 => ⟨b0, b1, b2, b3, b4, b5, k b6, b7⟩) F
noncomputable def hS7 (k : F8 → F8) (F : F64) : F64 := @F64.rec (fun _ => F64) (fun b0 b1 b2 b3 b4 b5 b6 b7 => ⟨b0, b1, b2, b3, b4, b5, b6, k b7⟩) F
noncomputable def colS (j : D8) : Option AV → F8 → F8 := @D8.rec (fun _ => Option AV → F8 → F8) cS0 cS1 cS2 cS3 cS4 cS5 cS6 cS7 j
noncomputable def rowS (i : D8) : (F8 → F8) → Fr → Fr := @D8.rec (fun _ => (F8 → F8) → Fr → Fr) rS0 rS1 rS2 rS3 rS4 rS5 rS6 rS7 i
noncomputable def rowH (i : D8) : F64 → F8 := @D8.rec (fun _ => F64 → F8) F64.q0 F64.q1 F64.q2 F64.q3 F64.q4 F64.q5 F64.q6 F64.q7 i
noncomputable def rowHS (i : D8) : (F8 → F8) → F64 → F64 := @D8.rec (fun _ => (F8 → F8) → F64 → F64) hS0 hS1 hS2 hS3 hS4 hS5 hS6 hS7 i
noncomputable def onH (k : F64 → F64) (F : Fr) : Fr := @Fr.rec (fun _ => Fr) (fun b0 b1 b2 b3 b4 b5 b6 b7 h x => ⟨b0, b1, b2, b3, b4, b5, b6, b7, k h, x⟩) F
noncomputable def hiS (t : Tr AV) (F : Fr) : Fr := @Fr.rec (fun _ => Fr) (fun b0 b1 b2 b3 b4 b5 b6 b7 h _ => ⟨b0, b1, b2, b3, b4, b5, b6, b7, h, t⟩) F
theorem colG_S (j k : D8) (v : Option AV) (r : F8) : colG k (colS j v r) = if k = j then v else colG k r := by
  cases r; cases j <;> cases k <;> rfl
theorem rowG_S (j k : D8) (g : F8 → F8) (F : Fr) : rowG k (rowS j g F) = if k = j then g (rowG k F) else rowG k F := by
  cases F; cases j <;> cases k <;> rfl
theorem rowH_S (j k : D8) (g : F8 → F8) (F : F64) : rowH k (rowHS j g F) = if k = j then g (rowH k F) else rowH k F := by
  cases F; cases j <;> cases k <;> rfl
theorem hi_S (j : D8) (g : F8 → F8) (F : Fr) : (rowS j g F).hi = F.hi ∧ (rowS j g F).ex = F.ex := by cases F; cases j <;> exact ⟨rfl, rfl⟩
theorem hi_onH (k : F64 → F64) (F : Fr) : (onH k F).hi = k F.hi ∧ (onH k F).ex = F.ex := by cases F; exact ⟨rfl, rfl⟩
theorem rowG_onH (j : D8) (k : F64 → F64) (F : Fr) : rowG j (onH k F) = rowG j F := by cases F; cases j <;> rfl
theorem hi_hiS (t : Tr AV) (F : Fr) : (hiS t F).ex = t ∧ (hiS t F).hi = F.hi := by cases F; exact ⟨rfl, rfl⟩
theorem rowG_hiS (k : D8) (t : Tr AV) (F : Fr) : rowG k (hiS t F) = rowG k F := by cases F; cases k <;> rfl
def dig (n : Nat) : D8 := match Nat.beq n 0 with
  | true => .d0
  | false => match Nat.beq n 1 with
    | true => .d1
    | false => match Nat.beq n 2 with
      | true => .d2
      | false => match Nat.beq n 3 with
        | true => .d3
        | false => match Nat.beq n 4 with
          | true => .d4
          | false => match Nat.beq n 5 with
            | true => .d5
            | false => match Nat.beq n 6 with
              | true => .d6
              | false => .d7
theorem dig_inj (a b : Nat) (ha : a < 8) (hb : b < 8) (h : dig a = dig b) : a = b := by
  have : ∀ a b : Fin 8, dig a = dig b → a = b := by decide
  simpa using this ⟨a, ha⟩ ⟨b, hb⟩ h

/-! trees out of functions -/
namespace Tr
variable {α : Type}
/-- A tree out of a function. -/
noncomputable def ofS (_ : Nat) (ih : (Nat → Option α) → Tr α) (g : Nat → Option α) : Tr α := .n (ih fun j => g (Nat.add (Nat.mul 2 j) 1)) (g 0) (ih fun j => g (Nat.add (Nat.mul 2 j) 2))
noncomputable def ofF (d : Nat) : (Nat → Option α) → Tr α := @Nat.rec (fun _ => (Nat → Option α) → Tr α) (fun _ => .e) ofS d
theorem ofF_s (d : Nat) (g : Nat → Option α) : ofF (d + 1) g = .n (ofF d fun j => g (2 * j + 1)) (g 0) (ofF d fun j => g (2 * j + 2)) := rfl
theorem ofF_get : ∀ (d : Nat) (g : Nat → Option α) (i : Nat) (u : α), (ofF d g).get i = some u → g i = some u
  | 0, _, _, _, h => by cases h
  | d + 1, g, i, u, h => by
    rw [ofF_s, get_n] at h
    cases hi : Nat.beq i 0 with
    | true => rw [hi] at h; have := Nat.eq_of_beq_eq_true hi; subst this; exact h
    | false =>
      have hi0 : i ≠ 0 := Nat.ne_of_beq_eq_false hi
      rw [hi] at h
      cases hp : Nat.beq (i % 2) 1 with
      | true =>
        have hp1 := Nat.eq_of_beq_eq_true hp
        rw [hp] at h
        have := ofF_get d _ _ _ h
        simpa [show 2 * (i / 2) + 1 = i by omega] using this
      | false =>
        have hp1 := Nat.ne_of_beq_eq_false hp
        rw [hp] at h
        have := ofF_get d _ _ _ h
        simpa [show 2 * (i / 2 - 1) + 2 = i by omega] using this
theorem ofF_eq : ∀ (d : Nat) (g : Nat → Option α) (i : Nat), i + 1 < 2 ^ d → (ofF d g).get i = g i
  | 0, _, _, h => by simp at h
  | d + 1, g, i, h => by
    rw [ofF_s, get_n]
    cases hi : Nat.beq i 0 with
    | true => have := Nat.eq_of_beq_eq_true hi; subst this; rfl
    | false =>
      have hi0 : i ≠ 0 := Nat.ne_of_beq_eq_false hi
      cases hp : Nat.beq (i % 2) 1 with
      | true =>
        have hp1 := Nat.eq_of_beq_eq_true hp
        show (ofF d fun j => g (2 * j + 1)).get (i / 2) = _
        rw [ofF_eq d _ _ (by rw [Nat.pow_succ] at h; omega), show 2 * (i / 2) + 1 = i by omega]
      | false =>
        have hp1 := Nat.ne_of_beq_eq_false hp
        show (ofF d fun j => g (2 * j + 2)).get (i / 2 - 1) = _
        rw [ofF_eq d _ _ (by rw [Nat.pow_succ] at h; omega), show 2 * (i / 2 - 1) + 2 = i by omega]
end Tr
/-! frames by numbers -/
noncomputable def getI (F : Fr) (i : Nat) : Option AV := match Nat.blt i 64 with
  | true => colG (dig (i % 8)) (rowG (dig (i / 8)) F)
  | false => match Nat.blt i 128 with
    | true => colG (dig (i % 8)) (rowH (dig (i / 8 - 8)) F.hi)
    | false => match Nat.blt i 1000 with
      | true => F.ex.get (i - 128)
      | false => none
noncomputable def setI (F : Fr) (i : Nat) (v : AV) : Fr := match Nat.blt i 64 with
  | true => rowS (dig (i / 8)) (colS (dig (i % 8)) (some v)) F
  | false => match Nat.blt i 128 with
    | true => onH (rowHS (dig (i / 8 - 8)) (colS (dig (i % 8)) (some v))) F
    | false => hiS (F.ex.set 10 (i - 128) (some v)) F
theorem blt_t {a b : Nat} (h : a < b) : Nat.blt a b = true := by simpa [Nat.blt_eq] using h
theorem blt_f {a b : Nat} (h : ¬ a < b) : Nat.blt a b = false := by rw [Bool.eq_false_iff]; simpa [Nat.blt_eq] using h
theorem getI_lo {F : Fr} {i : Nat} (h : i < 64) : getI F i = colG (dig (i % 8)) (rowG (dig (i / 8)) F) := by
  unfold getI; rw [blt_t h]
theorem getI_mid {F : Fr} {i : Nat} (h : ¬ i < 64) (h2 : i < 128) : getI F i = colG (dig (i % 8)) (rowH (dig (i / 8 - 8)) F.hi) := by
  unfold getI; rw [blt_f h, blt_t h2]
theorem getI_hi {F : Fr} {i : Nat} (h : ¬ i < 128) (h2 : i < 1000) : getI F i = F.ex.get (i - 128) := by
  unfold getI; rw [blt_f (show ¬ i < 64 by omega), blt_f h, blt_t h2]
theorem getI_lt {F : Fr} {i : Nat} {v : AV} (h : getI F i = some v) : i < 1000 := by
  unfold getI at h
  split at h
  · rename_i h1
    have h1 : i < 64 := by simpa [Nat.blt_eq] using h1
    omega
  · split at h
    · rename_i h1
      have h1 : i < 128 := by simpa [Nat.blt_eq] using h1
      omega
    · split at h
      · rename_i h2; simpa [Nat.blt_eq] using h2
      · cases h
theorem setI_lo {F : Fr} {i : Nat} {v : AV} (h : i < 64) : setI F i v = rowS (dig (i / 8)) (colS (dig (i % 8)) (some v)) F := by
  unfold setI; rw [blt_t h]
theorem setI_mid {F : Fr} {i : Nat} {v : AV} (h : ¬ i < 64) (h2 : i < 128) : setI F i v = onH (rowHS (dig (i / 8 - 8)) (colS (dig (i % 8)) (some v))) F := by
  unfold setI; rw [blt_f h, blt_t h2]
theorem setI_hi {F : Fr} {i : Nat} {v : AV} (h : ¬ i < 128) : setI F i v = hiS (F.ex.set 10 (i - 128) (some v)) F := by
  unfold setI; rw [blt_f (show ¬ i < 64 by omega), blt_f h]
theorem getI_setI {F : Fr} {i j : Nat} {v u : AV} (hi : i < 1000) (h : getI (setI F i v) j = some u) : (j = i ∧ u = v) ∨ (j ≠ i ∧ getI F j = some u) := by
  have hj := getI_lt h
  by_cases h1 : i < 64
  · rw [setI_lo h1] at h
    by_cases h2 : j < 64
    · rw [getI_lo h2, rowG_S] at h
      rw [getI_lo h2]
      by_cases hr : dig (j / 8) = dig (i / 8)
      · rw [if_pos hr, colG_S] at h
        by_cases hc : dig (j % 8) = dig (i % 8)
        · rw [if_pos hc] at h
          cases h
          have e1 := dig_inj _ _ (by omega) (by omega) hr
          have e2 := dig_inj _ _ (Nat.mod_lt _ (by decide)) (Nat.mod_lt _ (by decide)) hc
          exact .inl ⟨by omega, rfl⟩
        · rw [if_neg hc] at h
          exact .inr ⟨fun e => hc (by rw [e]), h⟩
      · rw [if_neg hr] at h
        exact .inr ⟨fun e => hr (by rw [e]), h⟩
    · by_cases h3 : j < 128
      · rw [getI_mid h2 h3, (hi_S _ _ _).1] at h
        exact .inr ⟨by omega, by rw [getI_mid h2 h3]; exact h⟩
      · rw [getI_hi h3 hj, (hi_S _ _ _).2] at h
        exact .inr ⟨by omega, by rw [getI_hi h3 hj]; exact h⟩
  · by_cases h4 : i < 128
    · rw [setI_mid h1 h4] at h
      by_cases h2 : j < 64
      · rw [getI_lo h2, rowG_onH] at h
        exact .inr ⟨by omega, by rw [getI_lo h2]; exact h⟩
      · by_cases h3 : j < 128
        · rw [getI_mid h2 h3, (hi_onH _ _).1, rowH_S] at h
          rw [getI_mid h2 h3]
          by_cases hr : dig (j / 8 - 8) = dig (i / 8 - 8)
          · rw [if_pos hr, colG_S] at h
            by_cases hc : dig (j % 8) = dig (i % 8)
            · rw [if_pos hc] at h
              cases h
              have e1 := dig_inj _ _ (by omega) (by omega) hr
              have e2 := dig_inj _ _ (Nat.mod_lt _ (by decide)) (Nat.mod_lt _ (by decide)) hc
              exact .inl ⟨by omega, rfl⟩
            · rw [if_neg hc] at h
              exact .inr ⟨fun e => hc (by rw [e]), h⟩
          · rw [if_neg hr] at h
            exact .inr ⟨fun e => hr (by rw [e]), h⟩
        · rw [getI_hi h3 hj, (hi_onH _ _).2] at h
          exact .inr ⟨by omega, by rw [getI_hi h3 hj]; exact h⟩
    · rw [setI_hi h4] at h
      by_cases h2 : j < 64
      · rw [getI_lo h2, rowG_hiS] at h
        exact .inr ⟨by omega, by rw [getI_lo h2]; exact h⟩
      · by_cases h3 : j < 128
        · rw [getI_mid h2 h3, (hi_hiS _ _).2] at h
          exact .inr ⟨by omega, by rw [getI_mid h2 h3]; exact h⟩
        · rw [getI_hi h3 hj, (hi_hiS _ _).1] at h
          rcases Tr.set_get _ _ _ _ _ _ h with ⟨e1, e2⟩ | ⟨e1, e2⟩
          · cases e2; exact .inl ⟨by omega, rfl⟩
          · exact .inr ⟨by omega, by rw [getI_hi h3 hj]; exact e2⟩
/-- A frame as the reckoner's. -/
noncomputable def trF (F : Fr) : Tr AV := Tr.ofF 10 (getI F)
theorem trF_get {F : Fr} {i : Nat} {v : AV} (h : (trF F).get i = some v) : getI F i = some v := Tr.ofF_get _ _ _ _ h
theorem trF_eq {F : Fr} {i : Nat} (h : i < 1000) : (trF F).get i = getI F i := Tr.ofF_eq _ _ _ (by omega)
/-- .. and back. -/
noncomputable def frT (f : Tr AV) : Fr := ⟨⟨f.get 0, f.get 1, f.get 2, f.get 3, f.get 4, f.get 5, f.get 6, f.get 7⟩, ⟨f.get 8, f.get 9, f.get 10, f.get 11, f.get 12, f.get 13, f.get 14, f.get 15⟩, ⟨f.get 16, f.get 17, f.get 18, f.get 19, f.get 20, f.get 21, f.get 22, f.get 23⟩, ⟨f.get 24, f.get 25, f.get 26, f.get 27, f.get 28, f.get 29, f.get 30, f.get 31⟩, ⟨f.get 32, f.get 33, f.get 34, f.get 35, f.get 36, f.get 37, f.get 38, f.get 39⟩, ⟨f.get 40, f.get 41, f.get 42, f.get 43, f.get 44, f.get 45, f.get 46, f.get 47⟩, ⟨f.get 48, f.get 49, f.get 50, f.get 51, f.get 52, f.get 53, f.get 54, f.get 55⟩, ⟨f.get 56, f.get 57, f.get 58, f.get 59, f.get 60, f.get 61, f.get 62, f.get 63⟩, ⟨⟨f.get 64, f.get 65, f.get 66, f.get 67, f.get 68, f.get 69, f.get 70, f.get 71⟩, ⟨f.get 72, f.get 73, f.get 74, f.get 75, f.get 76, f.get 77, f.get 78, f.get 79⟩, ⟨f.get 80, f.get 81, f.get 82, f.get 83, f.get 84, f.get 85, f.get 86, f.get 87⟩, ⟨f.get 88, f.get 89, f.get 90, f.get 91, f.get 92, f.get 93, f.get 94, f.get 95⟩, ⟨f.get 96, f.get 97, f.get 98, f.get 99, f.get 100, f.get 101, f.get 102, f.get 103⟩, ⟨f.get 104, f.get 105, f.get 106, f.get 107, f.get 108, f.get 109, f.get 110, f.get 111⟩, ⟨f.get 112, f.get 113, f.get 114, f.get 115, f.get 116, f.get 117, f.get 118, f.get 119⟩, ⟨f.get 120, f.get 121, f.get 122, f.get 123, f.get 124, f.get 125, f.get 126, f.get 127⟩⟩, Tr.ofF 10 fun k => f.get (k + 128)⟩
theorem frT_lo (f : Tr AV) : ∀ i : Nat, i < 64 → colG (dig (i % 8)) (rowG (dig (i / 8)) (frT f)) = f.get i := by
  intro i hi
  have : ∀ a b : Nat, a < 8 → b < 8 → colG (dig b) (rowG (dig a) (frT f)) = f.get (8 * a + b) := by
    intro a b ha hb
    have e1 : a = 0 ∨ a = 1 ∨ a = 2 ∨ a = 3 ∨ a = 4 ∨ a = 5 ∨ a = 6 ∨ a = 7 := by omega
    have e2 : b = 0 ∨ b = 1 ∨ b = 2 ∨ b = 3 ∨ b = 4 ∨ b = 5 ∨ b = 6 ∨ b = 7 := by omega
    rcases e1 with rfl | rfl | rfl | rfl | rfl | rfl | rfl | rfl <;> rcases e2 with rfl | rfl | rfl | rfl | rfl | rfl | rfl | rfl <;> rfl
  rw [this _ _ (by omega) (Nat.mod_lt _ (by decide)), show 8 * (i / 8) + i % 8 = i by omega]
theorem frT_mid (f : Tr AV) : ∀ i : Nat, ¬ i < 64 → i < 128 → colG (dig (i % 8)) (rowH (dig (i / 8 - 8)) (frT f).hi) = f.get i := by
  intro i h1 hi
  have : ∀ a b : Nat, a < 8 → b < 8 → colG (dig b) (rowH (dig a) (frT f).hi) = f.get (64 + (8 * a + b)) := by
    intro a b ha hb
    have e1 : a = 0 ∨ a = 1 ∨ a = 2 ∨ a = 3 ∨ a = 4 ∨ a = 5 ∨ a = 6 ∨ a = 7 := by omega
    have e2 : b = 0 ∨ b = 1 ∨ b = 2 ∨ b = 3 ∨ b = 4 ∨ b = 5 ∨ b = 6 ∨ b = 7 := by omega
    rcases e1 with rfl | rfl | rfl | rfl | rfl | rfl | rfl | rfl <;> rcases e2 with rfl | rfl | rfl | rfl | rfl | rfl | rfl | rfl <;> rfl
  rw [this _ _ (by omega) (Nat.mod_lt _ (by decide)), show 64 + (8 * (i / 8 - 8) + i % 8) = i by omega]
theorem frT_get {f : Tr AV} {i : Nat} {v : AV} (h : getI (frT f) i = some v) : f.get i = some v := by
  by_cases h1 : i < 64
  · rw [getI_lo h1, frT_lo f i h1] at h; exact h
  · by_cases h2 : i < 128
    · rw [getI_mid h1 h2, frT_mid f i h1 h2] at h; exact h
    · rw [getI_hi h2 (getI_lt h)] at h
      have h : (Tr.ofF 10 fun k => f.get (k + 128)).get (i - 128) = some v := h
      have := Tr.ofF_get _ _ _ _ h
      simpa [show i - 128 + 128 = i by omega] using this

/-! results -/
inductive Rs where
  | bad
  | ok (e : Ex) (F : Fr) (H : Hp)
noncomputable def wv (x : Option AV) (q : AV → Rs) : Rs := @Option.rec AV (fun _ => Rs) .bad q x
noncomputable def bR (b : Bool) (x y : Rs) : Rs := @Bool.rec (fun _ => Rs) y x b
theorem wv_none (q : AV → Rs) : wv none q = .bad := rfl
theorem wv_some (v : AV) (q : AV → Rs) : wv (some v) q = q v := rfl
/-! operands, as functions -/
structure Od where
  g : Fr → Option AV
noncomputable def od0 (F : Fr) : Option AV := F8.a0 (Fr.q0 F)
noncomputable def od1 (F : Fr) : Option AV := F8.a1 (Fr.q0 F)
noncomputable def od2 (F : Fr) : Option AV := F8.a2 (Fr.q0 F)
noncomputable def od3 (F : Fr) : Option AV := F8.a3 (Fr.q0 F)
noncomputable def od4 (F : Fr) : Option AV := F8.a4 (Fr.q0 F)
noncomputable def od5 (F : Fr) : Option AV := F8.a5 (Fr.q0 F)
noncomputable def od6 (F : Fr) : Option AV := F8.a6 (Fr.q0 F)
noncomputable def od7 (F : Fr) : Option AV := F8.a7 (Fr.q0 F)
noncomputable def od8 (F : Fr) : Option AV := F8.a0 (Fr.q1 F)
noncomputable def od9 (F : Fr) : Option AV := F8.a1 (Fr.q1 F)
noncomputable def od10 (F : Fr) : Option AV := F8.a2 (Fr.q1 F)
noncomputable def od11 (F : Fr) : Option AV := F8.a3 (Fr.q1 F)
noncomputable def od12 (F : Fr) : Option AV := F8.a4 (Fr.q1 F)
noncomputable def od13 (F : Fr) : Option AV := F8.a5 (Fr.q1 F)
noncomputable def od14 (F : Fr) : Option AV := F8.a6 (Fr.q1 F)
noncomputable def od15 (F : Fr) : Option AV := F8.a7 (Fr.q1 F)
noncomputable def od16 (F : Fr) : Option AV := F8.a0 (Fr.q2 F)
noncomputable def od17 (F : Fr) : Option AV := F8.a1 (Fr.q2 F)
noncomputable def od18 (F : Fr) : Option AV := F8.a2 (Fr.q2 F)
noncomputable def od19 (F : Fr) : Option AV := F8.a3 (Fr.q2 F)
noncomputable def od20 (F : Fr) : Option AV := F8.a4 (Fr.q2 F)
noncomputable def od21 (F : Fr) : Option AV := F8.a5 (Fr.q2 F)
noncomputable def od22 (F : Fr) : Option AV := F8.a6 (Fr.q2 F)
noncomputable def od23 (F : Fr) : Option AV := F8.a7 (Fr.q2 F)
noncomputable def od24 (F : Fr) : Option AV := F8.a0 (Fr.q3 F)
noncomputable def od25 (F : Fr) : Option AV := F8.a1 (Fr.q3 F)
noncomputable def od26 (F : Fr) : Option AV := F8.a2 (Fr.q3 F)
noncomputable def od27 (F : Fr) : Option AV := F8.a3 (Fr.q3 F)
noncomputable def od28 (F : Fr) : Option AV := F8.a4 (Fr.q3 F)
noncomputable def od29 (F : Fr) : Option AV := F8.a5 (Fr.q3 F)
noncomputable def od30 (F : Fr) : Option AV := F8.a6 (Fr.q3 F)
noncomputable def od31 (F : Fr) : Option AV := F8.a7 (Fr.q3 F)
noncomputable def od32 (F : Fr) : Option AV := F8.a0 (Fr.q4 F)
noncomputable def od33 (F : Fr) : Option AV := F8.a1 (Fr.q4 F)
noncomputable def od34 (F : Fr) : Option AV := F8.a2 (Fr.q4 F)
noncomputable def od35 (F : Fr) : Option AV := F8.a3 (Fr.q4 F)
noncomputable def od36 (F : Fr) : Option AV := F8.a4 (Fr.q4 F)
noncomputable def od37 (F : Fr) : Option AV := F8.a5 (Fr.q4 F)
noncomputable def od38 (F : Fr) : Option AV := F8.a6 (Fr.q4 F)
noncomputable def od39 (F : Fr) : Option AV := F8.a7 (Fr.q4 F)
noncomputable def od40 (F : Fr) : Option AV := F8.a0 (Fr.q5 F)
noncomputable def od41 (F : Fr) : Option AV := F8.a1 (Fr.q5 F)
noncomputable def od42 (F : Fr) : Option AV := F8.a2 (Fr.q5 F)
noncomputable def od43 (F : Fr) : Option AV := F8.a3 (Fr.q5 F)
noncomputable def od44 (F : Fr) : Option AV := F8.a4 (Fr.q5 F)
noncomputable def od45 (F : Fr) : Option AV := F8.a5 (Fr.q5 F)
noncomputable def od46 (F : Fr) : Option AV := F8.a6 (Fr.q5 F)
noncomputable def od47 (F : Fr) : Option AV := F8.a7 (Fr.q5 F)
noncomputable def od48 (F : Fr) : Option AV := F8.a0 (Fr.q6 F)
noncomputable def od49 (F : Fr) : Option AV := F8.a1 (Fr.q6 F)
noncomputable def od50 (F : Fr) : Option AV := F8.a2 (Fr.q6 F)
noncomputable def od51 (F : Fr) : Option AV := F8.a3 (Fr.q6 F)
noncomputable def od52 (F : Fr) : Option AV := F8.a4 (Fr.q6 F)
noncomputable def od53 (F : Fr) : Option AV := F8.a5 (Fr.q6 F)
noncomputable def od54 (F : Fr) : Option AV := F8.a6 (Fr.q6 F)
noncomputable def od55 (F : Fr) : Option AV := F8.a7 (Fr.q6 F)
noncomputable def od56 (F : Fr) : Option AV := F8.a0 (Fr.q7 F)
noncomputable def od57 (F : Fr) : Option AV := F8.a1 (Fr.q7 F)
noncomputable def od58 (F : Fr) : Option AV := F8.a2 (Fr.q7 F)
noncomputable def od59 (F : Fr) : Option AV := F8.a3 (Fr.q7 F)
noncomputable def od60 (F : Fr) : Option AV := F8.a4 (Fr.q7 F)
noncomputable def od61 (F : Fr) : Option AV := F8.a5 (Fr.q7 F)
noncomputable def od62 (F : Fr) : Option AV := F8.a6 (Fr.q7 F)
noncomputable def od63 (F : Fr) : Option AV := F8.a7 (Fr.q7 F)
noncomputable def od64 (F : Fr) : Option AV := F8.a0 (F64.q0 (Fr.hi F))
noncomputable def od65 (F : Fr) : Option AV := F8.a1 (F64.q0 (Fr.hi F))
noncomputable def od66 (F : Fr) : Option AV := F8.a2 (F64.q0 (Fr.hi F))
noncomputable def od67 (F : Fr) : Option AV := F8.a3 (F64.q0 (Fr.hi F))
noncomputable def od68 (F : Fr) : Option AV := F8.a4 (F64.q0 (Fr.hi F))
noncomputable def od69 (F : Fr) : Option AV := F8.a5 (F64.q0 (Fr.hi F))
noncomputable def od70 (F : Fr) : Option AV := F8.a6 (F64.q0 (Fr.hi F))
noncomputable def od71 (F : Fr) : Option AV := F8.a7 (F64.q0 (Fr.hi F))
noncomputable def od72 (F : Fr) : Option AV := F8.a0 (F64.q1 (Fr.hi F))
noncomputable def od73 (F : Fr) : Option AV := F8.a1 (F64.q1 (Fr.hi F))
noncomputable def od74 (F : Fr) : Option AV := F8.a2 (F64.q1 (Fr.hi F))
noncomputable def od75 (F : Fr) : Option AV := F8.a3 (F64.q1 (Fr.hi F))
noncomputable def od76 (F : Fr) : Option AV := F8.a4 (F64.q1 (Fr.hi F))
noncomputable def od77 (F : Fr) : Option AV := F8.a5 (F64.q1 (Fr.hi F))
noncomputable def od78 (F : Fr) : Option AV := F8.a6 (F64.q1 (Fr.hi F))
noncomputable def od79 (F : Fr) : Option AV := F8.a7 (F64.q1 (Fr.hi F))
noncomputable def od80 (F : Fr) : Option AV := F8.a0 (F64.q2 (Fr.hi F))
noncomputable def od81 (F : Fr) : Option AV := F8.a1 (F64.q2 (Fr.hi F))
noncomputable def od82 (F : Fr) : Option AV := F8.a2 (F64.q2 (Fr.hi F))
noncomputable def od83 (F : Fr) : Option AV := F8.a3 (F64.q2 (Fr.hi F))
noncomputable def od84 (F : Fr) : Option AV := F8.a4 (F64.q2 (Fr.hi F))
noncomputable def od85 (F : Fr) : Option AV := F8.a5 (F64.q2 (Fr.hi F))
noncomputable def od86 (F : Fr) : Option AV := F8.a6 (F64.q2 (Fr.hi F))
noncomputable def od87 (F : Fr) : Option AV := F8.a7 (F64.q2 (Fr.hi F))
noncomputable def od88 (F : Fr) : Option AV := F8.a0 (F64.q3 (Fr.hi F))
noncomputable def od89 (F : Fr) : Option AV := F8.a1 (F64.q3 (Fr.hi F))
noncomputable def od90 (F : Fr) : Option AV := F8.a2 (F64.q3 (Fr.hi F))
noncomputable def od91 (F : Fr) : Option AV := F8.a3 (F64.q3 (Fr.hi F))
noncomputable def od92 (F : Fr) : Option AV := F8.a4 (F64.q3 (Fr.hi F))
noncomputable def od93 (F : Fr) : Option AV := F8.a5 (F64.q3 (Fr.hi F))
noncomputable def od94 (F : Fr) : Option AV := F8.a6 (F64.q3 (Fr.hi F))
noncomputable def od95 (F : Fr) : Option AV := F8.a7 (F64.q3 (Fr.hi F))
noncomputable def od96 (F : Fr) : Option AV := F8.a0 (F64.q4 (Fr.hi F))
noncomputable def od97 (F : Fr) : Option AV := F8.a1 (F64.q4 (Fr.hi F))
noncomputable def od98 (F : Fr) : Option AV := F8.a2 (F64.q4 (Fr.hi F))
noncomputable def od99 (F : Fr) : Option AV := F8.a3 (F64.q4 (Fr.hi F))
noncomputable def od100 (F : Fr) : Option AV := F8.a4 (F64.q4 (Fr.hi F))
noncomputable def od101 (F : Fr) : Option AV := F8.a5 (F64.q4 (Fr.hi F))
noncomputable def od102 (F : Fr) : Option AV := F8.a6 (F64.q4 (Fr.hi F))
noncomputable def od103 (F : Fr) : Option AV := F8.a7 (F64.q4 (Fr.hi F))
noncomputable def od104 (F : Fr) : Option AV := F8.a0 (F64.q5 (Fr.hi F))
noncomputable def od105 (F : Fr) : Option AV := F8.a1 (F64.q5 (Fr.hi F))
noncomputable def od106 (F : Fr) : Option AV := F8.a2 (F64.q5 (Fr.hi F))
noncomputable def od107 (F : Fr) : Option AV := F8.a3 (F64.q5 (Fr.hi F))
noncomputable def od108 (F : Fr) : Option AV := F8.a4 (F64.q5 (Fr.hi F))
noncomputable def od109 (F : Fr) : Option AV := F8.a5 (F64.q5 (Fr.hi F))
noncomputable def od110 (F : Fr) : Option AV := F8.a6 (F64.q5 (Fr.hi F))
noncomputable def od111 (F : Fr) : Option AV := F8.a7 (F64.q5 (Fr.hi F))
noncomputable def od112 (F : Fr) : Option AV := F8.a0 (F64.q6 (Fr.hi F))
noncomputable def od113 (F : Fr) : Option AV := F8.a1 (F64.q6 (Fr.hi F))
noncomputable def od114 (F : Fr) : Option AV := F8.a2 (F64.q6 (Fr.hi F))
noncomputable def od115 (F : Fr) : Option AV := F8.a3 (F64.q6 (Fr.hi F))
noncomputable def od116 (F : Fr) : Option AV := F8.a4 (F64.q6 (Fr.hi F))
noncomputable def od117 (F : Fr) : Option AV := F8.a5 (F64.q6 (Fr.hi F))
noncomputable def od118 (F : Fr) : Option AV := F8.a6 (F64.q6 (Fr.hi F))
noncomputable def od119 (F : Fr) : Option AV := F8.a7 (F64.q6 (Fr.hi F))
noncomputable def od120 (F : Fr) : Option AV := F8.a0 (F64.q7 (Fr.hi F))
noncomputable def od121 (F : Fr) : Option AV := F8.a1 (F64.q7 (Fr.hi F))
noncomputable def od122 (F : Fr) : Option AV := F8.a2 (F64.q7 (Fr.hi F))
noncomputable def od123 (F : Fr) : Option AV := F8.a3 (F64.q7 (Fr.hi F))
noncomputable def od124 (F : Fr) : Option AV := F8.a4 (F64.q7 (Fr.hi F))
noncomputable def od125 (F : Fr) : Option AV := F8.a5 (F64.q7 (Fr.hi F))
noncomputable def od126 (F : Fr) : Option AV := F8.a6 (F64.q7 (Fr.hi F))
noncomputable def od127 (F : Fr) : Option AV := F8.a7 (F64.q7 (Fr.hi F))
noncomputable def odH (k : Nat) (F : Fr) : Option AV := (Fr.ex F).get k
noncomputable def odK (v : AV) (_ : Fr) : Option AV := some v
noncomputable def odB (_ : Fr) : Option AV := none
noncomputable def getO (o : Od) : Fr → Option AV := Od.g o
/-- What an operand is, handed on. -/
noncomputable def rdO (o : Od) (F : Fr) (q : AV → Rs) : Rs := @Option.rec AV (fun _ => Rs) .bad q (Od.g o F)
theorem rdO_eq (o : Od) (F : Fr) (q : AV → Rs) : rdO o F q = wv (getO o F) q := rfl
noncomputable def odL : List Od := [⟨od0⟩, ⟨od1⟩, ⟨od2⟩, ⟨od3⟩, ⟨od4⟩, ⟨od5⟩, ⟨od6⟩, ⟨od7⟩, ⟨od8⟩, ⟨od9⟩, ⟨od10⟩, ⟨od11⟩, ⟨od12⟩, ⟨od13⟩, ⟨od14⟩, ⟨od15⟩, ⟨od16⟩, ⟨od17⟩, ⟨od18⟩, ⟨od19⟩, ⟨od20⟩, ⟨od21⟩, ⟨od22⟩, ⟨od23⟩, ⟨od24⟩, ⟨od25⟩, ⟨od26⟩, ⟨od27⟩, ⟨od28⟩, ⟨od29⟩, ⟨od30⟩, ⟨od31⟩, ⟨od32⟩, ⟨od33⟩, ⟨od34⟩, ⟨od35⟩, ⟨od36⟩, ⟨od37⟩, ⟨od38⟩, ⟨od39⟩, ⟨od40⟩, ⟨od41⟩, ⟨od42⟩, ⟨od43⟩, ⟨od44⟩, ⟨od45⟩, ⟨od46⟩, ⟨od47⟩, ⟨od48⟩, ⟨od49⟩, ⟨od50⟩, ⟨od51⟩, ⟨od52⟩, ⟨od53⟩, ⟨od54⟩, ⟨od55⟩, ⟨od56⟩, ⟨od57⟩, ⟨od58⟩, ⟨od59⟩, ⟨od60⟩, ⟨od61⟩, ⟨od62⟩, ⟨od63⟩, ⟨od64⟩, ⟨od65⟩, ⟨od66⟩, ⟨od67⟩, ⟨od68⟩, ⟨od69⟩, ⟨od70⟩, ⟨od71⟩, ⟨od72⟩, ⟨od73⟩, ⟨od74⟩, ⟨od75⟩, ⟨od76⟩, ⟨od77⟩, ⟨od78⟩, ⟨od79⟩, ⟨od80⟩, ⟨od81⟩, ⟨od82⟩, ⟨od83⟩, ⟨od84⟩, ⟨od85⟩, ⟨od86⟩, ⟨od87⟩, ⟨od88⟩, ⟨od89⟩, ⟨od90⟩, ⟨od91⟩, ⟨od92⟩, ⟨od93⟩, ⟨od94⟩, ⟨od95⟩, ⟨od96⟩, ⟨od97⟩, ⟨od98⟩, ⟨od99⟩, ⟨od100⟩, ⟨od101⟩, ⟨od102⟩, ⟨od103⟩, ⟨od104⟩, ⟨od105⟩, ⟨od106⟩, ⟨od107⟩, ⟨od108⟩, ⟨od109⟩, ⟨od110⟩, ⟨od111⟩, ⟨od112⟩, ⟨od113⟩, ⟨od114⟩, ⟨od115⟩, ⟨od116⟩, ⟨od117⟩, ⟨od118⟩, ⟨od119⟩, ⟨od120⟩, ⟨od121⟩, ⟨od122⟩, ⟨od123⟩, ⟨od124⟩, ⟨od125⟩, ⟨od126⟩, ⟨od127⟩]
noncomputable def odN (t : Nat) : Od := match odL[t]? with
  | some o => o
  | none => ⟨odB⟩
noncomputable def odOf : Operand → Od
  | .tmp t => match Nat.blt t 128, Nat.blt t 1000 with
    | true, _ => odN t
    | false, true => ⟨odH (t - 128)⟩
    | false, false => ⟨odB⟩
  | .const v => match absV v with
    | some a => ⟨odK a⟩
    | none => ⟨odB⟩
  | .global g => match Nat.blt g 1000 with
    | true => ⟨odK (.ptr g 0)⟩
    | false => ⟨odB⟩
  | .func g => ⟨odK (.fn (.func g) [] [])⟩
theorem odN_lo (F : Fr) : ∀ a b : Nat, a < 8 → b < 8 → getO (odN (8 * a + b)) F = colG (dig b) (rowG (dig a) F) := by
  intro a b ha hb
  have e1 : a = 0 ∨ a = 1 ∨ a = 2 ∨ a = 3 ∨ a = 4 ∨ a = 5 ∨ a = 6 ∨ a = 7 := by omega
  have e2 : b = 0 ∨ b = 1 ∨ b = 2 ∨ b = 3 ∨ b = 4 ∨ b = 5 ∨ b = 6 ∨ b = 7 := by omega
  rcases e1 with rfl | rfl | rfl | rfl | rfl | rfl | rfl | rfl <;> rcases e2 with rfl | rfl | rfl | rfl | rfl | rfl | rfl | rfl <;> rfl
theorem odN_mid (F : Fr) : ∀ a b : Nat, a < 8 → b < 8 → getO (odN (64 + (8 * a + b))) F = colG (dig b) (rowH (dig a) F.hi) := by
  intro a b ha hb
  have e1 : a = 0 ∨ a = 1 ∨ a = 2 ∨ a = 3 ∨ a = 4 ∨ a = 5 ∨ a = 6 ∨ a = 7 := by omega
  have e2 : b = 0 ∨ b = 1 ∨ b = 2 ∨ b = 3 ∨ b = 4 ∨ b = 5 ∨ b = 6 ∨ b = 7 := by omega
  rcases e1 with rfl | rfl | rfl | rfl | rfl | rfl | rfl | rfl <;> rcases e2 with rfl | rfl | rfl | rfl | rfl | rfl | rfl | rfl <;> rfl
theorem odN_get {F : Fr} {t : Nat} (h : t < 128) : getO (odN t) F = getI F t := by
  by_cases h1 : t < 64
  · rw [getI_lo h1, ← odN_lo F (t / 8) (t % 8) (by omega) (Nat.mod_lt _ (by decide)), show 8 * (t / 8) + t % 8 = t by omega]
  · rw [getI_mid h1 h, ← odN_mid F (t / 8 - 8) (t % 8) (by omega) (Nat.mod_lt _ (by decide)), show 64 + (8 * (t / 8 - 8) + t % 8) = t by omega]
theorem getO_ok {F : Fr} {o : Operand} {v : AV} (h : getO (odOf o) F = some v) : evalO (trF F) o = some v := by
  cases o with
  | tmp t =>
    show (trF F).get t = some v
    unfold odOf at h
    simp only at h
    split at h
    · rename_i h1
      have h1 : t < 128 := by simpa [Nat.blt_eq] using h1
      rw [trF_eq (Nat.lt_of_lt_of_le h1 (by decide)), ← odN_get h1]; exact h
    · rename_i h1 h2
      have h1 : ¬ t < 128 := by rw [Bool.eq_false_iff] at h1; simpa [Nat.blt_eq] using h1
      have h2 : t < 1000 := by simpa [Nat.blt_eq] using h2
      rw [trF_eq h2, getI_hi h1 h2]; exact h
    · cases h
  | const c =>
    unfold odOf at h
    simp only at h
    show absV c = some v
    split at h
    · rename_i a ha; rw [ha]; exact h
    · cases h
  | global g =>
    unfold odOf at h
    simp only at h
    unfold evalO
    split at h
    · rename_i hg; simp only [hg]; exact h
    · cases h
  | func g => exact h
/-! destinations -/
structure Ds where
  w : AV → Fr → Fr
noncomputable def ds0 (v : AV) (F : Fr) : Fr := @Fr.rec (fun _ => Fr) (fun b0 b1 b2 b3 b4 b5 b6 b7 h x => ⟨@F8.rec (fun _ => F8) (fun _ a1 a2 a3 a4 a5 a6 a7 => ⟨some v, a1, a2, a3, a4, a5, a6, a7⟩) b0, b1, b2, b3, b4, b5, b6, b7, h, x⟩) F
noncomputable def ds1 (v : AV) (F : Fr) : Fr := @Fr.rec (fun _ => Fr) (fun b0 b1 b2 b3 b4 b5 b6 b7 h x => ⟨@F8.rec (fun _ => F8) (fun a0 _ a2 a3 a4 a5 a6 a7 => ⟨a0, some v, a2, a3, a4, a5, a6, a7⟩) b0, b1, b2, b3, b4, b5, b6, b7, h, x⟩) F
noncomputable def ds2 (v : AV) (F : Fr) : Fr := @Fr.rec (fun _ => Fr) (fun b0 b1 b2 b3 b4 b5 b6 b7 h x => ⟨@F8.rec (fun _ => F8) (fun a0 a1 _ a3 a4 a5 a6 a7 => ⟨a0, a1, some v, a3, a4, a5, a6, a7⟩) b0, b1, b2, b3, b4, b5, b6, b7, h, x⟩) F
noncomputable def ds3 (v : AV) (F : Fr) : Fr := @Fr.rec (fun _ => Fr) (fun b0 b1 b2 b3 b4 b5 b6 b7 h x => ⟨@F8.rec (fun _ => F8) (fun a0 a1 a2 _ a4 a5 a6 a7 => ⟨a0, a1, a2, some v, a4, a5, a6, a7⟩) b0, b1, b2, b3, b4, b5, b6, b7, h, x⟩) F
noncomputable def ds4 (v : AV) (F : Fr) : Fr := @Fr.rec (fun _ => Fr) (fun b0 b1 b2 b3 b4 b5 b6 b7 h x => ⟨@F8.rec (fun _ => F8) (fun a0 a1 a2 a3 _ a5 a6 a7 => ⟨a0, a1, a2, a3, some v, a5, a6, a7⟩) b0, b1, b2, b3, b4, b5, b6, b7, h, x⟩) F
noncomputable def ds5 (v : AV) (F : Fr) : Fr := @Fr.rec (fun _ => Fr) (fun b0 b1 b2 b3 b4 b5 b6 b7 h x => ⟨@F8.rec (fun _ => F8) (fun a0 a1 a2 a3 a4 _ a6 a7 => ⟨a0, a1, a2, a3, a4, some v, a6, a7⟩) b0, b1, b2, b3, b4, b5, b6, b7, h, x⟩) F
noncomputable def ds6 (v : AV) (F : Fr) : Fr := @Fr.rec (fun _ => Fr) (fun b0 b1 b2 b3 b4 b5 b6 b7 h x => ⟨@F8.rec (fun _ => F8) (fun a0 a1 a2 a3 a4 a5 _ a7 => ⟨a0, a1, a2, a3, a4, a5, some v, a7⟩) b0, b1, b2, b3, b4, b5, b6, b7, h, x⟩) F
noncomputable def ds7 (v : AV) (F : Fr) : Fr := @Fr.rec (fun _ => Fr) (fun b0 b1 b2 b3 b4 b5 b6 b7 h x => ⟨@F8.rec (fun _ => F8) (fun a0 a1 a2 a3 a4 a5 a6 _ => ⟨a0, a1, a2, a3, a4, a5, a6, some v⟩) b0, b1, b2, b3, b4, b5, b6, b7, h, x⟩) F
noncomputable def ds8 (v : AV) (F : Fr) : Fr := @Fr.rec (fun _ => Fr) (fun b0 b1 b2 b3 b4 b5 b6 b7 h x => ⟨b0, @F8.rec (fun _ => F8) (fun _ a1 a2 a3 a4 a5 a6 a7 => ⟨some v, a1, a2, a3, a4, a5, a6, a7⟩) b1, b2, b3, b4, b5, b6, b7, h, x⟩) F
noncomputable def ds9 (v : AV) (F : Fr) : Fr := @Fr.rec (fun _ => Fr) (fun b0 b1 b2 b3 b4 b5 b6 b7 h x => ⟨b0, @F8.rec (fun _ => F8) (fun a0 _ a2 a3 a4 a5 a6 a7 => ⟨a0, some v, a2, a3, a4, a5, a6, a7⟩) b1, b2, b3, b4, b5, b6, b7, h, x⟩) F
noncomputable def ds10 (v : AV) (F : Fr) : Fr := @Fr.rec (fun _ => Fr) (fun b0 b1 b2 b3 b4 b5 b6 b7 h x => ⟨b0, @F8.rec (fun _ => F8) (fun a0 a1 _ a3 a4 a5 a6 a7 => ⟨a0, a1, some v, a3, a4, a5, a6, a7⟩) b1, b2, b3, b4, b5, b6, b7, h, x⟩) F
noncomputable def ds11 (v : AV) (F : Fr) : Fr := @Fr.rec (fun _ => Fr) (fun b0 b1 b2 b3 b4 b5 b6 b7 h x => ⟨b0, @F8.rec (fun _ => F8) (fun a0 a1 a2 _ a4 a5 a6 a7 => ⟨a0, a1, a2, some v, a4, a5, a6, a7⟩) b1, b2, b3, b4, b5, b6, b7, h, x⟩) F
noncomputable def ds12 (v : AV) (F : Fr) : Fr := @Fr.rec (fun _ => Fr) (fun b0 b1 b2 b3 b4 b5 b6 b7 h x => ⟨b0, @F8.rec (fun _ => F8) (fun a0 a1 a2 a3 _ a5 a6 a7 => ⟨a0, a1, a2, a3, some v, a5, a6, a7⟩) b1, b2, b3, b4, b5, b6, b7, h, x⟩) F
noncomputable def ds13 (v : AV) (F : Fr) : Fr := @Fr.rec (fun _ => Fr) (fun b0 b1 b2 b3 b4 b5 b6 b7 h x => ⟨b0, @F8.rec (fun _ => F8) (fun a0 a1 a2 a3 a4 _ a6 a7 => ⟨a0, a1, a2, a3, a4, some v, a6, a7⟩) b1, b2, b3, b4, b5, b6, b7, h, x⟩) F
noncomputable def ds14 (v : AV) (F : Fr) : Fr := @Fr.rec (fun _ => Fr) (fun b0 b1 b2 b3 b4 b5 b6 b7 h x => ⟨b0, @F8.rec (fun _ => F8) (fun a0 a1 a2 a3 a4 a5 _ a7 => ⟨a0, a1, a2, a3, a4, a5, some v, a7⟩) b1, b2, b3, b4, b5, b6, b7, h, x⟩) F
noncomputable def ds15 (v : AV) (F : Fr) : Fr := @Fr.rec (fun _ => Fr) (fun b0 b1 b2 b3 b4 b5 b6 b7 h x => ⟨b0, @F8.rec (fun _ => F8) (fun a0 a1 a2 a3 a4 a5 a6 _ => ⟨a0, a1, a2, a3, a4, a5, a6, some v⟩) b1, b2, b3, b4, b5, b6, b7, h, x⟩) F
noncomputable def ds16 (v : AV) (F : Fr) : Fr := @Fr.rec (fun _ => Fr) (fun b0 b1 b2 b3 b4 b5 b6 b7 h x => ⟨b0, b1, @F8.rec (fun _ => F8) (fun _ a1 a2 a3 a4 a5 a6 a7 => ⟨some v, a1, a2, a3, a4, a5, a6, a7⟩) b2, b3, b4, b5, b6, b7, h, x⟩) F
noncomputable def ds17 (v : AV) (F : Fr) : Fr := @Fr.rec (fun _ => Fr) (fun b0 b1 b2 b3 b4 b5 b6 b7 h x => ⟨b0, b1, @F8.rec (fun _ => F8) (fun a0 _ a2 a3 a4 a5 a6 a7 => ⟨a0, some v, a2, a3, a4, a5, a6, a7⟩) b2, b3, b4, b5, b6, b7, h, x⟩) F
noncomputable def ds18 (v : AV) (F : Fr) : Fr := @Fr.rec (fun _ => Fr) (fun b0 b1 b2 b3 b4 b5 b6 b7 h x => ⟨b0, b1, @F8.rec (fun _ => F8) (fun a0 a1 _ a3 a4 a5 a6 a7 => ⟨a0, a1, some v, a3, a4, a5, a6, a7⟩) b2, b3, b4, b5, b6, b7, h, x⟩) F
noncomputable def ds19 (v : AV) (F : Fr) : Fr := @Fr.rec (fun _ => Fr) (fun b0 b1 b2 b3 b4 b5 b6 b7 h x => ⟨b0, b1, @F8.rec (fun _ => F8) (fun a0 a1 a2 _ a4 a5 a6 a7 => ⟨a0, a1, a2, some v, a4, a5, a6, a7⟩) b2, b3, b4, b5, b6, b7, h, x⟩) F
noncomputable def ds20 (v : AV) (F : Fr) : Fr := @Fr.rec (fun _ => Fr) (fun b0 b1 b2 b3 b4 b5 b6 b7 h x => ⟨b0, b1, @F8.rec (fun _ => F8) (fun a0 a1 a2 a3 _ a5 a6 a7 => ⟨a0, a1, a2, a3, some v, a5, a6, a7⟩) b2, b3, b4, b5, b6, b7, h, x⟩) F
noncomputable def ds21 (v : AV) (F : Fr) : Fr := @Fr.rec (fun _ => Fr) (fun b0 b1 b2 b3 b4 b5 b6 b7 h x => ⟨b0, b1, @F8.rec (fun _ => F8) (fun a0 a1 a2 a3 a4 _ a6 a7 => ⟨a0, a1, a2, a3, a4, some v, a6, a7⟩) b2, b3, b4, b5, b6, b7, h, x⟩) F
noncomputable def ds22 (v : AV) (F : Fr) : Fr := @Fr.rec (fun _ => Fr) (fun b0 b1 b2 b3 b4 b5 b6 b7 h x => ⟨b0, b1, @F8.rec (fun _ => F8) (fun a0 a1 a2 a3 a4 a5 _ a7 => ⟨a0, a1, a2, a3, a4, a5, some v, a7⟩) b2, b3, b4, b5, b6, b7, h, x⟩) F
noncomputable def ds23 (v : AV) (F : Fr) : Fr := @Fr.rec (fun _ => Fr) (fun b0 b1 b2 b3 b4 b5 b6 b7 h x => ⟨b0, b1, @F8.rec (fun _ => F8) (fun a0 a1 a2 a3 a4 a5 a6 _ => ⟨a0, a1, a2, a3, a4, a5, a6, some v⟩) b2, b3, b4, b5, b6, b7, h, x⟩) F
noncomputable def ds24 (v : AV) (F : Fr) : Fr := @Fr.rec (fun _ => Fr) (fun b0 b1 b2 b3 b4 b5 b6 b7 h x => ⟨b0, b1, b2, @F8.rec (fun _ => F8) (fun _ a1 a2 a3 a4 a5 a6 a7 => ⟨some v, a1, a2, a3, a4, a5, a6, a7⟩) b3, b4, b5, b6, b7, h, x⟩) F
noncomputable def ds25 (v : AV) (F : Fr) : Fr := @Fr.rec (fun _ => Fr) (fun b0 b1 b2 b3 b4 b5 b6 b7 h x => ⟨b0, b1, b2, @F8.rec (fun _ => F8) (fun a0 _ a2 a3 a4 a5 a6 a7 => ⟨a0, some v, a2, a3, a4, a5, a6, a7⟩) b3, b4, b5, b6, b7, h, x⟩) F
noncomputable def ds26 (v : AV) (F : Fr) : Fr := @Fr.rec (fun _ => Fr) (fun b0 b1 b2 b3 b4 b5 b6 b7 h x => ⟨b0, b1, b2, @F8.rec (fun _ => F8) (fun a0 a1 _ a3 a4 a5 a6 a7 => ⟨a0, a1, some v, a3, a4, a5, a6, a7⟩) b3, b4, b5, b6, b7, h, x⟩) F
noncomputable def ds27 (v : AV) (F : Fr) : Fr := @Fr.rec (fun _ => Fr) (fun b0 b1 b2 b3 b4 b5 b6 b7 h x => ⟨b0, b1, b2, @F8.rec (fun _ => F8) (fun a0 a1 a2 _ a4 a5 a6 a7 => ⟨a0, a1, a2, some v, a4, a5, a6, a7⟩) b3, b4, b5, b6, b7, h, x⟩) F
noncomputable def ds28 (v : AV) (F : Fr) : Fr := @Fr.rec (fun _ => Fr) (fun b0 b1 b2 b3 b4 b5 b6 b7 h x => ⟨b0, b1, b2, @F8.rec (fun _ => F8) (fun a0 a1 a2 a3 _ a5 a6 a7 => ⟨a0, a1, a2, a3, some v, a5, a6, a7⟩) b3, b4, b5, b6, b7, h, x⟩) F
noncomputable def ds29 (v : AV) (F : Fr) : Fr := @Fr.rec (fun _ => Fr) (fun b0 b1 b2 b3 b4 b5 b6 b7 h x => ⟨b0, b1, b2, @F8.rec (fun _ => F8) (fun a0 a1 a2 a3 a4 _ a6 a7 => ⟨a0, a1, a2, a3, a4, some v, a6, a7⟩) b3, b4, b5, b6, b7, h, x⟩) F
noncomputable def ds30 (v : AV) (F : Fr) : Fr := @Fr.rec (fun _ => Fr) (fun b0 b1 b2 b3 b4 b5 b6 b7 h x => ⟨b0, b1, b2, @F8.rec (fun _ => F8) (fun a0 a1 a2 a3 a4 a5 _ a7 => ⟨a0, a1, a2, a3, a4, a5, some v, a7⟩) b3, b4, b5, b6, b7, h, x⟩) F
noncomputable def ds31 (v : AV) (F : Fr) : Fr := @Fr.rec (fun _ => Fr) (fun b0 b1 b2 b3 b4 b5 b6 b7 h x => ⟨b0, b1, b2, @F8.rec (fun _ => F8) (fun a0 a1 a2 a3 a4 a5 a6 _ => ⟨a0, a1, a2, a3, a4, a5, a6, some v⟩) b3, b4, b5, b6, b7, h, x⟩) F
noncomputable def ds32 (v : AV) (F : Fr) : Fr := @Fr.rec (fun _ => Fr) (fun b0 b1 b2 b3 b4 b5 b6 b7 h x => ⟨b0, b1, b2, b3, @F8.rec (fun _ => F8) (fun _ a1 a2 a3 a4 a5 a6 a7 => ⟨some v, a1, a2, a3, a4, a5, a6, a7⟩) b4, b5, b6, b7, h, x⟩) F
noncomputable def ds33 (v : AV) (F : Fr) : Fr := @Fr.rec (fun _ => Fr) (fun b0 b1 b2 b3 b4 b5 b6 b7 h x => ⟨b0, b1, b2, b3, @F8.rec (fun _ => F8) (fun a0 _ a2 a3 a4 a5 a6 a7 => ⟨a0, some v, a2, a3, a4, a5, a6, a7⟩) b4, b5, b6, b7, h, x⟩) F
noncomputable def ds34 (v : AV) (F : Fr) : Fr := @Fr.rec (fun _ => Fr) (fun b0 b1 b2 b3 b4 b5 b6 b7 h x => ⟨b0, b1, b2, b3, @F8.rec (fun _ => F8) (fun a0 a1 _ a3 a4 a5 a6 a7 => ⟨a0, a1, some v, a3, a4, a5, a6, a7⟩) b4, b5, b6, b7, h, x⟩) F
noncomputable def ds35 (v : AV) (F : Fr) : Fr := @Fr.rec (fun _ => Fr) (fun b0 b1 b2 b3 b4 b5 b6 b7 h x => ⟨b0, b1, b2, b3, @F8.rec (fun _ => F8) (fun a0 a1 a2 _ a4 a5 a6 a7 => ⟨a0, a1, a2, some v, a4, a5, a6, a7⟩) b4, b5, b6, b7, h, x⟩) F
noncomputable def ds36 (v : AV) (F : Fr) : Fr := @Fr.rec (fun _ => Fr) (fun b0 b1 b2 b3 b4 b5 b6 b7 h x => ⟨b0, b1, b2, b3, @F8.rec (fun _ => F8) (fun a0 a1 a2 a3 _ a5 a6 a7 => ⟨a0, a1, a2, a3, some v, a5, a6, a7⟩) b4, b5, b6, b7, h, x⟩) F
noncomputable def ds37 (v : AV) (F : Fr) : Fr := @Fr.rec (fun _ => Fr) (fun b0 b1 b2 b3 b4 b5 b6 b7 h x => ⟨b0, b1, b2, b3, @F8.rec (fun _ => F8) (fun a0 a1 a2 a3 a4 _ a6 a7 => ⟨a0, a1, a2, a3, a4, some v, a6, a7⟩) b4, b5, b6, b7, h, x⟩) F
noncomputable def ds38 (v : AV) (F : Fr) : Fr := @Fr.rec (fun _ => Fr) (fun b0 b1 b2 b3 b4 b5 b6 b7 h x => ⟨b0, b1, b2, b3, @F8.rec (fun _ => F8) (fun a0 a1 a2 a3 a4 a5 _ a7 => ⟨a0, a1, a2, a3, a4, a5, some v, a7⟩) b4, b5, b6, b7, h, x⟩) F
noncomputable def ds39 (v : AV) (F : Fr) : Fr := @Fr.rec (fun _ => Fr) (fun b0 b1 b2 b3 b4 b5 b6 b7 h x => ⟨b0, b1, b2, b3, @F8.rec (fun _ => F8) (fun a0 a1 a2 a3 a4 a5 a6 _ => ⟨a0, a1, a2, a3, a4, a5, a6, some v⟩) b4, b5, b6, b7, h, x⟩) F
noncomputable def ds40 (v : AV) (F : Fr) : Fr := @Fr.rec (fun _ => Fr) (fun b0 b1 b2 b3 b4 b5 b6 b7 h x => ⟨b0, b1, b2, b3, b4, @F8.rec (fun _ => F8) (fun _ a1 a2 a3 a4 a5 a6 a7 => ⟨some v, a1, a2, a3, a4, a5, a6, a7⟩) b5, b6, b7, h, x⟩) F
noncomputable def ds41 (v : AV) (F : Fr) : Fr := @Fr.rec (fun _ => Fr) (fun b0 b1 b2 b3 b4 b5 b6 b7 h x => ⟨b0, b1, b2, b3, b4, @F8.rec (fun _ => F8) (fun a0 _ a2 a3 a4 a5 a6 a7 => ⟨a0, some v, a2, a3, a4, a5, a6, a7⟩) b5, b6, b7, h, x⟩) F
noncomputable def ds42 (v : AV) (F : Fr) : Fr := @Fr.rec (fun _ => Fr) (fun b0 b1 b2 b3 b4 b5 b6 b7 h x => ⟨b0, b1, b2, b3, b4, @F8.rec (fun _ => F8) (fun a0 a1 _ a3 a4 a5 a6 a7 => ⟨a0, a1, some v, a3, a4, a5, a6, a7⟩) b5, b6, b7, h, x⟩) F
noncomputable def ds43 (v : AV) (F : Fr) : Fr := @Fr.rec (fun _ => Fr) (fun b0 b1 b2 b3 b4 b5 b6 b7 h x => ⟨b0, b1, b2, b3, b4, @F8.rec (fun _ => F8) (fun a0 a1 a2 _ a4 a5 a6 a7 => ⟨a0, a1, a2, some v, a4, a5, a6, a7⟩) b5, b6, b7, h, x⟩) F
noncomputable def ds44 (v : AV) (F : Fr) : Fr := @Fr.rec (fun _ => Fr) (fun b0 b1 b2 b3 b4 b5 b6 b7 h x => ⟨b0, b1, b2, b3, b4, @F8.rec (fun _ => F8) (fun a0 a1 a2 a3 _ a5 a6 a7 => ⟨a0, a1, a2, a3, some v, a5, a6, a7⟩) b5, b6, b7, h, x⟩) F
noncomputable def ds45 (v : AV) (F : Fr) : Fr := @Fr.rec (fun _ => Fr) (fun b0 b1 b2 b3 b4 b5 b6 b7 h x => ⟨b0, b1, b2, b3, b4, @F8.rec (fun _ => F8) (fun a0 a1 a2 a3 a4 _ a6 a7 => ⟨a0, a1, a2, a3, a4, some v, a6, a7⟩) b5, b6, b7, h, x⟩) F
noncomputable def ds46 (v : AV) (F : Fr) : Fr := @Fr.rec (fun _ => Fr) (fun b0 b1 b2 b3 b4 b5 b6 b7 h x => ⟨b0, b1, b2, b3, b4, @F8.rec (fun _ => F8) (fun a0 a1 a2 a3 a4 a5 _ a7 => ⟨a0, a1, a2, a3, a4, a5, some v, a7⟩) b5, b6, b7, h, x⟩) F
noncomputable def ds47 (v : AV) (F : Fr) : Fr := @Fr.rec (fun _ => Fr) (fun b0 b1 b2 b3 b4 b5 b6 b7 h x => ⟨b0, b1, b2, b3, b4, @F8.rec (fun _ => F8) (fun a0 a1 a2 a3 a4 a5 a6 _ => ⟨a0, a1, a2, a3, a4, a5, a6, some v⟩) b5, b6, b7, h, x⟩) F
noncomputable def ds48 (v : AV) (F : Fr) : Fr := @Fr.rec (fun _ => Fr) (fun b0 b1 b2 b3 b4 b5 b6 b7 h x => ⟨b0, b1, b2, b3, b4, b5, @F8.rec (fun _ => F8) (fun _ a1 a2 a3 a4 a5 a6 a7 => ⟨some v, a1, a2, a3, a4, a5, a6, a7⟩) b6, b7, h, x⟩) F
noncomputable def ds49 (v : AV) (F : Fr) : Fr := @Fr.rec (fun _ => Fr) (fun b0 b1 b2 b3 b4 b5 b6 b7 h x => ⟨b0, b1, b2, b3, b4, b5, @F8.rec (fun _ => F8) (fun a0 _ a2 a3 a4 a5 a6 a7 => ⟨a0, some v, a2, a3, a4, a5, a6, a7⟩) b6, b7, h, x⟩) F
noncomputable def ds50 (v : AV) (F : Fr) : Fr := @Fr.rec (fun _ => Fr) (fun b0 b1 b2 b3 b4 b5 b6 b7 h x => ⟨b0, b1, b2, b3, b4, b5, @F8.rec (fun _ => F8) (fun a0 a1 _ a3 a4 a5 a6 a7 => ⟨a0, a1, some v, a3, a4, a5, a6, a7⟩) b6, b7, h, x⟩) F
noncomputable def ds51 (v : AV) (F : Fr) : Fr := @Fr.rec (fun _ => Fr) (fun b0 b1 b2 b3 b4 b5 b6 b7 h x => ⟨b0, b1, b2, b3, b4, b5, @F8.rec (fun _ => F8) (fun a0 a1 a2 _ a4 a5 a6 a7 => ⟨a0, a1, a2, some v, a4, a5, a6, a7⟩) b6, b7, h, x⟩) F
noncomputable def ds52 (v : AV) (F : Fr) : Fr := @Fr.rec (fun _ => Fr) (fun b0 b1 b2 b3 b4 b5 b6 b7 h x => ⟨b0, b1, b2, b3, b4, b5, @F8.rec (fun _ => F8) (fun a0 a1 a2 a3 _ a5 a6 a7 => ⟨a0, a1, a2, a3, some v, a5, a6, a7⟩) b6, b7, h, x⟩) F
noncomputable def ds53 (v : AV) (F : Fr) : Fr := @Fr.rec (fun _ => Fr) (fun b0 b1 b2 b3 b4 b5 b6 b7 h x => ⟨b0, b1, b2, b3, b4, b5, @F8.rec (fun _ => F8) (fun a0 a1 a2 a3 a4 _ a6 a7 => ⟨a0, a1, a2, a3, a4, some v, a6, a7⟩) b6, b7, h, x⟩) F
noncomputable def ds54 (v : AV) (F : Fr) : Fr := @Fr.rec (fun _ => Fr) (fun b0 b1 b2 b3 b4 b5 b6 b7 h x => ⟨b0, b1, b2, b3, b4, b5, @F8.rec (fun _ => F8) (fun a0 a1 a2 a3 a4 a5 _ a7 => ⟨a0, a1, a2, a3, a4, a5, some v, a7⟩) b6, b7, h, x⟩) F
noncomputable def ds55 (v : AV) (F : Fr) : Fr := @Fr.rec (fun _ => Fr) (fun b0 b1 b2 b3 b4 b5 b6 b7 h x => ⟨b0, b1, b2, b3, b4, b5, @F8.rec (fun _ => F8) (fun a0 a1 a2 a3 a4 a5 a6 _ => ⟨a0, a1, a2, a3, a4, a5, a6, some v⟩) b6, b7, h, x⟩) F
noncomputable def ds56 (v : AV) (F : Fr) : Fr := @Fr.rec (fun _ => Fr) (fun b0 b1 b2 b3 b4 b5 b6 b7 h x => ⟨b0, b1, b2, b3, b4, b5, b6, @F8.rec (fun _ => F8) (fun _ a1 a2 a3 a4 a5 a6 a7 => ⟨some v, a1, a2, a3, a4, a5, a6, a7⟩) b7, h, x⟩) F
noncomputable def ds57 (v : AV) (F : Fr) : Fr := @Fr.rec (fun _ => Fr) (fun b0 b1 b2 b3 b4 b5 b6 b7 h x => ⟨b0, b1, b2, b3, b4, b5, b6, @F8.rec (fun _ => F8) (fun a0 _ a2 a3 a4 a5 a6 a7 => ⟨a0, some v, a2, a3, a4, a5, a6, a7⟩) b7, h, x⟩) F
noncomputable def ds58 (v : AV) (F : Fr) : Fr := @Fr.rec (fun _ => Fr) (fun b0 b1 b2 b3 b4 b5 b6 b7 h x => ⟨b0, b1, b2, b3, b4, b5, b6, @F8.rec (fun _ => F8) (fun a0 a1 _ a3 a4 a5 a6 a7 => ⟨a0, a1, some v, a3, a4, a5, a6, a7⟩) b7, h, x⟩) F
noncomputable def ds59 (v : AV) (F : Fr) : Fr := @Fr.rec (fun _ => Fr) (fun b0 b1 b2 b3 b4 b5 b6 b7 h x => ⟨b0, b1, b2, b3, b4, b5, b6, @F8.rec (fun _ => F8) (fun a0 a1 a2 _ a4 a5 a6 a7 => ⟨a0, a1, a2, some v, a4, a5, a6, a7⟩) b7, h, x⟩) F
noncomputable def ds60 (v : AV) (F : Fr) : Fr := @Fr.rec (fun _ => Fr) (fun b0 b1 b2 b3 b4 b5 b6 b7 h x => ⟨b0, b1, b2, b3, b4, b5, b6, @F8.rec (fun _ => F8) (fun a0 a1 a2 a3 _ a5 a6 a7 => ⟨a0, a1, a2, a3, some v, a5, a6, a7⟩) b7, h, x⟩) F
noncomputable def ds61 (v : AV) (F : Fr) : Fr := @Fr.rec (fun _ => Fr) (fun b0 b1 b2 b3 b4 b5 b6 b7 h x => ⟨b0, b1, b2, b3, b4, b5, b6, @F8.rec (fun _ => F8) (fun a0 a1 a2 a3 a4 _ a6 a7 => ⟨a0, a1, a2, a3, a4, some v, a6, a7⟩) b7, h, x⟩) F
noncomputable def ds62 (v : AV) (F : Fr) : Fr := @Fr.rec (fun _ => Fr) (fun b0 b1 b2 b3 b4 b5 b6 b7 h x => ⟨b0, b1, b2, b3, b4, b5, b6, @F8.rec (fun _ => F8) (fun a0 a1 a2 a3 a4 a5 _ a7 => ⟨a0, a1, a2, a3, a4, a5, some v, a7⟩) b7, h, x⟩) F
noncomputable def ds63 (v : AV) (F : Fr) : Fr := @Fr.rec (fun _ => Fr) (fun b0 b1 b2 b3 b4 b5 b6 b7 h x => ⟨b0, b1, b2, b3, b4, b5, b6, @F8.rec (fun _ => F8) (fun a0 a1 a2 a3 a4 a5 a6 _ => ⟨a0, a1, a2, a3, a4, a5, a6, some v⟩) b7, h, x⟩) F
noncomputable def ds64 (v : AV) (F : Fr) : Fr := @Fr.rec (fun _ => Fr) (fun b0 b1 b2 b3 b4 b5 b6 b7 h x => ⟨b0, b1, b2, b3, b4, b5, b6, b7, @F64.rec (fun _ => F64) (fun c0 c1 c2 c3 c4 c5 c6 c7 => ⟨@F8.rec (fun _ => F8) (fun _ a1 a2 a3 a4 a5 a6 a7 => ⟨some v, a1, a2, a3, a4, a5, a6, a7⟩) c0, c1, c2, c3, c4, c5, c6, c7⟩) h, x⟩) F
noncomputable def ds65 (v : AV) (F : Fr) : Fr := @Fr.rec (fun _ => Fr) (fun b0 b1 b2 b3 b4 b5 b6 b7 h x => ⟨b0, b1, b2, b3, b4, b5, b6, b7, @F64.rec (fun _ => F64) (fun c0 c1 c2 c3 c4 c5 c6 c7 => ⟨@F8.rec (fun _ => F8) (fun a0 _ a2 a3 a4 a5 a6 a7 => ⟨a0, some v, a2, a3, a4, a5, a6, a7⟩) c0, c1, c2, c3, c4, c5, c6, c7⟩) h, x⟩) F
noncomputable def ds66 (v : AV) (F : Fr) : Fr := @Fr.rec (fun _ => Fr) (fun b0 b1 b2 b3 b4 b5 b6 b7 h x => ⟨b0, b1, b2, b3, b4, b5, b6, b7, @F64.rec (fun _ => F64) (fun c0 c1 c2 c3 c4 c5 c6 c7 => ⟨@F8.rec (fun _ => F8) (fun a0 a1 _ a3 a4 a5 a6 a7 => ⟨a0, a1, some v, a3, a4, a5, a6, a7⟩) c0, c1, c2, c3, c4, c5, c6, c7⟩) h, x⟩) F
noncomputable def ds67 (v : AV) (F : Fr) : Fr := @Fr.rec (fun _ => Fr) (fun b0 b1 b2 b3 b4 b5 b6 b7 h x => ⟨b0, b1, b2, b3, b4, b5, b6, b7, @F64.rec (fun _ => F64) (fun c0 c1 c2 c3 c4 c5 c6 c7 => ⟨@F8.rec (fun _ => F8) (fun a0 a1 a2 _ a4 a5 a6 a7 => ⟨a0, a1, a2, some v, a4, a5, a6, a7⟩) c0, c1, c2, c3, c4, c5, c6, c7⟩) h, x⟩) F
noncomputable def ds68 (v : AV) (F : Fr) : Fr := @Fr.rec (fun _ => Fr) (fun b0 b1 b2 b3 b4 b5 b6 b7 h x => ⟨b0, b1, b2, b3, b4, b5, b6, b7, @F64.rec (fun _ => F64) (fun c0 c1 c2 c3 c4 c5 c6 c7 => ⟨@F8.rec (fun _ => F8) (fun a0 a1 a2 a3 _ a5 a6 a7 => ⟨a0, a1, a2, a3, some v, a5, a6, a7⟩) c0, c1, c2, c3, c4, c5, c6, c7⟩) h, x⟩) F
noncomputable def ds69 (v : AV) (F : Fr) : Fr := @Fr.rec (fun _ => Fr) (fun b0 b1 b2 b3 b4 b5 b6 b7 h x => ⟨b0, b1, b2, b3, b4, b5, b6, b7, @F64.rec (fun _ => F64) (fun c0 c1 c2 c3 c4 c5 c6 c7 => ⟨@F8.rec (fun _ => F8) (fun a0 a1 a2 a3 a4 _ a6 a7 => ⟨a0, a1, a2, a3, a4, some v, a6, a7⟩) c0, c1, c2, c3, c4, c5, c6, c7⟩) h, x⟩) F
noncomputable def ds70 (v : AV) (F : Fr) : Fr := @Fr.rec (fun _ => Fr) (fun b0 b1 b2 b3 b4 b5 b6 b7 h x => ⟨b0, b1, b2, b3, b4, b5, b6, b7, @F64.rec (fun _ => F64) (fun c0 c1 c2 c3 c4 c5 c6 c7 => ⟨@F8.rec (fun _ => F8) (fun a0 a1 a2 a3 a4 a5 _ a7 => ⟨a0, a1, a2, a3, a4, a5, some v, a7⟩) c0, c1, c2, c3, c4, c5, c6, c7⟩) h, x⟩) F
noncomputable def ds71 (v : AV) (F : Fr) : Fr := @Fr.rec (fun _ => Fr) (fun b0 b1 b2 b3 b4 b5 b6 b7 h x => ⟨b0, b1, b2, b3, b4, b5, b6, b7, @F64.rec (fun _ => F64) (fun c0 c1 c2 c3 c4 c5 c6 c7 => ⟨@F8.rec (fun _ => F8) (fun a0 a1 a2 a3 a4 a5 a6 _ => ⟨a0, a1, a2, a3, a4, a5, a6, some v⟩) c0, c1, c2, c3, c4, c5, c6, c7⟩) h, x⟩) F
noncomputable def ds72 (v : AV) (F : Fr) : Fr := @Fr.rec (fun _ => Fr) (fun b0 b1 b2 b3 b4 b5 b6 b7 h x => ⟨b0, b1, b2, b3, b4, b5, b6, b7, @F64.rec (fun _ => F64) (fun c0 c1 c2 c3 c4 c5 c6 c7 => ⟨c0, @F8.rec (fun _ => F8) (fun _ a1 a2 a3 a4 a5 a6 a7 => ⟨some v, a1, a2, a3, a4, a5, a6, a7⟩) c1, c2, c3, c4, c5, c6, c7⟩) h, x⟩) F
noncomputable def ds73 (v : AV) (F : Fr) : Fr := @Fr.rec (fun _ => Fr) (fun b0 b1 b2 b3 b4 b5 b6 b7 h x => ⟨b0, b1, b2, b3, b4, b5, b6, b7, @F64.rec (fun _ => F64) (fun c0 c1 c2 c3 c4 c5 c6 c7 => ⟨c0, @F8.rec (fun _ => F8) (fun a0 _ a2 a3 a4 a5 a6 a7 => ⟨a0, some v, a2, a3, a4, a5, a6, a7⟩) c1, c2, c3, c4, c5, c6, c7⟩) h, x⟩) F
noncomputable def ds74 (v : AV) (F : Fr) : Fr := @Fr.rec (fun _ => Fr) (fun b0 b1 b2 b3 b4 b5 b6 b7 h x => ⟨b0, b1, b2, b3, b4, b5, b6, b7, @F64.rec (fun _ => F64) (fun c0 c1 c2 c3 c4 c5 c6 c7 => ⟨c0, @F8.rec (fun _ => F8) (fun a0 a1 _ a3 a4 a5 a6 a7 => ⟨a0, a1, some v, a3, a4, a5, a6, a7⟩) c1, c2, c3, c4, c5, c6, c7⟩) h, x⟩) F
noncomputable def ds75 (v : AV) (F : Fr) : Fr := @Fr.rec (fun _ => Fr) (fun b0 b1 b2 b3 b4 b5 b6 b7 h x => ⟨b0, b1, b2, b3, b4, b5, b6, b7, @F64.rec (fun _ => F64) (fun c0 c1 c2 c3 c4 c5 c6 c7 => ⟨c0, @F8.rec (fun _ => F8) (fun a0 a1 a2 _ a4 a5 a6 a7 => ⟨a0, a1, a2, some v, a4, a5, a6, a7⟩) c1, c2, c3, c4, c5, c6, c7⟩) h, x⟩) F
noncomputable def ds76 (v : AV) (F : Fr) : Fr := @Fr.rec (fun _ => Fr) (fun b0 b1 b2 b3 b4 b5 b6 b7 h x => ⟨b0, b1, b2, b3, b4, b5, b6, b7, @F64.rec (fun _ => F64) (fun c0 c1 c2 c3 c4 c5 c6 c7 => ⟨c0, @F8.rec (fun _ => F8) (fun a0 a1 a2 a3 _ a5 a6 a7 => ⟨a0, a1, a2, a3, some v, a5, a6, a7⟩) c1, c2, c3, c4, c5, c6, c7⟩) h, x⟩) F
noncomputable def ds77 (v : AV) (F : Fr) : Fr := @Fr.rec (fun _ => Fr) (fun b0 b1 b2 b3 b4 b5 b6 b7 h x => ⟨b0, b1, b2, b3, b4, b5, b6, b7, @F64.rec (fun _ => F64) (fun c0 c1 c2 c3 c4 c5 c6 c7 => ⟨c0, @F8.rec (fun _ => F8) (fun a0 a1 a2 a3 a4 _ a6 a7 => ⟨a0, a1, a2, a3, a4, some v, a6, a7⟩) c1, c2, c3, c4, c5, c6, c7⟩) h, x⟩) F
noncomputable def ds78 (v : AV) (F : Fr) : Fr := @Fr.rec (fun _ => Fr) (fun b0 b1 b2 b3 b4 b5 b6 b7 h x => ⟨b0, b1, b2, b3, b4, b5, b6, b7, @F64.rec (fun _ => F64) (fun c0 c1 c2 c3 c4 c5 c6 c7 => ⟨c0, @F8.rec (fun _ => F8) (fun a0 a1 a2 a3 a4 a5 _ a7 => ⟨a0, a1, a2, a3, a4, a5, some v, a7⟩) c1, c2, c3, c4, c5, c6, c7⟩) h, x⟩) F
noncomputable def ds79 (v : AV) (F : Fr) : Fr := @Fr.rec (fun _ => Fr) (fun b0 b1 b2 b3 b4 b5 b6 b7 h x => ⟨b0, b1, b2, b3, b4, b5, b6, b7, @F64.rec (fun _ => F64) (fun c0 c1 c2 c3 c4 c5 c6 c7 => ⟨c0, @F8.rec (fun _ => F8) (fun a0 a1 a2 a3 a4 a5 a6 _ => ⟨a0, a1, a2, a3, a4, a5, a6, some v⟩) c1, c2, c3, c4, c5, c6, c7⟩) h, x⟩) F
noncomputable def ds80 (v : AV) (F : Fr) : Fr := @Fr.rec (fun _ => Fr) (fun b0 b1 b2 b3 b4 b5 b6 b7 h x => ⟨b0, b1, b2, b3, b4, b5, b6, b7, @F64.rec (fun _ => F64) (fun c0 c1 c2 c3 c4 c5 c6 c7 => ⟨c0, c1, @F8.rec (fun _ => F8) (fun _ a1 a2 a3 a4 a5 a6 a7 => ⟨some v, a1, a2, a3, a4, a5, a6, a7⟩) c2, c3, c4, c5, c6, c7⟩) h, x⟩) F
noncomputable def ds81 (v : AV) (F : Fr) : Fr := @Fr.rec (fun _ => Fr) (fun b0 b1 b2 b3 b4 b5 b6 b7 h x => ⟨b0, b1, b2, b3, b4, b5, b6, b7, @F64.rec (fun _ => F64) (fun c0 c1 c2 c3 c4 c5 c6 c7 => ⟨c0, c1, @F8.rec (fun _ => F8) (fun a0 _ a2 a3 a4 a5 a6 a7 => ⟨a0, some v, a2, a3, a4, a5, a6, a7⟩) c2, c3, c4, c5, c6, c7⟩) h, x⟩) F
noncomputable def ds82 (v : AV) (F : Fr) : Fr := @Fr.rec (fun _ => Fr) (fun b0 b1 b2 b3 b4 b5 b6 b7 h x => ⟨b0, b1, b2, b3, b4, b5, b6, b7, @F64.rec (fun _ => F64) (fun c0 c1 c2 c3 c4 c5 c6 c7 => ⟨c0, c1, @F8.rec (fun _ => F8) (fun a0 a1 _ a3 a4 a5 a6 a7 => ⟨a0, a1, some v, a3, a4, a5, a6, a7⟩) c2, c3, c4, c5, c6, c7⟩) h, x⟩) F
noncomputable def ds83 (v : AV) (F : Fr) : Fr := @Fr.rec (fun _ => Fr) (fun b0 b1 b2 b3 b4 b5 b6 b7 h x => ⟨b0, b1, b2, b3, b4, b5, b6, b7, @F64.rec (fun _ => F64) (fun c0 c1 c2 c3 c4 c5 c6 c7 => ⟨c0, c1, @F8.rec (fun _ => F8) (fun a0 a1 a2 _ a4 a5 a6 a7 => ⟨a0, a1, a2, some v, a4, a5, a6, a7⟩) c2, c3, c4, c5, c6, c7⟩) h, x⟩) F
noncomputable def ds84 (v : AV) (F : Fr) : Fr := @Fr.rec (fun _ => Fr) (fun b0 b1 b2 b3 b4 b5 b6 b7 h x => ⟨b0, b1, b2, b3, b4, b5, b6, b7, @F64.rec (fun _ => F64) (fun c0 c1 c2 c3 c4 c5 c6 c7 => ⟨c0, c1, @F8.rec (fun _ => F8) (fun a0 a1 a2 a3 _ a5 a6 a7 => ⟨a0, a1, a2, a3, some v, a5, a6, a7⟩) c2, c3, c4, c5, c6, c7⟩) h, x⟩) F
noncomputable def ds85 (v : AV) (F : Fr) : Fr := @Fr.rec (fun _ => Fr) (fun b0 b1 b2 b3 b4 b5 b6 b7 h x => ⟨b0, b1, b2, b3, b4, b5, b6, b7, @F64.rec (fun _ => F64) (fun c0 c1 c2 c3 c4 c5 c6 c7 => ⟨c0, c1, @F8.rec (fun _ => F8) (fun a0 a1 a2 a3 a4 _ a6 a7 => ⟨a0, a1, a2, a3, a4, some v, a6, a7⟩) c2, c3, c4, c5, c6, c7⟩) h, x⟩) F
noncomputable def ds86 (v : AV) (F : Fr) : Fr := @Fr.rec (fun _ => Fr) (fun b0 b1 b2 b3 b4 b5 b6 b7 h x => ⟨b0, b1, b2, b3, b4, b5, b6, b7, @F64.rec (fun _ => F64) (fun c0 c1 c2 c3 c4 c5 c6 c7 => ⟨c0, c1, @F8.rec (fun _ => F8) (fun a0 a1 a2 a3 a4 a5 _ a7 => ⟨a0, a1, a2, a3, a4, a5, some v, a7⟩) c2, c3, c4, c5, c6, c7⟩) h, x⟩) F
noncomputable def ds87 (v : AV) (F : Fr) : Fr := @Fr.rec (fun _ => Fr) (fun b0 b1 b2 b3 b4 b5 b6 b7 h x => ⟨b0, b1, b2, b3, b4, b5, b6, b7, @F64.rec (fun _ => F64) (fun c0 c1 c2 c3 c4 c5 c6 c7 => ⟨c0, c1, @F8.rec (fun _ => F8) (fun a0 a1 a2 a3 a4 a5 a6 _ => ⟨a0, a1, a2, a3, a4, a5, a6, some v⟩) c2, c3, c4, c5, c6, c7⟩) h, x⟩) F
noncomputable def ds88 (v : AV) (F : Fr) : Fr := @Fr.rec (fun _ => Fr) (fun b0 b1 b2 b3 b4 b5 b6 b7 h x => ⟨b0, b1, b2, b3, b4, b5, b6, b7, @F64.rec (fun _ => F64) (fun c0 c1 c2 c3 c4 c5 c6 c7 => ⟨c0, c1, c2, @F8.rec (fun _ => F8) (fun _ a1 a2 a3 a4 a5 a6 a7 => ⟨some v, a1, a2, a3, a4, a5, a6, a7⟩) c3, c4, c5, c6, c7⟩) h, x⟩) F
noncomputable def ds89 (v : AV) (F : Fr) : Fr := @Fr.rec (fun _ => Fr) (fun b0 b1 b2 b3 b4 b5 b6 b7 h x => ⟨b0, b1, b2, b3, b4, b5, b6, b7, @F64.rec (fun _ => F64) (fun c0 c1 c2 c3 c4 c5 c6 c7 => ⟨c0, c1, c2, @F8.rec (fun _ => F8) (fun a0 _ a2 a3 a4 a5 a6 a7 => ⟨a0, some v, a2, a3, a4, a5, a6, a7⟩) c3, c4, c5, c6, c7⟩) h, x⟩) F
noncomputable def ds90 (v : AV) (F : Fr) : Fr := @Fr.rec (fun _ => Fr) (fun b0 b1 b2 b3 b4 b5 b6 b7 h x => ⟨b0, b1, b2, b3, b4, b5, b6, b7, @F64.rec (fun _ => F64) (fun c0 c1 c2 c3 c4 c5 c6 c7 => ⟨c0, c1, c2, @F8.rec (fun _ => F8) (fun a0 a1 _ a3 a4 a5 a6 a7 => ⟨a0, a1, some v, a3, a4, a5, a6, a7⟩) c3, c4, c5, c6, c7⟩) h, x⟩) F
noncomputable def ds91 (v : AV) (F : Fr) : Fr := @Fr.rec (fun _ => Fr) (fun b0 b1 b2 b3 b4 b5 b6 b7 h x => ⟨b0, b1, b2, b3, b4, b5, b6, b7, @F64.rec (fun _ => F64) (fun c0 c1 c2 c3 c4 c5 c6 c7 => ⟨c0, c1, c2, @F8.rec (fun _ => F8) (fun a0 a1 a2 _ a4 a5 a6 a7 => ⟨a0, a1, a2, some v, a4, a5, a6, a7⟩) c3, c4, c5, c6, c7⟩) h, x⟩) F
noncomputable def ds92 (v : AV) (F : Fr) : Fr := @Fr.rec (fun _ => Fr) (fun b0 b1 b2 b3 b4 b5 b6 b7 h x => ⟨b0, b1, b2, b3, b4, b5, b6, b7, @F64.rec (fun _ => F64) (fun c0 c1 c2 c3 c4 c5 c6 c7 => ⟨c0, c1, c2, @F8.rec (fun _ => F8) (fun a0 a1 a2 a3 _ a5 a6 a7 => ⟨a0, a1, a2, a3, some v, a5, a6, a7⟩) c3, c4, c5, c6, c7⟩) h, x⟩) F
noncomputable def ds93 (v : AV) (F : Fr) : Fr := @Fr.rec (fun _ => Fr) (fun b0 b1 b2 b3 b4 b5 b6 b7 h x => ⟨b0, b1, b2, b3, b4, b5, b6, b7, @F64.rec (fun _ => F64) (fun c0 c1 c2 c3 c4 c5 c6 c7 => ⟨c0, c1, c2, @F8.rec (fun _ => F8) (fun a0 a1 a2 a3 a4 _ a6 a7 => ⟨a0, a1, a2, a3, a4, some v, a6, a7⟩) c3, c4, c5, c6, c7⟩) h, x⟩) F
noncomputable def ds94 (v : AV) (F : Fr) : Fr := @Fr.rec (fun _ => Fr) (fun b0 b1 b2 b3 b4 b5 b6 b7 h x => ⟨b0, b1, b2, b3, b4, b5, b6, b7, @F64.rec (fun _ => F64) (fun c0 c1 c2 c3 c4 c5 c6 c7 => ⟨c0, c1, c2, @F8.rec (fun _ => F8) (fun a0 a1 a2 a3 a4 a5 _ a7 => ⟨a0, a1, a2, a3, a4, a5, some v, a7⟩) c3, c4, c5, c6, c7⟩) h, x⟩) F
noncomputable def ds95 (v : AV) (F : Fr) : Fr := @Fr.rec (fun _ => Fr) (fun b0 b1 b2 b3 b4 b5 b6 b7 h x => ⟨b0, b1, b2, b3, b4, b5, b6, b7, @F64.rec (fun _ => F64) (fun c0 c1 c2 c3 c4 c5 c6 c7 => ⟨c0, c1, c2, @F8.rec (fun _ => F8) (fun a0 a1 a2 a3 a4 a5 a6 _ => ⟨a0, a1, a2, a3, a4, a5, a6, some v⟩) c3, c4, c5, c6, c7⟩) h, x⟩) F
noncomputable def ds96 (v : AV) (F : Fr) : Fr := @Fr.rec (fun _ => Fr) (fun b0 b1 b2 b3 b4 b5 b6 b7 h x => ⟨b0, b1, b2, b3, b4, b5, b6, b7, @F64.rec (fun _ => F64) (fun c0 c1 c2 c3 c4 c5 c6 c7 => ⟨c0, c1, c2, c3, @F8.rec (fun _ => F8) (fun _ a1 a2 a3 a4 a5 a6 a7 => ⟨some v, a1, a2, a3, a4, a5, a6, a7⟩) c4, c5, c6, c7⟩) h, x⟩) F
noncomputable def ds97 (v : AV) (F : Fr) : Fr := @Fr.rec (fun _ => Fr) (fun b0 b1 b2 b3 b4 b5 b6 b7 h x => ⟨b0, b1, b2, b3, b4, b5, b6, b7, @F64.rec (fun _ => F64) (fun c0 c1 c2 c3 c4 c5 c6 c7 => ⟨c0, c1, c2, c3, @F8.rec (fun _ => F8) (fun a0 _ a2 a3 a4 a5 a6 a7 => ⟨a0, some v, a2, a3, a4, a5, a6, a7⟩) c4, c5, c6, c7⟩) h, x⟩) F
noncomputable def ds98 (v : AV) (F : Fr) : Fr := @Fr.rec (fun _ => Fr) (fun b0 b1 b2 b3 b4 b5 b6 b7 h x => ⟨b0, b1, b2, b3, b4, b5, b6, b7, @F64.rec (fun _ => F64) (fun c0 c1 c2 c3 c4 c5 c6 c7 => ⟨c0, c1, c2, c3, @F8.rec (fun _ => F8) (fun a0 a1 _ a3 a4 a5 a6 a7 => ⟨a0, a1, some v, a3, a4, a5, a6, a7⟩) c4, c5, c6, c7⟩) h, x⟩) F
noncomputable def ds99 (v : AV) (F : Fr) : Fr := @Fr.rec (fun _ => Fr) (fun b0 b1 b2 b3 b4 b5 b6 b7 h x => ⟨b0, b1, b2, b3, b4, b5, b6, b7, @F64.rec (fun _ => F64) (fun c0 c1 c2 c3 c4 c5 c6 c7 => ⟨c0, c1, c2, c3, @F8.rec (fun _ => F8) (fun a0 a1 a2 _ a4 a5 a6 a7 => ⟨a0, a1, a2, some v, a4, a5, a6, a7⟩) c4, c5, c6, c7⟩) h, x⟩) F
noncomputable def ds100 (v : AV) (F : Fr) : Fr := @Fr.rec (fun _ => Fr) (fun b0 b1 b2 b3 b4 b5 b6 b7 h x => ⟨b0, b1, b2, b3, b4, b5, b6, b7, @F64.rec (fun _ => F64) (fun c0 c1 c2 c3 c4 c5 c6 c7 => ⟨c0, c1, c2, c3, @F8.rec (fun _ => F8) (fun a0 a1 a2 a3 _ a5 a6 a7 => ⟨a0, a1, a2, a3, some v, a5, a6, a7⟩) c4, c5, c6, c7⟩) h, x⟩) F
noncomputable def ds101 (v : AV) (F : Fr) : Fr := @Fr.rec (fun _ => Fr) (fun b0 b1 b2 b3 b4 b5 b6 b7 h x => ⟨b0, b1, b2, b3, b4, b5, b6, b7, @F64.rec (fun _ => F64) (fun c0 c1 c2 c3 c4 c5 c6 c7 => ⟨c0, c1, c2, c3, @F8.rec (fun _ => F8) (fun a0 a1 a2 a3 a4 _ a6 a7 => ⟨a0, a1, a2, a3, a4, some v, a6, a7⟩) c4, c5, c6, c7⟩) h, x⟩) F
noncomputable def ds102 (v : AV) (F : Fr) : Fr := @Fr.rec (fun _ => Fr) (fun b0 b1 b2 b3 b4 b5 b6 b7 h x => ⟨b0, b1, b2, b3, b4, b5, b6, b7, @F64.rec (fun _ => F64) (fun c0 c1 c2 c3 c4 c5 c6 c7 => ⟨c0, c1, c2, c3, @F8.rec (fun _ => F8) (fun a0 a1 a2 a3 a4 a5 _ a7 => ⟨a0, a1, a2, a3, a4, a5, some v, a7⟩) c4, c5, c6, c7⟩) h, x⟩) F
noncomputable def ds103 (v : AV) (F : Fr) : Fr := @Fr.rec (fun _ => Fr) (fun b0 b1 b2 b3 b4 b5 b6 b7 h x => ⟨b0, b1, b2, b3, b4, b5, b6, b7, @F64.rec (fun _ => F64) (fun c0 c1 c2 c3 c4 c5 c6 c7 => ⟨c0, c1, c2, c3, @F8.rec (fun _ => F8) (fun a0 a1 a2 a3 a4 a5 a6 _ => ⟨a0, a1, a2, a3, a4, a5, a6, some v⟩) c4, c5, c6, c7⟩) h, x⟩) F
noncomputable def ds104 (v : AV) (F : Fr) : Fr := @Fr.rec (fun _ => Fr) (fun b0 b1 b2 b3 b4 b5 b6 b7 h x => ⟨b0, b1, b2, b3, b4, b5, b6, b7, @F64.rec (fun _ => F64) (fun c0 c1 c2 c3 c4 c5 c6 c7 => ⟨c0, c1, c2, c3, c4, @F8.rec (fun _ => F8) (fun _ a1 a2 a3 a4 a5 a6 a7 => ⟨some v, a1, a2, a3, a4, a5, a6, a7⟩) c5, c6, c7⟩) h, x⟩) F
noncomputable def ds105 (v : AV) (F : Fr) : Fr := @Fr.rec (fun _ => Fr) (fun b0 b1 b2 b3 b4 b5 b6 b7 h x => ⟨b0, b1, b2, b3, b4, b5, b6, b7, @F64.rec (fun _ => F64) (fun c0 c1 c2 c3 c4 c5 c6 c7 => ⟨c0, c1, c2, c3, c4, @F8.rec (fun _ => F8) (fun a0 _ a2 a3 a4 a5 a6 a7 => ⟨a0, some v, a2, a3, a4, a5, a6, a7⟩) c5, c6, c7⟩) h, x⟩) F
noncomputable def ds106 (v : AV) (F : Fr) : Fr := @Fr.rec (fun _ => Fr) (fun b0 b1 b2 b3 b4 b5 b6 b7 h x => ⟨b0, b1, b2, b3, b4, b5, b6, b7, @F64.rec (fun _ => F64) (fun c0 c1 c2 c3 c4 c5 c6 c7 => ⟨c0, c1, c2, c3, c4, @F8.rec (fun _ => F8) (fun a0 a1 _ a3 a4 a5 a6 a7 => ⟨a0, a1, some v, a3, a4, a5, a6, a7⟩) c5, c6, c7⟩) h, x⟩) F
noncomputable def ds107 (v : AV) (F : Fr) : Fr := @Fr.rec (fun _ => Fr) (fun b0 b1 b2 b3 b4 b5 b6 b7 h x => ⟨b0, b1, b2, b3, b4, b5, b6, b7, @F64.rec (fun _ => F64) (fun c0 c1 c2 c3 c4 c5 c6 c7 => ⟨c0, c1, c2, c3, c4, @F8.rec (fun _ => F8) (fun a0 a1 a2 _ a4 a5 a6 a7 => ⟨a0, a1, a2, some v, a4, a5, a6, a7⟩) c5, c6, c7⟩) h, x⟩) F
noncomputable def ds108 (v : AV) (F : Fr) : Fr := @Fr.rec (fun _ => Fr) (fun b0 b1 b2 b3 b4 b5 b6 b7 h x => ⟨b0, b1, b2, b3, b4, b5, b6, b7, @F64.rec (fun _ => F64) (fun c0 c1 c2 c3 c4 c5 c6 c7 => ⟨c0, c1, c2, c3, c4, @F8.rec (fun _ => F8) (fun a0 a1 a2 a3 _ a5 a6 a7 => ⟨a0, a1, a2, a3, some v, a5, a6, a7⟩) c5, c6, c7⟩) h, x⟩) F
noncomputable def ds109 (v : AV) (F : Fr) : Fr := @Fr.rec (fun _ => Fr) (fun b0 b1 b2 b3 b4 b5 b6 b7 h x => ⟨b0, b1, b2, b3, b4, b5, b6, b7, @F64.rec (fun _ => F64) (fun c0 c1 c2 c3 c4 c5 c6 c7 => ⟨c0, c1, c2, c3, c4, @F8.rec (fun _ => F8) (fun a0 a1 a2 a3 a4 _ a6 a7 => ⟨a0, a1, a2, a3, a4, some v, a6, a7⟩) c5, c6, c7⟩) h, x⟩) F
noncomputable def ds110 (v : AV) (F : Fr) : Fr := @Fr.rec (fun _ => Fr) (fun b0 b1 b2 b3 b4 b5 b6 b7 h x => ⟨b0, b1, b2, b3, b4, b5, b6, b7, @F64.rec (fun _ => F64) (fun c0 c1 c2 c3 c4 c5 c6 c7 => ⟨c0, c1, c2, c3, c4, @F8.rec (fun _ => F8) (fun a0 a1 a2 a3 a4 a5 _ a7 => ⟨a0, a1, a2, a3, a4, a5, some v, a7⟩) c5, c6, c7⟩) h, x⟩) F
noncomputable def ds111 (v : AV) (F : Fr) : Fr := @Fr.rec (fun _ => Fr) (fun b0 b1 b2 b3 b4 b5 b6 b7 h x => ⟨b0, b1, b2, b3, b4, b5, b6, b7, @F64.rec (fun _ => F64) (fun c0 c1 c2 c3 c4 c5 c6 c7 => ⟨c0, c1, c2, c3, c4, @F8.rec (fun _ => F8) (fun a0 a1 a2 a3 a4 a5 a6 _ => ⟨a0, a1, a2, a3, a4, a5, a6, some v⟩) c5, c6, c7⟩) h, x⟩) F
noncomputable def ds112 (v : AV) (F : Fr) : Fr := @Fr.rec (fun _ => Fr) (fun b0 b1 b2 b3 b4 b5 b6 b7 h x => ⟨b0, b1, b2, b3, b4, b5, b6, b7, @F64.rec (fun _ => F64) (fun c0 c1 c2 c3 c4 c5 c6 c7 => ⟨c0, c1, c2, c3, c4, c5, @F8.rec (fun _ => F8) (fun _ a1 a2 a3 a4 a5 a6 a7 => ⟨some v, a1, a2, a3, a4, a5, a6, a7⟩) c6, c7⟩) h, x⟩) F
noncomputable def ds113 (v : AV) (F : Fr) : Fr := @Fr.rec (fun _ => Fr) (fun b0 b1 b2 b3 b4 b5 b6 b7 h x => ⟨b0, b1, b2, b3, b4, b5, b6, b7, @F64.rec (fun _ => F64) (fun c0 c1 c2 c3 c4 c5 c6 c7 => ⟨c0, c1, c2, c3, c4, c5, @F8.rec (fun _ => F8) (fun a0 _ a2 a3 a4 a5 a6 a7 => ⟨a0, some v, a2, a3, a4, a5, a6, a7⟩) c6, c7⟩) h, x⟩) F
noncomputable def ds114 (v : AV) (F : Fr) : Fr := @Fr.rec (fun _ => Fr) (fun b0 b1 b2 b3 b4 b5 b6 b7 h x => ⟨b0, b1, b2, b3, b4, b5, b6, b7, @F64.rec (fun _ => F64) (fun c0 c1 c2 c3 c4 c5 c6 c7 => ⟨c0, c1, c2, c3, c4, c5, @F8.rec (fun _ => F8) (fun a0 a1 _ a3 a4 a5 a6 a7 => ⟨a0, a1, some v, a3, a4, a5, a6, a7⟩) c6, c7⟩) h, x⟩) F
noncomputable def ds115 (v : AV) (F : Fr) : Fr := @Fr.rec (fun _ => Fr) (fun b0 b1 b2 b3 b4 b5 b6 b7 h x => ⟨b0, b1, b2, b3, b4, b5, b6, b7, @F64.rec (fun _ => F64) (fun c0 c1 c2 c3 c4 c5 c6 c7 => ⟨c0, c1, c2, c3, c4, c5, @F8.rec (fun _ => F8) (fun a0 a1 a2 _ a4 a5 a6 a7 => ⟨a0, a1, a2, some v, a4, a5, a6, a7⟩) c6, c7⟩) h, x⟩) F
noncomputable def ds116 (v : AV) (F : Fr) : Fr := @Fr.rec (fun _ => Fr) (fun b0 b1 b2 b3 b4 b5 b6 b7 h x => ⟨b0, b1, b2, b3, b4, b5, b6, b7, @F64.rec (fun _ => F64) (fun c0 c1 c2 c3 c4 c5 c6 c7 => ⟨c0, c1, c2, c3, c4, c5, @F8.rec (fun _ => F8) (fun a0 a1 a2 a3 _ a5 a6 a7 => ⟨a0, a1, a2, a3, some v, a5, a6, a7⟩) c6, c7⟩) h, x⟩) F
noncomputable def ds117 (v : AV) (F : Fr) : Fr := @Fr.rec (fun _ => Fr) (fun b0 b1 b2 b3 b4 b5 b6 b7 h x => ⟨b0, b1, b2, b3, b4, b5, b6, b7, @F64.rec (fun _ => F64) (fun c0 c1 c2 c3 c4 c5 c6 c7 => ⟨c0, c1, c2, c3, c4, c5, @F8.rec (fun _ => F8) (fun a0 a1 a2 a3 a4 _ a6 a7 => ⟨a0, a1, a2, a3, a4, some v, a6, a7⟩) c6, c7⟩) h, x⟩) F
noncomputable def ds118 (v : AV) (F : Fr) : Fr := @Fr.rec (fun _ => Fr) (fun b0 b1 b2 b3 b4 b5 b6 b7 h x => ⟨b0, b1, b2, b3, b4, b5, b6, b7, @F64.rec (fun _ => F64) (fun c0 c1 c2 c3 c4 c5 c6 c7 => ⟨c0, c1, c2, c3, c4, c5, @F8.rec (fun _ => F8) (fun a0 a1 a2 a3 a4 a5 _ a7 => ⟨a0, a1, a2, a3, a4, a5, some v, a7⟩) c6, c7⟩) h, x⟩) F
noncomputable def ds119 (v : AV) (F : Fr) : Fr := @Fr.rec (fun _ => Fr) (fun b0 b1 b2 b3 b4 b5 b6 b7 h x => ⟨b0, b1, b2, b3, b4, b5, b6, b7, @F64.rec (fun _ => F64) (fun c0 c1 c2 c3 c4 c5 c6 c7 => ⟨c0, c1, c2, c3, c4, c5, @F8.rec (fun _ => F8) (fun a0 a1 a2 a3 a4 a5 a6 _ => ⟨a0, a1, a2, a3, a4, a5, a6, some v⟩) c6, c7⟩) h, x⟩) F
noncomputable def ds120 (v : AV) (F : Fr) : Fr := @Fr.rec (fun _ => Fr) (fun b0 b1 b2 b3 b4 b5 b6 b7 h x => ⟨b0, b1, b2, b3, b4, b5, b6, b7, @F64.rec (fun _ => F64) (fun c0 c1 c2 c3 c4 c5 c6 c7 => ⟨c0, c1, c2, c3, c4, c5, c6, @F8.rec (fun _ => F8) (fun _ a1 a2 a3 a4 a5 a6 a7 => ⟨some v, a1, a2, a3, a4, a5, a6, a7⟩) c7⟩) h, x⟩) F
noncomputable def ds121 (v : AV) (F : Fr) : Fr := @Fr.rec (fun _ => Fr) (fun b0 b1 b2 b3 b4 b5 b6 b7 h x => ⟨b0, b1, b2, b3, b4, b5, b6, b7, @F64.rec (fun _ => F64) (fun c0 c1 c2 c3 c4 c5 c6 c7 => ⟨c0, c1, c2, c3, c4, c5, c6, @F8.rec (fun _ => F8) (fun a0 _ a2 a3 a4 a5 a6 a7 => ⟨a0, some v, a2, a3, a4, a5, a6, a7⟩) c7⟩) h, x⟩) F
noncomputable def ds122 (v : AV) (F : Fr) : Fr := @Fr.rec (fun _ => Fr) (fun b0 b1 b2 b3 b4 b5 b6 b7 h x => ⟨b0, b1, b2, b3, b4, b5, b6, b7, @F64.rec (fun _ => F64) (fun c0 c1 c2 c3 c4 c5 c6 c7 => ⟨c0, c1, c2, c3, c4, c5, c6, @F8.rec (fun _ => F8) (fun a0 a1 _ a3 a4 a5 a6 a7 => ⟨a0, a1, some v, a3, a4, a5, a6, a7⟩) c7⟩) h, x⟩) F
noncomputable def ds123 (v : AV) (F : Fr) : Fr := @Fr.rec (fun _ => Fr) (fun b0 b1 b2 b3 b4 b5 b6 b7 h x => ⟨b0, b1, b2, b3, b4, b5, b6, b7, @F64.rec (fun _ => F64) (fun c0 c1 c2 c3 c4 c5 c6 c7 => ⟨c0, c1, c2, c3, c4, c5, c6, @F8.rec (fun _ => F8) (fun a0 a1 a2 _ a4 a5 a6 a7 => ⟨a0, a1, a2, some v, a4, a5, a6, a7⟩) c7⟩) h, x⟩) F
noncomputable def ds124 (v : AV) (F : Fr) : Fr := @Fr.rec (fun _ => Fr) (fun b0 b1 b2 b3 b4 b5 b6 b7 h x => ⟨b0, b1, b2, b3, b4, b5, b6, b7, @F64.rec (fun _ => F64) (fun c0 c1 c2 c3 c4 c5 c6 c7 => ⟨c0, c1, c2, c3, c4, c5, c6, @F8.rec (fun _ => F8) (fun a0 a1 a2 a3 _ a5 a6 a7 => ⟨a0, a1, a2, a3, some v, a5, a6, a7⟩) c7⟩) h, x⟩) F
noncomputable def ds125 (v : AV) (F : Fr) : Fr := @Fr.rec (fun _ => Fr) (fun b0 b1 b2 b3 b4 b5 b6 b7 h x => ⟨b0, b1, b2, b3, b4, b5, b6, b7, @F64.rec (fun _ => F64) (fun c0 c1 c2 c3 c4 c5 c6 c7 => ⟨c0, c1, c2, c3, c4, c5, c6, @F8.rec (fun _ => F8) (fun a0 a1 a2 a3 a4 _ a6 a7 => ⟨a0, a1, a2, a3, a4, some v, a6, a7⟩) c7⟩) h, x⟩) F
noncomputable def ds126 (v : AV) (F : Fr) : Fr := @Fr.rec (fun _ => Fr) (fun b0 b1 b2 b3 b4 b5 b6 b7 h x => ⟨b0, b1, b2, b3, b4, b5, b6, b7, @F64.rec (fun _ => F64) (fun c0 c1 c2 c3 c4 c5 c6 c7 => ⟨c0, c1, c2, c3, c4, c5, c6, @F8.rec (fun _ => F8) (fun a0 a1 a2 a3 a4 a5 _ a7 => ⟨a0, a1, a2, a3, a4, a5, some v, a7⟩) c7⟩) h, x⟩) F
noncomputable def ds127 (v : AV) (F : Fr) : Fr := @Fr.rec (fun _ => Fr) (fun b0 b1 b2 b3 b4 b5 b6 b7 h x => ⟨b0, b1, b2, b3, b4, b5, b6, b7, @F64.rec (fun _ => F64) (fun c0 c1 c2 c3 c4 c5 c6 c7 => ⟨c0, c1, c2, c3, c4, c5, c6, @F8.rec (fun _ => F8) (fun a0 a1 a2 a3 a4 a5 a6 _ => ⟨a0, a1, a2, a3, a4, a5, a6, some v⟩) c7⟩) h, x⟩) F
noncomputable def dsH (k : Nat) (v : AV) (F : Fr) : Fr := hiS ((Fr.ex F).set 10 k (some v)) F
noncomputable def dsN (_ : AV) (F : Fr) : Fr := F
noncomputable def setD (d : Ds) : AV → Fr → Fr := Ds.w d
noncomputable def dsL : List Ds := [⟨ds0⟩, ⟨ds1⟩, ⟨ds2⟩, ⟨ds3⟩, ⟨ds4⟩, ⟨ds5⟩, ⟨ds6⟩, ⟨ds7⟩, ⟨ds8⟩, ⟨ds9⟩, ⟨ds10⟩, ⟨ds11⟩, ⟨ds12⟩, ⟨ds13⟩, ⟨ds14⟩, ⟨ds15⟩, ⟨ds16⟩, ⟨ds17⟩, ⟨ds18⟩, ⟨ds19⟩, ⟨ds20⟩, ⟨ds21⟩, ⟨ds22⟩, ⟨ds23⟩, ⟨ds24⟩, ⟨ds25⟩, ⟨ds26⟩, ⟨ds27⟩, ⟨ds28⟩, ⟨ds29⟩, ⟨ds30⟩, ⟨ds31⟩, ⟨ds32⟩, ⟨ds33⟩, ⟨ds34⟩, ⟨ds35⟩, ⟨ds36⟩, ⟨ds37⟩, ⟨ds38⟩, ⟨ds39⟩, ⟨ds40⟩, ⟨ds41⟩, ⟨ds42⟩, ⟨ds43⟩, ⟨ds44⟩, ⟨ds45⟩, ⟨ds46⟩, ⟨ds47⟩, ⟨ds48⟩, ⟨ds49⟩, ⟨ds50⟩, ⟨ds51⟩, ⟨ds52⟩, ⟨ds53⟩, ⟨ds54⟩, ⟨ds55⟩, ⟨ds56⟩, ⟨ds57⟩, ⟨ds58⟩, ⟨ds59⟩, ⟨ds60⟩, ⟨ds61⟩, ⟨ds62⟩, ⟨ds63⟩, ⟨ds64⟩, ⟨ds65⟩, ⟨ds66⟩, ⟨ds67⟩, ⟨ds68⟩, ⟨ds69⟩, ⟨ds70⟩, ⟨ds71⟩, ⟨ds72⟩, ⟨ds73⟩, ⟨ds74⟩, ⟨ds75⟩, ⟨ds76⟩, ⟨ds77⟩, ⟨ds78⟩, ⟨ds79⟩, ⟨ds80⟩, ⟨ds81⟩, ⟨ds82⟩, ⟨ds83⟩, ⟨ds84⟩, ⟨ds85⟩, ⟨ds86⟩, ⟨ds87⟩, ⟨ds88⟩, ⟨ds89⟩, ⟨ds90⟩, ⟨ds91⟩, ⟨ds92⟩, ⟨ds93⟩, ⟨ds94⟩, ⟨ds95⟩, ⟨ds96⟩, ⟨ds97⟩, ⟨ds98⟩, ⟨ds99⟩, ⟨ds100⟩, ⟨ds101⟩, ⟨ds102⟩, ⟨ds103⟩, ⟨ds104⟩, ⟨ds105⟩, ⟨ds106⟩, ⟨ds107⟩, ⟨ds108⟩, ⟨ds109⟩, ⟨ds110⟩, ⟨ds111⟩, ⟨ds112⟩, ⟨ds113⟩, ⟨ds114⟩, ⟨ds115⟩, ⟨ds116⟩, ⟨ds117⟩, ⟨ds118⟩, ⟨ds119⟩, ⟨ds120⟩, ⟨ds121⟩, ⟨ds122⟩, ⟨ds123⟩, ⟨ds124⟩, ⟨ds125⟩, ⟨ds126⟩, ⟨ds127⟩]
noncomputable def dsM (t : Nat) : Ds := match dsL[t]? with
  | some o => o
  | none => ⟨dsN⟩
noncomputable def dsOf (N : Nat) : Option Tmp → Option Ds
  | none => some ⟨dsN⟩
  | some d => match Nat.blt d N, Nat.blt d 1000, Nat.blt d 128 with
    | true, true, true => some (dsM d)
    | true, true, false => some ⟨dsH (d - 128)⟩
    | _, _, _ => none
theorem dsM_lo (F : Fr) (v : AV) : ∀ a b : Nat, a < 8 → b < 8 → setD (dsM (8 * a + b)) v F = rowS (dig a) (colS (dig b) (some v)) F := by
  intro a b ha hb
  have e1 : a = 0 ∨ a = 1 ∨ a = 2 ∨ a = 3 ∨ a = 4 ∨ a = 5 ∨ a = 6 ∨ a = 7 := by omega
  have e2 : b = 0 ∨ b = 1 ∨ b = 2 ∨ b = 3 ∨ b = 4 ∨ b = 5 ∨ b = 6 ∨ b = 7 := by omega
  rcases e1 with rfl | rfl | rfl | rfl | rfl | rfl | rfl | rfl <;> rcases e2 with rfl | rfl | rfl | rfl | rfl | rfl | rfl | rfl <;> rfl
theorem dsM_mid (F : Fr) (v : AV) : ∀ a b : Nat, a < 8 → b < 8 → setD (dsM (64 + (8 * a + b))) v F = onH (rowHS (dig a) (colS (dig b) (some v))) F := by
  intro a b ha hb
  have e1 : a = 0 ∨ a = 1 ∨ a = 2 ∨ a = 3 ∨ a = 4 ∨ a = 5 ∨ a = 6 ∨ a = 7 := by omega
  have e2 : b = 0 ∨ b = 1 ∨ b = 2 ∨ b = 3 ∨ b = 4 ∨ b = 5 ∨ b = 6 ∨ b = 7 := by omega
  rcases e1 with rfl | rfl | rfl | rfl | rfl | rfl | rfl | rfl <;> rcases e2 with rfl | rfl | rfl | rfl | rfl | rfl | rfl | rfl <;> rfl
theorem dsOf_set {N : Nat} {t : Nat} {d : Ds} (hd : dsOf N (some t) = some d) (v : AV) (F : Fr) : t < N ∧ t < 1000 ∧ setD d v F = setI F t v := by
  unfold dsOf at hd
  simp only at hd
  split at hd
  · rename_i h1 h2 h3
    cases hd
    have h3 : t < 128 := by simpa [Nat.blt_eq] using h3
    refine ⟨by simpa [Nat.blt_eq] using h1, by simpa [Nat.blt_eq] using h2, ?_⟩
    by_cases h4 : t < 64
    · rw [setI_lo h4, ← dsM_lo F v (t / 8) (t % 8) (by omega) (Nat.mod_lt _ (by decide))]
      congr 2
      exact (Nat.div_add_mod t 8).symm
    · rw [setI_mid h4 h3, ← dsM_mid F v (t / 8 - 8) (t % 8) (by omega) (Nat.mod_lt _ (by decide))]
      congr 2
      have h4 : ¬ (t : Nat) < 64 := h4
      have h5 := Nat.div_add_mod t 8
      have : (t : Nat) = 64 + (8 * (t / 8 - 8) + t % 8) := by omega
      exact this
  · rename_i h1 h2 h3
    cases hd
    have h3 : ¬ t < 128 := by rw [Bool.eq_false_iff] at h3; simpa [Nat.blt_eq] using h3
    exact ⟨by simpa [Nat.blt_eq] using h1, by simpa [Nat.blt_eq] using h2, (setI_hi h3).symm⟩
  · cases hd
/-- A frame of this kind: what is known of its slots. -/
structure FRF (N : Nat) (Ds : List Deferred) (l : Env) (F : Fr) (a : Act) : Prop where
  size : a.tmps.size = N
  get : ∀ i v, getI F i = some v → ∃ x, a.tmps[i]? = some x ∧ VR l v x
  defers : a.defers = Ds
  glob : ∀ g, g < 1000 → l g = some (g, 0)
variable {N : Nat} {Ds0 : List Deferred} {l l' : Env} {F : Fr} {a : Act}
theorem FRF.mono (h : FRF N Ds0 l F a) (hl : l.le l') : FRF N Ds0 l' F a :=
  ⟨h.size, fun i v e => let ⟨x, h1, h2⟩ := h.get i v e; ⟨x, h1, h2.mono hl⟩, h.defers, fun g hg => hl _ _ (h.glob g hg)⟩
theorem FRF.fr (h : FRF N Ds0 l F a) : FR N Ds0 l (trF F) a := ⟨h.size, fun i v e => h.get i v (trF_get e), h.defers, h.glob⟩
theorem FRF.of {f : Tr AV} (h : FR N Ds0 l f a) : FRF N Ds0 l (frT f) a := ⟨h.size, fun i v e => h.get i v (frT_get e), h.defers, h.glob⟩
theorem FRF.put (h : FRF N Ds0 l F a) {dst : Option Tmp} {d : Ds} (hd : dsOf N dst = some d) {v : AV} {x : Value} (hv : VR l v x) : FRF N Ds0 l (setD d v F) (a.put dst x) := by
  cases dst with
  | none => cases hd; exact h
  | some t =>
    have key := dsOf_set hd v F
    obtain ⟨h1, h2, h3⟩ := key
    rw [h3]
    refine ⟨by simp [Act.put, h.size], fun i u e => ?_, h.defers, h.glob⟩
    rcases getI_setI h2 e with ⟨rfl, rfl⟩ | ⟨e1, e2⟩
    · exact ⟨x, by simp [Act.put, h.size, h1], hv⟩
    · obtain ⟨y, g1, g2⟩ := h.get i u e2
      refine ⟨y, ?_, g2⟩
      simp only [Act.put]
      rw [Array.getElem?_setIfInBounds_ne (fun e => e1 e.symm)]; exact g1
end Go.Proofs.YtkbmmoobcikbaaaGreatDoor.Ev
namespace Go.Proofs.YtkbmmoobcikbaaaGreatDoor.Ev
open Go Go.RowKit

variable {T : Tb} {lo : Nat} {H : Hp}
theorem bR_t (x y : Rs) : bR true x y = x := rfl
theorem bR_f (x y : Rs) : bR false x y = y := rfl
/-! kinds of numbers -/
noncomputable def kMax (k : IntKind) : Nat := @IntKind.rec (fun _ => Nat) 127 32767 2147483647 9223372036854775807 255 65535 4294967295 18446744073709551615 k
noncomputable def kBits (k : IntKind) : Nat := @IntKind.rec (fun _ => Nat) 8 16 32 64 8 16 32 64 k
noncomputable def kU (k : IntKind) : Bool := @IntKind.rec (fun _ => Bool) false false false false true true true true k
noncomputable def kE0 (k : IntKind) : Bool := @IntKind.rec (fun _ => Bool) true false false false false false false false k
noncomputable def kE1 (k : IntKind) : Bool := @IntKind.rec (fun _ => Bool) false true false false false false false false k
noncomputable def kE2 (k : IntKind) : Bool := @IntKind.rec (fun _ => Bool) false false true false false false false false k
noncomputable def kE3 (k : IntKind) : Bool := @IntKind.rec (fun _ => Bool) false false false true false false false false k
noncomputable def kE4 (k : IntKind) : Bool := @IntKind.rec (fun _ => Bool) false false false false true false false false k
noncomputable def kE5 (k : IntKind) : Bool := @IntKind.rec (fun _ => Bool) false false false false false true false false k
noncomputable def kE6 (k : IntKind) : Bool := @IntKind.rec (fun _ => Bool) false false false false false false true false k
noncomputable def kE7 (k : IntKind) : Bool := @IntKind.rec (fun _ => Bool) false false false false false false false true k
noncomputable def kEq (k : IntKind) : IntKind → Bool := @IntKind.rec (fun _ => IntKind → Bool) kE0 kE1 kE2 kE3 kE4 kE5 kE6 kE7 k
noncomputable def kR0 (k : IntKind) : Rs → Rs → Rs := @IntKind.rec (fun _ => Rs → Rs → Rs) (fun y _ => y) (fun _ z => z) (fun _ z => z) (fun _ z => z) (fun _ z => z) (fun _ z => z) (fun _ z => z) (fun _ z => z) k
noncomputable def kR1 (k : IntKind) : Rs → Rs → Rs := @IntKind.rec (fun _ => Rs → Rs → Rs) (fun _ z => z) (fun y _ => y) (fun _ z => z) (fun _ z => z) (fun _ z => z) (fun _ z => z) (fun _ z => z) (fun _ z => z) k
noncomputable def kR2 (k : IntKind) : Rs → Rs → Rs := @IntKind.rec (fun _ => Rs → Rs → Rs) (fun _ z => z) (fun _ z => z) (fun y _ => y) (fun _ z => z) (fun _ z => z) (fun _ z => z) (fun _ z => z) (fun _ z => z) k
noncomputable def kR3 (k : IntKind) : Rs → Rs → Rs := @IntKind.rec (fun _ => Rs → Rs → Rs) (fun _ z => z) (fun _ z => z) (fun _ z => z) (fun y _ => y) (fun _ z => z) (fun _ z => z) (fun _ z => z) (fun _ z => z) k
noncomputable def kR4 (k : IntKind) : Rs → Rs → Rs := @IntKind.rec (fun _ => Rs → Rs → Rs) (fun _ z => z) (fun _ z => z) (fun _ z => z) (fun _ z => z) (fun y _ => y) (fun _ z => z) (fun _ z => z) (fun _ z => z) k
noncomputable def kR5 (k : IntKind) : Rs → Rs → Rs := @IntKind.rec (fun _ => Rs → Rs → Rs) (fun _ z => z) (fun _ z => z) (fun _ z => z) (fun _ z => z) (fun _ z => z) (fun y _ => y) (fun _ z => z) (fun _ z => z) k
noncomputable def kR6 (k : IntKind) : Rs → Rs → Rs := @IntKind.rec (fun _ => Rs → Rs → Rs) (fun _ z => z) (fun _ z => z) (fun _ z => z) (fun _ z => z) (fun _ z => z) (fun _ z => z) (fun y _ => y) (fun _ z => z) k
noncomputable def kR7 (k : IntKind) : Rs → Rs → Rs := @IntKind.rec (fun _ => Rs → Rs → Rs) (fun _ z => z) (fun _ z => z) (fun _ z => z) (fun _ z => z) (fun _ z => z) (fun _ z => z) (fun _ z => z) (fun y _ => y) k
noncomputable def kEqR (k : IntKind) : IntKind → Rs → Rs → Rs := @IntKind.rec (fun _ => IntKind → Rs → Rs → Rs) kR0 kR1 kR2 kR3 kR4 kR5 kR6 kR7 k
theorem kEqR_eq (k k2 : IntKind) (y z : Rs) : kEqR k k2 y z = bR (kEq k k2) y z := by cases k <;> cases k2 <;> rfl
theorem kEq_ok {k k' : IntKind} (h : kEq k k' = true) : k = k' := by
  cases k <;> cases k' <;> first | rfl | cases h
theorem kBits_eq (k : IntKind) : kBits k = k.bits := by cases k <;> rfl
theorem wrap_max {k : IntKind} {x : Nat} (h : x ≤ kMax k) : k.wrap (x : Int) = x := by
  cases k
  · exact IntWalk.i8_in _ (by have : x ≤ 127 := h; omega)
  · exact IntWalk.i16_in _ (by have : x ≤ 32767 := h; omega)
  · exact IntWalk.i32_in _ (by have : x ≤ 2147483647 := h; omega)
  · exact IntWalk.i64_in _ (by have : x ≤ 9223372036854775807 := h; omega)
  · exact IntWalk.u8_in _ (by have : x ≤ 255 := h; omega)
  · exact IntWalk.u16_in _ (by have : x ≤ 65535 := h; omega)
  · exact IntWalk.u32_in _ (by have : x ≤ 4294967295 := h; omega)
  · exact IntWalk.u64_in _ (by have : x ≤ 18446744073709551615 := h; omega)
theorem wrap_mod {k : IntKind} {x : Nat} (h : kU k = true) : k.wrap (x : Int) = ((x % (kMax k + 1) : Nat) : Int) := by
  cases k <;> first | (cases h; done) | skip
  · show (x : Int) % 256 = ((x % 256 : Nat) : Int); omega
  · show (x : Int) % 65536 = ((x % 65536 : Nat) : Int); omega
  · show (x : Int) % 4294967296 = ((x % 4294967296 : Nat) : Int); omega
  · show (x : Int) % 18446744073709551616 = ((x % 18446744073709551616 : Nat) : Int); omega
noncomputable def wrapQ (k : IntKind) (x : Nat) (q : AV → Rs) (z : Rs) : Rs := bR (Nat.ble x (kMax k)) (q (.int k (.ofNat x))) (bR (kU k) (q (.int k (.ofNat (Nat.mod x (Nat.succ (kMax k)))))) z)
theorem wrapQ_ok (k : IntKind) (x : Nat) (q : AV → Rs) (z : Rs) : wrapQ k x q z = z ∨ wrapQ k x q z = q (.int k (k.wrap (x : Int))) := by
  unfold wrapQ
  cases h1 : Nat.ble x (kMax k) with
  | true => exact .inr (by rw [bR_t, wrap_max (Nat.le_of_ble_eq_true h1)]; rfl)
  | false =>
    rw [bR_f]
    cases h2 : kU k with
    | true => exact .inr (by rw [bR_t, wrap_mod h2]; rfl)
    | false => exact .inl rfl
/-! values by their kinds -/
noncomputable def asNat (u : AV) : (IntKind → Nat → Rs) → Rs → Rs := @AV.rec (fun _ => (IntKind → Nat → Rs) → Rs → Rs) (fun _ => Unit) (fun _ _ z => z) (fun k n q z => @Int.rec (fun _ => Rs) (q k) (fun _ => z) n) (fun _ _ z => z) (fun _ z => z) (fun _ _ _ z => z) (fun _ z => z) (fun _ _ _ _ _ z => z) (fun _ _ _ _ _ z => z) (fun _ z => z) (fun _ _ z => z) (fun _ _ z => z) (fun _ _ _ _ _ _ z => z) (fun _ z => z) (fun _ _ _ _ z => z) (fun _ z => z) (fun _ _ _ z => z) (fun _ _ _ z => z) (fun _ _ z => z) (fun _ _ z => z) () (fun _ _ _ _ => ()) u
noncomputable def asPtr (u : AV) : (Nat → Nat → Rs) → Rs → Rs := @AV.rec (fun _ => (Nat → Nat → Rs) → Rs → Rs) (fun _ => Unit) (fun _ _ z => z) (fun _ _ _ z => z) (fun _ _ z => z) (fun _ z => z) (fun b o q _ => q b o) (fun _ z => z) (fun _ _ _ _ _ z => z) (fun _ _ _ _ _ z => z) (fun _ z => z) (fun _ _ z => z) (fun _ _ z => z) (fun _ _ _ _ _ _ z => z) (fun _ z => z) (fun _ _ _ _ z => z) (fun _ z => z) (fun _ _ _ z => z) (fun _ _ _ z => z) (fun _ _ z => z) (fun _ _ z => z) () (fun _ _ _ _ => ()) u
noncomputable def asSl (u : AV) : (Nat → Nat → Nat → Rs) → Rs → Rs := @AV.rec (fun _ => (Nat → Nat → Nat → Rs) → Rs → Rs) (fun _ => Unit) (fun _ _ z => z) (fun _ _ _ z => z) (fun _ _ z => z) (fun _ z => z) (fun _ _ _ z => z) (fun _ z => z) (fun b o n _ q _ => q b o n) (fun b o n _ q _ => q b o n) (fun _ z => z) (fun _ _ z => z) (fun _ _ z => z) (fun _ _ _ _ _ _ z => z) (fun _ z => z) (fun _ _ _ _ z => z) (fun _ z => z) (fun _ _ _ z => z) (fun _ _ _ z => z) (fun _ _ z => z) (fun _ _ z => z) () (fun _ _ _ _ => ()) u
noncomputable def asLen (u : AV) : (Nat → Rs) → Rs → Rs := @AV.rec (fun _ => (Nat → Rs) → Rs → Rs) (fun _ => Unit) (fun _ _ z => z) (fun _ _ _ z => z) (fun _ _ z => z) (fun _ z => z) (fun _ _ _ z => z) (fun q _ => q 0) (fun _ _ n _ q _ => q n) (fun _ _ n _ q _ => q n) (fun q _ => q 0) (fun _ _ z => z) (fun _ _ z => z) (fun _ _ _ _ _ _ z => z) (fun _ z => z) (fun _ _ _ _ z => z) (fun _ z => z) (fun _ _ _ z => z) (fun _ _ _ z => z) (fun _ _ z => z) (fun _ _ z => z) () (fun _ _ _ _ => ()) u
noncomputable def asStr (u : AV) : (List Nat → Rs) → Rs → Rs := @AV.rec (fun _ => (List Nat → Rs) → Rs → Rs) (fun _ => Unit) (fun _ _ z => z) (fun _ _ _ z => z) (fun l q _ => q l) (fun _ z => z) (fun _ _ _ z => z) (fun _ z => z) (fun _ _ _ _ _ z => z) (fun _ _ _ _ _ z => z) (fun _ z => z) (fun _ _ z => z) (fun _ _ z => z) (fun _ _ _ _ _ _ z => z) (fun _ z => z) (fun _ _ _ _ z => z) (fun _ z => z) (fun _ _ _ z => z) (fun _ _ _ z => z) (fun _ _ z => z) (fun _ _ z => z) () (fun _ _ _ _ => ()) u
noncomputable def asTup (u : AV) : (List AV → Rs) → Rs → Rs := @AV.rec (fun _ => (List AV → Rs) → Rs → Rs) (fun _ => Unit) (fun _ _ z => z) (fun _ _ _ z => z) (fun _ _ z => z) (fun _ z => z) (fun _ _ _ z => z) (fun _ z => z) (fun _ _ _ _ _ z => z) (fun _ _ _ _ _ z => z) (fun _ z => z) (fun _ _ z => z) (fun _ _ z => z) (fun _ _ _ _ _ _ z => z) (fun _ z => z) (fun _ _ _ _ z => z) (fun _ z => z) (fun _ _ _ z => z) (fun l _ q _ => q l) (fun _ _ z => z) (fun _ _ z => z) () (fun _ _ _ _ => ()) u
noncomputable def asBool (u : AV) : (Bool → Rs) → Rs → Rs := @AV.rec (fun _ => (Bool → Rs) → Rs → Rs) (fun _ => Unit) (fun b q _ => q b) (fun _ _ _ z => z) (fun _ _ z => z) (fun _ z => z) (fun _ _ _ z => z) (fun _ z => z) (fun _ _ _ _ _ z => z) (fun _ _ _ _ _ z => z) (fun _ z => z) (fun _ _ z => z) (fun _ _ z => z) (fun _ _ _ _ _ _ z => z) (fun _ z => z) (fun _ _ _ _ z => z) (fun _ z => z) (fun _ _ _ z => z) (fun _ _ _ z => z) (fun _ _ z => z) (fun _ _ z => z) () (fun _ _ _ _ => ()) u
/-- A value of one cell. -/
noncomputable def asOne (u : AV) : (Unit → Rs) → Rs → Rs := @AV.rec (fun _ => (Unit → Rs) → Rs → Rs) (fun _ => Unit) (fun _ q _ => q ()) (fun _ _ q _ => q ()) (fun _ q _ => q ()) (fun q _ => q ()) (fun _ _ q _ => q ()) (fun q _ => q ()) (fun _ _ _ _ q _ => q ()) (fun _ _ _ _ q _ => q ()) (fun q _ => q ()) (fun _ q _ => q ()) (fun _ q _ => q ()) (fun _ _ _ _ _ q _ => q ()) (fun q _ => q ()) (fun _ _ _ q _ => q ()) (fun q _ => q ()) (fun _ _ _ z => z) (fun _ _ _ z => z) (fun _ _ z => z) (fun _ q _ => q ()) () (fun _ _ _ _ => ()) u
theorem asNat_ok (u : AV) (q : IntKind → Nat → Rs) (z : Rs) : asNat u q z = z ∨ ∃ k a, u = .int k (.ofNat a) ∧ asNat u q z = q k a := by
  cases u <;> first | exact .inl rfl | skip
  rename_i k n
  cases n with
  | ofNat a => exact .inr ⟨k, a, rfl, rfl⟩
  | negSucc a => exact .inl rfl
theorem asPtr_ok (u : AV) (q : Nat → Nat → Rs) (z : Rs) : asPtr u q z = z ∨ ∃ b o, u = .ptr b o ∧ asPtr u q z = q b o := by
  cases u <;> first | exact .inl rfl | exact .inr ⟨_, _, rfl, rfl⟩
theorem asSl_ok (u : AV) (q : Nat → Nat → Nat → Rs) (z : Rs) : asSl u q z = z ∨ ∃ b o n c, (u = .sl b o n c ∨ u = .slo b o n c) ∧ asSl u q z = q b o n := by
  cases u <;> first | exact .inl rfl | exact .inr ⟨_, _, _, _, .inl rfl, rfl⟩ | exact .inr ⟨_, _, _, _, .inr rfl, rfl⟩
theorem asLen_ok (u : AV) (q : Nat → Rs) (z : Rs) : asLen u q z = z ∨ ∃ n, (∀ T H t e s b z g, T.ty t = some ⟨.slice e, s, b, z, g⟩ → lenV T H t u = some n) ∧ asLen u q z = q n := by
  cases u <;> first | exact .inl rfl | exact .inr ⟨_, fun T H t e s b z g h => by simp [lenV, h], rfl⟩
theorem asStr_ok (u : AV) (q : List Nat → Rs) (z : Rs) : asStr u q z = z ∨ ∃ l, u = .str l ∧ asStr u q z = q l := by
  cases u <;> first | exact .inl rfl | exact .inr ⟨_, rfl, rfl⟩
theorem asTup_ok (u : AV) (q : List AV → Rs) (z : Rs) : asTup u q z = z ∨ ∃ l, u = .tup l ∧ asTup u q z = q l := by
  cases u <;> first | exact .inl rfl | exact .inr ⟨_, rfl, rfl⟩
theorem asBool_ok (u : AV) (q : Bool → Rs) (z : Rs) : asBool u q z = z ∨ ∃ b, u = .bool b ∧ asBool u q z = q b := by
  cases u <;> first | exact .inl rfl | exact .inr ⟨_, rfl, rfl⟩
theorem asOne_ok (u : AV) (q : Unit → Rs) (z : Rs) : asOne u q z = z ∨ (one u = true ∧ avCells u = [u] ∧ isCst u = false) ∧ asOne u q z = q () := by
  cases u <;> first | exact .inl rfl | exact .inr ⟨⟨rfl, rfl, rfl⟩, rfl⟩
/-! rows -/
noncomputable def nthQ {α : Type} (l : List α) : Nat → Option α := @List.rec α (fun _ => Nat → Option α) (fun _ => none) (fun v _ ih n => @Nat.rec (fun _ => Option α) (some v) (fun m _ => ih m) n) l
theorem nthQ_eq {α : Type} : ∀ (l : List α) (n : Nat), nthQ l n = l[n]?
  | [], _ => rfl
  | _ :: _, 0 => rfl
  | _ :: r, n + 1 => by rw [List.getElem?_cons_succ, ← nthQ_eq r n]; rfl
noncomputable def lenQ {α : Type} (l : List α) : Nat := @List.rec α (fun _ => Nat) 0 (fun _ _ ih => Nat.succ ih) l
theorem lenQ_eq {α : Type} : ∀ l : List α, lenQ l = l.length
  | [] => rfl
  | _ :: r => by rw [List.length_cons, ← lenQ_eq r]; rfl
noncomputable def dropQ {α : Type} (n : Nat) : List α → List α := @Nat.rec (fun _ => List α → List α) (fun l => l) (fun _ ih l => @List.rec α (fun _ => List α) [] (fun _ r _ => ih r) l) n
theorem dropQ_eq {α : Type} : ∀ (n : Nat) (l : List α), dropQ n l = l.drop n
  | 0, _ => rfl
  | _ + 1, [] => rfl
  | n + 1, _ :: r => by rw [List.drop_succ_cons, ← dropQ_eq n r]; rfl
noncomputable def takeQ {α : Type} (n : Nat) : List α → List α := @Nat.rec (fun _ => List α → List α) (fun _ => []) (fun _ ih l => @List.rec α (fun _ => List α) [] (fun v r _ => v :: ih r) l) n
theorem takeQ_eq {α : Type} : ∀ (n : Nat) (l : List α), takeQ n l = l.take n
  | 0, _ => rfl
  | _ + 1, [] => rfl
  | n + 1, v :: r => by rw [List.take_succ_cons, ← takeQ_eq n r]; rfl
noncomputable def setQ (v : AV) (n : Nat) : List AV → List AV := @Nat.rec (fun _ => List AV → List AV) (fun l => @List.rec AV (fun _ => List AV) [v] (fun _ r _ => v :: r) l) (fun _ ih l => @List.rec AV (fun _ => List AV) [v] (fun x r _ => x :: ih r) l) n
theorem setQ_eq (v : AV) : ∀ (n : Nat) (l : List AV), n < l.length → setQ v n l = storeL l n [v]
  | 0, _ :: _, _ => by simp [storeL]; rfl
  | n + 1, x :: r, h => by
    have ih := setQ_eq v n r (by simpa using h)
    unfold storeL at ih ⊢
    simp only [List.take_succ_cons, List.cons_append, List.length_cons, List.length_nil] at ih ⊢
    rw [show n + 1 + (0 + 1) = (n + (0 + 1)) + 1 by omega, List.drop_succ_cons, ← ih]; rfl
  | 0, [], h => by simp at h
  | _ + 1, [], h => by simp at h
/-! operators -/
abbrev GB := IntKind → Nat → Nat → (AV → Rs) → Rs → Rs
abbrev FB := AV → AV → (AV → Rs) → Rs → Rs
noncomputable def two (g : GB) : FB := fun u v q z => asNat u (fun k a => asNat v (fun k' b => kEqR k k' (g k a b q z) z) z) z
noncomputable def yes (q : AV → Rs) (b : Bool) : Rs := bR b (q (.bool true)) (q (.bool false))
noncomputable def gAdd : GB := fun k a b q z => wrapQ k (Nat.add a b) q z
noncomputable def gSub : GB := fun k a b q z => bR (Nat.ble b a) (wrapQ k (Nat.sub a b) q z) z
noncomputable def gMul : GB := fun k a b q z => wrapQ k (Nat.mul a b) q z
noncomputable def gQuo : GB := fun k a b q z => bR (Nat.beq b 0) z (wrapQ k (Nat.div a b) q z)
noncomputable def gRem : GB := fun k a b q z => bR (Nat.beq b 0) z (q (.int k (.ofNat (Nat.mod a b))))
noncomputable def gBits (f : Nat → Nat → Nat) : GB := fun k a b q z => bR (Nat.ble a (kMax k)) (bR (Nat.ble b (kMax k)) (q (.int k (.ofNat (f a b)))) z) z
noncomputable def gEql : GB := fun _ a b q _ => yes q (Nat.beq a b)
noncomputable def gNeq : GB := fun _ a b q _ => bR (Nat.beq a b) (q (.bool false)) (q (.bool true))
noncomputable def gLss : GB := fun _ a b q _ => yes q (Nat.ble (Nat.succ a) b)
noncomputable def gLeq : GB := fun _ a b q _ => yes q (Nat.ble a b)
noncomputable def gGtr : GB := fun _ a b q _ => yes q (Nat.ble (Nat.succ b) a)
noncomputable def gGeq : GB := fun _ a b q _ => yes q (Nat.ble b a)
noncomputable def fAdd : FB := two gAdd
noncomputable def fSub : FB := two gSub
noncomputable def fMul : FB := two gMul
noncomputable def fQuo : FB := two gQuo
noncomputable def fRem : FB := two gRem
noncomputable def fAnd : FB := two (gBits Nat.land)
noncomputable def fOr : FB := two (gBits Nat.lor)
noncomputable def fXor : FB := two (gBits Nat.xor)
noncomputable def fEql : FB := two gEql
noncomputable def fNeq : FB := two gNeq
noncomputable def fLss : FB := two gLss
noncomputable def fLeq : FB := two gLeq
noncomputable def fGtr : FB := two gGtr
noncomputable def fGeq : FB := two gGeq
noncomputable def fShl : FB := fun u v q z => asNat u (fun k a => asNat v (fun _ n => bR (Nat.ble n (kBits k)) (wrapQ k (Nat.mul a (Nat.pow 2 n)) q z) z) z) z
noncomputable def fShr : FB := fun u v q z => asNat u (fun k a => asNat v (fun _ n => bR (Nat.ble n (kBits k)) (q (.int k (.ofNat (Nat.div a (Nat.pow 2 n))))) z) z) z
noncomputable def fNo : FB := fun _ _ _ z => z
noncomputable def fBin (op : BinOp) : FB := @BinOp.rec (fun _ => FB) fAdd fSub fMul fQuo fRem fAnd fOr fXor fShl fShr fNo fEql fNeq fLss fLeq fGtr fGeq op
theorem two_ok (g : GB) (u v : AV) (q : AV → Rs) (z : Rs) : two g u v q z = z ∨ ∃ k a b, u = .int k (.ofNat a) ∧ v = .int k (.ofNat b) ∧ two g u v q z = g k a b q z := by
  unfold two
  simp only [kEqR_eq]
  rcases asNat_ok u (fun k a => asNat v (fun k' b => bR (kEq k k') (g k a b q z) z) z) z with h | ⟨k, a, rfl, h⟩
  · exact .inl h
  rw [h]
  rcases asNat_ok v (fun k' b => bR (kEq k k') (g k a b q z) z) z with h | ⟨k', b, rfl, h⟩
  · exact .inl h
  rw [h]
  cases he : kEq k k' with
  | false => exact .inl rfl
  | true => have := kEq_ok he; subst this; exact .inr ⟨k, a, b, rfl, rfl, rfl⟩
theorem binV_int (op : BinOp) (t : TypeId) (k : IntKind) (a b : Int) (h1 : op ≠ .shl) (h2 : op ≠ .shr) : binV T op t (.int k a) (.int k b) = intOp op k a b := by
  cases op <;> first | exact absurd rfl h1 | exact absurd rfl h2 | simp [binV]
def GOk (op : BinOp) (g : GB) : Prop := ∀ k a b q z, g k a b q z = z ∨ ∃ r, intOp op k (a : Int) (b : Int) = some r ∧ g k a b q z = q r
theorem two_bin {op : BinOp} {g : GB} (hg : GOk op g) (h1 : op ≠ .shl) (h2 : op ≠ .shr) (t : TypeId) (u v : AV) (q : AV → Rs) (z : Rs) : two g u v q z = z ∨ ∃ r, binV T op t u v = some r ∧ two g u v q z = q r := by
  rcases two_ok g u v q z with h | ⟨k, a, b, rfl, rfl, h⟩
  · exact .inl h
  rw [h]
  rcases hg k a b q z with h3 | ⟨r, h3, h4⟩
  · exact .inl h3
  · exact .inr ⟨r, by rw [binV_int op t k _ _ h1 h2]; exact h3, h4⟩
theorem wrapQ_g {op : BinOp} {k : IntKind} {x : Nat} {a b : Nat} {q : AV → Rs} {z : Rs} (h : intOp op k (a : Int) (b : Int) = some (.int k (k.wrap (x : Int)))) : wrapQ k x q z = z ∨ ∃ r, intOp op k (a : Int) (b : Int) = some r ∧ wrapQ k x q z = q r := by
  rcases wrapQ_ok k x q z with h1 | h1
  · exact .inl h1
  · exact .inr ⟨_, h, h1⟩
theorem gAdd_ok : GOk .add gAdd := fun k a b q z => wrapQ_g (by simp [intOp])
theorem gSub_ok : GOk .sub gSub := fun k a b q z => by
  unfold gSub
  cases h : Nat.ble b a with
  | false => exact .inl rfl
  | true => 
    have := Nat.le_of_ble_eq_true h
    rw [bR_t]
    exact wrapQ_g (by show some (AV.int k (k.wrap ((a : Int) - b))) = some (AV.int k (k.wrap ((a - b : Nat) : Int))); rw [Int.ofNat_sub this])
theorem gMul_ok : GOk .mul gMul := fun k a b q z => wrapQ_g (by simp [intOp])
theorem gQuo_ok : GOk .quo gQuo := fun k a b q z => by
  unfold gQuo
  cases h : Nat.beq b 0 with
  | true => exact .inl rfl
  | false =>
    have h0 : b ≠ 0 := Nat.ne_of_beq_eq_false h
    rw [bR_f]
    exact wrapQ_g (by simp only [intOp]; rw [if_neg (by omega)]; rfl)
theorem gRem_ok : GOk .rem gRem := fun k a b q z => by
  unfold gRem
  cases h : Nat.beq b 0 with
  | true => exact .inl rfl
  | false =>
    have h0 : b ≠ 0 := Nat.ne_of_beq_eq_false h
    rw [bR_f]
    exact .inr ⟨_, by simp only [intOp]; rw [if_neg (by omega)]; rfl, rfl⟩
theorem kMax_bits (k : IntKind) : kMax k + 1 = 2 ^ (if k.signed then k.bits - 1 else k.bits) ∧ kMax k < 2 ^ k.bits := by cases k <;> decide
theorem bits_nat {k : IntKind} {a : Nat} (h : a ≤ kMax k) : (BitVec.ofInt k.bits (a : Int)).toNat = a := by
  have := (kMax_bits k).2
  rw [BitVec.ofInt_natCast, BitVec.toNat_ofNat, Nat.mod_eq_of_lt (by omega)]
theorem gBits_ok {op : BinOp} {f : Nat → Nat → Nat} (hf : ∀ n a b, a < 2 ^ n → b < 2 ^ n → f a b < 2 ^ n) (ho : ∀ k (a b : Nat), a ≤ kMax k → b ≤ kMax k → intOp op k (a : Int) (b : Int) = some (.int k (k.wrap ((f a b : Nat) : Int)))) : GOk op (gBits f) := fun k a b q z => by
  unfold gBits
  cases h1 : Nat.ble a (kMax k) with
  | false => exact .inl rfl
  | true =>
    rw [bR_t]
    cases h2 : Nat.ble b (kMax k) with
    | false => exact .inl rfl
    | true =>
      rw [bR_t]
      have h1 := Nat.le_of_ble_eq_true h1
      have h2 := Nat.le_of_ble_eq_true h2
      refine .inr ⟨_, ho k a b h1 h2, ?_⟩
      have hm := (kMax_bits k).1
      have := hf _ a b (show a < 2 ^ (if k.signed then k.bits - 1 else k.bits) by omega) (by omega)
      rw [wrap_max (show f a b ≤ kMax k by omega)]; rfl
theorem gAnd_ok : GOk .and (gBits Nat.land) := gBits_ok (fun n a b h _ => Nat.lt_of_le_of_lt (Nat.and_le_left (n := a) (m := b)) h) fun k a b h1 h2 => by
  simp only [intOp, BitVec.toNat_and, bits_nat h1, bits_nat h2]; rfl
theorem gOr_ok : GOk .or (gBits Nat.lor) := gBits_ok (fun n a b h1 h2 => Nat.or_lt_two_pow h1 h2) fun k a b h1 h2 => by
  simp only [intOp, BitVec.toNat_or, bits_nat h1, bits_nat h2]; rfl
theorem gXor_ok : GOk .xor (gBits Nat.xor) := gBits_ok (fun n a b h1 h2 => Nat.xor_lt_two_pow h1 h2) fun k a b h1 h2 => by
  simp only [intOp, BitVec.toNat_xor, bits_nat h1, bits_nat h2]; rfl
theorem yes_ok {q : AV → Rs} {b c : Bool} (h : b = c) : yes q b = q (.bool c) := by subst h; cases b <;> rfl
theorem beq_int (a b : Nat) : Nat.beq a b = ((a : Int) == (b : Int)) := by rw [Bool.eq_iff_iff, Nat.beq_eq, beq_iff_eq]; omega
theorem gEql_ok : GOk .eql gEql := fun _ a b _ _ => .inr ⟨_, rfl, yes_ok (beq_int a b)⟩
theorem gNeq_ok : GOk .neq gNeq := fun k a b q z => .inr ⟨_, rfl, by
  unfold gNeq
  show _ = q (.bool (!((a : Int) == (b : Int))))
  rw [← beq_int]
  cases Nat.beq a b <;> rfl⟩
theorem ble_dec {a b : Nat} {p : Prop} [Decidable p] (h : a ≤ b ↔ p) : Nat.ble a b = decide p := by rw [Bool.eq_iff_iff, Nat.ble_eq, decide_eq_true_iff, h]
theorem gLss_ok : GOk .lss gLss := fun k a b q z => .inr ⟨_, rfl, yes_ok (ble_dec (by omega))⟩
theorem gLeq_ok : GOk .leq gLeq := fun k a b q z => .inr ⟨_, rfl, yes_ok (ble_dec (by omega))⟩
theorem gGtr_ok : GOk .gtr gGtr := fun k a b q z => .inr ⟨_, rfl, yes_ok (ble_dec (by omega))⟩
theorem gGeq_ok : GOk .geq gGeq := fun k a b q z => .inr ⟨_, rfl, yes_ok (ble_dec (by omega))⟩
theorem fShl_ok (t : TypeId) (u v : AV) (q : AV → Rs) (z : Rs) : fShl u v q z = z ∨ ∃ r, binV T .shl t u v = some r ∧ fShl u v q z = q r := by
  unfold fShl
  rcases asNat_ok u (fun k a => asNat v (fun _ n => bR (Nat.ble n (kBits k)) (wrapQ k (Nat.mul a (Nat.pow 2 n)) q z) z) z) z with h | ⟨k, a, rfl, h⟩
  · exact .inl h
  rw [h]
  rcases asNat_ok v (fun _ n => bR (Nat.ble n (kBits k)) (wrapQ k (Nat.mul a (Nat.pow 2 n)) q z) z) z with h | ⟨k', n, rfl, h⟩
  · exact .inl h
  rw [h]
  cases he : Nat.ble n (kBits k) with
  | false => exact .inl rfl
  | true =>
    rw [bR_t]
    rcases wrapQ_ok k (Nat.mul a (Nat.pow 2 n)) q z with h1 | h1
    · exact .inl h1
    · rw [kBits_eq] at he
      refine .inr ⟨_, ?_, h1⟩
      simp only [binV, he]
      have : ((Nat.mul a (Nat.pow 2 n) : Nat) : Int) = Int.ofNat a * 2 ^ n := by
        show ((a * 2 ^ n : Nat) : Int) = _
        rw [Int.natCast_mul, Int.natCast_pow]; rfl
      rw [this]
theorem fShr_ok (t : TypeId) (u v : AV) (q : AV → Rs) (z : Rs) : fShr u v q z = z ∨ ∃ r, binV T .shr t u v = some r ∧ fShr u v q z = q r := by
  unfold fShr
  rcases asNat_ok u (fun k a => asNat v (fun _ n => bR (Nat.ble n (kBits k)) (q (.int k (.ofNat (Nat.div a (Nat.pow 2 n))))) z) z) z with h | ⟨k, a, rfl, h⟩
  · exact .inl h
  rw [h]
  rcases asNat_ok v (fun _ n => bR (Nat.ble n (kBits k)) (q (.int k (.ofNat (Nat.div a (Nat.pow 2 n))))) z) z with h | ⟨k', n, rfl, h⟩
  · exact .inl h
  rw [h]
  cases he : Nat.ble n (kBits k) with
  | false => exact .inl rfl
  | true =>
    rw [bR_t]
    rw [kBits_eq] at he
    refine .inr ⟨_, ?_, rfl⟩
    simp only [binV, he]
    have : ((Nat.div a (Nat.pow 2 n) : Nat) : Int) = Int.ofNat a / 2 ^ n := by
      show ((a / 2 ^ n : Nat) : Int) = _
      rw [Int.natCast_ediv, Int.natCast_pow]; rfl
    rw [← this]; rfl
theorem fBin_ok (op : BinOp) (t : TypeId) (u v : AV) (q : AV → Rs) (z : Rs) : fBin op u v q z = z ∨ ∃ r, binV T op t u v = some r ∧ fBin op u v q z = q r := by
  cases op
  · exact two_bin gAdd_ok (by decide) (by decide) t u v q z
  · exact two_bin gSub_ok (by decide) (by decide) t u v q z
  · exact two_bin gMul_ok (by decide) (by decide) t u v q z
  · exact two_bin gQuo_ok (by decide) (by decide) t u v q z
  · exact two_bin gRem_ok (by decide) (by decide) t u v q z
  · exact two_bin gAnd_ok (by decide) (by decide) t u v q z
  · exact two_bin gOr_ok (by decide) (by decide) t u v q z
  · exact two_bin gXor_ok (by decide) (by decide) t u v q z
  · exact fShl_ok t u v q z
  · exact fShr_ok t u v q z
  · exact .inl rfl
  · exact two_bin gEql_ok (by decide) (by decide) t u v q z
  · exact two_bin gNeq_ok (by decide) (by decide) t u v q z
  · exact two_bin gLss_ok (by decide) (by decide) t u v q z
  · exact two_bin gLeq_ok (by decide) (by decide) t u v q z
  · exact two_bin gGtr_ok (by decide) (by decide) t u v q z
  · exact two_bin gGeq_ok (by decide) (by decide) t u v q z
end Go.Proofs.YtkbmmoobcikbaaaGreatDoor.Ev
namespace Go.Proofs.YtkbmmoobcikbaaaGreatDoor.Ev
open Go Go.RowKit

variable {T : Tb} {H : Hp}
/-- A value's cells. -/
noncomputable def asCells (u : AV) : (List AV → Rs) → Rs → Rs := @AV.rec (fun _ => (List AV → Rs) → Rs → Rs) (fun _ => Unit) (fun b q _ => q [.bool b]) (fun k n q _ => q [.int k n]) (fun l q _ => q [.str l]) (fun  q _ => q [.nilp]) (fun b o q _ => q [.ptr b o]) (fun  q _ => q [.nils]) (fun b o n c q _ => q [.sl b o n c]) (fun b o n d q _ => q [.slo b o n d]) (fun  q _ => q [.sle]) (fun m q _ => q [.map m]) (fun c q _ => q [.chan c]) (fun f a c _ _ q _ => q [.fn f a c]) (fun  q _ => q [.nilfn]) (fun t v _ q _ => q [.ifc t v]) (fun  q _ => q [.nilif]) (fun l _ q _ => q l) (fun _ _ _ z => z) (fun _ _ z => z) (fun b q _ => q [.yld b]) () (fun _ _ _ _ => ()) u
noncomputable def asChk (u : AV) : (Unit → Rs) → Rs → Rs := @AV.rec (fun _ => (Unit → Rs) → Rs → Rs) (fun _ => Unit) (fun _ _ z => z) (fun _ _ _ z => z) (fun _ _ z => z) (fun _ z => z) (fun _ _ q _ => q ()) (fun _ z => z) (fun _ _ _ _ q _ => q ()) (fun _ _ _ _ q _ => q ()) (fun _ z => z) (fun _ _ z => z) (fun _ _ z => z) (fun _ _ _ _ _ _ z => z) (fun _ z => z) (fun _ _ _ q _ => q ()) (fun _ z => z) (fun _ _ _ z => z) (fun _ _ _ z => z) (fun _ _ z => z) (fun _ _ z => z) () (fun _ _ _ _ => ()) u
theorem asCells_ok (u : AV) (q : List AV → Rs) (z : Rs) : asCells u q z = z ∨ isCst u = false ∧ asCells u q z = q (avCells u) := by
  cases u <;> first | exact .inl rfl | exact .inr ⟨rfl, rfl⟩
noncomputable def wvz {α : Type} (x : Option α) (q : α → Rs) (z : Rs) : Rs := @Option.rec α (fun _ => Rs) z q x
noncomputable def wp (x : Option (AV × Hp)) (q : AV → Hp → Rs) : Rs := @Option.rec (AV × Hp) (fun _ => Rs) .bad (fun p => @Prod.rec AV Hp (fun _ => Rs) q p) x
noncomputable def cellsQ (x : Option AObj) (q : TypeId → List AV → Bool → Rs) (z : Rs) : Rs := @Option.rec AObj (fun _ => Rs) z (fun o => @AObj.rec (fun _ => Rs) q (fun _ _ => z) (fun _ _ _ _ _ => z) (fun _ _ => z) (fun _ => z) (fun _ _ _ _ _ => z) (fun _ _ => z) o) x
theorem wv_ok (x : Option AV) (q : AV → Rs) : wv x q = .bad ∨ ∃ v, x = some v ∧ wv x q = q v := by
  cases x with
  | none => exact .inl rfl
  | some v => exact .inr ⟨v, rfl, rfl⟩
theorem wvz_ok {α : Type} (x : Option α) (q : α → Rs) (z : Rs) : wvz x q z = z ∨ ∃ v, x = some v ∧ wvz x q z = q v := by
  cases x with
  | none => exact .inl rfl
  | some v => exact .inr ⟨v, rfl, rfl⟩
theorem wp_ok (x : Option (AV × Hp)) (q : AV → Hp → Rs) : wp x q = .bad ∨ ∃ v H', x = some (v, H') ∧ wp x q = q v H' := by
  rcases x with _ | ⟨v, H'⟩
  · exact .inl rfl
  · exact .inr ⟨v, H', rfl, rfl⟩
theorem cellsQ_ok (x : Option AObj) (q : TypeId → List AV → Bool → Rs) (z : Rs) : cellsQ x q z = z ∨ ∃ t cs p, x = some (.cells t cs p) ∧ cellsQ x q z = q t cs p := by
  rcases x with _ | o
  · exact .inl rfl
  · cases o <;> first | exact .inl rfl | exact .inr ⟨_, _, _, rfl, rfl⟩
/-- The first of a row, where there are so many. -/
noncomputable def tkQ (n : Nat) : List AV → (List AV → Rs) → Rs → Rs := @Nat.rec (fun _ => List AV → (List AV → Rs) → Rs → Rs) (fun _ q _ => q []) (fun _ ih l q z => @List.rec AV (fun _ => Rs) z (fun v r _ => ih r (fun tl => q (v :: tl)) z) l) n
theorem tkQ_ok : ∀ (n : Nat) (l : List AV) (q : List AV → Rs) (z : Rs), tkQ n l q z = z ∨ n ≤ l.length ∧ tkQ n l q z = q (l.take n)
  | 0, l, q, z => .inr ⟨Nat.zero_le _, by rw [List.take_zero]; rfl⟩
  | n + 1, [], q, z => .inl rfl
  | n + 1, v :: r, q, z => by
    rcases tkQ_ok n r (fun tl => q (v :: tl)) z with h | ⟨h1, h2⟩
    · exact .inl h
    · exact .inr ⟨by simpa using h1, by rw [List.take_succ_cons]; exact h2⟩

/-! one value: specifications -/
noncomputable def nilS (T : Tb) (v : AV) : Option AV := match checkable v with
  | true => some v
  | false => match checkM T v with
    | true => some v
    | false => none
noncomputable def ldS (T : Tb) (H : Hp) (t : TypeId) (v : AV) : Option AV := match v with
  | .ptr b o => loadV T H t b o
  | _ => none
noncomputable def extS (v : AV) (i : Nat) : Option AV := match v with
  | .tup vs => vs[i]?
  | _ => none
noncomputable def lenS (T : Tb) (H : Hp) (t : TypeId) (v : AV) : Option AV := match lenV T H t v with
  | some n => some (.int .i64 (.ofNat n))
  | none => match lenCV T H t v with
    | some n => some (.int .i64 (.ofNat n))
    | none => none
noncomputable def mkiS (T : Tb) (t : TypeId) (v : AV) : Option AV := match T.ty t with
  | some i => match noIface i.und with
    | true => some (.ifc t v)
    | false => none
  | none => none
inductive U where
  | mv
  | nilc
  | ld1 (t : TypeId)
  | ldn (t : TypeId) (n : Nat)
  | lds (t : TypeId)
  | fld (t : TypeId) (n off : Nat)
  | flds (t : TypeId) (n : Nat)
  | ext (i : Nat)
  | unot
  | un (op : UnOp)
  | lenl (t : TypeId)
  | lent (t : TypeId)
  | lens (t : TypeId)
  | cvt (s d : TypeId) (k : IntKind)
  | cvts (s d : TypeId)
  | fo (t : TypeId) (n : Nat)
  | mki (t : TypeId)
  | asr (a : TypeId) (ok : Bool)
noncomputable def specU (T : Tb) (u : U) (v : AV) (H : Hp) : Option AV := match u with
  | .mv => some v
  | .nilc => nilS T v
  | .ld1 t => ldS T H t v
  | .ldn t _ => ldS T H t v
  | .lds t => ldS T H t v
  | .fld t n _ => fieldV T t v n
  | .flds t n => fieldV T t v n
  | .ext i => extS v i
  | .unot => unV .not v
  | .un op => unV op v
  | .lenl t => lenS T H t v
  | .lent t => lenS T H t v
  | .lens t => lenS T H t v
  | .cvt s d _ => convV T s d v
  | .cvts s d => convV T s d v
  | .fo t n => fieldOfV T t v n
  | .mki t => mkiS T t v
  | .asr a ok => assertV T a ok v
def UOk (T : Tb) : U → Prop
  | .ld1 t => ∃ i, T.ty t = some i ∧ i.agg = false
  | .ldn t n => ∃ i, T.ty t = some i ∧ i.agg = true ∧ i.size = n ∧ 0 < n
  | .fld t n off => ∀ b o, fieldV T t (.ptr b o) n = some (.ptr b (o + off))
  | .lenl t => ∃ e s b z g, T.ty t = some ⟨.slice e, s, b, z, g⟩
  | .lent t => ∃ s b z g, T.ty t = some ⟨.string, s, b, z, g⟩
  | .cvt s d k => (∃ i, T.ty s = some i) ∧ ∃ j, T.ty d = some j ∧ j.und = .int k
  | _ => True
abbrev UF := AV → Hp → (AV → Rs) → Rs
noncomputable def uMv : UF := fun v _ q => q v
noncomputable def uNilc (T : Tb) : UF := fun v _ q => asChk v (fun _ => q v) (wv (nilS T v) q)
noncomputable def uLd1 (T : Tb) (t : TypeId) : UF := fun v H q => asPtr v (fun b o => cellsQ (Hp.get H b) (fun _ cs _ => wvz (nthQ cs o) q (wv (ldS T H t v) q)) (wv (ldS T H t v) q)) (wv (ldS T H t v) q)
noncomputable def uLdn (T : Tb) (t : TypeId) (n : Nat) : UF := fun v H q => asPtr v (fun b o => cellsQ (Hp.get H b) (fun _ cs _ => tkQ n (dropQ o cs) (fun l => q (.agg l)) (wv (ldS T H t v) q)) (wv (ldS T H t v) q)) (wv (ldS T H t v) q)
noncomputable def uLds (T : Tb) (t : TypeId) : UF := fun v H q => wv (ldS T H t v) q
noncomputable def uFld (T : Tb) (t : TypeId) (n off : Nat) : UF := fun v _ q => asPtr v (fun b o => q (.ptr b (Nat.add o off))) (wv (fieldV T t v n) q)
noncomputable def uFlds (T : Tb) (t : TypeId) (n : Nat) : UF := fun v _ q => wv (fieldV T t v n) q
noncomputable def uExt (i : Nat) : UF := fun v _ q => asTup v (fun l => wv (nthQ l i) q) (wv (extS v i) q)
noncomputable def uNot : UF := fun v _ q => asBool v (fun b => bR b (q (.bool false)) (q (.bool true))) (wv (unV .not v) q)
noncomputable def uUn (op : UnOp) : UF := fun v _ q => wv (unV op v) q
noncomputable def uLenl (T : Tb) (t : TypeId) : UF := fun v H q => asLen v (fun n => q (.int .i64 (.ofNat n))) (wv (lenS T H t v) q)
noncomputable def uLent (T : Tb) (t : TypeId) : UF := fun v H q => asStr v (fun l => q (.int .i64 (.ofNat (lenQ l)))) (wv (lenS T H t v) q)
noncomputable def uLens (T : Tb) (t : TypeId) : UF := fun v H q => wv (lenS T H t v) q
noncomputable def uCvt (T : Tb) (s d : TypeId) (k : IntKind) : UF := fun v _ q => asNat v (fun _ a => wrapQ k a q (wv (convV T s d v) q)) (wv (convV T s d v) q)
noncomputable def uCvts (T : Tb) (s d : TypeId) : UF := fun v _ q => wv (convV T s d v) q
noncomputable def uFo (T : Tb) (t : TypeId) (n : Nat) : UF := fun v _ q => wv (fieldOfV T t v n) q
noncomputable def uMki (T : Tb) (t : TypeId) : UF := fun v _ q => wv (mkiS T t v) q
noncomputable def uAsr (T : Tb) (a : TypeId) (ok : Bool) : UF := fun v _ q => wv (assertV T a ok v) q
noncomputable def runU (T : Tb) (u : U) : UF := @U.rec (fun _ => UF) uMv (uNilc T) (uLd1 T) (uLdn T) (uLds T) (uFld T) (uFlds T) uExt uNot uUn (uLenl T) (uLent T) (uLens T) (uCvt T) (uCvts T) (uFo T) (uMki T) (uAsr T) u
structure UX where
  run : UF
noncomputable def uxOf (T : Tb) (u : U) : UX := match u with
  | .mv => ⟨uMv⟩
  | .nilc => ⟨uNilc T⟩
  | .ld1 t => ⟨uLd1 T t⟩
  | .ldn t n => ⟨uLdn T t n⟩
  | .lds t => ⟨uLds T t⟩
  | .fld t n off => ⟨uFld T t n off⟩
  | .flds t n => ⟨uFlds T t n⟩
  | .ext i => ⟨uExt i⟩
  | .unot => ⟨uNot⟩
  | .un op => ⟨uUn op⟩
  | .lenl t => ⟨uLenl T t⟩
  | .lent t => ⟨uLent T t⟩
  | .lens t => ⟨uLens T t⟩
  | .cvt s d k => ⟨uCvt T s d k⟩
  | .cvts s d => ⟨uCvts T s d⟩
  | .fo t n => ⟨uFo T t n⟩
  | .mki t => ⟨uMki T t⟩
  | .asr a ok => ⟨uAsr T a ok⟩
theorem uxOf_eq (T : Tb) (u : U) : (uxOf T u).run = runU T u := by cases u <;> rfl
theorem asChk_ok (u : AV) (q : Unit → Rs) (z : Rs) : asChk u q z = z ∨ checkable u = true ∧ asChk u q z = q () ∨ (∃ b o n d, u = .slo b o n d) ∧ asChk u q z = q () := by
  cases u <;> first | exact .inl rfl | exact .inr (.inl ⟨rfl, rfl⟩) | exact .inr (.inr ⟨⟨_, _, _, _, rfl⟩, rfl⟩)
theorem runU_eq {u : U} (h : UOk T u) (v : AV) (H : Hp) (q : AV → Rs) : runU T u v H q = wv (specU T u v H) q := by
  cases u with
  | mv => rfl
  | nilc =>
    show uNilc T v H q = wv (nilS T v) q
    unfold uNilc
    rcases asChk_ok v (fun _ => q v) (wv (nilS T v) q) with h | ⟨h1, h⟩ | ⟨⟨b, o, n, d, rfl⟩, h⟩
    · exact h
    · rw [h]; unfold nilS; rw [h1]; rfl
    · rw [h]; rfl
  | ld1 t =>
    obtain ⟨i, h1, h2⟩ := h
    show uLd1 T t v H q = wv (ldS T H t v) q
    unfold uLd1
    rcases asPtr_ok v (fun b o => cellsQ (Hp.get H b) (fun _ cs _ => wvz (nthQ cs o) q (wv (ldS T H t v) q)) (wv (ldS T H t v) q)) (wv (ldS T H t v) q) with h | ⟨b, o, rfl, h⟩
    · exact h
    rw [h]
    rcases cellsQ_ok (Hp.get H b) (fun _ cs _ => wvz (nthQ cs o) q (wv (ldS T H t (.ptr b o)) q)) (wv (ldS T H t (.ptr b o)) q) with h | ⟨t', cs, p, hg, h⟩
    · exact h
    rw [h]
    rcases wvz_ok (nthQ cs o) q (wv (ldS T H t (.ptr b o)) q) with h | ⟨x, hx, h⟩
    · exact h
    rw [h]
    rw [nthQ_eq] at hx
    have hlt := (List.getElem?_eq_some_iff.1 hx).1
    have : ldS T H t (.ptr b o) = some x := by
      simp only [ldS, loadV, h1, h2, loadL, hg]
      rw [show Nat.ble (o + 1) cs.length = true from Nat.ble_eq_true_of_le hlt]
      simp only
      have e : (cs.drop o).take 1 = [x] := by
        obtain ⟨h3, h4⟩ := List.getElem?_eq_some_iff.1 hx
        rw [List.drop_eq_getElem_cons h3, h4]; rfl
      rw [e]
    rw [this]; rfl
  | ldn t n =>
    obtain ⟨i, h1, h2, h3, h0⟩ := h
    show uLdn T t n v H q = wv (ldS T H t v) q
    unfold uLdn
    rcases asPtr_ok v (fun b o => cellsQ (Hp.get H b) (fun _ cs _ => tkQ n (dropQ o cs) (fun l => q (.agg l)) (wv (ldS T H t v) q)) (wv (ldS T H t v) q)) (wv (ldS T H t v) q) with h | ⟨b, o, rfl, h⟩
    · exact h
    rw [h]
    rcases cellsQ_ok (Hp.get H b) (fun _ cs _ => tkQ n (dropQ o cs) (fun l => q (.agg l)) (wv (ldS T H t (.ptr b o)) q)) (wv (ldS T H t (.ptr b o)) q) with h | ⟨t', cs, p, hg, h⟩
    · exact h
    rw [h]
    rcases tkQ_ok n (dropQ o cs) (fun l => q (.agg l)) (wv (ldS T H t (.ptr b o)) q) with h | ⟨hx, h⟩
    · exact h
    rw [h]
    rw [dropQ_eq] at hx ⊢
    have hlen : n ≤ cs.length - o := by simpa using hx
    have : ldS T H t (.ptr b o) = some (.agg ((cs.drop o).take n)) := by
      simp only [ldS, loadV, h1, h2, loadL, hg, h3]
      rw [show Nat.ble (o + n) cs.length = true from Nat.ble_eq_true_of_le (by omega)]
    rw [this]; rfl
  | lds t => rfl
  | fld t n off =>
    show uFld T t n off v H q = wv (fieldV T t v n) q
    unfold uFld
    rcases asPtr_ok v (fun b o => q (.ptr b (Nat.add o off))) (wv (fieldV T t v n) q) with h2 | ⟨b, o, rfl, h2⟩
    · exact h2
    · rw [h2, h b o]; rfl
  | flds t n => rfl
  | ext i =>
    show uExt i v H q = wv (extS v i) q
    unfold uExt
    rcases asTup_ok v (fun l => wv (nthQ l i) q) (wv (extS v i) q) with h2 | ⟨l, rfl, h2⟩
    · exact h2
    · rw [h2, nthQ_eq]; rfl
  | unot =>
    show uNot v H q = wv (unV .not v) q
    unfold uNot
    rcases asBool_ok v (fun b => bR b (q (.bool false)) (q (.bool true))) (wv (unV .not v) q) with h2 | ⟨b, rfl, h2⟩
    · exact h2
    · rw [h2]; cases b <;> rfl
  | un op => rfl
  | lenl t =>
    obtain ⟨e, s, b, z, g, h1⟩ := h
    show uLenl T t v H q = wv (lenS T H t v) q
    unfold uLenl
    rcases asLen_ok v (fun n => q (.int .i64 (.ofNat n))) (wv (lenS T H t v) q) with h2 | ⟨n, hn, h2⟩
    · exact h2
    · rw [h2]; unfold lenS; rw [hn T H t e s b z g h1]; rfl
  | lent t =>
    obtain ⟨s, b, z, g, h1⟩ := h
    show uLent T t v H q = wv (lenS T H t v) q
    unfold uLent
    rcases asStr_ok v (fun l => q (.int .i64 (.ofNat (lenQ l)))) (wv (lenS T H t v) q) with h2 | ⟨l, rfl, h2⟩
    · exact h2
    · rw [h2, lenQ_eq]; simp only [lenS, lenV, h1]; rfl
  | lens t => rfl
  | cvt s d k =>
    obtain ⟨⟨i, h1⟩, j, h2, h3⟩ := h
    show uCvt T s d k v H q = wv (convV T s d v) q
    unfold uCvt
    rcases asNat_ok v (fun _ a => wrapQ k a q (wv (convV T s d v) q)) (wv (convV T s d v) q) with h4 | ⟨k', a, rfl, h4⟩
    · exact h4
    rw [h4]
    rcases wrapQ_ok k a q (wv (convV T s d (.int k' (.ofNat a))) q) with h5 | h5
    · exact h5
    · rw [h5]; simp only [convV, h1, h2, h3]; rfl
  | cvts s d => rfl
  | fo t n => rfl
  | mki t => rfl
  | asr a ok => rfl

/-! two values -/
noncomputable def binS (T : Tb) (op : BinOp) (t : TypeId) (x y : Operand) (u v : AV) : Option AV := match binV T op t u v with
  | some r => some r
  | none => ifaceV T op t x y u v
noncomputable def ixS (T : Tb) (t : TypeId) (u v : AV) : Option AV := match natV v with
  | some n => indexAtV T t u n
  | none => none
noncomputable def idxS (T : Tb) (t : TypeId) (u v : AV) : Option AV := match natV v with
  | some n => indexV T t u n
  | none => none
inductive Bn where
  | bin (op : BinOp) (t : TypeId) (x y : Operand)
  | ix (t : TypeId) (sz : Nat)
  | ixs (t : TypeId)
  | idt (t : TypeId)
  | idx (t : TypeId)
  | lk (t : TypeId) (ok : Bool)
noncomputable def specB (T : Tb) (k : Bn) (u v : AV) (H : Hp) : Option AV := match k with
  | .bin op t x y => binS T op t x y u v
  | .ix t _ => ixS T t u v
  | .ixs t => ixS T t u v
  | .idt t => idxS T t u v
  | .idx t => idxS T t u v
  | .lk t ok => lookupV T H t u v ok
def BnOk (T : Tb) : Bn → Prop
  | .ix t sz => ∃ e s b z g i, T.ty t = some ⟨.slice e, s, b, z, g⟩ ∧ T.ty e = some i ∧ i.size = sz
  | .idt t => ∃ s b z g, T.ty t = some ⟨.string, s, b, z, g⟩
  | _ => True
abbrev BF := AV → AV → Hp → (AV → Rs) → Rs
noncomputable def bBin (T : Tb) (op : BinOp) (t : TypeId) (x y : Operand) : BF := fun u v _ q => fBin op u v q (wv (binS T op t x y u v) q)
noncomputable def bIx (T : Tb) (t : TypeId) (sz : Nat) : BF := fun u v _ q => asSl u (fun b o m => asNat v (fun _ n => bR (Nat.ble (Nat.succ n) m) (q (.ptr b (Nat.add o (Nat.mul n sz)))) (wv (ixS T t u v) q)) (wv (ixS T t u v) q)) (wv (ixS T t u v) q)
noncomputable def bIxs (T : Tb) (t : TypeId) : BF := fun u v _ q => wv (ixS T t u v) q
noncomputable def bIdt (T : Tb) (t : TypeId) : BF := fun u v _ q => asStr u (fun l => asNat v (fun _ n => wvz (nthQ l n) (fun c => q (.int .u8 (.ofNat c))) (wv (idxS T t u v) q)) (wv (idxS T t u v) q)) (wv (idxS T t u v) q)
noncomputable def bIdx (T : Tb) (t : TypeId) : BF := fun u v _ q => wv (idxS T t u v) q
noncomputable def bLk (T : Tb) (t : TypeId) (ok : Bool) : BF := fun u v H q => wv (lookupV T H t u v ok) q
noncomputable def runB (T : Tb) (k : Bn) : BF := @Bn.rec (fun _ => BF) (bBin T) (bIx T) (bIxs T) (bIdt T) (bIdx T) (bLk T) k
structure BX where
  run : BF
structure FX where
  f : FB
noncomputable def fxOf (op : BinOp) : FX := match op with
  | .add => ⟨fAdd⟩
  | .sub => ⟨fSub⟩
  | .mul => ⟨fMul⟩
  | .quo => ⟨fQuo⟩
  | .rem => ⟨fRem⟩
  | .and => ⟨fAnd⟩
  | .or => ⟨fOr⟩
  | .xor => ⟨fXor⟩
  | .shl => ⟨fShl⟩
  | .shr => ⟨fShr⟩
  | .andNot => ⟨fNo⟩
  | .eql => ⟨fEql⟩
  | .neq => ⟨fNeq⟩
  | .lss => ⟨fLss⟩
  | .leq => ⟨fLeq⟩
  | .gtr => ⟨fGtr⟩
  | .geq => ⟨fGeq⟩
theorem fxOf_eq (op : BinOp) : (fxOf op).f = fBin op := by cases op <;> rfl
noncomputable def bxOf (T : Tb) (k : Bn) : BX := match k with
  | .bin op t x y => ⟨bBin T op t x y⟩
  | .ix t sz => ⟨bIx T t sz⟩
  | .ixs t => ⟨bIxs T t⟩
  | .idt t => ⟨bIdt T t⟩
  | .idx t => ⟨bIdx T t⟩
  | .lk t ok => ⟨bLk T t ok⟩
theorem bxOf_eq (T : Tb) (k : Bn) : (bxOf T k).run = runB T k := by cases k <;> rfl
theorem runB_eq {k : Bn} (h : BnOk T k) (u v : AV) (H : Hp) (q : AV → Rs) : runB T k u v H q = wv (specB T k u v H) q := by
  cases k with
  | bin op t x y =>
    show fBin op u v q (wv (binS T op t x y u v) q) = wv (binS T op t x y u v) q
    rcases fBin_ok (T := T) op t u v q (wv (binS T op t x y u v) q) with h2 | ⟨r, h1, h2⟩
    · exact h2
    · rw [h2]; unfold binS; rw [h1]; rfl
  | ix t sz =>
    obtain ⟨e, s, b0, z, g, i, h1, h2, h3⟩ := h
    show bIx T t sz u v H q = wv (ixS T t u v) q
    unfold bIx
    rcases asSl_ok u (fun b o m => asNat v (fun _ n => bR (Nat.ble (Nat.succ n) m) (q (.ptr b (Nat.add o (Nat.mul n sz)))) (wv (ixS T t u v) q)) (wv (ixS T t u v) q)) (wv (ixS T t u v) q) with h4 | ⟨b, o, m, c, hu, h4⟩
    · exact h4
    rw [h4]
    rcases asNat_ok v (fun _ n => bR (Nat.ble (Nat.succ n) m) (q (.ptr b (Nat.add o (Nat.mul n sz)))) (wv (ixS T t u v) q)) (wv (ixS T t u v) q) with h5 | ⟨k', n, rfl, h5⟩
    · exact h5
    rw [h5]
    cases hb : Nat.ble (Nat.succ n) m with
    | false => rfl
    | true =>
      rw [bR_t]
      have hb' : Nat.blt n m = true := hb
      have : ixS T t u (.int k' (.ofNat n)) = some (.ptr b (o + n * sz)) := by
        rcases hu with rfl | rfl <;> simp only [ixS, natV, indexAtV, h1, h2, hb', h3]
      rw [this]; rfl
  | ixs t => rfl
  | idt t =>
    obtain ⟨s, b, z, g, h1⟩ := h
    show bIdt T t u v H q = wv (idxS T t u v) q
    unfold bIdt
    rcases asStr_ok u (fun l => asNat v (fun _ n => wvz (nthQ l n) (fun c => q (.int .u8 (.ofNat c))) (wv (idxS T t u v) q)) (wv (idxS T t u v) q)) (wv (idxS T t u v) q) with h2 | ⟨l, rfl, h2⟩
    · exact h2
    rw [h2]
    rcases asNat_ok v (fun _ n => wvz (nthQ l n) (fun c => q (.int .u8 (.ofNat c))) (wv (idxS T t (.str l) v) q)) (wv (idxS T t (.str l) v) q) with h5 | ⟨k', n, rfl, h5⟩
    · exact h5
    rw [h5]
    rcases wvz_ok (nthQ l n) (fun c => q (.int .u8 (.ofNat c))) (wv (idxS T t (.str l) (.int k' (.ofNat n))) q) with h6 | ⟨c, hc, h6⟩
    · exact h6
    rw [h6]
    rw [nthQ_eq] at hc
    simp only [idxS, natV, indexV, h1, hc]; rfl
  | idx t => rfl
  | lk t ok => rfl
end Go.Proofs.YtkbmmoobcikbaaaGreatDoor.Ev
namespace Go.Proofs.YtkbmmoobcikbaaaGreatDoor.Ev
open Go Go.RowKit

variable {P : Program} {T : Tb} {H : Hp} {N : Nat}
/-! any number of values -/
inductive An where
  | build (t : TypeId) (is : List Nat)
  | bsl (t : TypeId) (n : Nat) (is : List Nat)
  | app (t t2 : TypeId)
  | st (t : TypeId)
  | mkf (fn : Fn) (na : Nat)
noncomputable def stS (T : Tb) (H : Hp) (t : TypeId) (a v : AV) : Option (AV × Hp) := match a with
  | .ptr b o => match storeV T H T.lo t b o v with
    | some H' => some (.tup [], H')
    | none => none
  | _ => none
noncomputable def specA (T : Tb) (k : An) (vs : List AV) (H : Hp) : Option (AV × Hp) := match k with
  | .build t is => keep H (buildV T t (is.zip vs))
  | .bsl t n is => buildSliceV T H t n (is.zip vs)
  | .app t t2 => match vs with
    | [s, x] => appendW T H T.lo t t2 s x
    | _ => none
  | .st t => match vs with
    | [a, v] => stS T H t a v
    | _ => none
  | .mkf fn na => some (.fn fn (vs.take na) (vs.drop na), H)
inductive Ins where
  | u (k : U) (x : Od)
  | b (k : Bn) (x y : Od)
  | st1 (t : TypeId) (x y : Od)
  | box (t : TypeId) (x : Od)
  | al (t : TypeId) (cs : List AV)
  | a (k : An) (xs : List Od)
  | pick (c x y : Od)
  | call (g : FuncId) (xs : List Od)
  | slow (op : Op)
  | slowo (op : Op)
noncomputable def evL (xs : List Od) : Fr → (List AV → Rs) → Rs := @List.rec Od (fun _ => Fr → (List AV → Rs) → Rs) (fun _ q => q []) (fun x _ ih F q => rdO x F (fun v => ih F (fun vs => q (v :: vs)))) xs
/-- One operation as opsV takes it. -/
noncomputable def stepV (T : Tb) (call : CallF) (f : Tr AV) (H : Hp) (op : Op) : Option (AV × Hp) := match opV T call f H op with
  | some r => some r
  | none => match commV T f H op with
    | some r => some r
    | none => yopV T call f H op
abbrev XF := CallF → Fr → Hp → (AV → Hp → Rs) → Rs
noncomputable def xU (T : Tb) (k : U) (x : Od) : XF := fun _ F H q => rdO x F (fun v => runU T k v H (fun r => q r H))
noncomputable def xB (T : Tb) (k : Bn) (x y : Od) : XF := fun _ F H q => rdO x F (fun u => rdO y F (fun v => runB T k u v H (fun r => q r H)))
noncomputable def st1Q (T : Tb) (t : TypeId) (a v : AV) (H : Hp) (q : AV → Hp → Rs) : Rs :=
  asPtr a (fun b o => cellsQ (Hp.get H b) (fun t' cs p => asOne v (fun _ => bR (Nat.ble (Tb.lo T) b) (wvz (nthQ cs o) (fun _ => q (.tup []) (Hp.put H b (.cells t' (setQ v o cs) p))) (wp (stS T H t a v) q)) (wp (stS T H t a v) q)) (wp (stS T H t a v) q)) (wp (stS T H t a v) q)) (wp (stS T H t a v) q)
noncomputable def xSt (T : Tb) (t : TypeId) (x y : Od) : XF := fun _ F H q => rdO x F (fun a => rdO y F (fun v => st1Q T t a v H q))
noncomputable def xBox (t : TypeId) (x : Od) : XF := fun _ F H q => rdO x F (fun v => asCells v (fun cs => q (.ptr (Hp.nx H) 0) (Hp.new H (.cells t cs false))) (wp (boxV H t v) q))
noncomputable def xAl (t : TypeId) (cs : List AV) : XF := fun _ _ H q => q (.ptr (Hp.nx H) 0) (Hp.new H (.cells t cs false))
noncomputable def xA (T : Tb) (k : An) (xs : List Od) : XF := fun _ F H q => evL xs F (fun vs => wp (specA T k vs H) q)
noncomputable def xPick (c x y : Od) : XF := fun _ F H q => rdO c F (fun v => asBool v (fun b => bR b (rdO x F (fun r => q r H)) (rdO y F (fun r => q r H))) .bad)
noncomputable def xCall (g : FuncId) (xs : List Od) : XF := fun call F H q => evL xs F (fun vs => wp (call g vs H) q)
noncomputable def xSlow (T : Tb) (op : Op) : XF := fun call F H q => wp (stepV T call (trF F) H op) q
noncomputable def xSlowo (T : Tb) (op : Op) : XF := fun call F H q => wp (opV T call (trF F) H op) q
noncomputable def exec (T : Tb) (i : Ins) : XF := @Ins.rec (fun _ => XF) (xU T) (xB T) (xSt T) xBox xAl (xA T) xPick xCall (xSlow T) (xSlowo T) i

/-! .. as functions -/
structure X where
  run : XF
noncomputable def yU (k : UX) (x : Od) : XF := fun _ F H q => rdO x F (fun v => UX.run k v H (fun r => q r H))
noncomputable def yB (k : BX) (x y : Od) : XF := fun _ F H q => rdO x F (fun u => rdO y F (fun v => BX.run k u v H (fun r => q r H)))
noncomputable def xOf (T : Tb) (i : Ins) : X := match i with
  | .u k x => ⟨yU (uxOf T k) x⟩
  | .b k x y => ⟨yB (bxOf T k) x y⟩
  | .st1 t x y => ⟨xSt T t x y⟩
  | .box t x => ⟨xBox t x⟩
  | .al t cs => ⟨xAl t cs⟩
  | .a k xs => ⟨xA T k xs⟩
  | .pick c x y => ⟨xPick c x y⟩
  | .call g xs => ⟨xCall g xs⟩
  | .slow op => ⟨xSlow T op⟩
  | .slowo op => ⟨xSlowo T op⟩
theorem xOf_eq (T : Tb) (i : Ins) : (xOf T i).run = exec T i := by
  cases i with
  | u k x => show yU (uxOf T k) x = xU T k x; unfold yU xU; rw [uxOf_eq]
  | b k x y => show yB (bxOf T k) x y = xB T k x y; unfold yB xB; rw [bxOf_eq]
  | _ => rfl
/-! operations as instructions -/
noncomputable def lenI (T : Tb) (t : TypeId) : U := match T.ty t with
  | some ⟨.slice _, _, _, _, _⟩ => .lenl t
  | some ⟨.string, _, _, _, _⟩ => .lent t
  | _ => .lens t
noncomputable def ldI (T : Tb) (t : TypeId) : U := match T.ty t with
  | some i => match i.agg, Nat.blt 0 i.size with
    | false, _ => .ld1 t
    | true, true => .ldn t i.size
    | true, false => .lds t
  | none => .lds t
noncomputable def fldI (T : Tb) (t : TypeId) (n : Nat) : U := match fieldV T t (.ptr 0 0) n with
  | some (.ptr 0 off) => .fld t n off
  | _ => .flds t n
noncomputable def cvtI (T : Tb) (s d : TypeId) : Option U := match T.ty s, T.ty d with
  | some _, some j => match j.und with
    | .int k => some (.cvt s d k)
    | _ => none
  | _, _ => none
noncomputable def ixI (T : Tb) (t : TypeId) : Bn := match T.ty t with
  | some ⟨.slice e, _, _, _, _⟩ => match T.ty e with
    | some i => .ix t i.size
    | none => .ixs t
  | _ => .ixs t
noncomputable def idxI (T : Tb) (t : TypeId) : Bn := match T.ty t with
  | some ⟨.string, _, _, _, _⟩ => .idt t
  | _ => .idx t
noncomputable def unI (op : UnOp) : U := match op with
  | .not => .unot
  | op => .un op
noncomputable def odsOf (xs : List Operand) : List Od := xs.map odOf
noncomputable def insOf (T : Tb) (op : Op) : Ins := match op with
  | .move x => .u .mv (odOf x)
  | .assign x => .u .mv (odOf x)
  | .nilCheck x => .u .nilc (odOf x)
  | .load t x => .u (ldI T t) (odOf x)
  | .fieldAddr t x n => .u (fldI T t n) (odOf x)
  | .extract x i => .u (.ext i) (odOf x)
  | .unOp op _ x => .u (unI op) (odOf x)
  | .convert s d x => match cvtI T s d with
    | some k => .u k (odOf x)
    | none => .slow (.convert s d x)
  | .field t x n => .u (.fo t n) (odOf x)
  | .makeInterface t x => .u (.mki t) (odOf x)
  | .typeAssert x _ a ok => .u (.asr a ok) (odOf x)
  | .binOp op t x y _ => .b (.bin op t x y) (odOf x) (odOf y)
  | .indexAddr t x i => .b (ixI T t) (odOf x) (odOf i)
  | .index t x i => .b (idxI T t) (odOf x) (odOf i)
  | .lookup t x k ok => .b (.lk t ok) (odOf x) (odOf k)
  | .store t a x => match T.ty t with
    | some i => match Nat.beq i.size 1 with
      | true => .st1 t (odOf a) (odOf x)
      | false => .a (.st t) [odOf a, odOf x]
    | none => .slow (.store t a x)
  | .box e x => .box e (odOf x)
  | .alloc e => match T.ty e with
    | some i => match i.zero with
      | some z => .al e (avCells z)
      | none => .slow (.alloc e)
    | none => .slow (.alloc e)
  | .pick c a b => .pick (odOf c) (odOf a) (odOf b)
  | .build t parts => .a (.build t (parts.toList.map (·.1))) (odsOf (parts.toList.map (·.2)))
  | .buildSlice t n parts => .a (.bsl t n (parts.toList.map (·.1))) (odsOf (parts.toList.map (·.2)))
  | .makeFunc fn a c => .a (.mkf fn a.toList.length) (odsOf (a.toList ++ c.toList))
  | .call c => match c.callee with
    | .value (.func g) => .call g (odsOf c.args.toList)
    | .builtin .len => match c.argTypes[0]?, c.args.toList with
      | some t, [x] => .u (lenI T t) (odOf x)
      | _, _ => .slow (.call c)
    | .builtin .append => match c.argTypes[0]?, c.argTypes[1]?, c.args.toList with
      | some t, some t2, [s, x] => .a (.app t t2) [odOf s, odOf x]
      | _, _, _ => .slow (.call c)
    | _ => .slow (.call c)
  | op => .slow op
def XOk (T : Tb) (op : Op) (i : Ins) : Prop := ∀ call F H q, exec T i call F H q = .bad ∨ ∃ v H', stepV T call (trF F) H op = some (v, H') ∧ exec T i call F H q = q v H'
def XOkO (T : Tb) (op : Op) (i : Ins) : Prop := ∀ call F H q, exec T i call F H q = .bad ∨ ∃ v H', opV T call (trF F) H op = some (v, H') ∧ exec T i call F H q = q v H'
def XOr (T : Tb) (op : Op) (i : Ins) : Prop := XOkO T op i ∨ i = .slow op
theorem XOkO.to {op : Op} {i : Ins} (h : XOkO T op i) : XOk T op i := fun call F H q => by
  rcases h call F H q with h | ⟨v, H', h1, h2⟩
  · exact .inl h
  · exact .inr ⟨v, H', by rw [stepV, h1], h2⟩
theorem evL_ok {F : Fr} : ∀ (xs : List Operand) (q : List AV → Rs), evL (odsOf xs) F q = .bad ∨ ∃ vs, evalOs (trF F) xs = some vs ∧ evL (odsOf xs) F q = q vs
  | [], q => .inr ⟨[], rfl, rfl⟩
  | x :: r, q => by
    show rdO (odOf x) F (fun v => evL (odsOf r) F (fun vs => q (v :: vs))) = .bad ∨ ∃ vs, evalOs (trF F) (x :: r) = some vs ∧ rdO (odOf x) F (fun v => evL (odsOf r) F (fun vs => q (v :: vs))) = q vs
    rw [rdO_eq]
    rcases wv_ok (getO (odOf x) F) (fun v => evL (odsOf r) F (fun vs => q (v :: vs))) with h | ⟨v, hv, h⟩
    · exact .inl h
    rw [h]
    rcases evL_ok r (fun vs => q (v :: vs)) with h1 | ⟨vs, h1, h2⟩
    · exact .inl h1
    · exact .inr ⟨v :: vs, by rw [evalOs, getO_ok hv, h1], h2⟩
theorem evalP_zip {f : Tr AV} : ∀ (ps : List (Nat × Operand)) (vs : List AV), evalOs f (ps.map (·.2)) = some vs → evalP f ps = some ((ps.map (·.1)).zip vs)
  | [], vs, h => by cases h; rfl
  | (i, x) :: r, vs, h => by
    rw [List.map_cons, evalOs] at h
    split at h
    · cases h
    rename_i v hv
    split at h
    · cases h
    rename_i l hl
    cases h
    have hv : evalO f x = some v := hv
    rw [evalP, hv, evalP_zip r l hl]; rfl
theorem evalOs_append {f : Tr AV} : ∀ (xs ys : List Operand) (vs : List AV), evalOs f (xs ++ ys) = some vs → evalOs f xs = some (vs.take xs.length) ∧ evalOs f ys = some (vs.drop xs.length)
  | [], ys, vs, h => ⟨by simp [evalOs], by simpa using h⟩
  | x :: r, ys, vs, h => by
    rw [List.cons_append, evalOs] at h
    split at h
    · cases h
    rename_i v hv
    split at h
    · cases h
    rename_i l hl
    cases h
    obtain ⟨h1, h2⟩ := evalOs_append r ys l hl
    exact ⟨by rw [evalOs, hv, h1]; rfl, by simpa using h2⟩
theorem XOk.u {op : Op} {k : U} {x : Operand} (hk : UOk T k) (h : ∀ call f H v r, evalO f x = some v → specU T k v H = some r → opV T call f H op = some (r, H)) : XOkO T op (.u k (odOf x)) := fun call F H q => by
  show xU T k (odOf x) call F H q = .bad ∨ ∃ v H', _ ∧ xU T k (odOf x) call F H q = q v H'
  unfold xU
  simp only [rdO_eq]
  rcases wv_ok (getO (odOf x) F) (fun v => runU T k v H (fun r => q r H)) with h1 | ⟨v, hv, h1⟩
  · exact .inl h1
  rw [h1, runU_eq hk]
  rcases wv_ok (specU T k v H) (fun r => q r H) with h2 | ⟨r, hr, h2⟩
  · exact .inl h2
  · exact .inr ⟨r, H, h call (trF F) H v r (getO_ok hv) hr, h2⟩
theorem XOk.b {op : Op} {k : Bn} {x y : Operand} (hk : BnOk T k) (h : ∀ call f H u v r, evalO f x = some u → evalO f y = some v → specB T k u v H = some r → opV T call f H op = some (r, H)) : XOkO T op (.b k (odOf x) (odOf y)) := fun call F H q => by
  show xB T k (odOf x) (odOf y) call F H q = .bad ∨ ∃ v H', _ ∧ xB T k (odOf x) (odOf y) call F H q = q v H'
  unfold xB
  simp only [rdO_eq]
  rcases wv_ok (getO (odOf x) F) (fun u => wv (getO (odOf y) F) (fun v => runB T k u v H (fun r => q r H))) with h1 | ⟨u, hu, h1⟩
  · exact .inl h1
  rw [h1]
  rcases wv_ok (getO (odOf y) F) (fun v => runB T k u v H (fun r => q r H)) with h1 | ⟨v, hv, h1⟩
  · exact .inl h1
  rw [h1, runB_eq hk]
  rcases wv_ok (specB T k u v H) (fun r => q r H) with h2 | ⟨r, hr, h2⟩
  · exact .inl h2
  · exact .inr ⟨r, H, h call (trF F) H u v r (getO_ok hu) (getO_ok hv) hr, h2⟩
theorem XOk.a {op : Op} {k : An} {xs : List Operand} (h : ∀ call f H vs r, evalOs f xs = some vs → specA T k vs H = some r → opV T call f H op = some r) : XOkO T op (.a k (odsOf xs)) := fun call F H q => by
  show xA T k (odsOf xs) call F H q = .bad ∨ ∃ v H', _ ∧ xA T k (odsOf xs) call F H q = q v H'
  unfold xA
  rcases evL_ok (F := F) xs (fun vs => wp (specA T k vs H) q) with h1 | ⟨vs, hvs, h1⟩
  · exact .inl h1
  rw [h1]
  rcases wp_ok (specA T k vs H) q with h2 | ⟨v, H', hr, h2⟩
  · exact .inl h2
  · exact .inr ⟨v, H', h call (trF F) H vs _ hvs hr, h2⟩
theorem XOk.slow (op : Op) : XOk T op (.slow op) := fun call F H q => by
  show xSlow T op call F H q = .bad ∨ ∃ v H', _ ∧ xSlow T op call F H q = q v H'
  unfold xSlow
  rcases wp_ok (stepV T call (trF F) H op) q with h2 | ⟨v, H', hr, h2⟩
  · exact .inl h2
  · exact .inr ⟨v, H', hr, h2⟩
theorem ldI_ok (T : Tb) (t : TypeId) : UOk T (ldI T t) ∧ ∀ v H, specU T (ldI T t) v H = ldS T H t v := by
  unfold ldI
  split
  · rename_i i hi
    split
    · rename_i h1
      exact ⟨⟨i, hi, h1⟩, fun _ _ => rfl⟩
    · rename_i h1 h2
      exact ⟨⟨i, hi, h1, rfl, by simpa [Nat.blt_eq] using h2⟩, fun _ _ => rfl⟩
    · exact ⟨trivial, fun _ _ => rfl⟩
  · exact ⟨trivial, fun _ _ => rfl⟩
theorem lenI_ok (T : Tb) (t : TypeId) : UOk T (lenI T t) ∧ ∀ v H, specU T (lenI T t) v H = lenS T H t v := by
  unfold lenI
  split
  · rename_i h; exact ⟨⟨_, _, _, _, _, h⟩, fun _ _ => rfl⟩
  · rename_i h; exact ⟨⟨_, _, _, _, h⟩, fun _ _ => rfl⟩
  · exact ⟨trivial, fun _ _ => rfl⟩
theorem fieldV_at {t : TypeId} {n off : Nat} (h : fieldV T t (.ptr 0 0) n = some (.ptr 0 off)) (b o : Nat) : fieldV T t (.ptr b o) n = some (.ptr b (o + off)) := by
  unfold fieldV at h ⊢
  split at h
  · rename_i fs _ _ _ _ ht
    split at h
    · rename_i b0 o0 f hx hf
      cases hx
      simp only [hf]
      split at h
      · rename_i i hi
        split at h
        · rename_i h0
          cases h
          simp
        · cases h
      · cases h
    · cases h
  · cases h
theorem fldI_ok (T : Tb) (t : TypeId) (n : Nat) : UOk T (fldI T t n) ∧ ∀ v H, specU T (fldI T t n) v H = fieldV T t v n := by
  unfold fldI
  split
  · rename_i off h; exact ⟨fieldV_at h, fun _ _ => rfl⟩
  · exact ⟨trivial, fun _ _ => rfl⟩
theorem cvtI_ok {T : Tb} {s d : TypeId} {k : U} (h : cvtI T s d = some k) : UOk T k ∧ ∀ v H, specU T k v H = convV T s d v := by
  unfold cvtI at h
  split at h
  · rename_i i j hi hj
    split at h
    · rename_i k0 hk
      cases h
      exact ⟨⟨⟨_, hi⟩, j, hj, hk⟩, fun _ _ => rfl⟩
    · cases h
  · cases h
theorem ixI_ok (T : Tb) (t : TypeId) : BnOk T (ixI T t) ∧ ∀ u v H, specB T (ixI T t) u v H = ixS T t u v := by
  unfold ixI
  split
  · rename_i h
    split
    · rename_i i hi; exact ⟨⟨_, _, _, _, _, i, h, hi, rfl⟩, fun _ _ _ => rfl⟩
    · exact ⟨trivial, fun _ _ _ => rfl⟩
  · exact ⟨trivial, fun _ _ _ => rfl⟩
theorem idxI_ok (T : Tb) (t : TypeId) : BnOk T (idxI T t) ∧ ∀ u v H, specB T (idxI T t) u v H = idxS T t u v := by
  unfold idxI
  split
  · rename_i h; exact ⟨⟨_, _, _, _, h⟩, fun _ _ _ => rfl⟩
  · exact ⟨trivial, fun _ _ _ => rfl⟩
theorem unI_ok (T : Tb) (op : UnOp) : UOk T (unI op) ∧ ∀ v H, specU T (unI op) v H = unV op v := by
  cases op <;> exact ⟨trivial, fun _ _ => rfl⟩
theorem st1Q_ok (T : Tb) (t : TypeId) (a v : AV) (H : Hp) (q : AV → Hp → Rs) (h1 : ∃ i, T.ty t = some i ∧ i.size = 1) : st1Q T t a v H q = wp (stS T H t a v) q := by
  obtain ⟨i, h1, h2⟩ := h1
  unfold st1Q
  rcases asPtr_ok a (fun b o => cellsQ (Hp.get H b) (fun t' cs p => asOne v (fun _ => bR (Nat.ble (Tb.lo T) b) (wvz (nthQ cs o) (fun _ => q (.tup []) (Hp.put H b (.cells t' (setQ v o cs) p))) (wp (stS T H t a v) q)) (wp (stS T H t a v) q)) (wp (stS T H t a v) q)) (wp (stS T H t a v) q)) (wp (stS T H t a v) q) with h | ⟨b, o, ha, h⟩
  · exact h
  rw [h]
  rcases cellsQ_ok (Hp.get H b) (fun t' cs p => asOne v (fun _ => bR (Nat.ble (Tb.lo T) b) (wvz (nthQ cs o) (fun _ => q (.tup []) (Hp.put H b (.cells t' (setQ v o cs) p))) (wp (stS T H t a v) q)) (wp (stS T H t a v) q)) (wp (stS T H t a v) q)) (wp (stS T H t a v) q) with h | ⟨t', cs, p, hg, h⟩
  · exact h
  rw [h]
  rcases asOne_ok v (fun _ => bR (Nat.ble (Tb.lo T) b) (wvz (nthQ cs o) (fun _ => q (.tup []) (Hp.put H b (.cells t' (setQ v o cs) p))) (wp (stS T H t a v) q)) (wp (stS T H t a v) q)) (wp (stS T H t a v) q) with h | ⟨⟨k1, k2, k3⟩, h⟩
  · exact h
  rw [h]
  cases hb : Nat.ble (Tb.lo T) b with
  | false => rfl
  | true =>
    rw [bR_t]
    rcases wvz_ok (nthQ cs o) (fun _ => q (.tup []) (Hp.put H b (.cells t' (setQ v o cs) p))) (wp (stS T H t a v) q) with h | ⟨x, hx, h⟩
    · exact h
    rw [h]
    rw [nthQ_eq] at hx
    have hlt := (List.getElem?_eq_some_iff.1 hx).1
    have : stS T H t a v = some (.tup [], H.put b (.cells t' (setQ v o cs) p)) := by
      subst ha
      simp only [stS, storeV, h1, k3, k2, List.length_cons, List.length_nil, h2, storeH, hb, hg, ones, k1]
      rw [show Nat.ble (o + (0 + 1)) cs.length = true from Nat.ble_eq_true_of_le hlt, setQ_eq v o cs hlt]
    rw [this]; rfl
theorem insOf_or (T : Tb) (op : Op) : XOr T op (insOf T op) := by
  unfold insOf
  split
  · exact .inl <| XOk.u trivial fun call f H v r h1 h2 => by cases h2; simp [opV, vop, pickO, h1]
  · exact .inl <| XOk.u trivial fun call f H v r h1 h2 => by cases h2; simp [opV, vop, pickO, h1]
  · exact .inl <| XOk.u trivial fun call f H v r h1 h2 => by
      have h2 : nilS T v = some r := h2
      unfold nilS at h2
      simp only [opV, vop, h1]
      split at h2
      · rename_i h3; cases h2; simp [h3]
      · rename_i h3
        split at h2
        · rename_i h4; cases h2; simp [h3, h4]
        · cases h2
  · rename_i t x
    obtain ⟨k1, k2⟩ := ldI_ok T t
    exact .inl <| XOk.u k1 fun call f H v r h1 h2 => by
      rw [k2] at h2
      simp only [opV, vop, h1]
      unfold ldS at h2
      split at h2
      · simp [keep, h2]
      · cases h2
  · rename_i t x n
    obtain ⟨k1, k2⟩ := fldI_ok T t n
    exact .inl <| XOk.u k1 fun call f H v r h1 h2 => by
      rw [k2] at h2
      simp [opV, vop, h1, keep, h2]
  · exact .inl <| XOk.u trivial fun call f H v r h1 h2 => by
      have h2 : extS v _ = some r := h2
      unfold extS at h2
      split at h2
      · simp [opV, vop, h1, h2]
      · cases h2
  · rename_i op _ x
    obtain ⟨k1, k2⟩ := unI_ok T op
    exact .inl <| XOk.u k1 fun call f H v r h1 h2 => by
      rw [k2] at h2
      simp [opV, vop, h1, keep, h2]
  · rename_i s d x
    split
    · rename_i k hk
      obtain ⟨k1, k2⟩ := cvtI_ok hk
      exact .inl <| XOk.u k1 fun call f H v r h1 h2 => by
        rw [k2] at h2
        simp [opV, vop, h1, h2]
    · exact .inr rfl
  · exact .inl <| XOk.u trivial fun call f H v r h1 h2 => by
      have h2 : fieldOfV T _ v _ = some r := h2
      simp [opV, vop, h1, keep, h2]
  · exact .inl <| XOk.u trivial fun call f H v r h1 h2 => by
      have h2 : mkiS T _ v = some r := h2
      unfold mkiS at h2
      split at h2
      · rename_i i hi
        split at h2
        · rename_i h3; cases h2; simp [opV, vop, h1, hi, h3]
        · cases h2
      · cases h2
  · exact .inl <| XOk.u trivial fun call f H v r h1 h2 => by
      have h2 : assertV T _ _ v = some r := h2
      simp [opV, vop, h1, keep, h2]
  · exact .inl <| XOk.b trivial fun call f H u v r h1 h2 h3 => by
      have h3 : binS T _ _ _ _ u v = some r := h3
      unfold binS at h3
      simp only [opV, vop, h1, h2]
      split at h3
      · rename_i h4; cases h3; simp [h4]
      · rename_i h4; simp [h4, h3, keep]
  · rename_i t x i
    obtain ⟨k1, k2⟩ := ixI_ok T t
    exact .inl <| XOk.b k1 fun call f H u v r h1 h2 h3 => by
      rw [k2] at h3
      unfold ixS at h3
      split at h3
      · rename_i n hn; simp [opV, vop, h1, h2, natO, hn, h3, keep]
      · cases h3
  · rename_i t x i
    obtain ⟨k1, k2⟩ := idxI_ok T t
    exact .inl <| XOk.b k1 fun call f H u v r h1 h2 h3 => by
      rw [k2] at h3
      unfold idxS at h3
      split at h3
      · rename_i n hn; simp [opV, vop, h1, h2, natO, hn, h3, keep]
      · cases h3
  · exact .inl <| XOk.b trivial fun call f H u v r h1 h2 h3 => by
      have h3 : lookupV T H _ u v _ = some r := h3
      simp [opV, vop, h1, h2, h3, keep]
  · rename_i t a x
    split
    · rename_i i hi
      split
      · rename_i h1
        have h1 := Nat.eq_of_beq_eq_true h1
        refine .inl fun call F H q => ?_
        show xSt T t (odOf a) (odOf x) call F H q = .bad ∨ ∃ v H', _ ∧ xSt T t (odOf a) (odOf x) call F H q = q v H'
        unfold xSt
        simp only [rdO_eq]
        rcases wv_ok (getO (odOf a) F) (fun a => wv (getO (odOf x) F) (fun v => st1Q T t a v H q)) with h2 | ⟨u, hu, h2⟩
        · exact .inl h2
        rw [h2]
        rcases wv_ok (getO (odOf x) F) (fun v => st1Q T t u v H q) with h2 | ⟨v, hv, h2⟩
        · exact .inl h2
        rw [h2, st1Q_ok T t u v H q ⟨i, hi, h1⟩]
        rcases wp_ok (stS T H t u v) q with h3 | ⟨r, H', hr, h3⟩
        · exact .inl h3
        · refine .inr ⟨r, H', ?_, h3⟩
          unfold stS at hr
          split at hr
          · rename_i b o
            simp only [opV, vop, getO_ok hu, getO_ok hv]
            split at hr
            · rename_i H1 hs; cases hr; simp [hs]
            · cases hr
          · cases hr
      · exact .inl <| XOk.a (xs := [a, x]) fun call f H vs r h1 h2 => by
          rw [evalOs] at h1
          split at h1
          · cases h1
          rename_i u hu
          split at h1
          · cases h1
          rename_i l hl
          cases h1
          rw [evalOs] at hl
          split at hl
          · cases hl
          rename_i v hv
          simp only [evalOs] at hl
          cases hl
          have h2 : stS T H t u v = some r := h2
          unfold stS at h2
          split at h2
          · simp only [opV, vop, hu, hv]
            split at h2
            · rename_i H1 hs; cases h2; simp [hs]
            · cases h2
          · cases h2
    · exact .inr rfl
  · rename_i e x
    refine .inl fun call F H q => ?_
    show xBox e (odOf x) call F H q = .bad ∨ ∃ v H', _ ∧ xBox e (odOf x) call F H q = q v H'
    unfold xBox
    simp only [rdO_eq]
    rcases wv_ok (getO (odOf x) F) (fun v => asCells v (fun cs => q (.ptr (Hp.nx H) 0) (Hp.new H (.cells e cs false))) (wp (boxV H e v) q)) with h2 | ⟨v, hv, h2⟩
    · exact .inl h2
    rw [h2]
    have key : asCells v (fun cs => q (.ptr (Hp.nx H) 0) (Hp.new H (.cells e cs false))) (wp (boxV H e v) q) = wp (boxV H e v) q := by
      rcases asCells_ok v (fun cs => q (.ptr (Hp.nx H) 0) (Hp.new H (.cells e cs false))) (wp (boxV H e v) q) with h3 | ⟨h3, h4⟩
      · exact h3
      · rw [h4]; unfold boxV; rw [h3]; rfl
    rw [key]
    rcases wp_ok (boxV H e v) q with h3 | ⟨r, H', hr, h3⟩
    · exact .inl h3
    · exact .inr ⟨r, H', by simp [opV, vop, getO_ok hv, hr], h3⟩
  · rename_i e
    split
    · rename_i i hi
      split
      · rename_i z hz
        refine .inl fun call F H q => ?_
        obtain ⟨_, _, _, z0, _⟩ := i
        have hz : z0 = some z := hz
        subst hz
        exact .inr ⟨.ptr H.nx 0, H.new (.cells e (avCells z) false), by simp [opV, vop, allocV, hi], rfl⟩
      · exact .inr rfl
    · exact .inr rfl
  · rename_i c a b
    refine .inl fun call F H q => ?_
    show xPick (odOf c) (odOf a) (odOf b) call F H q = .bad ∨ ∃ v H', _ ∧ xPick (odOf c) (odOf a) (odOf b) call F H q = q v H'
    unfold xPick
    simp only [rdO_eq]
    rcases wv_ok (getO (odOf c) F) (fun v => asBool v (fun b1 => bR b1 (wv (getO (odOf a) F) (fun r => q r H)) (wv (getO (odOf b) F) (fun r => q r H))) .bad) with h2 | ⟨v, hv, h2⟩
    · exact .inl h2
    rw [h2]
    rcases asBool_ok v (fun b1 => bR b1 (wv (getO (odOf a) F) (fun r => q r H)) (wv (getO (odOf b) F) (fun r => q r H))) .bad with h3 | ⟨b1, rfl, h3⟩
    · exact .inl h3
    rw [h3]
    cases b1 with
    | true =>
      rw [bR_t]
      rcases wv_ok (getO (odOf a) F) (fun r => q r H) with h4 | ⟨r, hr, h4⟩
      · exact .inl h4
      · exact .inr ⟨r, H, by simp [opV, vop, getO_ok hv, pickO, getO_ok hr], h4⟩
    | false =>
      rw [bR_f]
      rcases wv_ok (getO (odOf b) F) (fun r => q r H) with h4 | ⟨r, hr, h4⟩
      · exact .inl h4
      · exact .inr ⟨r, H, by simp [opV, vop, getO_ok hv, pickO, getO_ok hr], h4⟩
  · exact .inl <| XOk.a fun call f H vs r h1 h2 => by
      have h2 : keep H (buildV T _ (List.zip _ vs)) = some r := h2
      simp [opV, vop, evalP_zip _ _ h1, h2]
  · exact .inl <| XOk.a fun call f H vs r h1 h2 => by
      have h2 : buildSliceV T H _ _ (List.zip _ vs) = some r := h2
      simp [opV, vop, evalP_zip _ _ h1, h2]
  · exact .inl <| XOk.a fun call f H vs r h1 h2 => by
      obtain ⟨h3, h4⟩ := evalOs_append _ _ _ h1
      cases h2
      simp [opV, vop, h3, h4]
  · rename_i c
    split
    · rename_i _ g hc
      refine .inl fun call F H q => ?_
      show xCall g (odsOf c.args.toList) call F H q = .bad ∨ ∃ v H', _ ∧ xCall g (odsOf c.args.toList) call F H q = q v H'
      unfold xCall
      rcases evL_ok (F := F) c.args.toList (fun vs => wp (call g vs H) q) with h1 | ⟨vs, hvs, h1⟩
      · exact .inl h1
      rw [h1]
      rcases wp_ok (call g vs H) q with h2 | ⟨v, H', hr, h2⟩
      · exact .inl h2
      · refine .inr ⟨v, H', ?_, h2⟩
        simp only [opV, hc, evalO, hvs, List.nil_append, List.append_nil, hr]
    · rename_i hc
      split
      · rename_i _ _ t x ht hx
        obtain ⟨k1, k2⟩ := lenI_ok T t
        exact .inl <| XOk.u k1 fun call f H v r h1 h2 => by
          rw [k2] at h2
          unfold lenS at h2
          simp only [opV, hc, vop, hx, evalOs, h1, builtinV, ht]
          split at h2
          · rename_i h4; cases h2; simp [h4]
          · rename_i h4
            split at h2
            · rename_i h5; cases h2; simp [h4, h5]
            · cases h2
      · exact .inr rfl
    · rename_i hc
      split
      · rename_i _ _ _ t t2 s x ht ht2 hx
        have := XOk.a (T := T) (op := .call c) (k := .app t t2) (xs := [s, x]) fun call f H vs r h1 h2 => by
          rw [← hx] at h1
          have h2 : specA T (.app t t2) vs H = some r := h2
          rw [hx] at h1
          rw [evalOs] at h1
          split at h1
          · cases h1
          rename_i u hu
          split at h1
          · cases h1
          rename_i l hl
          cases h1
          rw [evalOs] at hl
          split at hl
          · cases hl
          rename_i v hv
          simp only [evalOs] at hl
          cases hl
          have h2 : appendW T H T.lo t t2 u v = some r := h2
          simp only [opV, hc, vop, hx, evalOs, hu, hv, builtinV, ht, ht2, h2]
        exact .inl this
      · exact .inr rfl
    · exact .inr rfl
  · exact .inr rfl
theorem insOf_ok (T : Tb) (op : Op) : XOk T op (insOf T op) := by
  rcases insOf_or T op with h | h
  · exact h.to
  · rw [h]; exact XOk.slow _
/-- .. where nothing but what opV takes will do. -/
noncomputable def insO (T : Tb) (op : Op) : Ins := match insOf T op with
  | .slow _ => .slowo op
  | i => i
theorem slowo_ok (op : Op) : XOkO T op (.slowo op) := fun call F H q => by
  show xSlowo T op call F H q = .bad ∨ ∃ v H', _ ∧ xSlowo T op call F H q = q v H'
  unfold xSlowo
  rcases wp_ok (opV T call (trF F) H op) q with h2 | ⟨v, H', hr, h2⟩
  · exact .inl h2
  · exact .inr ⟨v, H', hr, h2⟩
theorem insO_ok (T : Tb) (op : Op) : XOkO T op (insO T op) := by
  unfold insO
  have h := insOf_or T op
  split
  · exact slowo_ok _
  · rename_i i hne
    rcases h with h | h
    · exact h
    · exact absurd h (hne op)
end Go.Proofs.YtkbmmoobcikbaaaGreatDoor.Ev
namespace Go.Proofs.YtkbmmoobcikbaaaGreatDoor.Ev
open Go Go.RowKit

variable {P : Program} {T : Tb} {l : Env} {H : Hp} {w : World} {N : Nat} {Ds0 : List Deferred} {a : Act} {Q : Exit → Act → World → Prop}
/-! regions, as functions -/
abbrev RF := CallF → Fr → Hp → Rs
structure IL where
  run : RF
noncomputable def bEq (x : Bool) : Bool → Bool := @Bool.rec (fun _ => Bool → Bool) (fun b => @Bool.rec (fun _ => Bool) true false b) (fun b => b) x
theorem bEq_eq (x b : Bool) : bEq x b = (x == b) := by cases x <;> cases b <;> rfl
noncomputable def asGrd (u : AV) : Bool → Rs → Rs → Rs := @AV.rec (fun _ => Bool → Rs → Rs → Rs) (fun _ => Unit) (fun x b y z => bR (bEq x b) y z) (fun _ _ _ _ _ => .bad) (fun _ _ _ _ => .bad) (fun _ _ _ => .bad) (fun _ _ _ _ _ => .bad) (fun _ _ _ => .bad) (fun _ _ _ _ _ _ _ => .bad) (fun _ _ _ _ _ _ _ => .bad) (fun _ _ _ => .bad) (fun _ _ _ _ => .bad) (fun _ _ _ _ => .bad) (fun _ _ _ _ _ _ _ _ => .bad) (fun _ _ _ => .bad) (fun _ _ _ _ _ _ => .bad) (fun _ _ _ => .bad) (fun _ _ _ _ _ => .bad) (fun _ _ _ _ z => z) (fun _ _ _ _ => .bad) (fun _ _ _ _ => .bad) () (fun _ _ _ _ => ()) u
theorem asGrd_ok (u : AV) (b : Bool) (y z : Rs) : asGrd u b y z = .bad ∨ (∃ x, u = .bool x ∧ asGrd u b y z = bR (x == b) y z) ∨ (∃ l, u = .tup l) ∧ asGrd u b y z = z := by
  cases u <;> first | exact .inl rfl | exact .inr (.inl ⟨_, rfl, by rw [← bEq_eq]; rfl⟩) | exact .inr (.inr ⟨⟨_, rfl⟩, rfl⟩)
noncomputable def ilN : RF := fun _ F H => .ok .normal F H
noncomputable def ilB : RF := fun _ _ _ => .bad
noncomputable def ilI (x : X) (d : Ds) (r : IL) : RF := fun call F H => X.run x call F H (fun v H' => IL.run r call (setD d v F) H')
noncomputable def ilG (x : Od) (b : Bool) (i : X) (d : Ds) (r : IL) : RF := fun call F H =>
  rdO x F (fun u => asGrd u b (X.run i call F H (fun v H' => IL.run r call (setD d v F) H')) (IL.run r call (setD d (.tup []) F) H))
noncomputable def ilMv (x : Od) (d : Ds) (r : IL) : RF := fun call F H => rdO x F (fun v => IL.run r call (setD d v F) H)
noncomputable def ilBin (T : Tb) (f : FX) (op : BinOp) (t : TypeId) (ox oy : Operand) (x y : Od) (d : Ds) (r : IL) : RF := fun call F H => rdO x F (fun u => rdO y F (fun v => FX.f f u v (fun z => IL.run r call (setD d z F) H) (wv (binS T op t ox oy u v) (fun z => IL.run r call (setD d z F) H))))
noncomputable def ilC (T : Tb) (ins : Ins) (d : Ds) (r : IL) : IL := match ins with
  | .u k x => match k with
    | .mv => ⟨ilMv x d r⟩
    | k => ⟨ilI (xOf T (.u k x)) d r⟩
  | .b k x y => match k with
    | .bin op t ox oy => ⟨ilBin T (fxOf op) op t ox oy x y d r⟩
    | k => ⟨ilI (xOf T (.b k x y)) d r⟩
  | i => ⟨ilI (xOf T i) d r⟩
noncomputable def ilOf (T : Tb) (N : Nat) (ops : Array Oper) : List Oper → IL
  | [] => ⟨ilN⟩
  | o :: r => match dsOf N o.dst with
    | none => ⟨ilB⟩
    | some d => match o.guard with
      | none => ilC T (insOf T o.op) d (ilOf T N ops r)
      | some (j, b) => match ops[j]? with
        | some oj => match oj.dst with
          | some dj => ⟨ilG (odOf (.tmp dj)) b (xOf T (insOf T o.op)) d (ilOf T N ops r)⟩
          | none => ⟨ilB⟩
        | none => ⟨ilB⟩
noncomputable def runIL (_ : Tb) (i : IL) : RF := IL.run i
theorem ilC_run (T : Tb) (ins : Ins) (d : Ds) (r : IL) (call : CallF) (F : Fr) (H : Hp) : runIL T (ilC T ins d r) call F H = exec T ins call F H (fun v H' => runIL T r call (setD d v F) H') := by
  have gen : ∀ i : Ins, runIL T ⟨ilI (xOf T i) d r⟩ call F H = exec T i call F H (fun v H' => runIL T r call (setD d v F) H') := fun i => by
    show (xOf T i).run call F H (fun v H' => IL.run r call (setD d v F) H') = _
    rw [xOf_eq]; rfl
  cases ins with
  | u k x => cases k <;> first | rfl | exact gen _
  | b k x y =>
    cases k <;> first | exact gen _ | skip
    rename_i op t ox oy
    show rdO x F (fun u => rdO y F (fun v => (fxOf op).f u v (fun z => IL.run r call (setD d z F) H) (wv (binS T op t ox oy u v) (fun z => IL.run r call (setD d z F) H)))) = _
    rw [fxOf_eq]; rfl
  | _ => exact gen _
theorem ilG_run (T : Tb) (x : Od) (b : Bool) (i : Ins) (d : Ds) (r : IL) (call : CallF) (F : Fr) (H : Hp) : runIL T ⟨ilG x b (xOf T i) d r⟩ call F H = rdO x F (fun u => asGrd u b (exec T i call F H (fun v H' => runIL T r call (setD d v F) H')) (runIL T r call (setD d (.tup []) F) H)) := by
  show rdO x F (fun u => asGrd u b ((xOf T i).run call F H (fun v H' => IL.run r call (setD d v F) H')) (IL.run r call (setD d (.tup []) F) H)) = _
  rw [xOf_eq]; rfl
theorem stepV_ok (hT : TbOk P T) {call : CallF} (hcall : CallOk P T call) (hr : HR T.sz l H w) {f : Tr AV} (hf : FR N Ds0 l f a) {ops : Array Oper} {i : Nat} {is : List Nat} {o : Oper} (ho : ops[i]? = some o) (hw : Region.wanted o (yielded ops a.tmps) = true) {v : AV} {H' : Hp} (e : stepV T call f H o.op = some (v, H'))
    (h : ∀ l' x w', VR l' v x → Kp T.sz T.lo l H w l' H' w' → CSemL P ops Q is (a.put o.dst x) w') : CSemL P ops Q (i :: is) a w := by
  unfold stepV at e
  split at e
  · rename_i hv
    cases e
    exact CSemL.op ho hw (opV_y hT hcall hr hf.ev hv h)
  · split at e
    · rename_i hv
      cases e
      exact commV_ok hT hr hf.ev ho hw hv fun x w1 h1 h2 => h _ _ _ h1 h2
    · exact yopV_ok hT hcall hr hf.ev ho hw e h
theorem Rs.ok_bad {e : Ex} {F : Fr} {H : Hp} {p : Prop} (h : Rs.bad = .ok e F H) : p := by cases h
theorem exec_norm {call : CallF} {ins : Ins} {op : Op} {F F' : Fr} {H H' : Hp} {ex : Ex} {q : AV → Hp → Rs} (hi : XOk T op ins) (hq : ∀ v H1, q v H1 = .ok ex F' H' → ex = .normal) (h : exec T ins call F H q = .ok ex F' H') : ex = .normal := by
  rcases hi call F H q with h1 | ⟨v, H1, -, h1⟩
  · rw [h1] at h; exact Rs.ok_bad h
  · rw [h1] at h; exact hq _ _ h
theorem il_normal {call : CallF} {ops : Array Oper} : ∀ {r : List Oper} {F F' : Fr} {H H' : Hp} {ex : Ex}, runIL T (ilOf T N ops r) call F H = .ok ex F' H' → ex = .normal
  | [], F, F', H, H', ex, h => by cases h; rfl
  | o :: r, F, F', H, H', ex, h => by
    rw [ilOf] at h
    split at h
    · exact Rs.ok_bad h
    rename_i d hd
    split at h
    · rw [ilC_run] at h
      exact exec_norm (insOf_ok T o.op) (fun v H1 h => il_normal h) h
    · rename_i j b hg
      split at h
      · split at h
        · rename_i oj _ _ dj _
          have e : rdO (odOf (.tmp dj)) F (fun u => asGrd u b (exec T (insOf T o.op) call F H (fun v H' => runIL T (ilOf T N ops r) call (setD d v F) H')) (runIL T (ilOf T N ops r) call (setD d (.tup []) F) H)) = .ok ex F' H' := by rw [← ilG_run]; exact h
          rw [rdO_eq] at e
          rcases wv_ok (getO (odOf (.tmp dj)) F) (fun u => asGrd u b (exec T (insOf T o.op) call F H (fun v H' => runIL T (ilOf T N ops r) call (setD d v F) H')) (runIL T (ilOf T N ops r) call (setD d (.tup []) F) H)) with h1 | ⟨u, hu, h1⟩
          · rw [h1] at e; exact Rs.ok_bad e
          rw [h1] at e
          rcases asGrd_ok u b (exec T (insOf T o.op) call F H (fun v H' => runIL T (ilOf T N ops r) call (setD d v F) H')) (runIL T (ilOf T N ops r) call (setD d (.tup []) F) H) with h2 | ⟨x, -, h2⟩ | ⟨-, h2⟩
          · rw [h2] at e; exact Rs.ok_bad e
          · rw [h2] at e
            cases hx : (x == b) with
            | true => rw [hx] at e; exact exec_norm (insOf_ok T o.op) (fun v H1 h => il_normal h) e
            | false => rw [hx] at e; exact il_normal e
          · rw [h2] at e; exact il_normal e
        · exact Rs.ok_bad h
      · exact Rs.ok_bad h
theorem ilOf_ok (hT : TbOk P T) {call : CallF} (hcall : CallOk P T call) {ops : Array Oper} : ∀ {r : List Oper} {k : Nat} {F F' : Fr} {H H' : Hp} {ex : Ex} {l : Env} {a : Act} {w : World}, (∀ j, r[j]? = ops[k + j]?) → runIL T (ilOf T N ops r) call F H = .ok ex F' H' → FRF N Ds0 l F a → HR T.sz l H w →
    ((∀ l' a' w', FRF N Ds0 l' F' a' → Kp T.sz T.lo l H w l' H' w' → Q .normal a' w') → CSemL P ops Q (List.range' k r.length) a w) ∧ ex = .normal
  | [], k, F, F', H, H', ex, l, a, w, _, e, hf, hr => by
    cases e
    exact ⟨fun hQ => CSemL.nil (hQ _ _ _ hf (.refl hr)), rfl⟩
  | o :: r, k, F, F', H, H', ex, l, a, w, hk, e, hf, hr => by
    have h0 : ops[k]? = some o := by simpa using (hk 0).symm
    have hk' : ∀ j, r[j]? = ops[(k + 1) + j]? := fun j => by have := hk (j + 1); simpa [Nat.add_assoc, Nat.add_comm 1 j] using this
    rw [List.length_cons, List.range'_succ]
    rw [ilOf] at e
    split at e
    · exact Rs.ok_bad e
    rename_i d hd
    have run : ∀ {e' : Rs}, e' = exec T (insOf T o.op) call F H (fun v H' => runIL T (ilOf T N ops r) call (setD d v F) H') → e' = .ok ex F' H' → Region.wanted o (yielded ops a.tmps) = true →
        ((∀ l' a' w', FRF N Ds0 l' F' a' → Kp T.sz T.lo l H w l' H' w' → Q .normal a' w') → CSemL P ops Q (k :: List.range' (k + 1) r.length) a w) ∧ ex = .normal := by
      intro e' h1 h2 hw
      subst h1
      rcases insOf_ok T o.op call F H (fun v H' => runIL T (ilOf T N ops r) call (setD d v F) H') with h3 | ⟨v, H1, hs, h3⟩
      · rw [h3] at h2; exact Rs.ok_bad h2
      rw [h3] at h2
      refine ⟨fun hQ => stepV_ok hT hcall hr hf.fr h0 hw hs fun l1 x w1 g1 g2 => ?_, ?_⟩
      · exact (ilOf_ok hT hcall hk' h2 ((hf.mono g2.le).put hd g1) g2.hr).1 fun l2 a2 w2 k1 k2 => hQ _ _ _ k1 (g2.trans hr k2)
      · exact il_normal h2
    split at e
    · rename_i hg
      rw [ilC_run] at e
      exact run rfl e (wantV_ok hf.fr (by unfold wantV; rw [hg]))
    · rename_i j b hg
      split at e
      · rename_i oj hoj
        split at e
        · rename_i dj hdj
          have e : rdO (odOf (.tmp dj)) F (fun u => asGrd u b (exec T (insOf T o.op) call F H (fun v H' => runIL T (ilOf T N ops r) call (setD d v F) H')) (runIL T (ilOf T N ops r) call (setD d (.tup []) F) H)) = .ok ex F' H' := by rw [← ilG_run]; exact e
          rw [rdO_eq] at e
          rcases wv_ok (getO (odOf (.tmp dj)) F) (fun u => asGrd u b (exec T (insOf T o.op) call F H (fun v H' => runIL T (ilOf T N ops r) call (setD d v F) H')) (runIL T (ilOf T N ops r) call (setD d (.tup []) F) H)) with h1 | ⟨u, hu, h1⟩
          · rw [h1] at e; exact Rs.ok_bad e
          rw [h1] at e
          have hu : (trF F).get dj = some u := getO_ok hu
          have skip : runIL T (ilOf T N ops r) call (setD d (.tup []) F) H = .ok ex F' H' → Region.wanted o (yielded ops a.tmps) = false → ((∀ l' a' w', FRF N Ds0 l' F' a' → Kp T.sz T.lo l H w l' H' w' → Q .normal a' w') → CSemL P ops Q (k :: List.range' (k + 1) r.length) a w) ∧ ex = .normal := fun h2 hw =>
            ⟨fun hQ => CSemL.skip h0 hw ((ilOf_ok hT hcall hk' h2 (hf.put (x := undef) hd (.tup .nil)) hr).1 hQ), il_normal h2⟩
          rcases asGrd_ok u b (exec T (insOf T o.op) call F H (fun v H' => runIL T (ilOf T N ops r) call (setD d v F) H')) (runIL T (ilOf T N ops r) call (setD d (.tup []) F) H) with h2 | ⟨x, rfl, h2⟩ | ⟨⟨q, rfl⟩, h2⟩
          · rw [h2] at e; exact Rs.ok_bad e
          · rw [h2] at e
            have hw := wantV_ok (ops := ops) (o := o) hf.fr (b := x == b) (by unfold wantV; rw [hg]; simp only [hoj, hdj, hu])
            cases hx : (x == b) with
            | true => rw [hx] at e hw; exact run rfl e hw
            | false => rw [hx] at e hw; exact skip e hw
          · rw [h2] at e
            exact skip e (wantV_ok hf.fr (by unfold wantV; rw [hg]; simp only [hoj, hdj, hu]))
        · exact Rs.ok_bad e
      · exact Rs.ok_bad e
end Go.Proofs.YtkbmmoobcikbaaaGreatDoor.Ev
namespace Go.Proofs.YtkbmmoobcikbaaaGreatDoor.Ev
open Go Go.RowKit

variable {P : Program} {T : Tb} {lo : Nat} {H : Hp} {N : Nat}
def Mono (f f' : Tr AV) (xs : List Operand) : Prop := ∀ x ∈ xs, ∀ v, evalO f x = some v → evalO f' x = some v
theorem Mono.os {f f' : Tr AV} : ∀ {xs : List Operand} {vs : List AV}, Mono f f' xs → evalOs f xs = some vs → evalOs f' xs = some vs
  | [], _, _, h => h
  | x :: r, vs, hm, h => by
    rw [evalOs] at h
    split at h
    · cases h
    rename_i v hv
    split at h
    · cases h
    rename_i l hl
    rw [evalOs, hm x (by simp) v hv, Mono.os (fun y hy => hm y (by simp [hy])) hl]; exact h
theorem Mono.ps {f f' : Tr AV} : ∀ {ps : List (Nat × Operand)} {vs : List (Nat × AV)}, Mono f f' (ps.map (·.2)) → evalP f ps = some vs → evalP f' ps = some vs
  | [], _, _, h => h
  | (i, x) :: r, vs, hm, h => by
    rw [evalP] at h
    split at h
    · cases h
    rename_i v hv
    split at h
    · cases h
    rename_i l hl
    rw [evalP, hm x (by simp) v hv, Mono.ps (fun y hy => hm y (by simp at hy ⊢; exact .inr hy)) hl]; exact h
theorem Mono.nat {f f' : Tr AV} {x : Option Operand} {n : Option Nat} (hm : Mono f f' x.toList) (h : natO f x = some n) : natO f' x = some n := by
  cases x with
  | none => exact h
  | some x =>
    simp only [natO] at h ⊢
    split at h
    · cases h
    rename_i v hv
    rw [hm x (by simp) v hv]; exact h
theorem vop_mono {f f' : Tr AV} {op : Op} {r : AV × Hp} (hm : Mono f f' op.operands.toList) (h : vop T lo f H op = some r) : vop T lo f' H op = some r := by
  cases op <;> simp only [vop] at h ⊢
  case move x =>
    unfold pickO at h ⊢
    cases ex : evalO f x with
    | none => rw [ex] at h; cases h
    | some ux =>
    rw [ex] at h
    rw [hm x (by simp [Op.operands]) ux ex]
    exact h
  case assign x =>
    unfold pickO at h ⊢
    cases ex : evalO f x with
    | none => rw [ex] at h; cases h
    | some ux =>
    rw [ex] at h
    rw [hm x (by simp [Op.operands]) ux ex]
    exact h
  case pick c a b =>
    cases ec : evalO f c with
    | none => rw [ec] at h; cases h
    | some uc =>
    rw [ec] at h
    rw [hm c (by simp [Op.operands]) uc ec]
    split at h
    · unfold pickO at h ⊢
      cases ea : evalO f a with
      | none => rw [ea] at h; cases h
      | some v =>
      rw [ea] at h
      rw [hm a (by simp [Op.operands]) v ea]; exact h
    · unfold pickO at h ⊢
      cases ea : evalO f b with
      | none => rw [ea] at h; cases h
      | some v =>
      rw [ea] at h
      rw [hm b (by simp [Op.operands]) v ea]; exact h
    · cases h
  case alloc  =>
    exact h
  case box e x =>
    cases ex : evalO f x with
    | none => rw [ex] at h; cases h
    | some ux =>
    rw [ex] at h
    rw [hm x (by simp [Op.operands]) ux ex]
    exact h
  case build t parts =>
    cases e : evalP f parts.toList with
    | none => rw [e] at h; cases h
    | some ps =>
    rw [e] at h
    rw [Mono.ps (ps := parts.toList) (fun y hy => hm y (by simpa [Op.operands] using hy)) e]; exact h
  case buildSlice t n parts =>
    cases e : evalP f parts.toList with
    | none => rw [e] at h; cases h
    | some ps =>
    rw [e] at h
    rw [Mono.ps (ps := parts.toList) (fun y hy => hm y (by simpa [Op.operands] using hy)) e]; exact h
  case insert t m k x =>
    cases em : evalO f m with
    | none => rw [em] at h; cases h
    | some um =>
    rw [em] at h
    rw [hm m (by simp [Op.operands]) um em]
    cases ek : evalO f k with
    | none => rw [ek] at h; cases h
    | some uk =>
    rw [ek] at h
    rw [hm k (by simp [Op.operands]) uk ek]
    cases ex : evalO f x with
    | none => rw [ex] at h; cases h
    | some ux =>
    rw [ex] at h
    rw [hm x (by simp [Op.operands]) ux ex]
    exact h
  case load t x =>
    cases ex : evalO f x with
    | none => rw [ex] at h; cases h
    | some ux =>
    rw [ex] at h
    rw [hm x (by simp [Op.operands]) ux ex]
    exact h
  case store t x y =>
    cases ex : evalO f x with
    | none => rw [ex] at h; cases h
    | some ux =>
    rw [ex] at h
    rw [hm x (by simp [Op.operands]) ux ex]
    cases ey : evalO f y with
    | none => rw [ey] at h; revert h; cases ux <;> (intro h; cases h)
    | some uy =>
    rw [ey] at h
    rw [hm y (by simp [Op.operands]) uy ey]
    exact h
  case ready => cases h
  case waits => cases h
  case nilCheck x =>
    cases ex : evalO f x with
    | none => rw [ex] at h; cases h
    | some ux =>
    rw [ex] at h
    rw [hm x (by simp [Op.operands]) ux ex]
    exact h
  case binOp op t x y yt =>
    cases ex : evalO f x with
    | none => rw [ex] at h; cases h
    | some ux =>
    rw [ex] at h
    rw [hm x (by simp [Op.operands]) ux ex]
    cases ey : evalO f y with
    | none => rw [ey] at h; revert h; cases ux <;> (intro h; cases h)
    | some uy =>
    rw [ey] at h
    rw [hm y (by simp [Op.operands]) uy ey]
    exact h
  case unOp op t x =>
    cases ex : evalO f x with
    | none => rw [ex] at h; cases h
    | some ux =>
    rw [ex] at h
    rw [hm x (by simp [Op.operands]) ux ex]
    exact h
  case convert s d x =>
    cases ex : evalO f x with
    | none => rw [ex] at h; cases h
    | some ux =>
    rw [ex] at h
    rw [hm x (by simp [Op.operands]) ux ex]
    exact h
  case sliceToArrayPointer => cases h
  case makeInterface t x =>
    cases ex : evalO f x with
    | none => rw [ex] at h; cases h
    | some ux =>
    rw [ex] at h
    rw [hm x (by simp [Op.operands]) ux ex]
    exact h
  case makeFunc fn a c =>
    cases e : evalOs f a.toList with
    | none => rw [e] at h; cases h
    | some va =>
    rw [e] at h
    rw [Mono.os (xs := a.toList) (fun y hy => hm y (by simp [Op.operands]; exact .inl (by simpa using hy))) e]
    cases e2 : evalOs f c.toList with
    | none => rw [e2] at h; cases h
    | some vc =>
    rw [e2] at h
    rw [Mono.os (xs := c.toList) (fun y hy => hm y (by simp [Op.operands]; exact .inr (by simpa using hy))) e2]; exact h
  case makeMap t r =>
    cases r <;> exact h
  case makeChan t n =>
    cases e : natO f (some n) with
    | none => rw [e] at h; cases h
    | some m =>
    rw [e] at h
    rw [Mono.nat (x := some n) (fun y hy => hm y (by simpa [Op.operands] using hy)) e]; exact h
  case makeSlice t n c =>
    cases e : natO f (some n) with
    | none => rw [e] at h; cases h
    | some m =>
    rw [e] at h
    rw [Mono.nat (x := some n) (fun y hy => hm y (by simp [Op.operands] at hy ⊢; exact .inl hy)) e]
    cases e2 : natO f (some c) with
    | none => rw [e2] at h; cases m <;> cases h
    | some m2 =>
    rw [e2] at h
    rw [Mono.nat (x := some c) (fun y hy => hm y (by simp [Op.operands] at hy ⊢; exact .inr hy)) e2]; exact h
  case slice t x a b c =>
    cases ex : evalO f x with
    | none => rw [ex] at h; cases h
    | some ux =>
    rw [ex] at h
    rw [hm x (by simp [Op.operands]) ux ex]
    cases ea : natO f a with
    | none => rw [ea] at h; cases h
    | some ma =>
    rw [ea] at h
    rw [Mono.nat (x := a) (fun y hy => hm y (by simp [Op.operands] at hy ⊢; simp [hy])) ea]
    cases eb : natO f b with
    | none => rw [eb] at h; cases h
    | some mb =>
    rw [eb] at h
    rw [Mono.nat (x := b) (fun y hy => hm y (by simp [Op.operands] at hy ⊢; simp [hy])) eb]
    cases ec : natO f c with
    | none => rw [ec] at h; cases h
    | some mc =>
    rw [ec] at h
    rw [Mono.nat (x := c) (fun y hy => hm y (by simp [Op.operands] at hy ⊢; simp [hy])) ec]
    exact h
  case fieldAddr t x n =>
    cases ex : evalO f x with
    | none => rw [ex] at h; cases h
    | some ux =>
    rw [ex] at h
    rw [hm x (by simp [Op.operands]) ux ex]
    exact h
  case field t x n =>
    cases ex : evalO f x with
    | none => rw [ex] at h; cases h
    | some ux =>
    rw [ex] at h
    rw [hm x (by simp [Op.operands]) ux ex]
    exact h
  case indexAddr t x i =>
    cases ex : evalO f x with
    | none => rw [ex] at h; cases h
    | some ux =>
    rw [ex] at h
    rw [hm x (by simp [Op.operands]) ux ex]
    cases e : natO f (some i) with
    | none => rw [e] at h; cases h
    | some m =>
    rw [e] at h
    rw [Mono.nat (x := some i) (fun y hy => hm y (by simp [Op.operands] at hy ⊢; simp [hy])) e]; exact h
  case index t x i =>
    cases ex : evalO f x with
    | none => rw [ex] at h; cases h
    | some ux =>
    rw [ex] at h
    rw [hm x (by simp [Op.operands]) ux ex]
    cases e : natO f (some i) with
    | none => rw [e] at h; cases h
    | some m =>
    rw [e] at h
    rw [Mono.nat (x := some i) (fun y hy => hm y (by simp [Op.operands] at hy ⊢; simp [hy])) e]; exact h
  case lookup t x y ok =>
    cases ex : evalO f x with
    | none => rw [ex] at h; cases h
    | some ux =>
    rw [ex] at h
    rw [hm x (by simp [Op.operands]) ux ex]
    cases ey : evalO f y with
    | none => rw [ey] at h; revert h; cases ux <;> (intro h; cases h)
    | some uy =>
    rw [ey] at h
    rw [hm y (by simp [Op.operands]) uy ey]
    exact h
  case mapUpdate t m k x =>
    cases em : evalO f m with
    | none => rw [em] at h; cases h
    | some um =>
    rw [em] at h
    rw [hm m (by simp [Op.operands]) um em]
    cases ek : evalO f k with
    | none => rw [ek] at h; cases h
    | some uk =>
    rw [ek] at h
    rw [hm k (by simp [Op.operands]) uk ek]
    cases ex : evalO f x with
    | none => rw [ex] at h; cases h
    | some ux =>
    rw [ex] at h
    rw [hm x (by simp [Op.operands]) ux ex]
    exact h
  case mapEntry => cases h
  case entryStore => cases h
  case range t x =>
    cases ex : evalO f x with
    | none => rw [ex] at h; cases h
    | some ux =>
    rw [ex] at h
    rw [hm x (by simp [Op.operands]) ux ex]
    exact h
  case next x b =>
    cases ex : evalO f x with
    | none => rw [ex] at h; cases h
    | some ux =>
    rw [ex] at h
    rw [hm x (by simp [Op.operands]) ux ex]
    exact h
  case entry => cases h
  case typeAssert x xt a ok =>
    cases ex : evalO f x with
    | none => rw [ex] at h; cases h
    | some ux =>
    rw [ex] at h
    rw [hm x (by simp [Op.operands]) ux ex]
    exact h
  case extract x i =>
    cases ex : evalO f x with
    | none => rw [ex] at h; cases h
    | some ux =>
    rw [ex] at h
    rw [hm x (by simp [Op.operands]) ux ex]
    exact h
  case call c =>
    split at h
    · rename_i b hc
      cases e : evalOs f c.args.toList with
      | none => rw [e] at h; cases h
      | some vs =>
      rw [e] at h
      rw [Mono.os (xs := c.args.toList) (fun y hy => hm y (by simp [Op.operands, Call.operands, hc]; simpa using hy)) e]; exact h
    · cases h
  case go => cases h
  case defer => cases h
  case panic => cases h
  case send => cases h
  case recv => cases h
  case select => cases h
theorem opV_mono {f f' : Tr AV} {call : CallF} {op : Op} {r : AV × Hp} (hm : Mono f f' op.operands.toList) (h : opV T call f H op = some r) : opV T call f' H op = some r := by
  cases op with
  | call c =>
    simp only [opV] at h ⊢
    split at h
    · rename_i g hc
      have m1 : Mono f f' [g] := fun y hy => hm y (by simp at hy; subst hy; simp [Op.operands, Call.operands, hc])
      have m2 : Mono f f' c.args.toList := fun y hy => hm y (by simp [Op.operands, Call.operands, hc]; exact .inr (by simpa using hy))
      split at h
      · rename_i fid a cp hg
        rw [m1 g (by simp) _ hg]
        split at h
        · rename_i vs has; simp only [m2.os has]; exact h
        · cases h
      · rename_i n t v a cp hg
        rw [m1 g (by simp) _ hg]
        split at h
        · rename_i fid vs hf has; simp only [hf, m2.os has]; exact h
        · cases h
      · cases h
    · exact vop_mono (T := T) (lo := T.lo) (H := H) hm h
    · rename_i rc n hc
      have m1 : Mono f f' [rc] := fun y hy => hm y (by simp at hy; subst hy; simp [Op.operands, Call.operands, hc])
      have m2 : Mono f f' c.args.toList := fun y hy => hm y (by simp [Op.operands, Call.operands, hc]; exact .inr (by simpa using hy))
      split at h
      · rename_i t v hg
        rw [m1 rc (by simp) _ hg]
        split at h
        · rename_i fid vs hf has; simp only [hf, m2.os has]; exact h
        · cases h
      · cases h
  | _ => exact vop_mono (T := T) (lo := T.lo) (H := H) hm h
theorem frameO_has {dm : Tr Nat} {mask : Nat} {f : Tr AV} : ∀ {ts : List Tmp} {g : Tr AV} {t : Tmp} {v : AV}, (∀ x ∈ ts, x < 1000) → (t ∈ ts ∨ g.get t = some v) → f.get t = some v → (dm.get t = none ∨ ∃ j, dm.get t = some j ∧ bit mask j = true) → (frameO dm mask f ts g).get t = some v
  | [], g, t, v, _, h, _, _ => by
    rcases h with h | h
    · cases h
    · exact h
  | x :: r, g, t, v, hb, h, hf, ha => by
    have hb' : ∀ y ∈ r, y < 1000 := fun y hy => hb y (by simp [hy])
    have hx : x < 1000 := hb x (by simp)
    have setx : ∀ u, f.get x = some u → (t = x ∨ t ∈ r ∨ g.get t = some v) → (t ∈ r ∨ (g.set 10 x (some u)).get t = some v) := by
      intro u hu h
      rw [Tr.set_at 10 g x (some u) t (Nat.lt_of_lt_of_le (Nat.succ_lt_succ hx) (by decide))]
      by_cases e : t = x
      · subst e; rw [hf] at hu; cases hu; exact .inr (by simp)
      · rw [if_neg e]
        rcases h with h | h | h
        · exact absurd h e
        · exact .inl h
        · exact .inr h
    have h' : t = x ∨ t ∈ r ∨ g.get t = some v := by
      rcases h with h | h
      · rcases List.mem_cons.1 h with h | h
        · exact .inl h
        · exact .inr (.inl h)
      · exact .inr (.inr h)
    unfold frameO
    split
    · rename_i hn
      refine frameO_has hb' ?_ hf ha
      rcases h' with rfl | h | h
      · rw [hn] at hf; cases hf
      · exact .inl h
      · exact .inr h
    · rename_i u hu
      split
      · exact frameO_has hb' (setx u hu h') hf ha
      · rename_i j hj
        split
        · exact frameO_has hb' (setx u hu h') hf ha
        · rename_i hbit
          refine frameO_has hb' ?_ hf ha
          rcases h' with rfl | h | h
          · rcases ha with ha | ⟨k, ha, hk⟩
            · rw [hj] at ha; cases ha
            · rw [hj] at ha; cases ha; rw [hbit] at hk; cases hk
          · exact .inl h
          · exact .inr h
end Go.Proofs.YtkbmmoobcikbaaaGreatDoor.Ev
namespace Go.Proofs.YtkbmmoobcikbaaaGreatDoor.Ev
open Go Go.RowKit

variable {P : Program} {T : Tb} {call : CallF} {N : Nat} {ops : Array Oper} {dm : Tr Nat}
/-! values: below a number; alike -/
noncomputable def belQ (u : AV) : Nat → AV → Bool := @AV.rec (fun _ => Nat → AV → Bool) (fun _ => Unit) (fun _ _ _ => true) (fun _ _ _ _ => true) (fun _ _ _ => true) (fun _ _ => true) (fun b _ n _ => Nat.blt b n) (fun _ _ => true) (fun b _ _ _ n _ => Nat.blt b n) (fun b _ _ _ n _ => Nat.blt b n) (fun n v => belA 1000 n v) (fun _ n v => belA 1000 n v) (fun _ n v => belA 1000 n v) (fun _ _ _ _ _ n v => belA 1000 n v) (fun n v => belA 1000 n v) (fun _ _ _ n v => belA 1000 n v) (fun _ _ => true) (fun _ _ n v => belA 1000 n v) (fun _ _ n v => belA 1000 n v) (fun _ n v => belA 1000 n v) (fun _ n v => belA 1000 n v) () (fun _ _ _ _ => ()) u
theorem belQ_eq (u : AV) (n : Nat) : belQ u n u = belA 1000 n u := by cases u <;> rfl
noncomputable def eqPtr (v : AV) : Nat → Nat → AV → AV → Bool := @AV.rec (fun _ => Nat → Nat → AV → AV → Bool) (fun _ => Unit) (fun _ _ _ u v => eqA 1000 u v) (fun _ _ _ _ u v => eqA 1000 u v) (fun _ _ _ u v => eqA 1000 u v) (fun _ _ u v => eqA 1000 u v) (fun b2 o2 b o _ _ => @Bool.rec (fun _ => Bool) false (Nat.beq o o2) (Nat.beq b b2)) (fun _ _ u v => eqA 1000 u v) (fun _ _ _ _ _ _ u v => eqA 1000 u v) (fun _ _ _ _ _ _ u v => eqA 1000 u v) (fun _ _ u v => eqA 1000 u v) (fun _ _ _ u v => eqA 1000 u v) (fun _ _ _ u v => eqA 1000 u v) (fun _ _ _ _ _ _ _ u v => eqA 1000 u v) (fun _ _ u v => eqA 1000 u v) (fun _ _ _ _ _ u v => eqA 1000 u v) (fun _ _ u v => eqA 1000 u v) (fun _ _ _ _ u v => eqA 1000 u v) (fun _ _ _ _ u v => eqA 1000 u v) (fun _ _ _ u v => eqA 1000 u v) (fun _ _ _ u v => eqA 1000 u v) () (fun _ _ _ _ => ()) v
noncomputable def eqInt (v : AV) : IntKind → Int → AV → AV → Bool := @AV.rec (fun _ => IntKind → Int → AV → AV → Bool) (fun _ => Unit) (fun _ _ _ u v => eqA 1000 u v) (fun k2 n2 k n _ _ => @Bool.rec (fun _ => Bool) false (decide (n = n2)) (kEq k k2)) (fun _ _ _ u v => eqA 1000 u v) (fun _ _ u v => eqA 1000 u v) (fun _ _ _ _ u v => eqA 1000 u v) (fun _ _ u v => eqA 1000 u v) (fun _ _ _ _ _ _ u v => eqA 1000 u v) (fun _ _ _ _ _ _ u v => eqA 1000 u v) (fun _ _ u v => eqA 1000 u v) (fun _ _ _ u v => eqA 1000 u v) (fun _ _ _ u v => eqA 1000 u v) (fun _ _ _ _ _ _ _ u v => eqA 1000 u v) (fun _ _ u v => eqA 1000 u v) (fun _ _ _ _ _ u v => eqA 1000 u v) (fun _ _ u v => eqA 1000 u v) (fun _ _ _ _ u v => eqA 1000 u v) (fun _ _ _ _ u v => eqA 1000 u v) (fun _ _ _ u v => eqA 1000 u v) (fun _ _ _ u v => eqA 1000 u v) () (fun _ _ _ _ => ()) v
noncomputable def eqQ (u : AV) : AV → AV → Bool := @AV.rec (fun _ => AV → AV → Bool) (fun _ => Unit) (fun _ v u => eqA 1000 u v) (fun k n v u => eqInt v k n u v) (fun _ v u => eqA 1000 u v) (fun v u => eqA 1000 u v) (fun b o v u => eqPtr v b o u v) (fun v u => eqA 1000 u v) (fun _ _ _ _ v u => eqA 1000 u v) (fun _ _ _ _ v u => eqA 1000 u v) (fun v u => eqA 1000 u v) (fun _ v u => eqA 1000 u v) (fun _ v u => eqA 1000 u v) (fun _ _ _ _ _ v u => eqA 1000 u v) (fun v u => eqA 1000 u v) (fun _ _ _ v u => eqA 1000 u v) (fun v u => eqA 1000 u v) (fun _ _ v u => eqA 1000 u v) (fun _ _ v u => eqA 1000 u v) (fun _ v u => eqA 1000 u v) (fun _ v u => eqA 1000 u v) () (fun _ _ _ _ => ()) u
theorem eqQ_ok {u v : AV} (h : eqQ u v u = true) : u = v := by
  cases u <;> first | exact eqA_ok (n := 1000) h | skip
  · rename_i k n
    cases v <;> first | exact eqA_ok (n := 1000) h | skip
    rename_i k2 n2
    have h1 : kEq k k2 = true ∧ n = n2 := by
      have h : @Bool.rec (fun _ => Bool) false (decide (n = n2)) (kEq k k2) = true := h
      cases hk : kEq k k2 with
      | false => rw [hk] at h; cases h
      | true => rw [hk] at h; exact ⟨rfl, of_decide_eq_true h⟩
    rw [kEq_ok h1.1, h1.2]
  · rename_i b o
    cases v <;> first | exact eqA_ok (n := 1000) h | skip
    rename_i b2 o2
    have h : @Bool.rec (fun _ => Bool) false (Nat.beq o o2) (Nat.beq b b2) = true := h
    cases hb : Nat.beq b b2 with
    | false => rw [hb] at h; cases h
    | true =>
      rw [hb] at h
      have h : Nat.beq o o2 = true := h
      rw [Nat.eq_of_beq_eq_true hb, Nat.eq_of_beq_eq_true h]
/-! what a region is turned to -/
inductive Kd where
  | r
  | m
  | w
structure WR where
  j : Nat
  mask : Nat
  h : Tr AObj
  h' : Tr AObj
structure RR where
  i : Nat
  mask : Nat
  ins : Ins
  F : Fr
  v : AV
abbrev Pn := List (Nat × Nat × AObj)
abbrev DFn := CallF → Fr → Nat → Tr AObj → Pn → Nat → List WR → List RR → Rs
noncomputable def bitQ (m j : Nat) : Bool := Nat.beq (Nat.mod (Nat.shiftRight m j) 2) 1
theorem bitQ_eq (m j : Nat) : bitQ m j = bit m j := rfl
noncomputable def besQ (T : Tb) (call : CallF) (r : RR) (w : WR) (k : Rs) : Rs := bR (bitQ (RR.mask r) (WR.j w)) k (bR (bitQ (WR.mask w) (RR.i r)) k
  (exec T (RR.ins r) call (RR.F r) ⟨WR.h w, 0⟩ (fun a _ => bR (eqQ a (RR.v r) a) (exec T (RR.ins r) call (RR.F r) ⟨WR.h' w, 0⟩ (fun b _ => bR (eqQ b (RR.v r) b) k .bad)) .bad)))
noncomputable def besAll (T : Tb) (call : CallF) (r : RR) (ws : List WR) (k : Rs) : Rs := @List.rec WR (fun _ => Rs) k (fun w _ ih => besQ T call r w ih) ws
noncomputable def concQ (T : Tb) (call : CallF) (rs : List RR) (ws : List WR) (k : Rs) : Rs := @List.rec RR (fun _ => Rs) k (fun r _ ih => besAll T call r ws ih) rs
structure DL where
  run : DFn
noncomputable def dNil (T : Tb) : DFn := fun call F nx Hc pend _ ws rs => concQ T call rs ws (.ok .normal F ⟨putAll pend Hc, nx⟩)
noncomputable def dBad : DFn := fun _ _ _ _ _ _ _ _ => .bad
noncomputable def dR (i mask : Nat) (ins : Ins) (x : X) (d : Ds) (r : DL) : DFn := fun call F nx Hc pend wm ws rs =>
  X.run x call F ⟨Hc, 0⟩ (fun v _ => bR (belQ v nx v) (DL.run r call (setD d v F) nx Hc pend wm ws (⟨i, mask, ins, F, v⟩ :: rs)) .bad)
noncomputable def optO (x : Option AObj) (q : AObj → Rs) : Rs := @Option.rec AObj (fun _ => Rs) .bad q x
noncomputable def dM (i : Nat) (x : X) (d : Ds) (r : DL) : DFn := fun call F nx Hc pend wm ws rs =>
  X.run x call F ⟨.e, nx⟩ (fun v H' => bR (Nat.beq (Hp.nx H') nx) (DL.run r call (setD d v F) nx Hc pend wm ws rs) (bR (Nat.beq (Hp.nx H') (Nat.succ nx)) (optO (Hp.get H' nx) (fun o => DL.run r call (setD d v F) (Nat.succ nx) Hc ((i, nx, o) :: pend) wm ws rs)) .bad))
noncomputable def dW (i mask : Nat) (x : X) (d : Ds) (r : DL) : DFn := fun call F nx Hc pend wm ws rs =>
  bR (Nat.beq (Nat.land mask wm) wm) (X.run x call F ⟨putP mask pend Hc, nx⟩ (fun v H' => bR (Nat.ble nx (Hp.nx H')) (DL.run r call (setD d v F) (Hp.nx H') (Hp.t H') (waitP mask pend) (Nat.lor wm (Nat.shiftLeft 1 i)) (⟨i, mask, Hc, Hp.t H'⟩ :: ws) rs) .bad)) .bad
noncomputable def dK (T : Tb) (k : Kd) (i mask : Nat) (ins : Ins) (d : Ds) (r : DL) : DL := match k with
  | .r => ⟨dR i mask ins (xOf T ins) d r⟩
  | .m => ⟨dM i (xOf T ins) d r⟩
  | .w => ⟨dW i mask (xOf T ins) d r⟩
noncomputable def dGop (x : Od) (b : Bool) (k : DL) (d : Ds) (r : DL) : DFn := fun call F nx Hc pend wm ws rs =>
  rdO x F (fun u => asGrd u b (DL.run k call F nx Hc pend wm ws rs) (DL.run r call (setD d (.tup []) F) nx Hc pend wm ws rs))
noncomputable def runDL (_ : Tb) (l : DL) : DFn := DL.run l
/-! .. out of its operations -/
noncomputable def mapT (T : Tb) (t : TypeId) : Bool := match T.ty t with
  | some i => match i.und with
    | .slice _ => false
    | .string => false
    | _ => true
  | none => true
noncomputable def strT (T : Tb) (t : TypeId) : Bool := match T.ty t with
  | some i => match i.und with
    | .string => true
    | _ => false
  | none => false
noncomputable def kdOf (T : Tb) (op : Op) : Kd := match op with
  | .load _ _ => .r
  | .lookup _ _ _ _ => .r
  | .move _ => .m
  | .assign _ => .m
  | .pick _ _ _ => .m
  | .alloc _ => .m
  | .box _ _ => .m
  | .build _ _ => .m
  | .buildSlice _ _ _ => .m
  | .nilCheck _ => .m
  | .binOp _ _ _ _ _ => .m
  | .unOp _ _ _ => .m
  | .convert s d _ => match cvtI T s d, strT T s with
    | some _, _ => .m
    | none, true => .m
    | none, false => match strT T d with
      | true => .r
      | false => .w
  | .makeInterface _ _ => .m
  | .makeFunc _ _ _ => .m
  | .makeMap _ _ => .m
  | .makeSlice _ _ _ => .m
  | .slice _ _ _ _ _ => .m
  | .fieldAddr _ _ _ => .m
  | .field _ _ _ => .m
  | .indexAddr _ _ _ => .m
  | .index _ _ _ => .m
  | .extract _ _ => .m
  | .typeAssert _ _ _ _ => .m
  | .call c => match c.callee with
    | .builtin .len => match c.argTypes[0]? with
      | some t => match mapT T t with
        | true => .w
        | false => .m
      | none => .w
    | _ => .w
  | _ => .w
noncomputable def slotsB (dm : Tr Nat) (mask : Nat) : List Tmp → Bool
  | [] => true
  | t :: r => match Nat.blt t 1000 with
    | false => false
    | true => match dm.get t with
      | none => slotsB dm mask r
      | some j => match bit mask j with
        | true => slotsB dm mask r
        | false => false
noncomputable def slotsC (ops : Array Oper) (dm : Tr Nat) (i mask : Nat) (ts : List Tmp) : Bool := match slotsB dm mask ts with
  | true => true
  | false => slotsB dm (augM ops i mask) ts
noncomputable def dlOf (T : Tb) (N : Nat) (ops : Array Oper) (dm : Tr Nat) : List Oper → Nat → Tr Nat → DL
  | [], _, _ => ⟨dNil T⟩
  | o :: r, i, ms => match maskOf ms o.after.toList 0, dsOf N o.dst with
    | some mask, some d => match slotsC ops dm i mask (slotsOf ops o) with
      | false => ⟨dBad⟩
      | true => match o.guard with
        | none => dK T (kdOf T o.op) i mask (insO T o.op) d (dlOf T N ops dm r (i + 1) (ms.set 10 i (some mask)))
        | some (j, b) => match ops[j]?, isSomeB o.dst with
          | some oj, true => match oj.dst with
            | some dj => ⟨dGop (odOf (.tmp dj)) b (dK T (kdOf T o.op) i mask (insO T o.op) d (dlOf T N ops dm r (i + 1) (ms.set 10 i (some mask)))) d (dlOf T N ops dm r (i + 1) (ms.set 10 i (some mask)))⟩
            | none => ⟨dBad⟩
          | _, _ => ⟨dBad⟩
    | _, _ => ⟨dBad⟩
noncomputable def dmR (x : Option (Tr Nat)) (q : Tr Nat → Rs) : Rs := @Option.rec (Tr Nat) (fun _ => Rs) .bad q x
noncomputable def drawF (T : Tb) (N : Nat) (ops : Array Oper) (call : CallF) (F : Fr) (H : Hp) : Rs :=
  dmR (dmOf ops.toList 0 .e) (fun dm => runDL T (dlOf T N ops dm ops.toList 0 .e) call F (Hp.nx H) (Hp.t H) [] 0 [] [])
/-! it is right -/
def AgF (F : Fr) (f : Tr AV) : Prop := ∀ t v, getI F t = some v → f.get t = some v
theorem AgF.tr (F : Fr) : AgF F (trF F) := fun t v h => by rw [trF_eq (getI_lt h)]; exact h
theorem AgF.put {F : Fr} {f : Tr AV} (h : AgF F f) {dst : Option Tmp} {d : Ds} (hd : dsOf N dst = some d) (v : AV) : AgF (setD d v F) (putD f dst v) := by
  cases dst with
  | none => cases hd; exact h
  | some t =>
    have key := (dsOf_set hd v F).2
    obtain ⟨h2, h3⟩ := key
    rw [h3]
    intro i u e
    show (f.set 10 t (some v)).get i = some u
    rw [Tr.set_at 10 f t (some v) i (Nat.lt_of_lt_of_le (Nat.succ_lt_succ h2) (by decide))]
    rcases getI_setI h2 e with ⟨rfl, rfl⟩ | ⟨e1, e2⟩
    · rw [if_pos rfl]
    · rw [if_neg e1]; exact h i u e2
noncomputable def fr00 : Fr := frT .e
theorem dsOf_dst {dst : Option Tmp} {d : Ds} (hd : dsOf N dst = some d) : dstOk N dst = true := by
  cases dst with
  | none => rfl
  | some t =>
    have := (dsOf_set (F := fr00) hd (.bool true)).1
    show Nat.blt t N = true
    exact blt_t this
theorem slotsB_ok {mask : Nat} : ∀ {ts : List Tmp}, slotsB dm mask ts = true → ∀ t ∈ ts, t < 1000 ∧ (dm.get t = none ∨ ∃ j, dm.get t = some j ∧ bit mask j = true)
  | [], _, t, ht => by cases ht
  | x :: r, h, t, ht => by
    unfold slotsB at h
    split at h
    · cases h
    rename_i hx
    have hx : x < 1000 := by simpa [Nat.blt_eq] using hx
    split at h
    · rename_i hn
      rcases List.mem_cons.1 ht with rfl | ht
      · exact ⟨hx, .inl hn⟩
      · exact slotsB_ok h t ht
    · rename_i j hj
      split at h
      · rename_i hb
        rcases List.mem_cons.1 ht with rfl | ht
        · exact ⟨hx, .inr ⟨j, hj, hb⟩⟩
        · exact slotsB_ok h t ht
      · cases h
theorem slotsB_le {m m' : Nat} (hm : ∀ j, bit m j = true → bit m' j = true) : ∀ {ts : List Tmp}, slotsB dm m ts = true → slotsB dm m' ts = true
  | [], _ => rfl
  | t :: r, h => by
    unfold slotsB at h ⊢
    cases ht : Nat.blt t 1000 with
    | false => rw [ht] at h; cases h
    | true =>
      rw [ht] at h
      simp only at h ⊢
      cases hd : dm.get t with
      | none => rw [hd] at h; exact slotsB_le hm h
      | some j =>
        rw [hd] at h
        simp only at h ⊢
        cases hb : bit m j with
        | false => rw [hb] at h; cases h
        | true => rw [hb] at h; rw [hm j hb]; exact slotsB_le hm h
theorem slotsC_ok {i mask : Nat} {ts : List Tmp} (h : slotsC ops dm i mask ts = true) : slotsB dm (augM ops i mask) ts = true := by
  unfold slotsC at h
  split at h
  · rename_i h1
    exact slotsB_le (fun j hj => lateM_le hj) h1
  · exact h
theorem mono_fo {F : Fr} {f : Tr AV} (h : AgF F f) {mask : Nat} {o : Oper} (hs : slotsB dm mask (slotsOf ops o) = true) : Mono (trF F) (frameO dm mask f (slotsOf ops o) .e) o.op.operands.toList := by
  have hk := slotsB_ok hs
  intro x hx v hv
  cases x with
  | tmp t =>
    have hv : (trF F).get t = some v := hv
    have ht : t ∈ slotsOf ops o := by
      unfold slotsOf Oper.looksAt
      exact List.mem_append.2 (.inl (List.mem_filterMap.2 ⟨_, hx, rfl⟩))
    exact frameO_has (fun y hy => (hk y hy).1) (.inl ht) (h t v (trF_get hv)) (hk t ht).2
  | const c => exact hv
  | global g => exact hv
  | func g => exact hv
theorem want_fo {F : Fr} {f : Tr AV} (h : AgF F f) {mask : Nat} {o : Oper} (hs : slotsB dm mask (slotsOf ops o) = true) {j : Nat} {b : Bool} (hg : o.guard = some (j, b)) {oj : Oper} (hj : ops[j]? = some oj) {dj : Tmp} (hd : oj.dst = some dj) {u : AV} (hu : getO (odOf (.tmp dj)) F = some u) :
    (frameO dm mask f (slotsOf ops o) .e).get dj = some u := by
  have hk := slotsB_ok hs
  have hv : (trF F).get dj = some u := getO_ok hu
  have ht : dj ∈ slotsOf ops o := by
    unfold slotsOf Oper.looksAt
    refine List.mem_append.2 (.inr ?_)
    rw [hg]
    simp [hj, hd]
  exact frameO_has (fun y hy => (hk y hy).1) (.inl ht) (h dj u (trF_get hv)) (hk dj ht).2
theorem stringV_R {H H' : Hp} {s d : TypeId} {a v : AV} (h1 : stringV T H s d a = some (v, H')) : stringR T H s d a = some v := by
  unfold stringV at h1
  split at h1
  · rename_i el _ _ _ _ _ _ _ _ hs hd
    split at h1
    · rename_i hel
      split at h1
      · rename_i cs hcs
        split at h1
        · rename_i r hr
          cases h1
          unfold stringR
          simp only [hs, hd, hel]
          rw [hcs]
          simp only [hr]
        · cases h1
      · cases h1
    · cases h1
  · cases h1
theorem convHV_str {H H' : Hp} {s d : TypeId} {a v : AV} (hd : strT T d = true) (e : convHV T H T.lo s d a = some (v, H')) : stringR T H s d a = some v := by
  unfold strT at hd
  split at hd
  · rename_i i hi
    split at hd
    · rename_i hu
      unfold convHV at e
      split at e
      · rename_i h1
        cases e
        unfold bytesV at h1
        split at h1
        · rename_i h2
          rw [hi] at h2
          cases h2
          cases hu
        · cases h1
      · split at e
        · rename_i h1
          cases e
          exact stringV_R h1
        · unfold markV at e
          split at e
          · rename_i h2 _
            rw [hi] at h2
            cases h2
            cases hu
          · cases e
    · cases hd
  · cases hd
theorem rop_of {f : Tr AV} {op : Op} {h : Tr AObj} {v : AV} {H' : Hp} (hk : kdOf T op = .r) (e : opV T call f ⟨h, 0⟩ op = some (v, H')) : ropV T f h op = some v := by
  cases op with
  | load t x =>
    simp only [opV, vop] at e
    unfold ropV
    simp only
    split at e
    · rename_i b o hb
      simp only [hb]
      exact (keep_ok e).1
    · cases e
  | lookup t x k ok =>
    simp only [opV, vop] at e
    unfold ropV
    simp only
    split at e
    · rename_i x y hx hy
      simp only [hx, hy]
      exact (keep_ok e).1
    · cases e
  | convert s d x =>
    have hd : strT T d = true := by
      unfold kdOf at hk
      simp only at hk
      split at hk
      · cases hk
      · cases hk
      · split at hk
        · assumption
        · cases hk
    simp only [opV, vop] at e
    unfold ropV
    simp only
    split at e
    · rename_i a ha
      simp only [ha]
      split at e
      · rename_i u hc
        cases e
        simp only [hc]
      · rename_i hc
        simp only [hc]
        exact convHV_str hd e
    · cases e
  | _ =>
    unfold kdOf at hk
    simp only at hk
    first
      | cases hk
      | ((repeat' split at hk) <;> cases hk)
theorem vop_of {f : Tr AV} {op : Op} {H : Hp} (hk : kdOf T op = .m) : opV T call f H op = vop T T.lo f H op := by
  cases op with
  | call c =>
    unfold kdOf at hk
    simp only at hk
    split at hk
    · rename_i hc
      unfold opV
      simp only [hc]
    · cases hk
  | _ => rfl
/-- What the fast pass has met, beside the reckoner's states. -/
structure Met (T : Tb) (call : CallF) (ops : Array Oper) (dm : Tr Nat) (i : Nat) (S : Nat → PS) (ws : List WR) (rs : List RR) : Prop where
  w : ∀ k o, i ≤ k → ops[k]? = some o → (S (k + 1)).info.cl = .W → ⟨k, (S (k + 1)).info.mask, (S k).Hc, (S (k + 1)).Hc⟩ ∈ ws
  r : ∀ k o, i ≤ k → ops[k]? = some o → (S (k + 1)).info.cl = .R → ∃ F, ⟨k, (S (k + 1)).info.mask, insO T o.op, F, (S (k + 1)).info.v⟩ ∈ rs ∧ Mono (trF F) (S (k + 1)).info.fo o.op.operands.toList ∧ kdOf T o.op = .r
def StepR (T : Tb) (call : CallF) (N : Nat) (ops : Array Oper) (dm : Tr Nat) (S : Nat → PS) (i : Nat) (o : Oper) : Prop := ∃ s', dstOk N o.dst = true ∧ maskOf (S i).ms o.after.toList 0 = some (S (i + 1)).info.mask ∧
    DoR T call ops (S i) i (S (i + 1)).info.mask (S (i + 1)).info.fo o (S (i + 1)).info.v s' ∧ (S (i + 1)).info.fo = frameO dm (augM ops i (S (i + 1)).info.mask) (S i).f (slotsOf ops o) .e ∧
    S (i + 1) = { s' with f := putD (S i).f o.dst (S (i + 1)).info.v, ms := (S i).ms.set 10 i (some (S (i + 1)).info.mask) }
/-- What a suffix of the pass gives. -/
def Past (T : Tb) (call : CallF) (N : Nat) (ops : Array Oper) (dm : Tr Nat) (i : Nat) (s : PS) (ws : List WR) (rs : List RR) (F' : Fr) (H' : Hp) : Prop :=
  ∃ (S : Nat → PS) (ws' : List WR) (rs' : List RR) (k : Rs), S i = s ∧ (∀ j o, i ≤ j → ops[j]? = some o → StepR T call N ops dm S j o) ∧ AgF F' (S ops.size).f ∧ H' = ⟨putAll (S ops.size).pend (S ops.size).Hc, (S ops.size).nx⟩ ∧
    k = .ok .normal F' H' ∧ concQ T call rs' ws' k = .ok .normal F' H' ∧ (∀ x ∈ ws, x ∈ ws') ∧ (∀ x ∈ rs, x ∈ rs') ∧ Met T call ops dm i S ws' rs' ∧ ∀ x ∈ rs', ∃ op, XOkO T op x.ins
theorem Past.step {i : Nat} {s : PS} {ws : List WR} {rs : List RR} {F' : Fr} {H' : Hp} {o : Oper} (ho : ops[i]? = some o) {s' s1 : PS} {mask : Nat} {fo : Tr AV} {v : AV} (hd : dstOk N o.dst = true) (hm : maskOf s.ms o.after.toList 0 = some mask) (hfo : fo = frameO dm (augM ops i mask) s.f (slotsOf ops o) .e)
    (hR : DoR T call ops s i mask fo o v s') (h1 : s1 = { s' with f := putD s.f o.dst v, ms := s.ms.set 10 i (some mask) }) {ws1 : List WR} {rs1 : List RR} (hws : ∀ x ∈ ws, x ∈ ws1) (hrs : ∀ x ∈ rs, x ∈ rs1)
    (hw : s'.info.cl = .W → ⟨i, mask, s.Hc, s'.Hc⟩ ∈ ws1) (hr : s'.info.cl = .R → ∃ F, ⟨i, mask, insO T o.op, F, v⟩ ∈ rs1 ∧ Mono (trF F) fo o.op.operands.toList ∧ kdOf T o.op = .r)
    (h : Past T call N ops dm (i + 1) s1 ws1 rs1 F' H') : Past T call N ops dm i s ws rs F' H' := by
  obtain ⟨S, ws', rs', k, q1, q2, q3, q4, q5, q6, q7, q8, q9, q10⟩ := h
  have hi : i < ops.size := (Array.getElem?_eq_some_iff.1 ho).1
  have hs' := hR.info
  obtain ⟨S2, e0, eo⟩ : ∃ S2 : Nat → PS, S2 i = s ∧ ∀ j, i + 1 ≤ j → S2 j = S j := ⟨fun k => if k = i then s else S k, by simp, fun j hj => by simp; intro e; omega⟩
  have e1 : S2 (i + 1) = s1 := by rw [eo _ (Nat.le_refl _), q1]
  have en : S2 ops.size = S ops.size := eo _ hi
  have i1 : s1.info = s'.info := by rw [h1]
  have i2 : s1.Hc = s'.Hc := by rw [h1]
  refine ⟨S2, ws', rs', k, e0, fun j oj hj hoj => ?_, by rw [en]; exact q3, by rw [en]; exact q4, q5, q6, fun x hx => q7 x (hws x hx), fun x hx => q8 x (hrs x hx), ⟨fun j oj hj hoj hc => ?_, fun j oj hj hoj hc => ?_⟩, q10⟩
  · by_cases e : j = i
    · subst e
      rw [ho] at hoj; cases hoj
      unfold StepR
      rw [e1, e0, i1, hs'.1, hs'.2.1, hs'.2.2]
      exact ⟨s', hd, hm, hR, hfo, h1⟩
    · have := q2 j oj (by omega) hoj
      unfold StepR at this ⊢
      rw [eo j (by omega), eo (j + 1) (by omega)]; exact this
  · by_cases e : j = i
    · subst e
      rw [e1] at hc ⊢
      rw [e0, i1, i2, hs'.1]
      rw [i1] at hc
      exact q7 _ (hw hc)
    · rw [eo (j + 1) (by omega)] at hc ⊢
      rw [eo j (by omega)]
      exact q9.w j oj (by omega) hoj hc
  · by_cases e : j = i
    · subst e
      rw [ho] at hoj; cases hoj
      rw [e1] at hc ⊢
      rw [i1, hs'.1, hs'.2.1, hs'.2.2]
      rw [i1] at hc
      obtain ⟨F, g1, g2⟩ := hr hc
      exact ⟨F, q8 _ g1, g2⟩
    · rw [eo (j + 1) (by omega)] at hc ⊢
      exact q9.r j oj (by omega) hoj hc
theorem besQ_ok {r : RR} {w : WR} {k : Rs} {e : Ex} {F' : Fr} {H' : Hp} {op : Op} (hx : XOkO T op r.ins) (h : besQ T call r w k = .ok e F' H') : k = .ok e F' H' ∧ (bit r.mask w.j = false → bit w.mask r.i = false → (∃ H1, opV T call (trF r.F) ⟨w.h, 0⟩ op = some (r.v, H1)) ∧ ∃ H2, opV T call (trF r.F) ⟨w.h', 0⟩ op = some (r.v, H2)) := by
  unfold besQ at h
  rw [bitQ_eq, bitQ_eq] at h
  cases h1 : bit r.mask w.j with
  | true => rw [h1] at h; exact ⟨h, fun e => by cases e⟩
  | false =>
    rw [h1, bR_f] at h
    cases h2 : bit w.mask r.i with
    | true => rw [h2] at h; exact ⟨h, fun _ e => by cases e⟩
    | false =>
      rw [h2, bR_f] at h
      rcases hx call r.F ⟨w.h, 0⟩ (fun a _ => bR (eqQ a r.v a) (exec T r.ins call r.F ⟨w.h', 0⟩ (fun b _ => bR (eqQ b r.v b) k .bad)) .bad) with h3 | ⟨a, H1, h3, h4⟩
      · rw [h3] at h; exact Rs.ok_bad h
      rw [h4] at h
      cases h5 : eqQ a r.v a with
      | false => rw [h5] at h; exact Rs.ok_bad h
      | true =>
        rw [h5, bR_t] at h
        have ea := eqQ_ok h5
        subst ea
        rcases hx call r.F ⟨w.h', 0⟩ (fun b _ => bR (eqQ b r.v b) k .bad) with h6 | ⟨b, H2, h6, h7⟩
        · rw [h6] at h; exact Rs.ok_bad h
        rw [h7] at h
        cases h8 : eqQ b r.v b with
        | false => rw [h8] at h; exact Rs.ok_bad h
        | true =>
          rw [h8, bR_t] at h
          have eb := eqQ_ok h8
          rw [eb] at h6
          exact ⟨h, fun _ _ => ⟨⟨H1, h3⟩, H2, h6⟩⟩
theorem besAll_ok {r : RR} {op : Op} (hx : XOkO T op r.ins) : ∀ {ws : List WR} {k : Rs} {e : Ex} {F' : Fr} {H' : Hp}, besAll T call r ws k = .ok e F' H' → k = .ok e F' H' ∧ ∀ w ∈ ws, bit r.mask w.j = false → bit w.mask r.i = false → (∃ H1, opV T call (trF r.F) ⟨w.h, 0⟩ op = some (r.v, H1)) ∧ ∃ H2, opV T call (trF r.F) ⟨w.h', 0⟩ op = some (r.v, H2)
  | [], k, e, F', H', h => ⟨h, fun w hw => by cases hw⟩
  | w :: ws, k, e, F', H', h => by
    have h : besQ T call r w (besAll T call r ws k) = .ok e F' H' := h
    obtain ⟨h1, h2⟩ := besQ_ok hx h
    obtain ⟨h3, h4⟩ := besAll_ok hx h1
    refine ⟨h3, fun w' hw' => ?_⟩
    rcases List.mem_cons.1 hw' with rfl | hw'
    · exact h2
    · exact h4 w' hw'
theorem concQ_ok : ∀ {rs : List RR} {ws : List WR} {k : Rs} {e : Ex} {F' : Fr} {H' : Hp}, (∀ r ∈ rs, ∃ op, XOkO T op r.ins) → concQ T call rs ws k = .ok e F' H' → k = .ok e F' H' ∧ ∀ r ∈ rs, ∀ op, XOkO T op r.ins → ∀ w ∈ ws, bit r.mask w.j = false → bit w.mask r.i = false → (∃ H1, opV T call (trF r.F) ⟨w.h, 0⟩ op = some (r.v, H1)) ∧ ∃ H2, opV T call (trF r.F) ⟨w.h', 0⟩ op = some (r.v, H2)
  | [], ws, k, e, F', H', _, h => ⟨h, fun r hr => by cases hr⟩
  | r :: rs, ws, k, e, F', H', hx, h => by
    have h : besAll T call r ws (concQ T call rs ws k) = .ok e F' H' := h
    obtain ⟨op0, hx0⟩ := hx r (by simp)
    obtain ⟨h1, -⟩ := besAll_ok hx0 h
    obtain ⟨h3, h4⟩ := concQ_ok (fun r' hr' => hx r' (by simp [hr'])) h1
    refine ⟨h3, fun r' hr' op hop => ?_⟩
    rcases List.mem_cons.1 hr' with rfl | hr'
    · exact (besAll_ok hop h).2
    · exact h4 r' hr' op hop
theorem runDL_ok : ∀ {r : List Oper} {i : Nat} {F F' : Fr} {pend : Pn} {wm : Nat} {ws : List WR} {rs : List RR} {s : PS} {ex : Ex} {H' : Hp}, (∀ j, r[j]? = ops[i + j]?) → i + r.length = ops.size → (∀ x ∈ rs, ∃ op, XOkO T op x.ins) →
    s.pend = pend → s.wm = wm → AgF F s.f → runDL T (dlOf T N ops dm r i s.ms) call F s.nx s.Hc pend wm ws rs = .ok ex F' H' → ex = .normal ∧ Past T call N ops dm i s ws rs F' H'
  | [], i, F, F', pend, wm, ws, rs, s, ex, H', hk, hn, hx, h1, h2, h3, h => by
    have h : concQ T call rs ws (.ok .normal F ⟨putAll pend s.Hc, s.nx⟩) = .ok ex F' H' := h
    obtain ⟨h4, -⟩ := concQ_ok hx h
    cases h4
    have hn : i = ops.size := by simpa using hn
    refine ⟨rfl, fun _ => s, ws, rs, .ok .normal F ⟨putAll pend s.Hc, s.nx⟩, rfl, fun j o hj ho => ?_, h3, by rw [h1], rfl, h, fun x hx => hx, fun x hx => hx, ⟨fun j o hj ho => ?_, fun j o hj ho => ?_⟩, hx⟩
    all_goals (have := (Array.getElem?_eq_some_iff.1 ho).1; omega)
  | o :: r, i, F, F', pend, wm, ws, rs, s, ex, H', hk, hn, hx, h1, h2, h3, h => by
    have ho : ops[i]? = some o := by simpa using (hk 0).symm
    have hk' : ∀ j, r[j]? = ops[(i + 1) + j]? := fun j => by have := hk (j + 1); simpa [Nat.add_assoc, Nat.add_comm 1 j] using this
    have hn' : (i + 1) + r.length = ops.size := by simpa [Nat.add_assoc, Nat.add_comm 1 r.length] using hn
    unfold dlOf at h
    split at h
    case h_2 => exact Rs.ok_bad h
    rename_i mask d hmask hd
    split at h
    · exact Rs.ok_bad h
    rename_i hs
    replace hs := slotsC_ok hs
    obtain ⟨fo, hfo⟩ : ∃ fo, fo = frameO dm (augM ops i mask) s.f (slotsOf ops o) .e := ⟨_, rfl⟩
    have hmono : Mono (trF F) fo o.op.operands.toList := by rw [hfo]; exact mono_fo h3 hs
    have hXO := insO_ok T o.op
    have run : wantV ops fo o = some true → runDL T (dK T (kdOf T o.op) i mask (insO T o.op) d (dlOf T N ops dm r (i + 1) (s.ms.set 10 i (some mask)))) call F s.nx s.Hc pend wm ws rs = .ok ex F' H' → ex = .normal ∧ Past T call N ops dm i s ws rs F' H' := by
      intro hw h
      cases hkd : kdOf T o.op with
      | r =>
        rw [hkd] at h
        have h : (xOf T (insO T o.op)).run call F ⟨s.Hc, 0⟩ (fun v _ => bR (belQ v s.nx v) (runDL T (dlOf T N ops dm r (i + 1) (s.ms.set 10 i (some mask))) call (setD d v F) s.nx s.Hc pend wm ws (⟨i, mask, insO T o.op, F, v⟩ :: rs)) .bad) = .ok ex F' H' := h
        rw [xOf_eq] at h
        rcases hXO call F ⟨s.Hc, 0⟩ (fun v _ => bR (belQ v s.nx v) (runDL T (dlOf T N ops dm r (i + 1) (s.ms.set 10 i (some mask))) call (setD d v F) s.nx s.Hc pend wm ws (⟨i, mask, insO T o.op, F, v⟩ :: rs)) .bad) with g | ⟨v, H1, g1, g2⟩
        · rw [g] at h; exact Rs.ok_bad h
        rw [g2] at h
        cases hb : belQ v s.nx v with
        | false => rw [hb] at h; exact Rs.ok_bad h
        | true =>
          rw [hb, bR_t] at h
          rw [belQ_eq] at hb
          have hrop := rop_of hkd (opV_mono hmono g1)
          have hR := DoR.R (T := T) (call := call) (s := s) (i := i) (mask := mask) hw hrop hb
          obtain ⟨k1, k2⟩ := runDL_ok (s := { s with info := ⟨mask, fo, .R, v, none⟩, f := putD s.f o.dst v, ms := s.ms.set 10 i (some mask) }) hk' hn' (fun x hxm => by
            rcases List.mem_cons.1 hxm with rfl | hxm
            · exact ⟨o.op, hXO⟩
            · exact hx x hxm) h1 h2 (h3.put hd v) h
          refine ⟨k1, Past.step ho (dsOf_dst hd) hmask hfo hR rfl (fun x hx => hx) (fun x hx => List.mem_cons_of_mem _ hx) (fun e => by cases e) (fun _ => ⟨F, List.mem_cons_self, hmono, hkd⟩) k2⟩
      | m =>
        rw [hkd] at h
        have h : (xOf T (insO T o.op)).run call F ⟨.e, s.nx⟩ (fun v H' => bR (Nat.beq (Hp.nx H') s.nx) (runDL T (dlOf T N ops dm r (i + 1) (s.ms.set 10 i (some mask))) call (setD d v F) s.nx s.Hc pend wm ws rs) (bR (Nat.beq (Hp.nx H') (Nat.succ s.nx)) (optO (Hp.get H' s.nx) (fun o => runDL T (dlOf T N ops dm r (i + 1) (s.ms.set 10 i (some mask))) call (setD d v F) (Nat.succ s.nx) s.Hc ((i, s.nx, o) :: pend) wm ws rs)) .bad)) = .ok ex F' H' := h
        rw [xOf_eq] at h
        rcases hXO call F ⟨.e, s.nx⟩ (fun v H' => bR (Nat.beq (Hp.nx H') s.nx) (runDL T (dlOf T N ops dm r (i + 1) (s.ms.set 10 i (some mask))) call (setD d v F) s.nx s.Hc pend wm ws rs) (bR (Nat.beq (Hp.nx H') (Nat.succ s.nx)) (optO (Hp.get H' s.nx) (fun o => runDL T (dlOf T N ops dm r (i + 1) (s.ms.set 10 i (some mask))) call (setD d v F) (Nat.succ s.nx) s.Hc ((i, s.nx, o) :: pend) wm ws rs)) .bad)) with g | ⟨v, H1, g1, g2⟩
        · rw [g] at h; exact Rs.ok_bad h
        rw [g2] at h
        have hv : vop T T.lo fo ⟨.e, s.nx⟩ o.op = some (v, H1) := by rw [← vop_of (call := call) hkd]; exact opV_mono hmono g1
        cases hb : Nat.beq (Hp.nx H1) s.nx with
        | true =>
          rw [hb, bR_t] at h
          have hR := DoR.M (T := T) (call := call) (s := s) (i := i) (mask := mask) hw hv (Nat.eq_of_beq_eq_true hb)
          obtain ⟨k1, k2⟩ := runDL_ok (s := { s with info := ⟨mask, fo, .M, v, none⟩, f := putD s.f o.dst v, ms := s.ms.set 10 i (some mask) }) hk' hn' hx h1 h2 (h3.put hd v) h
          exact ⟨k1, Past.step ho (dsOf_dst hd) hmask hfo hR rfl (fun x hx => hx) (fun x hx => hx) (fun e => by cases e) (fun e => by cases e) k2⟩
        | false =>
          rw [hb, bR_f] at h
          cases hb2 : Nat.beq (Hp.nx H1) (Nat.succ s.nx) with
          | false => rw [hb2] at h; exact Rs.ok_bad h
          | true =>
            rw [hb2, bR_t] at h
            cases hx1 : Hp.get H1 s.nx with
            | none => rw [hx1] at h; exact Rs.ok_bad h
            | some x1 =>
              rw [hx1] at h
              have h : runDL T (dlOf T N ops dm r (i + 1) (s.ms.set 10 i (some mask))) call (setD d v F) (s.nx + 1) s.Hc ((i, s.nx, x1) :: pend) wm ws rs = .ok ex F' H' := h
              have hR := DoR.B (T := T) (call := call) (s := s) (i := i) (mask := mask) hw hv (Nat.eq_of_beq_eq_true hb2) hx1
              obtain ⟨k1, k2⟩ := runDL_ok (s := { s with nx := s.nx + 1, pend := (i, s.nx, x1) :: s.pend, info := ⟨mask, fo, .M, v, some x1⟩, f := putD s.f o.dst v, ms := s.ms.set 10 i (some mask) }) hk' hn' hx (by rw [h1]) h2 (h3.put hd v) h
              exact ⟨k1, Past.step ho (dsOf_dst hd) hmask hfo hR rfl (fun x hx => hx) (fun x hx => hx) (fun e => by cases e) (fun e => by cases e) k2⟩
      | w =>
        rw [hkd] at h
        have h : bR (Nat.beq (Nat.land mask wm) wm) ((xOf T (insO T o.op)).run call F ⟨putP mask pend s.Hc, s.nx⟩ (fun v H' => bR (Nat.ble s.nx (Hp.nx H')) (runDL T (dlOf T N ops dm r (i + 1) (s.ms.set 10 i (some mask))) call (setD d v F) (Hp.nx H') (Hp.t H') (waitP mask pend) (Nat.lor wm (Nat.shiftLeft 1 i)) (⟨i, mask, s.Hc, Hp.t H'⟩ :: ws) rs) .bad)) .bad = .ok ex F' H' := h
        rw [xOf_eq] at h
        cases hb : Nat.beq (Nat.land mask wm) wm with
        | false => rw [hb] at h; exact Rs.ok_bad h
        | true =>
          rw [hb, bR_t] at h
          rcases hXO call F ⟨putP mask pend s.Hc, s.nx⟩ (fun v H' => bR (Nat.ble s.nx (Hp.nx H')) (runDL T (dlOf T N ops dm r (i + 1) (s.ms.set 10 i (some mask))) call (setD d v F) (Hp.nx H') (Hp.t H') (waitP mask pend) (Nat.lor wm (Nat.shiftLeft 1 i)) (⟨i, mask, s.Hc, Hp.t H'⟩ :: ws) rs) .bad) with g | ⟨v, H1, g1, g2⟩
          · rw [g] at h; exact Rs.ok_bad h
          rw [g2] at h
          cases hl : Nat.ble s.nx (Hp.nx H1) with
          | false => rw [hl] at h; exact Rs.ok_bad h
          | true =>
            rw [hl, bR_t] at h
            have hR := DoR.W (T := T) (call := call) (s := s) (i := i) (mask := mask) (fo := fo) hw (by rw [h2]; exact Nat.eq_of_beq_eq_true hb) (Nat.le_of_ble_eq_true hl) (by rw [h1]; exact opV_mono hmono g1)
            obtain ⟨k1, k2⟩ := runDL_ok (s := { s with nx := H1.nx, Hc := H1.t, cm := s.cm ||| mask, wm := s.wm ||| 1 <<< i, pend := waitP mask s.pend, info := ⟨mask, fo, .W, v, none⟩, f := putD s.f o.dst v, ms := s.ms.set 10 i (some mask) }) hk' hn' hx (by rw [h1]) (by rw [h2]; rfl) (h3.put hd v) h
            exact ⟨k1, Past.step ho (dsOf_dst hd) hmask hfo hR rfl (fun x hx => List.mem_cons_of_mem _ hx) (fun x hx => hx) (fun _ => List.mem_cons_self) (fun e => by cases e) k2⟩
    split at h
    · rename_i hg
      exact run (by unfold wantV; rw [hg]) h
    · rename_i j b hg
      split at h
      · rename_i oj hoj hsb
        split at h
        · rename_i dj hdj
          have h : rdO (odOf (.tmp dj)) F (fun u => asGrd u b (runDL T (dK T (kdOf T o.op) i mask (insO T o.op) d (dlOf T N ops dm r (i + 1) (s.ms.set 10 i (some mask)))) call F s.nx s.Hc pend wm ws rs) (runDL T (dlOf T N ops dm r (i + 1) (s.ms.set 10 i (some mask))) call (setD d (.tup []) F) s.nx s.Hc pend wm ws rs)) = .ok ex F' H' := h
          rw [rdO_eq] at h
          rcases wv_ok (getO (odOf (.tmp dj)) F) (fun u => asGrd u b (runDL T (dK T (kdOf T o.op) i mask (insO T o.op) d (dlOf T N ops dm r (i + 1) (s.ms.set 10 i (some mask)))) call F s.nx s.Hc pend wm ws rs) (runDL T (dlOf T N ops dm r (i + 1) (s.ms.set 10 i (some mask))) call (setD d (.tup []) F) s.nx s.Hc pend wm ws rs)) with g | ⟨u, hu, g⟩
          · rw [g] at h; exact Rs.ok_bad h
          rw [g] at h
          have hfu : fo.get dj = some u := by rw [hfo]; exact want_fo h3 hs hg hoj hdj hu
          have skip : wantV ops fo o = some false → runDL T (dlOf T N ops dm r (i + 1) (s.ms.set 10 i (some mask))) call (setD d (.tup []) F) s.nx s.Hc pend wm ws rs = .ok ex F' H' → ex = .normal ∧ Past T call N ops dm i s ws rs F' H' := fun hw h => by
            have hR := DoR.U (T := T) (call := call) (s := s) (i := i) (mask := mask) hw hsb
            obtain ⟨k1, k2⟩ := runDL_ok (s := { s with info := ⟨mask, fo, .U, .tup [], none⟩, f := putD s.f o.dst (.tup []), ms := s.ms.set 10 i (some mask) }) hk' hn' hx h1 h2 (h3.put hd (.tup [])) h
            exact ⟨k1, Past.step ho (dsOf_dst hd) hmask hfo hR rfl (fun x hx => hx) (fun x hx => hx) (fun e => by cases e) (fun e => by cases e) k2⟩
          rcases asGrd_ok u b (runDL T (dK T (kdOf T o.op) i mask (insO T o.op) d (dlOf T N ops dm r (i + 1) (s.ms.set 10 i (some mask)))) call F s.nx s.Hc pend wm ws rs) (runDL T (dlOf T N ops dm r (i + 1) (s.ms.set 10 i (some mask))) call (setD d (.tup []) F) s.nx s.Hc pend wm ws rs) with g | ⟨x, rfl, g⟩ | ⟨⟨q, rfl⟩, g⟩
          · rw [g] at h; exact Rs.ok_bad h
          · rw [g] at h
            have hw : wantV ops fo o = some (x == b) := by unfold wantV; rw [hg]; simp only [hoj, hdj, hfu]
            cases hxb : (x == b) with
            | true => rw [hxb] at h hw; exact run hw h
            | false => rw [hxb] at h hw; exact skip hw h
          · rw [g] at h
            exact skip (by unfold wantV; rw [hg]; simp only [hoj, hdj, hfu]) h
        · exact Rs.ok_bad h
      · exact Rs.ok_bad h
theorem drawF_ok (hT : TbOk P T) (hcall : CallOk P T call) {F F' : Fr} {H H' : Hp} {ex : Ex} (h : drawF T N ops call F H = .ok ex F' H') {Ds : List Deferred} {l : Env} {a : Act} {w : World} {Q : Exit → Act → World → Prop} {id : Nat} (hf : FRF N Ds l F a) (hr : HR T.sz l H w)
    (hQ : ∀ l' a' w', FRF N Ds l' F' a' → Kp T.sz T.lo l H w l' H' w' → Q .normal a' w') : ex = .normal ∧ (Code.region id ops true).wp P Q a w := by
  unfold drawF at h
  cases hdm : dmOf ops.toList 0 .e with
  | none => rw [hdm] at h; exact Rs.ok_bad h
  | some dm =>
    rw [hdm] at h
    have h : runDL T (dlOf T N ops dm ops.toList 0 (s0 (trF F) H).ms) call F (s0 (trF F) H).nx (s0 (trF F) H).Hc [] 0 [] [] = .ok ex F' H' := h
    obtain ⟨h0, S, ws', rs', k, q1, q2, q3, q4, q5, q6, -, -, q9, q10⟩ := runDL_ok (s := s0 (trF F) H) (i := 0) (fun j => by simp) (by simp) (fun x hx => by cases hx) rfl rfl (AgF.tr F) h
    refine ⟨h0, draw_run hT hcall hdm q1 (f := trF F) ⟨fun i o ho => q2 i o (Nat.zero_le _) ho⟩ ?_ hf.fr hr fun l' a' w' g1 g2 => hQ l' a' w' ⟨g1.size, fun i v e => g1.get i v (q3 i v e), g1.defers, g1.glob⟩ (by rw [q4]; exact g2)⟩
    intro i o j ho hj ci cj h1 h2
    obtain ⟨F1, m1, m2, m3⟩ := q9.r i o (Nat.zero_le _) ho ci
    have m4 := q9.w j _ (Nat.zero_le _) (Array.getElem?_eq_getElem hj) cj
    obtain ⟨⟨H1, g1⟩, H2, g2⟩ := (concQ_ok q10 q6).2 _ m1 o.op (insO_ok T o.op) _ m4 h1 h2
    exact ⟨rop_of m3 (opV_mono m2 g1), rop_of m3 (opV_mono m2 g2)⟩
end Go.Proofs.YtkbmmoobcikbaaaGreatDoor.Ev
namespace Go.Proofs.YtkbmmoobcikbaaaGreatDoor.Ev
open Go Go.RowKit

variable {P : Program} {T : Tb} {l : Env} {H : Hp} {w : World} {N : Nat} {Ds0 : List Deferred} {a : Act} {Q : Exit → Act → World → Prop}
/-! bodies -/
noncomputable def orR (r z : Rs) : Rs := @Rs.rec (fun _ => Rs) z (fun e F H => .ok e F H) r
noncomputable def drQ (x : Option (Tr AV × Hp)) : Rs := @Option.rec (Tr AV × Hp) (fun _ => Rs) .bad (fun p => @Prod.rec (Tr AV) Hp (fun _ => Rs) (fun f H => .ok .normal (frT f) H) p) x
noncomputable def rgQ (x : Option (Ex × Tr AV × Hp)) : Rs := @Option.rec (Ex × Tr AV × Hp) (fun _ => Rs) .bad (fun p => .ok p.1 (frT p.2.1) p.2.2) x
noncomputable def thenR (r : Rs) (k : Fr → Hp → Rs) : Rs := @Rs.rec (fun _ => Rs) .bad (fun e F H => @Ex.rec (fun _ => Rs) (k F H) (fun i => .ok (.exit i) F H) (.ok .ret F H) e) r
noncomputable def blockR (id : Nat) (r : Rs) : Rs := @Rs.rec (fun _ => Rs) .bad (fun e F H => @Ex.rec (fun _ => Rs) (.ok .normal F H) (fun i => bR (Nat.beq i id) (.ok .normal F H) (.ok (.exit i) F H)) (.ok .ret F H) e) r
noncomputable def iterS (g : Fr → Hp → Rs) (_ : Nat) (ih : Fr → Hp → Rs) (F : Fr) (H : Hp) : Rs := thenR (g F H) ih
noncomputable def iterF (g : Fr → Hp → Rs) (n : Nat) : Fr → Hp → Rs := @Nat.rec (fun _ => Fr → Hp → Rs) (fun _ _ => .bad) (iterS g) n
noncomputable def asIf (u : AV) (y z : Rs) : Rs := asBool u (fun b => bR b y z) .bad
abbrev DF := CallF → Nat → DrawF
structure CC where
  run : RF
noncomputable def cSkip : RF := fun _ F H => .ok .normal F H
noncomputable def cRegion (r : IL) : RF := fun call F H => IL.run r call F H
noncomputable def cDraw (T : Tb) (N : Nat) (D : DF) (ops : Array Oper) : RF := fun call F H => orR (drawF T N ops call F H) (drQ (D call N ops (trF F) H))
noncomputable def cSeq (x y : CC) : RF := fun call F H => thenR (CC.run x call F H) (CC.run y call)
noncomputable def cCond (c : Od) (x y : CC) : RF := fun call F H => rdO c F (fun v => asIf v (CC.run x call F H) (CC.run y call F H))
noncomputable def cBlock (id : Nat) (x : CC) : RF := fun call F H => blockR id (CC.run x call F H)
noncomputable def rounds : Nat := 1000000
noncomputable def cLoop (x : CC) : RF := fun call F H => iterF (CC.run x call) rounds F H
noncomputable def cRange (T : Tb) (N : Nat) (D : DF) (f : Operand) (ps : Array Tmp) (x y : Code) : RF := fun call F H => rgQ (evC T call (D call N) N 1000000 (.rangeFunc f ps x y) (trF F) H)
noncomputable def cExit (i : Nat) : RF := fun _ F H => .ok (.exit i) F H
noncomputable def cBad : RF := fun _ _ _ => .bad
noncomputable def cRet : RF := fun _ F H => .ok .ret F H
noncomputable def kReg (T : Tb) (N : Nat) (D : DF) (_ : Nat) (ops : Array Oper) (d : Bool) : CC := match d with
  | true => ⟨cDraw T N D ops⟩
  | false => ⟨cRegion (ilOf T N ops ops.toList)⟩
noncomputable def ccOf (T : Tb) (N : Nat) (D : DF) (c : Code) : CC := @Code.rec (fun _ => CC) ⟨cSkip⟩ (kReg T N D) (fun _ _ x y => ⟨cSeq x y⟩) (fun c _ _ x y => ⟨cCond (odOf c) x y⟩) (fun id _ x => ⟨cBlock id x⟩) (fun _ x => ⟨cLoop x⟩) (fun f ps x y _ _ => ⟨cRange T N D f ps x y⟩) (fun i => ⟨cExit i⟩) (fun _ x => x) (fun _ => ⟨cSkip⟩) (fun _ => ⟨cBad⟩) ⟨cRet⟩ (fun _ => ⟨cBad⟩) c
noncomputable def evF (T : Tb) (N : Nat) (D : DF) (c : Code) : RF := CC.run (ccOf T N D c)
theorem ccOf_loop (T : Tb) (N : Nat) (D : DF) (x : Code) : ccOf T N D (.loop x) = ⟨cLoop (ccOf T N D x)⟩ := rfl
theorem evF_loop (T : Tb) (N : Nat) (D : DF) (x : Code) (call : CallF) (F : Fr) (H : Hp) : evF T N D (.loop x) call F H = iterF (CC.run (ccOf T N D x) call) rounds F H := by
  unfold evF
  rw [ccOf_loop]
  unfold cLoop
  generalize rounds = n
  rfl
/-- A reckoning of a piece of code is right. -/
def EvOkF (P : Program) (T : Tb) (N : Nat) (c : Code) (g : Fr → Hp → Rs) : Prop := ∀ F H ex F' H', g F H = .ok ex F' H' → ∀ (B : Nat) (Ds : List Deferred) (l : Env) (a : Act) (w : World) (Q : Exit → Act → World → Prop), FRF N Ds l F a → HR T.sz l H w → Mk B l H w Ds →
  (∀ Ds' l' a' w', FRF N Ds' l' F' a' → Kp T.sz T.lo l H w l' H' w' → Mk B l' H' w' Ds' → Q ex.to a' w') → CSem P c Q a w
theorem thenR_ok {r : Rs} {k : Fr → Hp → Rs} {ex : Ex} {F' : Fr} {H' : Hp} (h : thenR r k = .ok ex F' H') : (∃ F1 H1, r = .ok .normal F1 H1 ∧ k F1 H1 = .ok ex F' H') ∨ (r = .ok ex F' H' ∧ ex ≠ .normal) := by
  cases r with
  | bad => cases h
  | ok e F1 H1 => cases e with
    | normal => exact .inl ⟨F1, H1, rfl, h⟩
    | exit i => cases h; exact .inr ⟨rfl, fun e => by cases e⟩
    | ret => cases h; exact .inr ⟨rfl, fun e => by cases e⟩
theorem iterF_ok {c : Code} {g : Fr → Hp → Rs} (hg : EvOkF P T N c g) : ∀ (n : Nat) (F : Fr) (H : Hp) (ex : Ex) (F' : Fr) (H' : Hp), iterF g n F H = .ok ex F' H' → ∀ (B : Nat) (Ds : List Deferred) (l : Env) (a : Act) (w : World), FRF N Ds l F a → HR T.sz l H w → Mk B l H w Ds →
    (∀ Ds' l' a' w', FRF N Ds' l' F' a' → Kp T.sz T.lo l H w l' H' w' → Mk B l' H' w' Ds' → ex ≠ .normal → Q ex.to a' w') → CSemN P c Q n a w
  | 0, _, _, _, _, _, h, _, _, _, _, _, _, _, _, _ => by cases h
  | n + 1, F, H, ex, F', H', h, B, Ds, l, a, w, hf, hr, hm, hQ => by
    have h : thenR (g F H) (iterF g n) = .ok ex F' H' := h
    rw [CSemN.succ]
    rcases thenR_ok h with ⟨F1, H1, h1, h2⟩ | ⟨h1, hx⟩
    · refine hg _ _ _ _ _ h1 B Ds l a w _ hf hr hm fun D1 l1 a1 w1 g1 g2 m1 => ?_
      exact iterF_ok hg n _ _ _ _ _ h2 _ _ _ _ _ g1 g2.hr m1 fun D2 l2 a2 w2 k1 k2 m2 => hQ _ _ _ _ k1 (g2.trans hr k2) m2
    · refine hg _ _ _ _ _ h1 B Ds l a w _ hf hr hm fun D1 l1 a1 w1 g1 g2 m1 => ?_
      have := hQ _ _ _ _ g1 g2 m1 hx
      cases ex with
      | normal => exact absurd rfl hx
      | exit i => exact this
      | ret => exact this
theorem evF_ok (hT : TbOk P T) {call : CallF} (hcall : CallOk P T call) {D : DF} (hD : DrawOk P T N (D call N)) : ∀ c : Code, EvOkF P T N c (evF T N D c call)
  | .skip => fun F H ex F' H' h B Ds l a w Q hf hr hm hQ => by cases h; exact .of_wp (wp_skip (hQ _ _ _ _ hf (.refl hr) hm))
  | .label _ => fun F H ex F' H' h B Ds l a w Q hf hr hm hQ => by cases h; exact .of_wp (wp_label (hQ _ _ _ _ hf (.refl hr) hm))
  | .region id ops false => fun F H ex F' H' h B Ds l a w Q hf hr hm hQ => by
    have h : runIL T (ilOf T N ops ops.toList) call F H = .ok ex F' H' := h
    have key := fun (Q' : Exit → Act → World → Prop) => ilOf_ok (Q := Q') (k := 0) hT hcall (fun j => by simp) h hf hr
    obtain rfl := (key Q).2
    exact CSem.region (by rw [List.range_eq_range', ← Array.length_toList]; exact (key Q).1 fun l' a' w' g1 g2 => hQ _ _ _ _ g1 g2 (hm.kp hr g2))
  | .region id ops true => fun F H ex F' H' h B Ds l a w Q hf hr hm hQ => by
    have h : orR (drawF T N ops call F H) (drQ (D call N ops (trF F) H)) = .ok ex F' H' := h
    cases hg : drawF T N ops call F H with
    | ok e1 F1 H1 =>
      rw [hg] at h
      have h : Rs.ok e1 F1 H1 = .ok ex F' H' := h
      cases h
      obtain ⟨rfl, -⟩ := drawF_ok (Q := fun _ _ _ => True) (id := id) hT hcall hg hf hr fun l' a' w' g1 g2 => trivial
      exact .of_wp (drawF_ok (Q := Q) (id := id) hT hcall hg hf hr fun l' a' w' g1 g2 => hQ _ _ _ _ g1 g2 (hm.kp hr g2)).2
    | bad =>
    rw [hg] at h
    have h : drQ (D call N ops (trF F) H) = .ok ex F' H' := h
    cases hd : D call N ops (trF F) H with
    | none => rw [hd] at h; cases h
    | some p =>
      obtain ⟨f1, H1⟩ := p
      rw [hd] at h
      have h : Rs.ok .normal (frT f1) H1 = .ok ex F' H' := h
      cases h
      exact .of_wp (hD _ _ _ _ _ hd Ds l a w Q id hf.fr hr fun l' a' w' g1 g2 => hQ _ _ _ _ (.of g1) g2 (hm.kp hr g2))
  | .seq x y => fun F H ex F' H' h B Ds l a w Q hf hr hm hQ => by
    have h : thenR (evF T N D x call F H) (evF T N D y call) = .ok ex F' H' := h
    refine CSem.seq ?_
    rcases thenR_ok h with ⟨F1, H1, h1, h2⟩ | ⟨h1, hx⟩
    · refine evF_ok hT hcall hD x _ _ _ _ _ h1 B Ds l a w _ hf hr hm fun D1 l1 a1 w1 g1 g2 m1 => ?_
      exact evF_ok hT hcall hD y _ _ _ _ _ h2 _ _ _ _ _ Q g1 g2.hr m1 fun D2 l2 a2 w2 k1 k2 m2 => hQ _ _ _ _ k1 (g2.trans hr k2) m2
    · refine evF_ok hT hcall hD x _ _ _ _ _ h1 B Ds l a w _ hf hr hm fun D1 l1 a1 w1 g1 g2 m1 => ?_
      cases ex with
      | normal => exact absurd rfl hx
      | exit i => exact hQ _ _ _ _ g1 g2 m1
      | ret => exact hQ _ _ _ _ g1 g2 m1
  | .cond c x y => fun F H ex F' H' h B Ds l a w Q hf hr hm hQ => by
    have h : rdO (odOf c) F (fun v => asIf v (evF T N D x call F H) (evF T N D y call F H)) = .ok ex F' H' := h
    rw [rdO_eq] at h
    rcases wv_ok (getO (odOf c) F) (fun v => asIf v (evF T N D x call F H) (evF T N D y call F H)) with h1 | ⟨v, hv, h1⟩
    · rw [h1] at h; exact Rs.ok_bad h
    rw [h1] at h
    have hc := hf.fr.ev _ _ (getO_ok hv)
    unfold asIf at h
    rcases asBool_ok v (fun b => bR b (evF T N D x call F H) (evF T N D y call F H)) .bad with h2 | ⟨b, rfl, h2⟩
    · rw [h2] at h; exact Rs.ok_bad h
    rw [h2] at h
    generalize hcv : a.eval c = cv at hc
    cases hc
    cases b with
    | true => exact CSem.cond (t := true) hcv (evF_ok hT hcall hD x _ _ _ _ _ h B Ds l a w Q hf hr hm hQ)
    | false => exact CSem.cond (t := false) hcv (evF_ok hT hcall hD y _ _ _ _ _ h B Ds l a w Q hf hr hm hQ)
  | .block id x => fun F H ex F' H' h B Ds l a w Q hf hr hm hQ => by
    have h : blockR id (evF T N D x call F H) = .ok ex F' H' := h
    refine CSem.block ?_
    cases h1 : evF T N D x call F H with
    | bad => rw [h1] at h; cases h
    | ok e F1 H1 =>
      rw [h1] at h
      refine evF_ok hT hcall hD x _ _ _ _ _ h1 B Ds l a w _ hf hr hm fun D1 l1 a1 w1 g1 g2 m1 => ?_
      cases e with
      | normal => cases h; exact hQ _ _ _ _ g1 g2 m1
      | ret => cases h; exact hQ _ _ _ _ g1 g2 m1
      | exit i =>
        have h : bR (Nat.beq i id) (.ok .normal F1 H1) (.ok (.exit i) F1 H1) = .ok ex F' H' := h
        cases hb : Nat.beq i id with
        | true =>
          have hi := Nat.eq_of_beq_eq_true hb
          rw [hb] at h
          cases h
          show Exit.inBlock id Q (.exit i) a1 w1
          simp only [Exit.inBlock, hi, if_true]
          exact hQ _ _ _ _ g1 g2 m1
        | false =>
          have hi := Nat.ne_of_beq_eq_false hb
          rw [hb] at h
          cases h
          show Exit.inBlock id Q (.exit i) a1 w1
          simp only [Exit.inBlock, hi, if_false]
          exact hQ _ _ _ _ g1 g2 m1
  | .loop x => fun F H ex F' H' h B Ds l a w Q hf hr hm hQ => by
    rw [evF_loop] at h
    exact CSem.loop rounds (iterF_ok (g := CC.run (ccOf T N D x) call) (evF_ok hT hcall hD x) rounds _ _ _ _ _ h B Ds l a w hf hr hm fun D1 l1 a1 w1 g1 g2 m1 _ => hQ _ _ _ _ g1 g2 m1)
  | .exit i => fun F H ex F' H' h B Ds l a w Q hf hr hm hQ => by cases h; exact .of_wp (wp_exit (hQ _ _ _ _ hf (.refl hr) hm))
  | .ret => fun F H ex F' H' h B Ds l a w Q hf hr hm hQ => by cases h; exact .of_wp (wp_ret (hQ _ _ _ _ hf (.refl hr) hm))
  | .scope x => fun F H ex F' H' h B Ds l a w Q hf hr hm hQ => by
    have h : evF T N D x call F H = .ok ex F' H' := h
    refine CSem.scope (evF_ok hT hcall hD x _ _ _ _ _ h B Ds l a w _ hf hr hm fun D1 l1 a1 w1 g1 g2 m1 => ?_)
    have := hQ _ _ _ _ g1 g2 m1
    cases ex <;> exact this
  | .goto _ => fun F H ex F' H' h => by cases h
  | .refuse _ => fun F H ex F' H' h => by cases h
  | .rangeFunc g ps x y => fun F H ex F' H' h B Ds l a w Q hf hr hm hQ => by
    have h : rgQ (evC T call (D call N) N 1000000 (.rangeFunc g ps x y) (trF F) H) = .ok ex F' H' := h
    cases hd : evC T call (D call N) N 1000000 (.rangeFunc g ps x y) (trF F) H with
    | none => rw [hd] at h; cases h
    | some p =>
      obtain ⟨e1, f1, H1⟩ := p
      rw [hd] at h
      have h : Rs.ok e1 (frT f1) H1 = .ok ex F' H' := h
      cases h
      exact evC_ok hT hcall hD 1000000 _ _ _ _ _ _ hd B Ds l a w Q hf.fr hr hm fun D1 l1 a1 w1 g1 g2 m1 => hQ _ _ _ _ (.of g1) g2 m1
/-! calls -/
noncomputable def hdQ (l : List AV) : Option AV := @List.rec AV (fun _ => Option AV) none (fun v _ _ => some v) l
noncomputable def tlQ (l : List AV) : List AV := @List.rec AV (fun _ => List AV) [] (fun _ r _ => r) l
theorem hdQ_eq (l : List AV) : hdQ l = l[0]? := by cases l <;> rfl
theorem tlQ_eq (l : List AV) (i : Nat) : (tlQ l)[i]? = l[i + 1]? := by cases l <;> rfl
noncomputable def e8 : F8 := ⟨none, none, none, none, none, none, none, none⟩
noncomputable def argFr (as0 : List AV) : Fr := ⟨⟨hdQ as0, hdQ (tlQ as0), hdQ (tlQ (tlQ as0)), hdQ (tlQ (tlQ (tlQ as0))), hdQ (tlQ (tlQ (tlQ (tlQ as0)))), hdQ (tlQ (tlQ (tlQ (tlQ (tlQ as0))))), hdQ (tlQ (tlQ (tlQ (tlQ (tlQ (tlQ as0)))))), hdQ (tlQ (tlQ (tlQ (tlQ (tlQ (tlQ (tlQ as0)))))))⟩, ⟨hdQ (tlQ (tlQ (tlQ (tlQ (tlQ (tlQ (tlQ (tlQ as0)))))))), hdQ (tlQ (tlQ (tlQ (tlQ (tlQ (tlQ (tlQ (tlQ (tlQ as0))))))))), hdQ (tlQ (tlQ (tlQ (tlQ (tlQ (tlQ (tlQ (tlQ (tlQ (tlQ as0)))))))))), hdQ (tlQ (tlQ (tlQ (tlQ (tlQ (tlQ (tlQ (tlQ (tlQ (tlQ (tlQ as0))))))))))), hdQ (tlQ (tlQ (tlQ (tlQ (tlQ (tlQ (tlQ (tlQ (tlQ (tlQ (tlQ (tlQ as0)))))))))))), hdQ (tlQ (tlQ (tlQ (tlQ (tlQ (tlQ (tlQ (tlQ (tlQ (tlQ (tlQ (tlQ (tlQ as0))))))))))))), hdQ (tlQ (tlQ (tlQ (tlQ (tlQ (tlQ (tlQ (tlQ (tlQ (tlQ (tlQ (tlQ (tlQ (tlQ as0)))))))))))))), hdQ (tlQ (tlQ (tlQ (tlQ (tlQ (tlQ (tlQ (tlQ (tlQ (tlQ (tlQ (tlQ (tlQ (tlQ (tlQ as0)))))))))))))))⟩, e8, e8, e8, e8, e8, e8, ⟨e8, e8, e8, e8, e8, e8, e8, e8⟩, .e⟩
theorem argFr_get {as0 : List AV} {i : Nat} {v : AV} (h : getI (argFr as0) i = some v) : as0[i]? = some v := by
  have key : ∀ a b : Nat, a < 8 → b < 8 → ∀ v, colG (dig b) (rowG (dig a) (argFr as0)) = some v → as0[8 * a + b]? = some v := by
    intro a b ha hb v
    have e1 : a = 0 ∨ a = 1 ∨ a = 2 ∨ a = 3 ∨ a = 4 ∨ a = 5 ∨ a = 6 ∨ a = 7 := by omega
    have e2 : b = 0 ∨ b = 1 ∨ b = 2 ∨ b = 3 ∨ b = 4 ∨ b = 5 ∨ b = 6 ∨ b = 7 := by omega
    have none_ : ∀ {p : Prop}, (none : Option AV) = some v → p := fun h => by cases h
    rcases e1 with rfl | rfl | rfl | rfl | rfl | rfl | rfl | rfl
    · rcases e2 with rfl | rfl | rfl | rfl | rfl | rfl | rfl | rfl <;> intro h <;> (have h : hdQ _ = some v := h) <;> simpa only [hdQ_eq, tlQ_eq, Nat.zero_add, Nat.reduceAdd, Nat.reduceMul] using h
    · rcases e2 with rfl | rfl | rfl | rfl | rfl | rfl | rfl | rfl <;> intro h <;> (have h : hdQ _ = some v := h) <;> simpa only [hdQ_eq, tlQ_eq, Nat.zero_add, Nat.reduceAdd, Nat.reduceMul] using h
    all_goals (rcases e2 with rfl | rfl | rfl | rfl | rfl | rfl | rfl | rfl <;> intro h <;> exact none_ h)
  by_cases h1 : i < 64
  · rw [getI_lo h1] at h
    have := key (i / 8) (i % 8) (by omega) (Nat.mod_lt _ (by decide)) v h
    rwa [show 8 * (i / 8) + i % 8 = i by omega] at this
  · by_cases h2 : i < 128
    · rw [getI_mid h1 h2] at h
      have key2 : ∀ a b : Nat, a < 8 → b < 8 → colG (dig b) (rowH (dig a) (argFr as0).hi) = none := by
        intro a b ha hb
        have e1 : a = 0 ∨ a = 1 ∨ a = 2 ∨ a = 3 ∨ a = 4 ∨ a = 5 ∨ a = 6 ∨ a = 7 := by omega
        have e2 : b = 0 ∨ b = 1 ∨ b = 2 ∨ b = 3 ∨ b = 4 ∨ b = 5 ∨ b = 6 ∨ b = 7 := by omega
        rcases e1 with rfl | rfl | rfl | rfl | rfl | rfl | rfl | rfl <;> rcases e2 with rfl | rfl | rfl | rfl | rfl | rfl | rfl | rfl <;> rfl
      rw [key2 _ _ (by omega) (Nat.mod_lt _ (by decide))] at h
      cases h
    · rw [getI_hi h2 (getI_lt h)] at h
      cases h
theorem FRF.first (hr : HR T.sz l H w) {us : List AV} {xs : List Value} (h : VRs l us xs) (hn : us.length ≤ N) : FRF N [] l (argFr us) { tmps := xs.toArray ++ Array.replicate (N - xs.toArray.size) undef, defers := [] } := by
  have hl := h.length
  refine ⟨by simp; omega, fun i v e => ?_, rfl, hr.glob⟩
  obtain ⟨u, g1, g2⟩ := h.get (argFr_get e)
  refine ⟨u, ?_, g2⟩
  have hlt := (List.getElem?_eq_some_iff.1 g1).1
  rw [Array.getElem?_append_left (by simpa using hlt)]
  simpa using g1
/-! results -/
noncomputable def ldOf (T : Tb) (H : Hp) (t : TypeId) (x : Option AV) : Option AV := match x with
  | some (.ptr b o) => loadV T H t b o
  | _ => none
noncomputable def resT (_ : Tb) (t : Tmp) (F : Fr) (_ : Hp) : Option AV := getO (odOf (.tmp t)) F
noncomputable def resC (T : Tb) (a : Tmp) (t : TypeId) (F : Fr) (H : Hp) : Option AV := ldOf T H t (getO (odOf (.tmp a)) F)
noncomputable def resF (T : Tb) (r : ResultVar) : Fr → Hp → Option AV := @ResultVar.rec (fun _ => Fr → Hp → Option AV) (resT T) (resC T) r
noncomputable def oL (x : Option AV) (q : AV → Option (List AV)) : Option (List AV) := @Option.rec AV (fun _ => Option (List AV)) none q x
noncomputable def oLs (x : Option (List AV)) (q : List AV → Option (List AV)) : Option (List AV) := @Option.rec (List AV) (fun _ => Option (List AV)) none q x
noncomputable def ressC (T : Tb) (r : ResultVar) (_ : List ResultVar) (ih : Fr → Hp → Option (List AV)) (F : Fr) (H : Hp) : Option (List AV) := oL (resF T r F H) (fun v => oLs (ih F H) (fun l => some (v :: l)))
noncomputable def ressF (T : Tb) (rs : List ResultVar) : Fr → Hp → Option (List AV) := @List.rec ResultVar (fun _ => Fr → Hp → Option (List AV)) (fun _ _ => some []) (ressC T) rs
theorem resF_ok {r : ResultVar} {F : Fr} {v : AV} (h : resF T r F H = some v) : resV T (trF F) H r = some v := by
  cases r with
  | tmp t => exact getO_ok h
  | cell a t =>
    have h : ldOf T H t (getO (odOf (.tmp a)) F) = some v := h
    unfold ldOf at h
    split at h
    · rename_i b o hb
      have hb : (trF F).get a = some (.ptr b o) := getO_ok hb
      simp only [resV, hb, h]
    · cases h
theorem ressF_ok {F : Fr} : ∀ {rs : List ResultVar} {vs : List AV}, ressF T rs F H = some vs → ressV T (trF F) H rs = some vs
  | [], vs, h => by cases h; rfl
  | r :: rs, vs, h => by
    have h : oL (resF T r F H) (fun v => oLs (ressF T rs F H) (fun l => some (v :: l))) = some vs := h
    cases h1 : resF T r F H with
    | none => rw [h1] at h; cases h
    | some v =>
      rw [h1] at h
      have h : oLs (ressF T rs F H) (fun l => some (v :: l)) = some vs := h
      cases h2 : ressF T rs F H with
      | none => rw [h2] at h; cases h
      | some l =>
        rw [h2] at h
        have h : some (v :: l) = some vs := h
        cases h
        rw [ressV, resF_ok h1, ressF_ok h2]
noncomputable def oAH {α : Type} (x : Option α) (q : α → Option (AV × Hp)) (z : Option (AV × Hp)) : Option (AV × Hp) := @Option.rec α (fun _ => Option (AV × Hp)) z q x
noncomputable def bAH (b : Bool) (x : Option (AV × Hp)) : Option (AV × Hp) := @Bool.rec (fun _ => Option (AV × Hp)) none x b
noncomputable def oneR (vs : List AV) : AV := @List.rec AV (fun _ => AV) (.tup []) (fun v r _ => @List.rec AV (fun _ => AV) v (fun v2 r2 _ => .tup (v :: v2 :: r2)) r) vs
theorem oneR_eq (vs : List AV) : oneR vs = resultV vs := by
  match vs with
  | [] => rfl
  | [_] => rfl
  | _ :: _ :: _ => rfl
noncomputable def endF (T : Tb) (rs : List ResultVar) (r : Rs) : Option (AV × Hp) := @Rs.rec (fun _ => Option (AV × Hp)) none (fun e F H => @Ex.rec (fun _ => Option (AV × Hp)) (oAH (ressF T rs F H) (fun vs => some (oneR vs, H)) none) (fun _ => none) (oAH (ressF T rs F H) (fun vs => some (oneR vs, H)) none) e) r
noncomputable def bodyF (T : Tb) (D : DF) (call : CallF) (us : List AV) (H : Hp) (i : FI) : Option (AV × Hp) := bAH (Nat.ble (lenQ us) (FI.ntmps i)) (endF T (FI.results i) (evF T (FI.ntmps i) D (FI.body i) call (argFr us) H))
noncomputable def callS (T : Tb) (D : DF) (_ : Nat) (ih : CallF) : CallF := fun g us H => oAH (Tb.hook T g us H) some (oAH (Tb.fn T g) (bodyF T D ih us H) none)
noncomputable def ev2 (T : Tb) (D : DF) (d : Nat) : CallF := @Nat.rec (fun _ => CallF) (fun _ _ _ => none) (callS T D) d
theorem endF_ok {rs : List ResultVar} {r : Rs} {v : AV} {H' : Hp} (h : endF T rs r = some (v, H')) : ∃ e F vs, r = .ok e F H' ∧ e.leaves = true ∧ ressV T (trF F) H' rs = some vs ∧ v = resultV vs := by
  have key : ∀ F H1, oAH (ressF T rs F H1) (fun vs => some (oneR vs, H1)) none = some (v, H') → ∃ vs, H1 = H' ∧ ressV T (trF F) H' rs = some vs ∧ v = resultV vs := by
    intro F H1 h
    cases h1 : ressF T rs F H1 with
    | none => rw [h1] at h; cases h
    | some vs =>
      rw [h1] at h
      have h : some (oneR vs, H1) = some (v, H') := h
      cases h
      exact ⟨vs, rfl, ressF_ok h1, oneR_eq vs⟩
  cases r with
  | bad => cases h
  | ok e F H1 => cases e with
    | normal => obtain ⟨vs, rfl, h1, h2⟩ := key F H1 h; exact ⟨_, _, vs, rfl, rfl, h1, h2⟩
    | exit i => cases h
    | ret => obtain ⟨vs, rfl, h1, h2⟩ := key F H1 h; exact ⟨_, _, vs, rfl, rfl, h1, h2⟩
theorem ev2_ok (hT : TbOk P T) (hh : CallOk P T T.hook) {D : DF} (hD : ∀ call N, CallOk P T call → DrawOk P T N (D call N)) : ∀ d, CallOk P T (ev2 T D d)
  | 0 => fun g us H v H' h => by cases h
  | d + 1 => fun g us H v H' h l w xs hr hx => by
    have h : oAH (T.hook g us H) some (oAH (T.fn g) (bodyF T D (ev2 T D d) us H) none) = some (v, H') := h
    cases hk : T.hook g us H with
    | some r =>
      rw [hk] at h
      have h : some r = some (v, H') := h
      cases h
      exact hh _ _ _ _ _ hk l w xs hr hx
    | none =>
      rw [hk] at h
      have h : oAH (T.fn g) (bodyF T D (ev2 T D d) us H) none = some (v, H') := h
      cases hi : T.fn g with
      | none => rw [hi] at h; cases h
      | some i =>
        rw [hi] at h
        have h : bAH (Nat.ble (lenQ us) i.ntmps) (endF T i.results (evF T i.ntmps D i.body (ev2 T D d) (argFr us) H)) = some (v, H') := h
        cases hn : Nat.ble (lenQ us) i.ntmps with
        | false => rw [hn] at h; cases h
        | true =>
          rw [hn] at h
          have h : endF T i.results (evF T i.ntmps D i.body (ev2 T D d) (argFr us) H) = some (v, H') := h
          have hn : us.length ≤ i.ntmps := by have := Nat.le_of_ble_eq_true hn; rwa [lenQ_eq] at this
          obtain ⟨fn, q1, q2, q3, q4, q5⟩ := hT.fn _ _ hi
          have hcall := ev2_ok hT hh hD d
          refine .inr ⟨q5 _ _, calls_of_sem q1 q2 ?_⟩
          rw [q3]
          obtain ⟨ex, F', vs, hev, hlv, hvs, rfl⟩ := endF_ok h
          refine evF_ok hT hcall (hD _ _ hcall) _ _ _ _ _ _ hev w.heap.size [] l _ w _ (FRF.first hr hx hn) hr ⟨Nat.le_refl _, [], rfl, List.nodup_nil, fun r hr => by cases hr⟩ fun D1 l1 a1 w1 g1 g2 m1 => ?_
          obtain ⟨rs, m2, m3, m4⟩ := m1.rs
          refine ⟨?_, rs, g1.defers.trans m2, m3, fun r hrm => (m4 r hrm).2.1, fun w2 hs => ?_⟩
          · cases ex with
            | exit i => cases hlv
            | normal => exact .inl rfl
            | ret => exact .inr rfl
          · have hk2 := g2.shut hs (fun r hrm => (m4 r hrm).1) (fun r hrm => (m4 r hrm).2.2)
            obtain ⟨x, k1, k2⟩ := results_ok (fn := fn) hT g1.fr hk2.hr (by rw [q4]; exact hvs)
            exact ⟨x, k1, x, rfl, l1, k2, hk2⟩
end Go.Proofs.YtkbmmoobcikbaaaGreatDoor.Ev
