/-
  A FASTER RECKONER, FIRST PART: frames of eight rows of eight; what a value is; heaps. Each by its recursor, so that the kernel goes straight. No program in sight; no condition.
-/
import Derived.Test.YtcfmohjffnpfpaaGreatDoorEv11
namespace Go.Proofs.YtcfmohjffnpfpaaGreatDoor.Ev
open Go Go.RowKit

structure F8 where
  a0 : Option AV
  a1 : Option AV
  a2 : Option AV
  a3 : Option AV
  a4 : Option AV
  a5 : Option AV
  a6 : Option AV
  a7 : Option AV
structure F64 where
  q0 : F8
  q1 : F8
  q2 : F8
  q3 : F8
  q4 : F8
  q5 : F8
  q6 : F8
  q7 : F8
structure Fr where
  q0 : F8
  q1 : F8
  q2 : F8
  q3 : F8
  q4 : F8
  q5 : F8
  q6 : F8
  q7 : F8
  hi : F64
  ex : Tr AV
inductive D8 where
  | d0
  | d1
  | d2
  | d3
  | d4
  | d5
  | d6
  | d7
deriving DecidableEq
noncomputable def colG (j : D8) : F8 → Option AV := @D8.rec (fun _ => F8 → Option AV) F8.a0 F8.a1 F8.a2 F8.a3 F8.a4 F8.a5 F8.a6 F8.a7 j
noncomputable def rowG (i : D8) : Fr → F8 := @D8.rec (fun _ => Fr → F8) Fr.q0 Fr.q1 Fr.q2 Fr.q3 Fr.q4 Fr.q5 Fr.q6 Fr.q7 i
noncomputable def cS0 (v : Option AV) (r : F8) : F8 := @F8.rec (fun _ => F8) (fun _ b1 b2 b3 b4 b5 b6 b7 => ⟨v, b1, b2, b3, b4, b5, b6, b7⟩) r
noncomputable def cS1 (v : Option AV) (r : F8) : F8 := @F8.rec (fun _ => F8) (fun b0 _ b2 b3 b4 b5 b6 b7 => ⟨b0, v, b2, b3, b4, b5, b6, b7⟩) r
noncomputable def cS2 (v : Option AV) (r : F8) : F8 := @F8.rec (fun _ => F8) (fun b0 b1 _ b3 b4 b5 b6 b7 => ⟨b0, b1, v, b3, b4, b5, b6, b7⟩) r
noncomputable def cS3 (v : Option AV) (r : F8) : F8 := @F8.rec (fun _ => F8) (fun b0 b1 b2 _ b4 b5 b6 b7 => ⟨b0, b1, b2, v, b4, b5, b6, b7⟩) r
noncomputable def cS4 (v : Option AV) (r : F8) : F8 := @F8.rec (fun _ => F8) (fun b0 b1 b2 b3 _ b5 b6 b7 => ⟨b0, b1, b2, b3, v, b5, b6, b7⟩) r
noncomputable def cS5 (v : Option AV) (r : F8) : F8 := @F8.rec (fun _ => F8) (fun b0 b1 b2 b3 b4 _ b6 b7 => ⟨b0, b1, b2, b3, b4, v, b6, b7⟩) r
noncomputable def cS6 (v : Option AV) (r : F8) : F8 := @F8.rec (fun _ => F8) (fun b0 b1 b2 b3 b4 b5 _ b7 => ⟨b0, b1, b2, b3, b4, b5, v, b7⟩) r
noncomputable def cS7 (v : Option AV) (r : F8) : F8 := @F8.rec (fun _ => F8) (fun b0 b1 b2 b3 b4 b5 b6 _ => ⟨b0, b1, b2, b3, b4, b5, b6, v⟩) r
noncomputable def rS0 (k : F8 → F8) (F : Fr) : Fr := @Fr.rec (fun _ => Fr) (fun b0 b1 b2 b3 b4 b5 b6 b7 h x => ⟨k b0, b1, b2, b3, b4, b5, b6, b7, h, x⟩) F
noncomputable def rS1 (k : F8 → F8) (F : Fr) : Fr := @Fr.rec (fun _ => Fr) (fun b0 b1 b2 b3 b4 b5 b6 b7 h x => ⟨b0, k b1, b2, b3, b4, b5, b6, b7, h, x⟩) F
noncomputable def rS2 (k : F8 → F8) (F : Fr) : Fr := @Fr.rec (fun _ => Fr) (fun b0 b1 b2 b3 b4 b5 b6 b7 h x => ⟨b0, b1, k b2, b3, b4, b5, b6, b7, h, x⟩) F
noncomputable def rS3 (k : F8 → F8) (F : Fr) : Fr := @Fr.rec (fun _ => Fr) (fun b0 b1 b2 b3 b4 b5 b6 b7 h x => ⟨b0, b1, b2, k b3, b4, b5, b6, b7, h, x⟩) F
noncomputable def rS4 (k : F8 → F8) (F : Fr) : Fr := @Fr.rec (fun _ => Fr) (fun b0 b1 b2 b3 b4 b5 b6 b7 h x => ⟨b0, b1, b2, b3, k b4, b5, b6, b7, h, x⟩) F
noncomputable def rS5 (k : F8 → F8) (F : Fr) : Fr := @Fr.rec (fun _ => Fr) (fun b0 b1 b2 b3 b4 b5 b6 b7 h x => ⟨b0, b1, b2, b3, b4, k b5, b6, b7, h, x⟩) F
noncomputable def rS6 (k : F8 → F8) (F : Fr) : Fr := @Fr.rec (fun _ => Fr) (fun b0 b1 b2 b3 b4 b5 b6 b7 h x => ⟨b0, b1, b2, b3, b4, b5, k b6, b7, h, x⟩) F
noncomputable def rS7 (k : F8 → F8) (F : Fr) : Fr := @Fr.rec (fun _ => Fr) (fun b0 b1 b2 b3 b4 b5 b6 b7 h x => ⟨b0, b1, b2, b3, b4, b5, b6, k b7, h, x⟩) F
noncomputable def hS0 (k : F8 → F8) (F : F64) : F64 := @F64.rec (fun _ => F64) (fun b0 b1 b2 b3 b4 b5 b6 b7 => ⟨k b0, b1, b2, b3, b4, b5, b6, b7⟩) F
noncomputable def hS1 (k : F8 → F8) (F : F64) : F64 := @F64.rec (fun _ => F64) (fun b0 b1 b2 b3 b4 b5 b6 b7 => ⟨b0, k b1, b2, b3, b4, b5, b6, b7⟩) F
noncomputable def hS2 (k : F8 → F8) (F : F64) : F64 := @F64.rec (fun _ => F64) (fun b0 b1 b2 b3 b4 b5 b6 b7 => ⟨b0, b1, k b2, b3, b4, b5, b6, b7⟩) F
noncomputable def hS3 (k : F8 → F8) (F : F64) : F64 := @F64.rec (fun _ => F64) (fun b0 b1 b2 b3 b4 b5 b6 b7 => ⟨b0, b1, b2, k b3, b4, b5, b6, b7⟩) F
noncomputable def hS4 (k : F8 → F8) (F : F64) : F64 := @F64.rec (fun _ => F64) (fun b0 b1 b2 b3 b4 b5 b6 b7 => ⟨b0, b1, b2, b3, k b4, b5, b6, b7⟩) F
noncomputable def hS5 (k : F8 → F8) (F : F64) : F64 := @F64.rec (fun _ => F64) (fun b0 b1 b2 b3 b4 b5 b6 b7 => ⟨b0, b1, b2, b3, b4, k b5, b6, b7⟩) F
noncomputable def hS6 (k : F8 → F8) (F : F64) : F64 := @F64.rec (fun _ => F64) (fun b0 b1 b2 b3 b4 b5 b6 b7 => ⟨b0, b1, b2, b3, b4, b5, k b6, b7⟩) F
noncomputable def hS7 (k : F8 → F8) (F : F64) : F64 := @F64.rec (fun _ => F64) (fun b0 b1 b2 b3 b4 b5 b6 b7 => ⟨b0, b1, b2, b3, b4, b5, b6, k b7⟩) F
noncomputable def colS (j : D8) : Option AV → F8 → F8 := @D8.rec (fun _ => Option AV → F8 → F8) cS0 cS1 cS2 cS3 cS4 cS5 cS6 cS7 j
noncomputable def rowS (i : D8) : (F8 → F8) → Fr → Fr := @D8.rec (fun _ => (F8 → F8) → Fr → Fr) rS0 rS1 rS2 rS3 rS4 rS5 rS6 rS7 i
noncomputable def rowH (i : D8) : F64 → F8 := @D8.rec (fun _ => F64 → F8) F64.q0 F64.q1 F64.q2 F64.q3 F64.q4 F64.q5 F64.q6 F64.q7 i
noncomputable def rowHS (i : D8) : (F8 → F8) → F64 → F64 := @D8.rec (fun _ => (F8 → F8) → F64 → F64) hS0 hS1 hS2 hS3 hS4 hS5 hS6 hS7 i
noncomputable def onH (k : F64 → F64) (F : Fr) : Fr := @Fr.rec (fun _ => Fr) (fun b0 b1 b2 b3 b4 b5 b6 b7 h x => ⟨b0, b1, b2, b3, b4, b5, b6, b7, k h, x⟩) F
noncomputable def hiS (t : Tr AV) (F : Fr) : Fr := @Fr.rec (fun _ => Fr) (fun b0 b1 b2 b3 b4 b5 b6 b7 h _ => ⟨b0, b1, b2, b3, b4, b5, b6, b7, h, t⟩) F
theorem colG_S (j k : D8) (v : Option AV) (r : F8) : colG k (colS j v r) = if k = j then v else colG k r := by
  cases r; cases j <;> cases k <;> rfl
theorem rowG_S (j k : D8) (g : F8 → F8) (F : Fr) : rowG k (rowS j g F) = if k = j then g (rowG k F) else rowG k F := by
  cases F; cases j <;> cases k <;> rfl
theorem rowH_S (j k : D8) (g : F8 → F8) (F : F64) : rowH k (rowHS j g F) = if k = j then g (rowH k F) else rowH k F := by
  cases F; cases j <;> cases k <;> rfl
theorem hi_S (j : D8) (g : F8 → F8) (F : Fr) : (rowS j g F).hi = F.hi ∧ (rowS j g F).ex = F.ex := by cases F; cases j <;> exact ⟨rfl, rfl⟩
theorem hi_onH (k : F64 → F64) (F : Fr) : (onH k F).hi = k F.hi ∧ (onH k F).ex = F.ex := by cases F; exact ⟨rfl, rfl⟩
theorem rowG_onH (j : D8) (k : F64 → F64) (F : Fr) : rowG j (onH k F) = rowG j F := by cases F; cases j <;> rfl
theorem hi_hiS (t : Tr AV) (F : Fr) : (hiS t F).ex = t ∧ (hiS t F).hi = F.hi := by cases F; exact ⟨rfl, rfl⟩
theorem rowG_hiS (k : D8) (t : Tr AV) (F : Fr) : rowG k (hiS t F) = rowG k F := by cases F; cases k <;> rfl
def dig (n : Nat) : D8 := match Nat.beq n 0 with
  | true => .d0
  | false => match Nat.beq n 1 with
    | true => .d1
    | false => match Nat.beq n 2 with
      | true => .d2
      | false => match Nat.beq n 3 with
        | true => .d3
        | false => match Nat.beq n 4 with
          | true => .d4
          | false => match Nat.beq n 5 with
            | true => .d5
            | false => match Nat.beq n 6 with
              | true => .d6
              | false => .d7
theorem dig_inj (a b : Nat) (ha : a < 8) (hb : b < 8) (h : dig a = dig b) : a = b := by
  have : ∀ a b : Fin 8, dig a = dig b → a = b := by decide
  simpa using this ⟨a, ha⟩ ⟨b, hb⟩ h

/-! trees out of functions -/
namespace Tr
variable {α : Type}
/-- A tree out of a function. -/
noncomputable def ofS (_ : Nat) (ih : (Nat → Option α) → Tr α) (g : Nat → Option α) : Tr α := .n (ih fun j => g (Nat.add (Nat.mul 2 j) 1)) (g 0) (ih fun j => g (Nat.add (Nat.mul 2 j) 2))
noncomputable def ofF (d : Nat) : (Nat → Option α) → Tr α := @Nat.rec (fun _ => (Nat → Option α) → Tr α) (fun _ => .e) ofS d
theorem ofF_s (d : Nat) (g : Nat → Option α) : ofF (d + 1) g = .n (ofF d fun j => g (2 * j + 1)) (g 0) (ofF d fun j => g (2 * j + 2)) := rfl
theorem ofF_get : ∀ (d : Nat) (g : Nat → Option α) (i : Nat) (u : α), (ofF d g).get i = some u → g i = some u
  | 0, _, _, _, h => by cases h
  | d + 1, g, i, u, h => by
    rw [ofF_s, get_n] at h
    cases hi : Nat.beq i 0 with
    | true => rw [hi] at h; have := Nat.eq_of_beq_eq_true hi; subst this; exact h
    | false =>
      have hi0 : i ≠ 0 := Nat.ne_of_beq_eq_false hi
      rw [hi] at h
      cases hp : Nat.beq (i % 2) 1 with
      | true =>
        have hp1 := Nat.eq_of_beq_eq_true hp
        rw [hp] at h
        have := ofF_get d _ _ _ h
        simpa [show 2 * (i / 2) + 1 = i by omega] using this
      | false =>
        have hp1 := Nat.ne_of_beq_eq_false hp
        rw [hp] at h
        have := ofF_get d _ _ _ h
        simpa [show 2 * (i / 2 - 1) + 2 = i by omega] using this
theorem ofF_eq : ∀ (d : Nat) (g : Nat → Option α) (i : Nat), i + 1 < 2 ^ d → (ofF d g).get i = g i
  | 0, _, _, h => by simp at h
  | d + 1, g, i, h => by
    rw [ofF_s, get_n]
    cases hi : Nat.beq i 0 with
    | true => have := Nat.eq_of_beq_eq_true hi; subst this; rfl
    | false =>
      have hi0 : i ≠ 0 := Nat.ne_of_beq_eq_false hi
      cases hp : Nat.beq (i % 2) 1 with
      | true =>
        have hp1 := Nat.eq_of_beq_eq_true hp
        show (ofF d fun j => g (2 * j + 1)).get (i / 2) = _
        rw [ofF_eq d _ _ (by rw [Nat.pow_succ] at h; omega), show 2 * (i / 2) + 1 = i by omega]
      | false =>
        have hp1 := Nat.ne_of_beq_eq_false hp
        show (ofF d fun j => g (2 * j + 2)).get (i / 2 - 1) = _
        rw [ofF_eq d _ _ (by rw [Nat.pow_succ] at h; omega), show 2 * (i / 2 - 1) + 2 = i by omega]
end Tr
/-! frames by numbers -/
noncomputable def getI (F : Fr) (i : Nat) : Option AV := match Nat.blt i 64 with
  | true => colG (dig (i % 8)) (rowG (dig (i / 8)) F)
  | false => match Nat.blt i 128 with
    | true => colG (dig (i % 8)) (rowH (dig (i / 8 - 8)) F.hi)
    | false => match Nat.blt i 1000 with
      | true => F.ex.get (i - 128)
      | false => none
noncomputable def setI (F : Fr) (i : Nat) (v : AV) : Fr := match Nat.blt i 64 with
  | true => rowS (dig (i / 8)) (colS (dig (i % 8)) (some v)) F
  | false => match Nat.blt i 128 with
    | true => onH (rowHS (dig (i / 8 - 8)) (colS (dig (i % 8)) (some v))) F
    | false => hiS (F.ex.set 10 (i - 128) (some v)) F
theorem blt_t {a b : Nat} (h : a < b) : Nat.blt a b = true := by simpa [Nat.blt_eq] using h
theorem blt_f {a b : Nat} (h : ¬ a < b) : Nat.blt a b = false := by rw [Bool.eq_false_iff]; simpa [Nat.blt_eq] using h
theorem getI_lo {F : Fr} {i : Nat} (h : i < 64) : getI F i = colG (dig (i % 8)) (rowG (dig (i / 8)) F) := by
  unfold getI; rw [blt_t h]
theorem getI_mid {F : Fr} {i : Nat} (h : ¬ i < 64) (h2 : i < 128) : getI F i = colG (dig (i % 8)) (rowH (dig (i / 8 - 8)) F.hi) := by
  unfold getI; rw [blt_f h, blt_t h2]
theorem getI_hi {F : Fr} {i : Nat} (h : ¬ i < 128) (h2 : i < 1000) : getI F i = F.ex.get (i - 128) := by
  unfold getI; rw [blt_f (show ¬ i < 64 by omega), blt_f h, blt_t h2]
theorem getI_lt {F : Fr} {i : Nat} {v : AV} (h : getI F i = some v) : i < 1000 := by
  unfold getI at h
  split at h
  · rename_i h1
    have h1 : i < 64 := by simpa [Nat.blt_eq] using h1
    omega
  · split at h
    · rename_i h1
      have h1 : i < 128 := by simpa [Nat.blt_eq] using h1
      omega
    · split at h
      · rename_i h2; simpa [Nat.blt_eq] using h2
      · cases h
theorem setI_lo {F : Fr} {i : Nat} {v : AV} (h : i < 64) : setI F i v = rowS (dig (i / 8)) (colS (dig (i % 8)) (some v)) F := by
  unfold setI; rw [blt_t h]
theorem setI_mid {F : Fr} {i : Nat} {v : AV} (h : ¬ i < 64) (h2 : i < 128) : setI F i v = onH (rowHS (dig (i / 8 - 8)) (colS (dig (i % 8)) (some v))) F := by
  unfold setI; rw [blt_f h, blt_t h2]
theorem setI_hi {F : Fr} {i : Nat} {v : AV} (h : ¬ i < 128) : setI F i v = hiS (F.ex.set 10 (i - 128) (some v)) F := by
  unfold setI; rw [blt_f (show ¬ i < 64 by omega), blt_f h]
theorem getI_setI {F : Fr} {i j : Nat} {v u : AV} (hi : i < 1000) (h : getI (setI F i v) j = some u) : (j = i ∧ u = v) ∨ (j ≠ i ∧ getI F j = some u) := by
  have hj := getI_lt h
  by_cases h1 : i < 64
  · rw [setI_lo h1] at h
    by_cases h2 : j < 64
    · rw [getI_lo h2, rowG_S] at h
      rw [getI_lo h2]
      by_cases hr : dig (j / 8) = dig (i / 8)
      · rw [if_pos hr, colG_S] at h
        by_cases hc : dig (j % 8) = dig (i % 8)
        · rw [if_pos hc] at h
          cases h
          have e1 := dig_inj _ _ (by omega) (by omega) hr
          have e2 := dig_inj _ _ (Nat.mod_lt _ (by decide)) (Nat.mod_lt _ (by decide)) hc
          exact .inl ⟨by omega, rfl⟩
        · rw [if_neg hc] at h
          exact .inr ⟨fun e => hc (by rw [e]), h⟩
      · rw [if_neg hr] at h
        exact .inr ⟨fun e => hr (by rw [e]), h⟩
    · by_cases h3 : j < 128
      · rw [getI_mid h2 h3, (hi_S _ _ _).1] at h
        exact .inr ⟨by omega, by rw [getI_mid h2 h3]; exact h⟩
      · rw [getI_hi h3 hj, (hi_S _ _ _).2] at h
        exact .inr ⟨by omega, by rw [getI_hi h3 hj]; exact h⟩
  · by_cases h4 : i < 128
    · rw [setI_mid h1 h4] at h
      by_cases h2 : j < 64
      · rw [getI_lo h2, rowG_onH] at h
        exact .inr ⟨by omega, by rw [getI_lo h2]; exact h⟩
      · by_cases h3 : j < 128
        · rw [getI_mid h2 h3, (hi_onH _ _).1, rowH_S] at h
          rw [getI_mid h2 h3]
          by_cases hr : dig (j / 8 - 8) = dig (i / 8 - 8)
          · rw [if_pos hr, colG_S] at h
            by_cases hc : dig (j % 8) = dig (i % 8)
            · rw [if_pos hc] at h
              cases h
              have e1 := dig_inj _ _ (by omega) (by omega) hr
              have e2 := dig_inj _ _ (Nat.mod_lt _ (by decide)) (Nat.mod_lt _ (by decide)) hc
              exact .inl ⟨by omega, rfl⟩
            · rw [if_neg hc] at h
              exact .inr ⟨fun e => hc (by rw [e]), h⟩
          · rw [if_neg hr] at h
            exact .inr ⟨fun e => hr (by rw [e]), h⟩
        · rw [getI_hi h3 hj, (hi_onH _ _).2] at h
          exact .inr ⟨by omega, by rw [getI_hi h3 hj]; exact h⟩
    · rw [setI_hi h4] at h
      by_cases h2 : j < 64
      · rw [getI_lo h2, rowG_hiS] at h
        exact .inr ⟨by omega, by rw [getI_lo h2]; exact h⟩
      · by_cases h3 : j < 128
        · rw [getI_mid h2 h3, (hi_hiS _ _).2] at h
          exact .inr ⟨by omega, by rw [getI_mid h2 h3]; exact h⟩
        · rw [getI_hi h3 hj, (hi_hiS _ _).1] at h
          rcases Tr.set_get _ _ _ _ _ _ h with ⟨e1, e2⟩ | ⟨e1, e2⟩
          · cases e2; exact .inl ⟨by omega, rfl⟩
          · exact .inr ⟨by omega, by rw [getI_hi h3 hj]; exact e2⟩
/-- A frame as the reckoner's. -/
noncomputable def trF (F : Fr) : Tr AV := Tr.ofF 10 (getI F)
theorem trF_get {F : Fr} {i : Nat} {v : AV} (h : (trF F).get i = some v) : getI F i = some v := Tr.ofF_get _ _ _ _ h
theorem trF_eq {F : Fr} {i : Nat} (h : i < 1000) : (trF F).get i = getI F i := Tr.ofF_eq _ _ _ (by omega)
/-- .. and back. -/
noncomputable def frT (f : Tr AV) : Fr := ⟨⟨f.get 0, f.get 1, f.get 2, f.get 3, f.get 4, f.get 5, f.get 6, f.get 7⟩, ⟨f.get 8, f.get 9, f.get 10, f.get 11, f.get 12, f.get 13, f.get 14, f.get 15⟩, ⟨f.get 16, f.get 17, f.get 18, f.get 19, f.get 20, f.get 21, f.get 22, f.get 23⟩, ⟨f.get 24, f.get 25, f.get 26, f.get 27, f.get 28, f.get 29, f.get 30, f.get 31⟩, ⟨f.get 32, f.get 33, f.get 34, f.get 35, f.get 36, f.get 37, f.get 38, f.get 39⟩, ⟨f.get 40, f.get 41, f.get 42, f.get 43, f.get 44, f.get 45, f.get 46, f.get 47⟩, ⟨f.get 48, f.get 49, f.get 50, f.get 51, f.get 52, f.get 53, f.get 54, f.get 55⟩, ⟨f.get 56, f.get 57, f.get 58, f.get 59, f.get 60, f.get 61, f.get 62, f.get 63⟩, ⟨⟨f.get 64, f.get 65, f.get 66, f.get 67, f.get 68, f.get 69, f.get 70, f.get 71⟩, ⟨f.get 72, f.get 73, f.get 74, f.get 75, f.get 76, f.get 77, f.get 78, f.get 79⟩, ⟨f.get 80, f.get 81, f.get 82, f.get 83, f.get 84, f.get 85, f.get 86, f.get 87⟩, ⟨f.get 88, f.get 89, f.get 90, f.get 91, f.get 92, f.get 93, f.get 94, f.get 95⟩, ⟨f.get 96, f.get 97, f.get 98, f.get 99, f.get 100, f.get 101, f.get 102, f.get 103⟩, ⟨f.get 104, f.get 105, f.get 106, f.get 107, f.get 108, f.get 109, f.get 110, f.get 111⟩, ⟨f.get 112, f.get 113, f.get 114, f.get 115, f.get 116, f.get 117, f.get 118, f.get 119⟩, ⟨f.get 120, f.get 121, f.get 122, f.get 123, f.get 124, f.get 125, f.get 126, f.get 127⟩⟩, Tr.ofF 10 fun k => f.get (k + 128)⟩
theorem frT_lo (f : Tr AV) : ∀ i : Nat, i < 64 → colG (dig (i % 8)) (rowG (dig (i / 8)) (frT f)) = f.get i := by
  intro i hi
  have : ∀ a b : Nat, a < 8 → b < 8 → colG (dig b) (rowG (dig a) (frT f)) = f.get (8 * a + b) := by
    intro a b ha hb
    have e1 : a = 0 ∨ a = 1 ∨ a = 2 ∨ a = 3 ∨ a = 4 ∨ a = 5 ∨ a = 6 ∨ a = 7 := by omega
    have e2 : b = 0 ∨ b = 1 ∨ b = 2 ∨ b = 3 ∨ b = 4 ∨ b = 5 ∨ b = 6 ∨ b = 7 := by omega
    rcases e1 with rfl | rfl | rfl | rfl | rfl | rfl | rfl | rfl <;> rcases e2 with rfl | rfl | rfl | rfl | rfl | rfl | rfl | rfl <;> rfl
  rw [this _ _ (by omega) (Nat.mod_lt _ (by decide)), show 8 * (i / 8) + i % 8 = i by omega]
theorem frT_mid (f : Tr AV) : ∀ i : Nat, ¬ i < 64 → i < 128 → colG (dig (i % 8)) (rowH (dig (i / 8 - 8)) (frT f).hi) = f.get i := by
  intro i h1 hi
  have : ∀ a b : Nat, a < 8 → b < 8 → colG (dig b) (rowH (dig a) (frT f).hi) = f.get (64 + (8 * a + b)) := by
    intro a b ha hb
    have e1 : a = 0 ∨ a = 1 ∨ a = 2 ∨ a = 3 ∨ a = 4 ∨ a = 5 ∨ a = 6 ∨ a = 7 := by omega
    have e2 : b = 0 ∨ b = 1 ∨ b = 2 ∨ b = 3 ∨ b = 4 ∨ b = 5 ∨ b = 6 ∨ b = 7 := by omega
    rcases e1 with rfl | rfl | rfl | rfl | rfl | rfl | rfl | rfl <;> rcases e2 with rfl | rfl | rfl | rfl | rfl | rfl | rfl | rfl <;> rfl
  rw [this _ _ (by omega) (Nat.mod_lt _ (by decide)), show 64 + (8 * (i / 8 - 8) + i % 8) = i by omega]
theorem frT_get {f : Tr AV} {i : Nat} {v : AV} (h : getI (frT f) i = some v) : f.get i = some v := by
  by_cases h1 : i < 64
  · rw [getI_lo h1, frT_lo f i h1] at h; exact h
  · by_cases h2 : i < 128
    · rw [getI_mid h1 h2, frT_mid f i h1 h2] at h; exact h
    · rw [getI_hi h2 (getI_lt h)] at h
      have h : (Tr.ofF 10 fun k => f.get (k + 128)).get (i - 128) = some v := h
      have := Tr.ofF_get _ _ _ _ h
      simpa [show i - 128 + 128 = i by omega] using this

/-! results -/
inductive Rs where
  | bad
  | ok (e : Ex) (F : Fr) (H : Hp)
noncomputable def wv (x : Option AV) (q : AV → Rs) : Rs := @Option.rec AV (fun _ => Rs) .bad q x
noncomputable def bR (b : Bool) (x y : Rs) : Rs := @Bool.rec (fun _ => Rs) y x b
theorem wv_none (q : AV → Rs) : wv none q = .bad := rfl
theorem wv_some (v : AV) (q : AV → Rs) : wv (some v) q = q v := rfl
/-! operands, as functions -/
structure Od where
  g : Fr → Option AV
noncomputable def od0 (F : Fr) : Option AV := F8.a0 (Fr.q0 F)
noncomputable def od1 (F : Fr) : Option AV := F8.a1 (Fr.q0 F)
noncomputable def od2 (F : Fr) : Option AV := F8.a2 (Fr.q0 F)
noncomputable def od3 (F : Fr) : Option AV := F8.a3 (Fr.q0 F)
noncomputable def od4 (F : Fr) : Option AV := F8.a4 (Fr.q0 F)
noncomputable def od5 (F : Fr) : Option AV := F8.a5 (Fr.q0 F)
noncomputable def od6 (F : Fr) : Option AV := F8.a6 (Fr.q0 F)
noncomputable def od7 (F : Fr) : Option AV := F8.a7 (Fr.q0 F)
noncomputable def od8 (F : Fr) : Option AV := F8.a0 (Fr.q1 F)
noncomputable def od9 (F : Fr) : Option AV := F8.a1 (Fr.q1 F)
noncomputable def od10 (F : Fr) : Option AV := F8.a2 (Fr.q1 F)
noncomputable def od11 (F : Fr) : Option AV := F8.a3 (Fr.q1 F)
noncomputable def od12 (F : Fr) : Option AV := F8.a4 (Fr.q1 F)
noncomputable def od13 (F : Fr) : Option AV := F8.a5 (Fr.q1 F)
noncomputable def od14 (F : Fr) : Option AV := F8.a6 (Fr.q1 F)
noncomputable def od15 (F : Fr) : Option AV := F8.a7 (Fr.q1 F)
noncomputable def od16 (F : Fr) : Option AV := F8.a0 (Fr.q2 F)
noncomputable def od17 (F : Fr) : Option AV := F8.a1 (Fr.q2 F)
noncomputable def od18 (F : Fr) : Option AV := F8.a2 (Fr.q2 F)
noncomputable def od19 (F : Fr) : Option AV := F8.a3 (Fr.q2 F)
noncomputable def od20 (F : Fr) : Option AV := F8.a4 (Fr.q2 F)
noncomputable def od21 (F : Fr) : Option AV := F8.a5 (Fr.q2 F)
noncomputable def od22 (F : Fr) : Option AV := F8.a6 (Fr.q2 F)
noncomputable def od23 (F : Fr) : Option AV := F8.a7 (Fr.q2 F)
noncomputable def od24 (F : Fr) : Option AV := F8.a0 (Fr.q3 F)
noncomputable def od25 (F : Fr) : Option AV := F8.a1 (Fr.q3 F)
noncomputable def od26 (F : Fr) : Option AV := F8.a2 (Fr.q3 F)
noncomputable def od27 (F : Fr) : Option AV := F8.a3 (Fr.q3 F)
noncomputable def od28 (F : Fr) : Option AV := F8.a4 (Fr.q3 F)
noncomputable def od29 (F : Fr) : Option AV := F8.a5 (Fr.q3 F)
noncomputable def od30 (F : Fr) : Option AV := F8.a6 (Fr.q3 F)
noncomputable def od31 (F : Fr) : Option AV := F8.a7 (Fr.q3 F)
noncomputable def od32 (F : Fr) : Option AV := F8.a0 (Fr.q4 F)
noncomputable def od33 (F : Fr) : Option AV := F8.a1 (Fr.q4 F)
noncomputable def od34 (F : Fr) : Option AV := F8.a2 (Fr.q4 F)
noncomputable def od35 (F : Fr) : Option AV := F8.a3 (Fr.q4 F)
noncomputable def od36 (F : Fr) : Option AV := F8.a4 (Fr.q4 F)
noncomputable def od37 (F : Fr) : Option AV := F8.a5 (Fr.q4 F)
noncomputable def od38 (F : Fr) : Option AV := F8.a6 (Fr.q4 F)
noncomputable def od39 (F : Fr) : Option AV := F8.a7 (Fr.q4 F)
noncomputable def od40 (F : Fr) : Option AV := F8.a0 (Fr.q5 F)
noncomputable def od41 (F : Fr) : Option AV := F8.a1 (Fr.q5 F)
noncomputable def od42 (F : Fr) : Option AV := F8.a2 (Fr.q5 F)
noncomputable def od43 (F : Fr) : Option AV := F8.a3 (Fr.q5 F)
noncomputable def od44 (F : Fr) : Option AV := F8.a4 (Fr.q5 F)
noncomputable def od45 (F : Fr) : Option AV := F8.a5 (Fr.q5 F)
noncomputable def od46 (F : Fr) : Option AV := F8.a6 (Fr.q5 F)
noncomputable def od47 (F : Fr) : Option AV := F8.a7 (Fr.q5 F)
noncomputable def od48 (F : Fr) : Option AV := F8.a0 (Fr.q6 F)
noncomputable def od49 (F : Fr) : Option AV := F8.a1 (Fr.q6 F)
noncomputable def od50 (F : Fr) : Option AV := F8.a2 (Fr.q6 F)
noncomputable def od51 (F : Fr) : Option AV := F8.a3 (Fr.q6 F)
noncomputable def od52 (F : Fr) : Option AV := F8.a4 (Fr.q6 F)
noncomputable def od53 (F : Fr) : Option AV := F8.a5 (Fr.q6 F)
noncomputable def od54 (F : Fr) : Option AV := F8.a6 (Fr.q6 F)
noncomputable def od55 (F : Fr) : Option AV := F8.a7 (Fr.q6 F)
noncomputable def od56 (F : Fr) : Option AV := F8.a0 (Fr.q7 F)
noncomputable def od57 (F : Fr) : Option AV := F8.a1 (Fr.q7 F)
noncomputable def od58 (F : Fr) : Option AV := F8.a2 (Fr.q7 F)
noncomputable def od59 (F : Fr) : Option AV := F8.a3 (Fr.q7 F)
noncomputable def od60 (F : Fr) : Option AV := F8.a4 (Fr.q7 F)
noncomputable def od61 (F : Fr) : Option AV := F8.a5 (Fr.q7 F)
noncomputable def od62 (F : Fr) : Option AV := F8.a6 (Fr.q7 F)
noncomputable def od63 (F : Fr) : Option AV := F8.a7 (Fr.q7 F)
noncomputable def od64 (F : Fr) : Option AV := F8.a0 (F64.q0 (Fr.hi F))
noncomputable def od65 (F : Fr) : Option AV := F8.a1 (F64.q0 (Fr.hi F))
noncomputable def od66 (F : Fr) : Option AV := F8.a2 (F64.q0 (Fr.hi F))
noncomputable def od67 (F : Fr) : Option AV := F8.a3 (F64.q0 (Fr.hi F))
noncomputable def od68 (F : Fr) : Option AV := F8.a4 (F64.q0 (Fr.hi F))
noncomputable def od69 (F : Fr) : Option AV := F8.a5 (F64.q0 (Fr.hi F))
noncomputable def od70 (F : Fr) : Option AV := F8.a6 (F64.q0 (Fr.hi F))
noncomputable def od71 (F : Fr) : Option AV := F8.a7 (F64.q0 (Fr.hi F))
noncomputable def od72 (F : Fr) : Option AV := F8.a0 (F64.q1 (Fr.hi F))
noncomputable def od73 (F : Fr) : Option AV := F8.a1 (F64.q1 (Fr.hi F))
noncomputable def od74 (F : Fr) : Option AV := F8.a2 (F64.q1 (Fr.hi F))
noncomputable def od75 (F : Fr) : Option AV := F8.a3 (F64.q1 (Fr.hi F))
noncomputable def od76 (F : Fr) : Option AV := F8.a4 (F64.q1 (Fr.hi F))
noncomputable def od77 (F : Fr) : Option AV := F8.a5 (F64.q1 (Fr.hi F))
noncomputable def od78 (F : Fr) : Option AV := F8.a6 (F64.q1 (Fr.hi F))
noncomputable def od79 (F : Fr) : Option AV := F8.a7 (F64.q1 (Fr.hi F))
noncomputable def od80 (F : Fr) : Option AV := F8.a0 (F64.q2 (Fr.hi F))
noncomputable def od81 (F : Fr) : Option AV := F8.a1 (F64.q2 (Fr.hi F))
noncomputable def od82 (F : Fr) : Option AV := F8.a2 (F64.q2 (Fr.hi F))
noncomputable def od83 (F : Fr) : Option AV := F8.a3 (F64.q2 (Fr.hi F))
noncomputable def od84 (F : Fr) : Option AV := F8.a4 (F64.q2 (Fr.hi F))
noncomputable def od85 (F : Fr) : Option AV := F8.a5 (F64.q2 (Fr.hi F))
noncomputable def od86 (F : Fr) : Option AV := F8.a6 (F64.q2 (Fr.hi F))
noncomputable def od87 (F : Fr) : Option AV := F8.a7 (F64.q2 (Fr.hi F))
noncomputable def od88 (F : Fr) : Option AV := F8.a0 (F64.q3 (Fr.hi F))
noncomputable def od89 (F : Fr) : Option AV := F8.a1 (F64.q3 (Fr.hi F))
noncomputable def od90 (F : Fr) : Option AV := F8.a2 (F64.q3 (Fr.hi F))
noncomputable def od91 (F : Fr) : Option AV := F8.a3 (F64.q3 (Fr.hi F))
noncomputable def od92 (F : Fr) : Option AV := F8.a4 (F64.q3 (Fr.hi F))
noncomputable def od93 (F : Fr) : Option AV := F8.a5 (F64.q3 (Fr.hi F))
noncomputable def od94 (F : Fr) : Option AV := F8.a6 (F64.q3 (Fr.hi F))
noncomputable def od95 (F : Fr) : Option AV := F8.a7 (F64.q3 (Fr.hi F))
noncomputable def od96 (F : Fr) : Option AV := F8.a0 (F64.q4 (Fr.hi F))
noncomputable def od97 (F : Fr) : Option AV := F8.a1 (F64.q4 (Fr.hi F))
noncomputable def od98 (F : Fr) : Option AV := F8.a2 (F64.q4 (Fr.hi F))
noncomputable def od99 (F : Fr) : Option AV := F8.a3 (F64.q4 (Fr.hi F))
noncomputable def od100 (F : Fr) : Option AV := F8.a4 (F64.q4 (Fr.hi F))
noncomputable def od101 (F : Fr) : Option AV := F8.a5 (F64.q4 (Fr.hi F))
noncomputable def od102 (F : Fr) : Option AV := F8.a6 (F64.q4 (Fr.hi F))
noncomputable def od103 (F : Fr) : Option AV := F8.a7 (F64.q4 (Fr.hi F))
noncomputable def od104 (F : Fr) : Option AV := F8.a0 (F64.q5 (Fr.hi F))
noncomputable def od105 (F : Fr) : Option AV := F8.a1 (F64.q5 (Fr.hi F))
noncomputable def od106 (F : Fr) : Option AV := F8.a2 (F64.q5 (Fr.hi F))
noncomputable def od107 (F : Fr) : Option AV := F8.a3 (F64.q5 (Fr.hi F))
noncomputable def od108 (F : Fr) : Option AV := F8.a4 (F64.q5 (Fr.hi F))
noncomputable def od109 (F : Fr) : Option AV := F8.a5 (F64.q5 (Fr.hi F))
noncomputable def od110 (F : Fr) : Option AV := F8.a6 (F64.q5 (Fr.hi F))
noncomputable def od111 (F : Fr) : Option AV := F8.a7 (F64.q5 (Fr.hi F))
noncomputable def od112 (F : Fr) : Option AV := F8.a0 (F64.q6 (Fr.hi F))
noncomputable def od113 (F : Fr) : Option AV := F8.a1 (F64.q6 (Fr.hi F))
noncomputable def od114 (F : Fr) : Option AV := F8.a2 (F64.q6 (Fr.hi F))
noncomputable def od115 (F : Fr) : Option AV := F8.a3 (F64.q6 (Fr.hi F))
noncomputable def od116 (F : Fr) : Option AV := F8.a4 (F64.q6 (Fr.hi F))
noncomputable def od117 (F : Fr) : Option AV := F8.a5 (F64.q6 (Fr.hi F))
noncomputable def od118 (F : Fr) : Option AV := F8.a6 (F64.q6 (Fr.hi F))
noncomputable def od119 (F : Fr) : Option AV := F8.a7 (F64.q6 (Fr.hi F))
noncomputable def od120 (F : Fr) : Option AV := F8.a0 (F64.q7 (Fr.hi F))
noncomputable def od121 (F : Fr) : Option AV := F8.a1 (F64.q7 (Fr.hi F))
noncomputable def od122 (F : Fr) : Option AV := F8.a2 (F64.q7 (Fr.hi F))
noncomputable def od123 (F : Fr) : Option AV := F8.a3 (F64.q7 (Fr.hi F))
noncomputable def od124 (F : Fr) : Option AV := F8.a4 (F64.q7 (Fr.hi F))
noncomputable def od125 (F : Fr) : Option AV := F8.a5 (F64.q7 (Fr.hi F))
noncomputable def od126 (F : Fr) : Option AV := F8.a6 (F64.q7 (Fr.hi F))
noncomputable def od127 (F : Fr) : Option AV := F8.a7 (F64.q7 (Fr.hi F))
noncomputable def odH (k : Nat) (F : Fr) : Option AV := (Fr.ex F).get k
noncomputable def odK (v : AV) (_ : Fr) : Option AV := some v
noncomputable def odB (_ : Fr) : Option AV := none
noncomputable def getO (o : Od) : Fr → Option AV := Od.g o
/-- What an operand is, handed on. -/
noncomputable def rdO (o : Od) (F : Fr) (q : AV → Rs) : Rs := @Option.rec AV (fun _ => Rs) .bad q (Od.g o F)
theorem rdO_eq (o : Od) (F : Fr) (q : AV → Rs) : rdO o F q = wv (getO o F) q := rfl
noncomputable def odL : List Od := [⟨od0⟩, ⟨od1⟩, ⟨od2⟩, ⟨od3⟩, ⟨od4⟩, ⟨od5⟩, ⟨od6⟩, ⟨od7⟩, ⟨od8⟩, ⟨od9⟩, ⟨od10⟩, ⟨od11⟩, ⟨od12⟩, ⟨od13⟩, ⟨od14⟩, ⟨od15⟩, ⟨od16⟩, ⟨od17⟩, ⟨od18⟩, ⟨od19⟩, ⟨od20⟩, ⟨od21⟩, ⟨od22⟩, ⟨od23⟩, ⟨od24⟩, ⟨od25⟩, ⟨od26⟩, ⟨od27⟩, ⟨od28⟩, ⟨od29⟩, ⟨od30⟩, ⟨od31⟩, ⟨od32⟩, ⟨od33⟩, ⟨od34⟩, ⟨od35⟩, ⟨od36⟩, ⟨od37⟩, ⟨od38⟩, ⟨od39⟩, ⟨od40⟩, ⟨od41⟩, ⟨od42⟩, ⟨od43⟩, ⟨od44⟩, ⟨od45⟩, ⟨od46⟩, ⟨od47⟩, ⟨od48⟩, ⟨od49⟩, ⟨od50⟩, ⟨od51⟩, ⟨od52⟩, ⟨od53⟩, ⟨od54⟩, ⟨od55⟩, ⟨od56⟩, ⟨od57⟩, ⟨od58⟩, ⟨od59⟩, ⟨od60⟩, ⟨od61⟩, ⟨od62⟩, ⟨od63⟩, ⟨od64⟩, ⟨od65⟩, ⟨od66⟩, ⟨od67⟩, ⟨od68⟩, ⟨od69⟩, ⟨od70⟩, ⟨od71⟩, ⟨od72⟩, ⟨od73⟩, ⟨od74⟩, ⟨od75⟩, ⟨od76⟩, ⟨od77⟩, ⟨od78⟩, ⟨od79⟩, ⟨od80⟩, ⟨od81⟩, ⟨od82⟩, ⟨od83⟩, ⟨od84⟩, ⟨od85⟩, ⟨od86⟩, ⟨od87⟩, ⟨od88⟩, ⟨od89⟩, ⟨od90⟩, ⟨od91⟩, ⟨od92⟩, ⟨od93⟩, ⟨od94⟩, ⟨od95⟩, ⟨od96⟩, ⟨od97⟩, ⟨od98⟩, ⟨od99⟩, ⟨od100⟩, ⟨od101⟩, ⟨od102⟩, ⟨od103⟩, ⟨od104⟩, ⟨od105⟩, ⟨od106⟩, ⟨od107⟩, ⟨od108⟩, ⟨od109⟩, ⟨od110⟩, ⟨od111⟩, ⟨od112⟩, ⟨od113⟩, ⟨od114⟩, ⟨od115⟩, ⟨od116⟩, ⟨od117⟩, ⟨od118⟩, ⟨od119⟩, ⟨od120⟩, ⟨od121⟩, ⟨od122⟩, ⟨od123⟩, ⟨od124⟩, ⟨od125⟩, ⟨od126⟩, ⟨od127⟩]
noncomputable def odN (t : Nat) : Od := match odL[t]? with
  | some o => o
  | none => ⟨odB⟩
noncomputable def odOf : Operand → Od
  | .tmp t => match Nat.blt t 128, Nat.blt t 1000 with
    | true, _ => odN t
    | false, true => ⟨odH (t - 128)⟩
    | false, false => ⟨odB⟩
  | .const v => match absV v with
    | some a => ⟨odK a⟩
    | none => ⟨odB⟩
  | .global g => match Nat.blt g 1000 with
    | true => ⟨odK (.ptr g 0)⟩
    | false => ⟨odB⟩
  | .func g => ⟨odK (.fn (.func g) [] [])⟩
theorem odN_lo (F : Fr) : ∀ a b : Nat, a < 8 → b < 8 → getO (odN (8 * a + b)) F = colG (dig b) (rowG (dig a) F) := by
  intro a b ha hb
  have e1 : a = 0 ∨ a = 1 ∨ a = 2 ∨ a = 3 ∨ a = 4 ∨ a = 5 ∨ a = 6 ∨ a = 7 := by omega
  have e2 : b = 0 ∨ b = 1 ∨ b = 2 ∨ b = 3 ∨ b = 4 ∨ b = 5 ∨ b = 6 ∨ b = 7 := by omega
  rcases e1 with rfl | rfl | rfl | rfl | rfl | rfl | rfl | rfl <;> rcases e2 with rfl | rfl | rfl | rfl | rfl | rfl | rfl | rfl <;> rfl
theorem odN_mid (F : Fr) : ∀ a b : Nat, a < 8 → b < 8 → getO (odN (64 + (8 * a + b))) F = colG (dig b) (rowH (dig a) F.hi) := by
  intro a b ha hb
  have e1 : a = 0 ∨ a = 1 ∨ a = 2 ∨ a = 3 ∨ a = 4 ∨ a = 5 ∨ a = 6 ∨ a = 7 := by omega
  have e2 : b = 0 ∨ b = 1 ∨ b = 2 ∨ b = 3 ∨ b = 4 ∨ b = 5 ∨ b = 6 ∨ b = 7 := by omega
  rcases e1 with rfl | rfl | rfl | rfl | rfl | rfl | rfl | rfl <;> rcases e2 with rfl | rfl | rfl | rfl | rfl | rfl | rfl | rfl <;> rfl
theorem odN_get {F : Fr} {t : Nat} (h : t < 128) : getO (odN t) F = getI F t := by
  by_cases h1 : t < 64
  · rw [getI_lo h1, ← odN_lo F (t / 8) (t % 8) (by omega) (Nat.mod_lt _ (by decide)), show 8 * (t / 8) + t % 8 = t by omega]
  · rw [getI_mid h1 h, ← odN_mid F (t / 8 - 8) (t % 8) (by omega) (Nat.mod_lt _ (by decide)), show 64 + (8 * (t / 8 - 8) + t % 8) = t by omega]
theorem getO_ok {F : Fr} {o : Operand} {v : AV} (h : getO (odOf o) F = some v) : evalO (trF F) o = some v := by
  cases o with
  | tmp t =>
    show (trF F).get t = some v
    unfold odOf at h
    simp only at h
    split at h
    · rename_i h1
      have h1 : t < 128 := by simpa [Nat.blt_eq] using h1
      rw [trF_eq (Nat.lt_of_lt_of_le h1 (by decide)), ← odN_get h1]; exact h
    · rename_i h1 h2
      have h1 : ¬ t < 128 := by rw [Bool.eq_false_iff] at h1; simpa [Nat.blt_eq] using h1
      have h2 : t < 1000 := by simpa [Nat.blt_eq] using h2
      rw [trF_eq h2, getI_hi h1 h2]; exact h
    · cases h
  | const c =>
    unfold odOf at h
    simp only at h
    show absV c = some v
    split at h
    · rename_i a ha; rw [ha]; exact h
    · cases h
  | global g =>
    unfold odOf at h
    simp only at h
    unfold evalO
    split at h
    · rename_i hg; simp only [hg]; exact h
    · cases h
  | func g => exact h
/-! destinations -/
structure Ds where
  w : AV → Fr → Fr
noncomputable def ds0 (v : AV) (F : Fr) : Fr := @Fr.rec (fun _ => Fr) (fun b0 b1 b2 b3 b4 b5 b6 b7 h x => ⟨@F8.rec (fun _ => F8) (fun _ a1 a2 a3 a4 a5 a6 a7 => ⟨some v, a1, a2, a3, a4, a5, a6, a7⟩) b0, b1, b2, b3, b4, b5, b6, b7, h, x⟩) F
noncomputable def ds1 (v : AV) (F : Fr) : Fr := @Fr.rec (fun _ => Fr) (fun b0 b1 b2 b3 b4 b5 b6 b7 h x => ⟨@F8.rec (fun _ => F8) (fun a0 _ a2 a3 a4 a5 a6 a7 => ⟨a0, some v, a2, a3, a4, a5, a6, a7⟩) b0, b1, b2, b3, b4, b5, b6, b7, h, x⟩) F
noncomputable def ds2 (v : AV) (F : Fr) : Fr := @Fr.rec (fun _ => Fr) (fun b0 b1 b2 b3 b4 b5 b6 b7 h x => ⟨@F8.rec (fun _ => F8) (fun a0 a1 _ a3 a4 a5 a6 a7 => ⟨a0, a1, some v, a3, a4, a5, a6, a7⟩) b0, b1, b2, b3, b4, b5, b6, b7, h, x⟩) F
noncomputable def ds3 (v : AV) (F : Fr) : Fr := @Fr.rec (fun _ => Fr) (fun b0 b1 b2 b3 b4 b5 b6 b7 h x => ⟨@F8.rec (fun _ => F8) (fun a0 a1 a2 _ a4 a5 a6 a7 => ⟨a0, a1, a2, some v, a4, a5, a6, a7⟩) b0, b1, b2, b3, b4, b5, b6, b7, h, x⟩) F
noncomputable def ds4 (v : AV) (F : Fr) : Fr := @Fr.rec (fun _ => Fr) (fun b0 b1 b2 b3 b4 b5 b6 b7 h x => ⟨@F8.rec (fun _ => F8) (fun a0 a1 a2 a3 _ a5 a6 a7 => ⟨a0, a1, a2, a3, some v, a5, a6, a7⟩) b0, b1, b2, b3, b4, b5, b6, b7, h, x⟩) F
noncomputable def ds5 (v : AV) (F : Fr) : Fr := @Fr.rec (fun _ => Fr) (fun b0 b1 b2 b3 b4 b5 b6 b7 h x => ⟨@F8.rec (fun _ => F8) (fun a0 a1 a2 a3 a4 _ a6 a7 => ⟨a0, a1, a2, a3, a4, some v, a6, a7⟩) b0, b1, b2, b3, b4, b5, b6, b7, h, x⟩) F
noncomputable def ds6 (v : AV) (F : Fr) : Fr := @Fr.rec (fun _ => Fr) (fun b0 b1 b2 b3 b4 b5 b6 b7 h x => ⟨@F8.rec (fun _ => F8) (fun a0 a1 a2 a3 a4 a5 _ a7 => ⟨a0, a1, a2, a3, a4, a5, some v, a7⟩) b0, b1, b2, b3, b4, b5, b6, b7, h, x⟩) F
noncomputable def ds7 (v : AV) (F : Fr) : Fr := @Fr.rec (fun _ => Fr) (fun b0 b1 b2 b3 b4 b5 b6 b7 h x => ⟨@F8.rec (fun _ => F8) (fun a0 a1 a2 a3 a4 a5 a6 _ => ⟨a0, a1, a2, a3, a4, a5, a6, some v⟩) b0, b1, b2, b3, b4, b5, b6, b7, h, x⟩) F
noncomputable def ds8 (v : AV) (F : Fr) : Fr := @Fr.rec (fun _ => Fr) (fun b0 b1 b2 b3 b4 b5 b6 b7 h x => ⟨b0, @F8.rec (fun _ => F8) (fun _ a1 a2 a3 a4 a5 a6 a7 => ⟨some v, a1, a2, a3, a4, a5, a6, a7⟩) b1, b2, b3, b4, b5, b6, b7, h, x⟩) F
noncomputable def ds9 (v : AV) (F : Fr) : Fr := @Fr.rec (fun _ => Fr) (fun b0 b1 b2 b3 b4 b5 b6 b7 h x => ⟨b0, @F8.rec (fun _ => F8) (fun a0 _ a2 a3 a4 a5 a6 a7 => ⟨a0, some v, a2, a3, a4, a5, a6, a7⟩) b1, b2, b3, b4, b5, b6, b7, h, x⟩) F
noncomputable def ds10 (v : AV) (F : Fr) : Fr := @Fr.rec (fun _ => Fr) (fun b0 b1 b2 b3 b4 b5 b6 b7 h x => ⟨b0, @F8.rec (fun _ => F8) (fun a0 a1 _ a3 a4 a5 a6 a7 => ⟨a0, a1, some v, a3, a4, a5, a6, a7⟩) b1, b2, b3, b4, b5, b6, b7, h, x⟩) F
noncomputable def ds11 (v : AV) (F : Fr) : Fr := @Fr.rec (fun _ => Fr) (fun b0 b1 b2 b3 b4 b5 b6 b7 h x => ⟨b0, @F8.rec (fun _ => F8) (fun a0 a1 a2 _ a4 a5 a6 a7 => ⟨a0, a1, a2, some v, a4, a5, a6, a7⟩) b1, b2, b3, b4, b5, b6, b7, h, x⟩) F
noncomputable def ds12 (v : AV) (F : Fr) : Fr := @Fr.rec (fun _ => Fr) (fun b0 b1 b2 b3 b4 b5 b6 b7 h x => ⟨b0, @F8.rec (fun _ => F8) (fun a0 a1 a2 a3 _ a5 a6 a7 => ⟨a0, a1, a2, a3, some v, a5, a6, a7⟩) b1, b2, b3, b4, b5, b6, b7, h, x⟩) F
noncomputable def ds13 (v : AV) (F : Fr) : Fr := @Fr.rec (fun _ => Fr) (fun b0 b1 b2 b3 b4 b5 b6 b7 h x => ⟨b0, @F8.rec (fun _ => F8) (fun a0 a1 a2 a3 a4 _ a6 a7 => ⟨a0, a1, a2, a3, a4, some v, a6, a7⟩) b1, b2, b3, b4, b5, b6, b7, h, x⟩) F
noncomputable def ds14 (v : AV) (F : Fr) : Fr := @Fr.rec (fun _ => Fr) (fun b0 b1 b2 b3 b4 b5 b6 b7 h x => ⟨b0, @F8.rec (fun _ => F8) (fun a0 a1 a2 a3 a4 a5 _ a7 => ⟨a0, a1, a2, a3, a4, a5, some v, a7⟩) b1, b2, b3, b4, b5, b6, b7, h, x⟩) F
noncomputable def ds15 (v : AV) (F : Fr) : Fr := @Fr.rec (fun _ => Fr) (fun b0 b1 b2 b3 b4 b5 b6 b7 h x => ⟨b0, @F8.rec (fun _ => F8) (fun a0 a1 a2 a3 a4 a5 a6 _ => ⟨a0, a1, a2, a3, a4, a5, a6, some v⟩) b1, b2, b3, b4, b5, b6, b7, h, x⟩) F
noncomputable def ds16 (v : AV) (F : Fr) : Fr := @Fr.rec (fun _ => Fr) (fun b0 b1 b2 b3 b4 b5 b6 b7 h x => ⟨b0, b1, @F8.rec (fun _ => F8) (fun _ a1 a2 a3 a4 a5 a6 a7 => ⟨some v, a1, a2, a3, a4, a5, a6, a7⟩) b2, b3, b4, b5, b6, b7, h, x⟩) F
noncomputable def ds17 (v : AV) (F : Fr) : Fr := @Fr.rec (fun _ => Fr) (fun b0 b1 b2 b3 b4 b5 b6 b7 h x => ⟨b0, b1, @F8.rec (fun _ => F8) (fun a0 _ a2 a3 a4 a5 a6 a7 => ⟨a0, some v, a2, a3, a4, a5, a6, a7⟩) b2, b3, b4, b5, b6, b7, h, x⟩) F
noncomputable def ds18 (v : AV) (F : Fr) : Fr := @Fr.rec (fun _ => Fr) (fun b0 b1 b2 b3 b4 b5 b6 b7 h x => ⟨b0, b1, @F8.rec (fun _ => F8) (fun a0 a1 _ a3 a4 a5 a6 a7 => ⟨a0, a1, some v, a3, a4, a5, a6, a7⟩) b2, b3, b4, b5, b6, b7, h, x⟩) F
noncomputable def ds19 (v : AV) (F : Fr) : Fr := @Fr.rec (fun _ => Fr) (fun b0 b1 b2 b3 b4 b5 b6 b7 h x => ⟨b0, b1, @F8.rec (fun _ => F8) (fun a0 a1 a2 _ a4 a5 a6 a7 => ⟨a0, a1, a2, some v, a4, a5, a6, a7⟩) b2, b3, b4, b5, b6, b7, h, x⟩) F
noncomputable def ds20 (v : AV) (F : Fr) : Fr := @Fr.rec (fun _ => Fr) (fun b0 b1 b2 b3 b4 b5 b6 b7 h x => ⟨b0, b1, @F8.rec (fun _ => F8) (fun a0 a1 a2 a3 _ a5 a6 a7 => ⟨a0, a1, a2, a3, some v, a5, a6, a7⟩) b2, b3, b4, b5, b6, b7, h, x⟩) F
noncomputable def ds21 (v : AV) (F : Fr) : Fr := @Fr.rec (fun _ => Fr) (fun b0 b1 b2 b3 b4 b5 b6 b7 h x => ⟨b0, b1, @F8.rec (fun _ => F8) (fun a0 a1 a2 a3 a4 _ a6 a7 => ⟨a0, a1, a2, a3, a4, some v, a6, a7⟩) b2, b3, b4, b5, b6, b7, h, x⟩) F
noncomputable def ds22 (v : AV) (F : Fr) : Fr := @Fr.rec (fun _ => Fr) (fun b0 b1 b2 b3 b4 b5 b6 b7 h x => ⟨b0, b1, @F8.rec (fun _ => F8) (fun a0 a1 a2 a3 a4 a5 _ a7 => ⟨a0, a1, a2, a3, a4, a5, some v, a7⟩) b2, b3, b4, b5, b6, b7, h, x⟩) F
noncomputable def ds23 (v : AV) (F : Fr) : Fr := @Fr.rec (fun _ => Fr) (fun b0 b1 b2 b3 b4 b5 b6 b7 h x => ⟨b0, b1, @F8.rec (fun _ => F8) (fun a0 a1 a2 a3 a4 a5 a6 _ => ⟨a0, a1, a2, a3, a4, a5, a6, some v⟩) b2, b3, b4, b5, b6, b7, h, x⟩) F
noncomputable def ds24 (v : AV) (F : Fr) : Fr := @Fr.rec (fun _ => Fr) (fun b0 b1 b2 b3 b4 b5 b6 b7 h x => ⟨b0, b1, b2, @F8.rec (fun _ => F8) (fun _ a1 a2 a3 a4 a5 a6 a7 => ⟨some v, a1, a2, a3, a4, a5, a6, a7⟩) b3, b4, b5, b6, b7, h, x⟩) F
noncomputable def ds25 (v : AV) (F : Fr) : Fr := @Fr.rec (fun _ => Fr) (fun b0 b1 b2 b3 b4 b5 b6 b7 h x => ⟨b0, b1, b2, @F8.rec (fun _ => F8) (fun a0 _ a2 a3 a4 a5 a6 a7 => ⟨a0, some v, a2, a3, a4, a5, a6, a7⟩) b3, b4, b5, b6, b7, h, x⟩) F
noncomputable def ds26 (v : AV) (F : Fr) : Fr := @Fr.rec (fun _ => Fr) (fun b0 b1 b2 b3 b4 b5 b6 b7 h x => ⟨b0, b1, b2, @F8.rec (fun _ => F8) (fun a0 a1 _ a3 a4 a5 a6 a7 => ⟨a0, a1, some v, a3, a4, a5, a6, a7⟩) b3, b4, b5, b6, b7, h, x⟩) F
noncomputable def ds27 (v : AV) (F : Fr) : Fr := @Fr.rec (fun _ => Fr) (fun b0 b1 b2 b3 b4 b5 b6 b7 h x => ⟨b0, b1, b2, @F8.rec (fun _ => F8) (fun a0 a1 a2 _ a4 a5 a6 a7 => ⟨a0, a1, a2, some v, a4, a5, a6, a7⟩) b3, b4, b5, b6, b7, h, x⟩) F
noncomputable def ds28 (v : AV) (F : Fr) : Fr := @Fr.rec (fun _ => Fr) (fun b0 b1 b2 b3 b4 b5 b6 b7 h x => ⟨b0, b1, b2, @F8.rec (fun _ => F8) (fun a0 a1 a2 a3 _ a5 a6 a7 => ⟨a0, a1, a2, a3, some v, a5, a6, a7⟩) b3, b4, b5, b6, b7, h, x⟩) F
noncomputable def ds29 (v : AV) (F : Fr) : Fr := @Fr.rec (fun _ => Fr) (fun b0 b1 b2 b3 b4 b5 b6 b7 h x => ⟨b0, b1, b2, @F8.rec (fun _ => F8) (fun a0 a1 a2 a3 a4 _ a6 a7 => ⟨a0, a1, a2, a3, a4, some v, a6, a7⟩) b3, b4, b5, b6, b7, h, x⟩) F
noncomputable def ds30 (v : AV) (F : Fr) : Fr := @Fr.rec (fun _ => Fr) (fun b0 b1 b2 b3 b4 b5 b6 b7 h x => ⟨b0, b1, b2, @F8.rec (fun _ => F8) (fun a0 a1 a2 a3 a4 a5 _ a7 => ⟨a0, a1, a2, a3, a4, a5, some v, a7⟩) b3, b4, b5, b6, b7, h, x⟩) F
noncomputable def ds31 (v : AV) (F : Fr) : Fr := @Fr.rec (fun _ => Fr) (fun b0 b1 b2 b3 b4 b5 b6 b7 h x => ⟨b0, b1, b2, @F8.rec (fun _ => F8) (fun a0 a1 a2 a3 a4 a5 a6 _ => ⟨a0, a1, a2, a3, a4, a5, a6, some v⟩) b3, b4, b5, b6, b7, h, x⟩) F
noncomputable def ds32 (v : AV) (F : Fr) : Fr := @Fr.rec (fun _ => Fr) (fun b0 b1 b2 b3 b4 b5 b6 b7 h x => ⟨b0, b1, b2, b3, @F8.rec (fun _ => F8) (fun _ a1 a2 a3 a4 a5 a6 a7 => ⟨some v, a1, a2, a3, a4, a5, a6, a7⟩) b4, b5, b6, b7, h, x⟩) F
noncomputable def ds33 (v : AV) (F : Fr) : Fr := @Fr.rec (fun _ => Fr) (fun b0 b1 b2 b3 b4 b5 b6 b7 h x => ⟨b0, b1, b2, b3, @F8.rec (fun _ => F8) (fun a0 _ a2 a3 a4 a5 a6 a7 => ⟨a0, some v, a2, a3, a4, a5, a6, a7⟩) b4, b5, b6, b7, h, x⟩) F
noncomputable def ds34 (v : AV) (F : Fr) : Fr := @Fr.rec (fun _ => Fr) (fun b0 b1 b2 b3 b4 b5 b6 b7 h x => ⟨b0, b1, b2, b3, @F8.rec (fun _ => F8) (fun a0 a1 _ a3 a4 a5 a6 a7 => ⟨a0, a1, some v, a3, a4, a5, a6, a7⟩) b4, b5, b6, b7, h, x⟩) F
noncomputable def ds35 (v : AV) (F : Fr) : Fr := @Fr.rec (fun _ => Fr) (fun b0 b1 b2 b3 b4 b5 b6 b7 h x => ⟨b0, b1, b2, b3, @F8.rec (fun _ => F8) (fun a0 a1 a2 _ a4 a5 a6 a7 => ⟨a0, a1, a2, some v, a4, a5, a6, a7⟩) b4, b5, b6, b7, h, x⟩) F
noncomputable def ds36 (v : AV) (F : Fr) : Fr := @Fr.rec (fun _ => Fr) (fun b0 b1 b2 b3 b4 b5 b6 b7 h x => ⟨b0, b1, b2, b3, @F8.rec (fun _ => F8) (fun a0 a1 a2 a3 _ a5 a6 a7 => ⟨a0, a1, a2, a3, some v, a5, a6, a7⟩) b4, b5, b6, b7, h, x⟩) F
noncomputable def ds37 (v : AV) (F : Fr) : Fr := @Fr.rec (fun _ => Fr) (fun b0 b1 b2 b3 b4 b5 b6 b7 h x => ⟨b0, b1, b2, b3, @F8.rec (fun _ => F8) (fun a0 a1 a2 a3 a4 _ a6 a7 => ⟨a0, a1, a2, a3, a4, some v, a6, a7⟩) b4, b5, b6, b7, h, x⟩) F
noncomputable def ds38 (v : AV) (F : Fr) : Fr := @Fr.rec (fun _ => Fr) (fun b0 b1 b2 b3 b4 b5 b6 b7 h x => ⟨b0, b1, b2, b3, @F8.rec (fun _ => F8) (fun a0 a1 a2 a3 a4 a5 _ a7 => ⟨a0, a1, a2, a3, a4, a5, some v, a7⟩) b4, b5, b6, b7, h, x⟩) F
noncomputable def ds39 (v : AV) (F : Fr) : Fr := @Fr.rec (fun _ => Fr) (fun b0 b1 b2 b3 b4 b5 b6 b7 h x => ⟨b0, b1, b2, b3, @F8.rec (fun _ => F8) (fun a0 a1 a2 a3 a4 a5 a6 _ => ⟨a0, a1, a2, a3, a4, a5, a6, some v⟩) b4, b5, b6, b7, h, x⟩) F
noncomputable def ds40 (v : AV) (F : Fr) : Fr := @Fr.rec (fun _ => Fr) (fun b0 b1 b2 b3 b4 b5 b6 b7 h x => ⟨b0, b1, b2, b3, b4, @F8.rec (fun _ => F8) (fun _ a1 a2 a3 a4 a5 a6 a7 => ⟨some v, a1, a2, a3, a4, a5, a6, a7⟩) b5, b6, b7, h, x⟩) F
noncomputable def ds41 (v : AV) (F : Fr) : Fr := @Fr.rec (fun _ => Fr) (fun b0 b1 b2 b3 b4 b5 b6 b7 h x => ⟨b0, b1, b2, b3, b4, @F8.rec (fun _ => F8) (fun a0 _ a2 a3 a4 a5 a6 a7 => ⟨a0, some v, a2, a3, a4, a5, a6, a7⟩) b5, b6, b7, h, x⟩) F
noncomputable def ds42 (v : AV) (F : Fr) : Fr := @Fr.rec (fun _ => Fr) (fun b0 b1 b2 b3 b4 b5 b6 b7 h x => ⟨b0, b1, b2, b3, b4, @F8.rec (fun _ => F8) (fun a0 a1 _ a3 a4 a5 a6 a7 => ⟨a0, a1, some v, a3, a4, a5, a6, a7⟩) b5, b6, b7, h, x⟩) F
noncomputable def ds43 (v : AV) (F : Fr) : Fr := @Fr.rec (fun _ => Fr) (fun b0 b1 b2 b3 b4 b5 b6 b7 h x => ⟨b0, b1, b2, b3, b4, @F8.rec (fun _ => F8) (fun a0 a1 a2 _ a4 a5 a6 a7 => ⟨a0, a1, a2, some v, a4, a5, a6, a7⟩) b5, b6, b7, h, x⟩) F
noncomputable def ds44 (v : AV) (F : Fr) : Fr := @Fr.rec (fun _ => Fr) (fun b0 b1 b2 b3 b4 b5 b6 b7 h x => ⟨b0, b1, b2, b3, b4, @F8.rec (fun _ => F8) (fun a0 a1 a2 a3 _ a5 a6 a7 => ⟨a0, a1, a2, a3, some v, a5, a6, a7⟩) b5, b6, b7, h, x⟩) F
noncomputable def ds45 (v : AV) (F : Fr) : Fr := @Fr.rec (fun _ => Fr) (fun b0 b1 b2 b3 b4 b5 b6 b7 h x => ⟨b0, b1, b2, b3, b4, @F8.rec (fun _ => F8) (fun a0 a1 a2 a3 a4 _ a6 a7 => ⟨a0, a1, a2, a3, a4, some v, a6, a7⟩) b5, b6, b7, h, x⟩) F
noncomputable def ds46 (v : AV) (F : Fr) : Fr := @Fr.rec (fun _ => Fr) (fun b0 b1 b2 b3 b4 b5 b6 b7 h x => ⟨b0, b1, b2, b3, b4, @F8.rec (fun _ => F8) (fun a0 a1 a2 a3 a4 a5 _ a7 => ⟨a0, a1, a2, a3, a4, a5, some v, a7⟩) b5, b6, b7, h, x⟩) F
noncomputable def ds47 (v : AV) (F : Fr) : Fr := @Fr.rec (fun _ => Fr) (fun b0 b1 b2 b3 b4 b5 b6 b7 h x => ⟨b0, b1, b2, b3, b4, @F8.rec (fun _ => F8) (fun a0 a1 a2 a3 a4 a5 a6 _ => ⟨a0, a1, a2, a3, a4, a5, a6, some v⟩) b5, b6, b7, h, x⟩) F
noncomputable def ds48 (v : AV) (F : Fr) : Fr := @Fr.rec (fun _ => Fr) (fun b0 b1 b2 b3 b4 b5 b6 b7 h x => ⟨b0, b1, b2, b3, b4, b5, @F8.rec (fun _ => F8) (fun _ a1 a2 a3 a4 a5 a6 a7 => ⟨some v, a1, a2, a3, a4, a5, a6, a7⟩) b6, b7, h, x⟩) F
noncomputable def ds49 (v : AV) (F : Fr) : Fr := @Fr.rec (fun _ => Fr) (fun b0 b1 b2 b3 b4 b5 b6 b7 h x => ⟨b0, b1, b2, b3, b4, b5, @F8.rec (fun _ => F8) (fun a0 _ a2 a3 a4 a5 a6 a7 => ⟨a0, some v, a2, a3, a4, a5, a6, a7⟩) b6, b7, h, x⟩) F
noncomputable def ds50 (v : AV) (F : Fr) : Fr := @Fr.rec (fun _ => Fr) (fun b0 b1 b2 b3 b4 b5 b6 b7 h x => ⟨b0, b1, b2, b3, b4, b5, @F8.rec (fun _ => F8) (fun a0 a1 _ a3 a4 a5 a6 a7 => ⟨a0, a1, some v, a3, a4, a5, a6, a7⟩) b6, b7, h, x⟩) F
noncomputable def ds51 (v : AV) (F : Fr) : Fr := @Fr.rec (fun _ => Fr) (fun b0 b1 b2 b3 b4 b5 b6 b7 h x => ⟨b0, b1, b2, b3, b4, b5, @F8.rec (fun _ => F8) (fun a0 a1 a2 _ a4 a5 a6 a7 => ⟨a0, a1, a2, some v, a4, a5, a6, a7⟩) b6, b7, h, x⟩) F
noncomputable def ds52 (v : AV) (F : Fr) : Fr := @Fr.rec (fun _ => Fr) (fun b0 b1 b2 b3 b4 b5 b6 b7 h x => ⟨b0, b1, b2, b3, b4, b5, @F8.rec (fun _ => F8) (fun a0 a1 a2 a3 _ a5 a6 a7 => ⟨a0, a1, a2, a3, some v, a5, a6, a7⟩) b6, b7, h, x⟩) F
noncomputable def ds53 (v : AV) (F : Fr) : Fr := @Fr.rec (fun _ => Fr) (fun b0 b1 b2 b3 b4 b5 b6 b7 h x => ⟨b0, b1, b2, b3, b4, b5, @F8.rec (fun _ => F8) (fun a0 a1 a2 a3 a4 _ a6 a7 => ⟨a0, a1, a2, a3, a4, some v, a6, a7⟩) b6, b7, h, x⟩) F
noncomputable def ds54 (v : AV) (F : Fr) : Fr := @Fr.rec (fun _ => Fr) (fun b0 b1 b2 b3 b4 b5 b6 b7 h x => ⟨b0, b1, b2, b3, b4, b5, @F8.rec (fun _ => F8) (fun a0 a1 a2 a3 a4 a5 _ a7 => ⟨a0, a1, a2, a3, a4, a5, some v, a7⟩) b6, b7, h, x⟩) F
noncomputable def ds55 (v : AV) (F : Fr) : Fr := @Fr.rec (fun _ => Fr) (fun b0 b1 b2 b3 b4 b5 b6 b7 h x => ⟨b0, b1, b2, b3, b4, b5, @F8.rec (fun _ => F8) (fun a0 a1 a2 a3 a4 a5 a6 _ => ⟨a0, a1, a2, a3, a4, a5, a6, some v⟩) b6, b7, h, x⟩) F
noncomputable def ds56 (v : AV) (F : Fr) : Fr := @Fr.rec (fun _ => Fr) (fun b0 b1 b2 b3 b4 b5 b6 b7 h x => ⟨b0, b1, b2, b3, b4, b5, b6, @F8.rec (fun _ => F8) (fun _ a1 a2 a3 a4 a5 a6 a7 => ⟨some v, a1, a2, a3, a4, a5, a6, a7⟩) b7, h, x⟩) F
noncomputable def ds57 (v : AV) (F : Fr) : Fr := @Fr.rec (fun _ => Fr) (fun b0 b1 b2 b3 b4 b5 b6 b7 h x => ⟨b0, b1, b2, b3, b4, b5, b6, @F8.rec (fun _ => F8) (fun a0 _ a2 a3 a4 a5 a6 a7 => ⟨a0, some v, a2, a3, a4, a5, a6, a7⟩) b7, h, x⟩) F
noncomputable def ds58 (v : AV) (F : Fr) : Fr := @Fr.rec (fun _ => Fr) (fun b0 b1 b2 b3 b4 b5 b6 b7 h x => ⟨b0, b1, b2, b3, b4, b5, b6, @F8.rec (fun _ => F8) (fun a0 a1 _ a3 a4 a5 a6 a7 => ⟨a0, a1, some v, a3, a4, a5, a6, a7⟩) b7, h, x⟩) F
noncomputable def ds59 (v : AV) (F : Fr) : Fr := @Fr.rec (fun _ => Fr) (fun b0 b1 b2 b3 b4 b5 b6 b7 h x => ⟨b0, b1, b2, b3, b4, b5, b6, @F8.rec (fun _ => F8) (fun a0 a1 a2 _ a4 a5 a6 a7 => ⟨a0, a1, a2, some v, a4, a5, a6, a7⟩) b7, h, x⟩) F
noncomputable def ds60 (v : AV) (F : Fr) : Fr := @Fr.rec (fun _ => Fr) (fun b0 b1 b2 b3 b4 b5 b6 b7 h x => ⟨b0, b1, b2, b3, b4, b5, b6, @F8.rec (fun _ => F8) (fun a0 a1 a2 a3 _ a5 a6 a7 => ⟨a0, a1, a2, a3, some v, a5, a6, a7⟩) b7, h, x⟩) F
noncomputable def ds61 (v : AV) (F : Fr) : Fr := @Fr.rec (fun _ => Fr) (fun b0 b1 b2 b3 b4 b5 b6 b7 h x => ⟨b0, b1, b2, b3, b4, b5, b6, @F8.rec (fun _ => F8) (fun a0 a1 a2 a3 a4 _ a6 a7 => ⟨a0, a1, a2, a3, a4, some v, a6, a7⟩) b7, h, x⟩) F
noncomputable def ds62 (v : AV) (F : Fr) : Fr := @Fr.rec (fun _ => Fr) (fun b0 b1 b2 b3 b4 b5 b6 b7 h x => ⟨b0, b1, b2, b3, b4, b5, b6, @F8.rec (fun _ => F8) (fun a0 a1 a2 a3 a4 a5 _ a7 => ⟨a0, a1, a2, a3, a4, a5, some v, a7⟩) b7, h, x⟩) F
noncomputable def ds63 (v : AV) (F : Fr) : Fr := @Fr.rec (fun _ => Fr) (fun b0 b1 b2 b3 b4 b5 b6 b7 h x => ⟨b0, b1, b2, b3, b4, b5, b6, @F8.rec (fun _ => F8) (fun a0 a1 a2 a3 a4 a5 a6 _ => ⟨a0, a1, a2, a3, a4, a5, a6, some v⟩) b7, h, x⟩) F
noncomputable def ds64 (v : AV) (F : Fr) : Fr := @Fr.rec (fun _ => Fr) (fun b0 b1 b2 b3 b4 b5 b6 b7 h x => ⟨b0, b1, b2, b3, b4, b5, b6, b7, @F64.rec (fun _ => F64) (fun c0 c1 c2 c3 c4 c5 c6 c7 => ⟨@F8.rec (fun _ => F8) (fun _ a1 a2 a3 a4 a5 a6 a7 => ⟨some v, a1, a2, a3, a4, a5, a6, a7⟩) c0, c1, c2, c3, c4, c5, c6, c7⟩) h, x⟩) F
noncomputable def ds65 (v : AV) (F : Fr) : Fr := @Fr.rec (fun _ => Fr) (fun b0 b1 b2 b3 b4 b5 b6 b7 h x => ⟨b0, b1, b2, b3, b4, b5, b6, b7, @F64.rec (fun _ => F64) (fun c0 c1 c2 c3 c4 c5 c6 c7 => ⟨@F8.rec (fun _ => F8) (fun a0 _ a2 a3 a4 a5 a6 a7 => ⟨a0, some v, a2, a3, a4, a5, a6, a7⟩) c0, c1, c2, c3, c4, c5, c6, c7⟩) h, x⟩) F
noncomputable def ds66 (v : AV) (F : Fr) : Fr := @Fr.rec (fun _ => Fr) (fun b0 b1 b2 b3 b4 b5 b6 b7 h x => ⟨b0, b1, b2, b3, b4, b5, b6, b7, @F64.rec (fun _ => F64) (fun c0 c1 c2 c3 c4 c5 c6 c7 => ⟨@F8.rec (fun _ => F8) (fun a0 a1 _ a3 a4 a5 a6 a7 => ⟨a0, a1, some v, a3, a4, a5, a6, a7⟩) c0, c1, c2, c3, c4, c5, c6, c7⟩) h, x⟩) F
noncomputable def ds67 (v : AV) (F : Fr) : Fr := @Fr.rec (fun _ => Fr) (fun b0 b1 b2 b3 b4 b5 b6 b7 h x => ⟨b0, b1, b2, b3, b4, b5, b6, b7, @F64.rec (fun _ => F64) (fun c0 c1 c2 c3 c4 c5 c6 c7 => ⟨@F8.rec (fun _ => F8) (fun a0 a1 a2 _ a4 a5 a6 a7 => ⟨a0, a1, a2, some v, a4, a5, a6, a7⟩) c0, c1, c2, c3, c4, c5, c6, c7⟩) h, x⟩) F
noncomputable def ds68 (v : AV) (F : Fr) : Fr := @Fr.rec (fun _ => Fr) (fun b0 b1 b2 b3 b4 b5 b6 b7 h x => ⟨b0, b1, b2, b3, b4, b5, b6, b7, @F64.rec (fun _ => F64) (fun c0 c1 c2 c3 c4 c5 c6 c7 => ⟨@F8.rec (fun _ => F8) (fun a0 a1 a2 a3 _ a5 a6 a7 => ⟨a0, a1, a2, a3, some v, a5, a6, a7⟩) c0, c1, c2, c3, c4, c5, c6, c7⟩) h, x⟩) F
noncomputable def ds69 (v : AV) (F : Fr) : Fr := @Fr.rec (fun _ => Fr) (fun b0 b1 b2 b3 b4 b5 b6 b7 h x => ⟨b0, b1, b2, b3, b4, b5, b6, b7, @F64.rec (fun _ => F64) (fun c0 c1 c2 c3 c4 c5 c6 c7 => ⟨@F8.rec (fun _ => F8) (fun a0 a1 a2 a3 a4 _ a6 a7 => ⟨a0, a1, a2, a3, a4, some v, a6, a7⟩) c0, c1, c2, c3, c4, c5, c6, c7⟩) h, x⟩) F
noncomputable def ds70 (v : AV) (F : Fr) : Fr := @Fr.rec (fun _ => Fr) (fun b0 b1 b2 b3 b4 b5 b6 b7 h x => ⟨b0, b1, b2, b3, b4, b5, b6, b7, @F64.rec (fun _ => F64) (fun c0 c1 c2 c3 c4 c5 c6 c7 => ⟨@F8.rec (fun _ => F8) (fun a0 a1 a2 a3 a4 a5 _ a7 => ⟨a0, a1, a2, a3, a4, a5, some v, a7⟩) c0, c1, c2, c3, c4, c5, c6, c7⟩) h, x⟩) F
noncomputable def ds71 (v : AV) (F : Fr) : Fr := @Fr.rec (fun _ => Fr) (fun b0 b1 b2 b3 b4 b5 b6 b7 h x => ⟨b0, b1, b2, b3, b4, b5, b6, b7, @F64.rec (fun _ => F64) (fun c0 c1 c2 c3 c4 c5 c6 c7 => ⟨@F8.rec (fun _ => F8) (fun a0 a1 a2 a3 a4 a5 a6 _ => ⟨a0, a1, a2, a3, a4, a5, a6, some v⟩) c0, c1, c2, c3, c4, c5, c6, c7⟩) h, x⟩) F
noncomputable def ds72 (v : AV) (F : Fr) : Fr := @Fr.rec (fun _ => Fr) (fun b0 b1 b2 b3 b4 b5 b6 b7 h x => ⟨b0, b1, b2, b3, b4, b5, b6, b7, @F64.rec (fun _ => F64) (fun c0 c1 c2 c3 c4 c5 c6 c7 => ⟨c0, @F8.rec (fun _ => F8) (fun _ a1 a2 a3 a4 a5 a6 a7 => ⟨some v, a1, a2, a3, a4, a5, a6, a7⟩) c1, c2, c3, c4, c5, c6, c7⟩) h, x⟩) F
noncomputable def ds73 (v : AV) (F : Fr) : Fr := @Fr.rec (fun _ => Fr) (fun b0 b1 b2 b3 b4 b5 b6 b7 h x => ⟨b0, b1, b2, b3, b4, b5, b6, b7, @F64.rec (fun _ => F64) (fun c0 c1 c2 c3 c4 c5 c6 c7 => ⟨c0, @F8.rec (fun _ => F8) (fun a0 _ a2 a3 a4 a5 a6 a7 => ⟨a0, some v, a2, a3, a4, a5, a6, a7⟩) c1, c2, c3, c4, c5, c6, c7⟩) h, x⟩) F
noncomputable def ds74 (v : AV) (F : Fr) : Fr := @Fr.rec (fun _ => Fr) (fun b0 b1 b2 b3 b4 b5 b6 b7 h x => ⟨b0, b1, b2, b3, b4, b5, b6, b7, @F64.rec (fun _ => F64) (fun c0 c1 c2 c3 c4 c5 c6 c7 => ⟨c0, @F8.rec (fun _ => F8) (fun a0 a1 _ a3 a4 a5 a6 a7 => ⟨a0, a1, some v, a3, a4, a5, a6, a7⟩) c1, c2, c3, c4, c5, c6, c7⟩) h, x⟩) F
noncomputable def ds75 (v : AV) (F : Fr) : Fr := @Fr.rec (fun _ => Fr) (fun b0 b1 b2 b3 b4 b5 b6 b7 h x => ⟨b0, b1, b2, b3, b4, b5, b6, b7, @F64.rec (fun _ => F64) (fun c0 c1 c2 c3 c4 c5 c6 c7 => ⟨c0, @F8.rec (fun _ => F8) (fun a0 a1 a2 _ a4 a5 a6 a7 => ⟨a0, a1, a2, some v, a4, a5, a6, a7⟩) c1, c2, c3, c4, c5, c6, c7⟩) h, x⟩) F
noncomputable def ds76 (v : AV) (F : Fr) : Fr := @Fr.rec (fun _ => Fr) (fun b0 b1 b2 b3 b4 b5 b6 b7 h x => ⟨b0, b1, b2, b3, b4, b5, b6, b7, @F64.rec (fun _ => F64) (fun c0 c1 c2 c3 c4 c5 c6 c7 => ⟨c0, @F8.rec (fun _ => F8) (fun a0 a1 a2 a3 _ a5 a6 a7 => ⟨a0, a1, a2, a3, some v, a5, a6, a7⟩) c1, c2, c3, c4, c5, c6, c7⟩) h, x⟩) F
noncomputable def ds77 (v : AV) (F : Fr) : Fr := @Fr.rec (fun _ => Fr) (fun b0 b1 b2 b3 b4 b5 b6 b7 h x => ⟨b0, b1, b2, b3, b4, b5, b6, b7, @F64.rec (fun _ => F64) (fun c0 c1 c2 c3 c4 c5 c6 c7 => ⟨c0, @F8.rec (fun _ => F8) (fun a0 a1 a2 a3 a4 _ a6 a7 => ⟨a0, a1, a2, a3, a4, some v, a6, a7⟩) c1, c2, c3, c4, c5, c6, c7⟩) h, x⟩) F
noncomputable def ds78 (v : AV) (F : Fr) : Fr := @Fr.rec (fun _ => Fr) (fun b0 b1 b2 b3 b4 b5 b6 b7 h x => ⟨b0, b1, b2, b3, b4, b5, b6, b7, @F64.rec (fun _ => F64) (fun c0 c1 c2 c3 c4 c5 c6 c7 => ⟨c0, @F8.rec (fun _ => F8) (fun a0 a1 a2 a3 a4 a5 _ a7 => ⟨a0, a1, a2, a3, a4, a5, some v, a7⟩) c1, c2, c3, c4, c5, c6, c7⟩) h, x⟩) F
noncomputable def ds79 (v : AV) (F : Fr) : Fr := @Fr.rec (fun _ => Fr) (fun b0 b1 b2 b3 b4 b5 b6 b7 h x => ⟨b0, b1, b2, b3, b4, b5, b6, b7, @F64.rec (fun _ => F64) (fun c0 c1 c2 c3 c4 c5 c6 c7 => ⟨c0, @F8.rec (fun _ => F8) (fun a0 a1 a2 a3 a4 a5 a6 _ => ⟨a0, a1, a2, a3, a4, a5, a6, some v⟩) c1, c2, c3, c4, c5, c6, c7⟩) h, x⟩) F
noncomputable def ds80 (v : AV) (F : Fr) : Fr := @Fr.rec (fun _ => Fr) (fun b0 b1 b2 b3 b4 b5 b6 b7 h x => ⟨b0, b1, b2, b3, b4, b5, b6, b7, @F64.rec (fun _ => F64) (fun c0 c1 c2 c3 c4 c5 c6 c7 => ⟨c0, c1, @F8.rec (fun _ => F8) (fun _ a1 a2 a3 a4 a5 a6 a7 => ⟨some v, a1, a2, a3, a4, a5, a6, a7⟩) c2, c3, c4, c5, c6, c7⟩) h, x⟩) F
noncomputable def ds81 (v : AV) (F : Fr) : Fr := @Fr.rec (fun _ => Fr) (fun b0 b1 b2 b3 b4 b5 b6 b7 h x => ⟨b0, b1, b2, b3, b4, b5, b6, b7, @F64.rec (fun _ => F64) (fun c0 c1 c2 c3 c4 c5 c6 c7 => ⟨c0, c1, @F8.rec (fun _ => F8) (fun a0 _ a2 a3 a4 a5 a6 a7 => ⟨a0, some v, a2, a3, a4, a5, a6, a7⟩) c2, c3, c4, c5, c6, c7⟩) h, x⟩) F
noncomputable def ds82 (v : AV) (F : Fr) : Fr := @Fr.rec (fun _ => Fr) (fun b0 b1 b2 b3 b4 b5 b6 b7 h x => ⟨b0, b1, b2, b3, b4, b5, b6, b7, @F64.rec (fun _ => F64) (fun c0 c1 c2 c3 c4 c5 c6 c7 => ⟨c0, c1, @F8.rec (fun _ => F8) (fun a0 a1 _ a3 a4 a5 a6 a7 => ⟨a0, a1, some v, a3, a4, a5, a6, a7⟩) c2, c3, c4, c5, c6, c7⟩) h, x⟩) F
noncomputable def ds83 (v : AV) (F : Fr) : Fr := @Fr.rec (fun _ => Fr) (fun b0 b1 b2 b3 b4 b5 b6 b7 h x => ⟨b0, b1, b2, b3, b4, b5, b6, b7, @F64.rec (fun _ => F64) (fun c0 c1 c2 c3 c4 c5 c6 c7 => ⟨c0, c1, @F8.rec (fun _ => F8) (fun a0 a1 a2 _ a4 a5 a6 a7 => ⟨a0, a1, a2, some v, a4, a5, a6, a7⟩) c2, c3, c4, c5, c6, c7⟩) h, x⟩) F
noncomputable def ds84 (v : AV) (F : Fr) : Fr := @Fr.rec (fun _ => Fr) (fun b0 b1 b2 b3 b4 b5 b6 b7 h x => ⟨b0, b1, b2, b3, b4, b5, b6, b7, @F64.rec (fun _ => F64) (fun c0 c1 c2 c3 c4 c5 c6 c7 => ⟨c0, c1, @F8.rec (fun _ => F8) (fun a0 a1 a2 a3 _ a5 a6 a7 => ⟨a0, a1, a2, a3, some v, a5, a6, a7⟩) c2, c3, c4, c5, c6, c7⟩) h, x⟩) F
noncomputable def ds85 (v : AV) (F : Fr) : Fr := @Fr.rec (fun _ => Fr) (fun b0 b1 b2 b3 b4 b5 b6 b7 h x => ⟨b0, b1, b2, b3, b4, b5, b6, b7, @F64.rec (fun _ => F64) (fun c0 c1 c2 c3 c4 c5 c6 c7 => ⟨c0, c1, @F8.rec (fun _ => F8) (fun a0 a1 a2 a3 a4 _ a6 a7 => ⟨a0, a1, a2, a3, a4, some v, a6, a7⟩) c2, c3, c4, c5, c6, c7⟩) h, x⟩) F
noncomputable def ds86 (v : AV) (F : Fr) : Fr := @Fr.rec (fun _ => Fr) (fun b0 b1 b2 b3 b4 b5 b6 b7 h x => ⟨b0, b1, b2, b3, b4, b5, b6, b7, @F64.rec (fun _ => F64) (fun c0 c1 c2 c3 c4 c5 c6 c7 => ⟨c0, c1, @F8.rec (fun _ => F8) (fun a0 a1 a2 a3 a4 a5 _ a7 => ⟨a0, a1, a2, a3, a4, a5, some v, a7⟩) c2, c3, c4, c5, c6, c7⟩) h, x⟩) F
noncomputable def ds87 (v : AV) (F : Fr) : Fr := @Fr.rec (fun _ => Fr) (fun b0 b1 b2 b3 b4 b5 b6 b7 h x => ⟨b0, b1, b2, b3, b4, b5, b6, b7, @F64.rec (fun _ => F64) (fun c0 c1 c2 c3 c4 c5 c6 c7 => ⟨c0, c1, @F8.rec (fun _ => F8) (fun a0 a1 a2 a3 a4 a5 a6 _ => ⟨a0, a1, a2, a3, a4, a5, a6, some v⟩) c2, c3, c4, c5, c6, c7⟩) h, x⟩) F
noncomputable def ds88 (v : AV) (F : Fr) : Fr := @Fr.rec (fun _ => Fr) (fun b0 b1 b2 b3 b4 b5 b6 b7 h x => ⟨b0, b1, b2, b3, b4, b5, b6, b7, @F64.rec (fun _ => F64) (fun c0 c1 c2 c3 c4 c5 c6 c7 => ⟨c0, c1, c2, @F8.rec (fun _ => F8) (fun _ a1 a2 a3 a4 a5 a6 a7 => ⟨some v, a1, a2, a3, a4, a5, a6, a7⟩) c3, c4, c5, c6, c7⟩) h, x⟩) F
noncomputable def ds89 (v : AV) (F : Fr) : Fr := @Fr.rec (fun _ => Fr) (fun b0 b1 b2 b3 b4 b5 b6 b7 h x => ⟨b0, b1, b2, b3, b4, b5, b6, b7, @F64.rec (fun _ => F64) (fun c0 c1 c2 c3 c4 c5 c6 c7 => ⟨c0, c1, c2, @F8.rec (fun _ => F8) (fun a0 _ a2 a3 a4 a5 a6 a7 => ⟨a0, some v, a2, a3, a4, a5, a6, a7⟩) c3, c4, c5, c6, c7⟩) h, x⟩) F
noncomputable def ds90 (v : AV) (F : Fr) : Fr := @Fr.rec (fun _ => Fr) (fun b0 b1 b2 b3 b4 b5 b6 b7 h x => ⟨b0, b1, b2, b3, b4, b5, b6, b7, @F64.rec (fun _ => F64) (fun c0 c1 c2 c3 c4 c5 c6 c7 => ⟨c0, c1, c2, @F8.rec (fun _ => F8) (fun a0 a1 _ a3 a4 a5 a6 a7 => ⟨a0, a1, some v, a3, a4, a5, a6, a7⟩) c3, c4, c5, c6, c7⟩) h, x⟩) F
noncomputable def ds91 (v : AV) (F : Fr) : Fr := @Fr.rec (fun _ => Fr) (fun b0 b1 b2 b3 b4 b5 b6 b7 h x => ⟨b0, b1, b2, b3, b4, b5, b6, b7, @F64.rec (fun _ => F64) (fun c0 c1 c2 c3 c4 c5 c6 c7 => ⟨c0, c1, c2, @F8.rec (fun _ => F8) (fun a0 a1 a2 _ a4 a5 a6 a7 => ⟨a0, a1, a2, some v, a4, a5, a6, a7⟩) c3, c4, c5, c6, c7⟩) h, x⟩) F
noncomputable def ds92 (v : AV) (F : Fr) : Fr := @Fr.rec (fun _ => Fr) (fun b0 b1 b2 b3 b4 b5 b6 b7 h x => ⟨b0, b1, b2, b3, b4, b5, b6, b7, @F64.rec (fun _ => F64) (fun c0 c1 c2 c3 c4 c5 c6 c7 => ⟨c0, c1, c2, @F8.rec (fun _ => F8) (fun a0 a1 a2 a3 _ a5 a6 a7 => ⟨a0, a1, a2, a3, some v, a5, a6, a7⟩) c3, c4, c5, c6, c7⟩) h, x⟩) F
noncomputable def ds93 (v : AV) (F : Fr) : Fr := @Fr.rec (fun _ => Fr) (fun b0 b1 b2 b3 b4 b5 b6 b7 h x => ⟨b0, b1, b2, b3, b4, b5, b6, b7, @F64.rec (fun _ => F64) (fun c0 c1 c2 c3 c4 c5 c6 c7 => ⟨c0, c1, c2, @F8.rec (fun _ => F8) (fun a0 a1 a2 a3 a4 _ a6 a7 => ⟨a0, a1, a2, a3, a4, some v, a6, a7⟩) c3, c4, c5, c6, c7⟩) h, x⟩) F
noncomputable def ds94 (v : AV) (F : Fr) : Fr := @Fr.rec (fun _ => Fr) (fun b0 b1 b2 b3 b4 b5 b6 b7 h x => ⟨b0, b1, b2, b3, b4, b5, b6, b7, @F64.rec (fun _ => F64) (fun c0 c1 c2 c3 c4 c5 c6 c7 => ⟨c0, c1, c2, @F8.rec (fun _ => F8) (fun a0 a1 a2 a3 a4 a5 _ a7 => ⟨a0, a1, a2, a3, a4, a5, some v, a7⟩) c3, c4, c5, c6, c7⟩) h, x⟩) F
noncomputable def ds95 (v : AV) (F : Fr) : Fr := @Fr.rec (fun _ => Fr) (fun b0 b1 b2 b3 b4 b5 b6 b7 h x => ⟨b0, b1, b2, b3, b4, b5, b6, b7, @F64.rec (fun _ => F64) (fun c0 c1 c2 c3 c4 c5 c6 c7 => ⟨c0, c1, c2, @F8.rec (fun _ => F8) (fun a0 a1 a2 a3 a4 a5 a6 _ => ⟨a0, a1, a2, a3, a4, a5, a6, some v⟩) c3, c4, c5, c6, c7⟩) h, x⟩) F
noncomputable def ds96 (v : AV) (F : Fr) : Fr := @Fr.rec (fun _ => Fr) (fun b0 b1 b2 b3 b4 b5 b6 b7 h x => ⟨b0, b1, b2, b3, b4, b5, b6, b7, @F64.rec (fun _ => F64) (fun c0 c1 c2 c3 c4 c5 c6 c7 => ⟨c0, c1, c2, c3, @F8.rec (fun _ => F8) (fun _ a1 a2 a3 a4 a5 a6 a7 => ⟨some v, a1, a2, a3, a4, a5, a6, a7⟩) c4, c5, c6, c7⟩) h, x⟩) F
noncomputable def ds97 (v : AV) (F : Fr) : Fr := @Fr.rec (fun _ => Fr) (fun b0 b1 b2 b3 b4 b5 b6 b7 h x => ⟨b0, b1, b2, b3, b4, b5, b6, b7, @F64.rec (fun _ => F64) (fun c0 c1 c2 c3 c4 c5 c6 c7 => ⟨c0, c1, c2, c3, @F8.rec (fun _ => F8) (fun a0 _ a2 a3 a4 a5 a6 a7 => ⟨a0, some v, a2, a3, a4, a5, a6, a7⟩) c4, c5, c6, c7⟩) h, x⟩) F
noncomputable def ds98 (v : AV) (F : Fr) : Fr := @Fr.rec (fun _ => Fr) (fun b0 b1 b2 b3 b4 b5 b6 b7 h x => ⟨b0, b1, b2, b3, b4, b5, b6, b7, @F64.rec (fun _ => F64) (fun c0 c1 c2 c3 c4 c5 c6 c7 => ⟨c0, c1, c2, c3, @F8.rec (fun _ => F8) (fun a0 a1 _ a3 a4 a5 a6 a7 => ⟨a0, a1, some v, a3, a4, a5, a6, a7⟩) c4, c5, c6, c7⟩) h, x⟩) F
noncomputable def ds99 (v : AV) (F : Fr) : Fr := @Fr.rec (fun _ => Fr) (fun b0 b1 b2 b3 b4 b5 b6 b7 h x => ⟨b0, b1, b2, b3, b4, b5, b6, b7, @F64.rec (fun _ => F64) (fun c0 c1 c2 c3 c4 c5 c6 c7 => ⟨c0, c1, c2, c3, @F8.rec (fun _ => F8) (fun a0 a1 a2 _ a4 a5 a6 a7 => ⟨a0, a1, a2, some v, a4, a5, a6, a7⟩) c4, c5, c6, c7⟩) h, x⟩) F
noncomputable def ds100 (v : AV) (F : Fr) : Fr := @Fr.rec (fun _ => Fr) (fun b0 b1 b2 b3 b4 b5 b6 b7 h x => ⟨b0, b1, b2, b3, b4, b5, b6, b7, @F64.rec (fun _ => F64) (fun c0 c1 c2 c3 c4 c5 c6 c7 => ⟨c0, c1, c2, c3, @F8.rec (fun _ => F8) (fun a0 a1 a2 a3 _ a5 a6 a7 => ⟨a0, a1, a2, a3, some v, a5, a6, a7⟩) c4, c5, c6, c7⟩) h, x⟩) F
noncomputable def ds101 (v : AV) (F : Fr) : Fr := @Fr.rec (fun _ => Fr) (fun b0 b1 b2 b3 b4 b5 b6 b7 h x => ⟨b0, b1, b2, b3, b4, b5, b6, b7, @F64.rec (fun _ => F64) (fun c0 c1 c2 c3 c4 c5 c6 c7 => ⟨c0, c1, c2, c3, @F8.rec (fun _ => F8) (fun a0 a1 a2 a3 a4 _ a6 a7 => ⟨a0, a1, a2, a3, a4, some v, a6, a7⟩) c4, c5, c6, c7⟩) h, x⟩) F
noncomputable def ds102 (v : AV) (F : Fr) : Fr := @Fr.rec (fun _ => Fr) (fun b0 b1 b2 b3 b4 b5 b6 b7 h x => ⟨b0, b1, b2, b3, b4, b5, b6, b7, @F64.rec (fun _ => F64) (fun c0 c1 c2 c3 c4 c5 c6 c7 => ⟨c0, c1, c2, c3, @F8.rec (fun _ => F8) (fun a0 a1 a2 a3 a4 a5 _ a7 => ⟨a0, a1, a2, a3, a4, a5, some v, a7⟩) c4, c5, c6, c7⟩) h, x⟩) F
noncomputable def ds103 (v : AV) (F : Fr) : Fr := @Fr.rec (fun _ => Fr) (fun b0 b1 b2 b3 b4 b5 b6 b7 h x => ⟨b0, b1, b2, b3, b4, b5, b6, b7, @F64.rec (fun _ => F64) (fun c0 c1 c2 c3 c4 c5 c6 c7 => ⟨c0, c1, c2, c3, @F8.rec (fun _ => F8) (fun a0 a1 a2 a3 a4 a5 a6 _ => ⟨a0, a1, a2, a3, a4, a5, a6, some v⟩) c4, c5, c6, c7⟩) h, x⟩) F
noncomputable def ds104 (v : AV) (F : Fr) : Fr := @Fr.rec (fun _ => Fr) (fun b0 b1 b2 b3 b4 b5 b6 b7 h x => ⟨b0, b1, b2, b3, b4, b5, b6, b7, @F64.rec (fun _ => F64) (fun c0 c1 c2 c3 c4 c5 c6 c7 => ⟨c0, c1, c2, c3, c4, @F8.rec (fun _ => F8) (fun _ a1 a2 a3 a4 a5 a6 a7 => ⟨some v, a1, a2, a3, a4, a5, a6, a7⟩) c5, c6, c7⟩) h, x⟩) F
noncomputable def ds105 (v : AV) (F : Fr) : Fr := @Fr.rec (fun _ => Fr) (fun b0 b1 b2 b3 b4 b5 b6 b7 h x => ⟨b0, b1, b2, b3, b4, b5, b6, b7, @F64.rec (fun _ => F64) (fun c0 c1 c2 c3 c4 c5 c6 c7 => ⟨c0, c1, c2, c3, c4, @F8.rec (fun _ => F8) (fun a0 _ a2 a3 a4 a5 a6 a7 => ⟨a0, some v, a2, a3, a4, a5, a6, a7⟩) c5, c6, c7⟩) h, x⟩) F
noncomputable def ds106 (v : AV) (F : Fr) : Fr := @Fr.rec (fun _ => Fr) (fun b0 b1 b2 b3 b4 b5 b6 b7 h x => ⟨b0, b1, b2, b3, b4, b5, b6, b7, @F64.rec (fun _ => F64) (fun c0 c1 c2 c3 c4 c5 c6 c7 => ⟨c0, c1, c2, c3, c4, @F8.rec (fun _ => F8) (fun a0 a1 _ a3 a4 a5 a6 a7 => ⟨a0, a1, some v, a3, a4, a5, a6, a7⟩) c5, c6, c7⟩) h, x⟩) F
noncomputable def ds107 (v : AV) (F : Fr) : Fr := @Fr.rec (fun _ => Fr) (fun b0 b1 b2 b3 b4 b5 b6 b7 h x => ⟨b0, b1, b2, b3, b4, b5, b6, b7, @F64.rec (fun _ => F64) (fun c0 c1 c2 c3 c4 c5 c6 c7 => ⟨c0, c1, c2, c3, c4, @F8.rec (fun _ => F8) (fun a0 a1 a2 _ a4 a5 a6 a7 => ⟨a0, a1, a2, some v, a4, a5, a6, a7⟩) c5, c6, c7⟩) h, x⟩) F
noncomputable def ds108 (v : AV) (F : Fr) : Fr := @Fr.rec (fun _ => Fr) (fun b0 b1 b2 b3 b4 b5 b6 b7 h x => ⟨b0, b1, b2, b3, b4, b5, b6, b7, @F64.rec (fun _ => F64) (fun c0 c1 c2 c3 c4 c5 c6 c7 => ⟨c0, c1, c2, c3, c4, @F8.rec (fun _ => F8) (fun a0 a1 a2 a3 _ a5 a6 a7 => ⟨a0, a1, a2, a3, some v, a5, a6, a7⟩) c5, c6, c7⟩) h, x⟩) F
noncomputable def ds109 (v : AV) (F : Fr) : Fr := @Fr.rec (fun _ => Fr) (fun b0 b1 b2 b3 b4 b5 b6 b7 h x => ⟨b0, b1, b2, b3, b4, b5, b6, b7, @F64.rec (fun _ => F64) (fun c0 c1 c2 c3 c4 c5 c6 c7 => ⟨c0, c1, c2, c3, c4, @F8.rec (fun _ => F8) (fun a0 a1 a2 a3 a4 _ a6 a7 => ⟨a0, a1, a2, a3, a4, some v, a6, a7⟩) c5, c6, c7⟩) h, x⟩) F
noncomputable def ds110 (v : AV) (F : Fr) : Fr := @Fr.rec (fun _ => Fr) (fun b0 b1 b2 b3 b4 b5 b6 b7 h x => ⟨b0, b1, b2, b3, b4, b5, b6, b7, @F64.rec (fun _ => F64) (fun c0 c1 c2 c3 c4 c5 c6 c7 => ⟨c0, c1, c2, c3, c4, @F8.rec (fun _ => F8) (fun a0 a1 a2 a3 a4 a5 _ a7 => ⟨a0, a1, a2, a3, a4, a5, some v, a7⟩) c5, c6, c7⟩) h, x⟩) F
noncomputable def ds111 (v : AV) (F : Fr) : Fr := @Fr.rec (fun _ => Fr) (fun b0 b1 b2 b3 b4 b5 b6 b7 h x => ⟨b0, b1, b2, b3, b4, b5, b6, b7, @F64.rec (fun _ => F64) (fun c0 c1 c2 c3 c4 c5 c6 c7 => ⟨c0, c1, c2, c3, c4, @F8.rec (fun _ => F8) (fun a0 a1 a2 a3 a4 a5 a6 _ => ⟨a0, a1, a2, a3, a4, a5, a6, some v⟩) c5, c6, c7⟩) h, x⟩) F
noncomputable def ds112 (v : AV) (F : Fr) : Fr := @Fr.rec (fun _ => Fr) (fun b0 b1 b2 b3 b4 b5 b6 b7 h x => ⟨b0, b1, b2, b3, b4, b5, b6, b7, @F64.rec (fun _ => F64) (fun c0 c1 c2 c3 c4 c5 c6 c7 => ⟨c0, c1, c2, c3, c4, c5, @F8.rec (fun _ => F8) (fun _ a1 a2 a3 a4 a5 a6 a7 => ⟨some v, a1, a2, a3, a4, a5, a6, a7⟩) c6, c7⟩) h, x⟩) F
noncomputable def ds113 (v : AV) (F : Fr) : Fr := @Fr.rec (fun _ => Fr) (fun b0 b1 b2 b3 b4 b5 b6 b7 h x => ⟨b0, b1, b2, b3, b4, b5, b6, b7, @F64.rec (fun _ => F64) (fun c0 c1 c2 c3 c4 c5 c6 c7 => ⟨c0, c1, c2, c3, c4, c5, @F8.rec (fun _ => F8) (fun a0 _ a2 a3 a4 a5 a6 a7 => ⟨a0, some v, a2, a3, a4, a5, a6, a7⟩) c6, c7⟩) h, x⟩) F
noncomputable def ds114 (v : AV) (F : Fr) : Fr := @Fr.rec (fun _ => Fr) (fun b0 b1 b2 b3 b4 b5 b6 b7 h x => ⟨b0, b1, b2, b3, b4, b5, b6, b7, @F64.rec (fun _ => F64) (fun c0 c1 c2 c3 c4 c5 c6 c7 => ⟨c0, c1, c2, c3, c4, c5, @F8.rec (fun _ => F8) (fun a0 a1 _ a3 a4 a5 a6 a7 => ⟨a0, a1, some v, a3, a4, a5, a6, a7⟩) c6, c7⟩) h, x⟩) F
noncomputable def ds115 (v : AV) (F : Fr) : Fr := @Fr.rec (fun _ => Fr) (fun b0 b1 b2 b3 b4 b5 b6 b7 h x => ⟨b0, b1, b2, b3, b4, b5, b6, b7, @F64.rec (fun _ => F64) (fun c0 c1 c2 c3 c4 c5 c6 c7 => ⟨c0, c1, c2, c3, c4, c5, @F8.rec (fun _ => F8) (fun a0 a1 a2 _ a4 a5 a6 a7 => ⟨a0, a1, a2, some v, a4, a5, a6, a7⟩) c6, c7⟩) h, x⟩) F
noncomputable def ds116 (v : AV) (F : Fr) : Fr := @Fr.rec (fun _ => Fr) (fun b0 b1 b2 b3 b4 b5 b6 b7 h x => ⟨b0, b1, b2, b3, b4, b5, b6, b7, @F64.rec (fun _ => F64) (fun c0 c1 c2 c3 c4 c5 c6 c7 => ⟨c0, c1, c2, c3, c4, c5, @F8.rec (fun _ => F8) (fun a0 a1 a2 a3 _ a5 a6 a7 => ⟨a0, a1, a2, a3, some v, a5, a6, a7⟩) c6, c7⟩) h, x⟩) F
noncomputable def ds117 (v : AV) (F : Fr) : Fr := @Fr.rec (fun _ => Fr) (fun b0 b1 b2 b3 b4 b5 b6 b7 h x => ⟨b0, b1, b2, b3, b4, b5, b6, b7, @F64.rec (fun _ => F64) (fun c0 c1 c2 c3 c4 c5 c6 c7 => ⟨c0, c1, c2, c3, c4, c5, @F8.rec (fun _ => F8) (fun a0 a1 a2 a3 a4 _ a6 a7 => ⟨a0, a1, a2, a3, a4, some v, a6, a7⟩) c6, c7⟩) h, x⟩) F
noncomputable def ds118 (v : AV) (F : Fr) : Fr := @Fr.rec (fun _ => Fr) (fun b0 b1 b2 b3 b4 b5 b6 b7 h x => ⟨b0, b1, b2, b3, b4, b5, b6, b7, @F64.rec (fun _ => F64) (fun c0 c1 c2 c3 c4 c5 c6 c7 => ⟨c0, c1, c2, c3, c4, c5, @F8.rec (fun _ => F8) (fun a0 a1 a2 a3 a4 a5 _ a7 => ⟨a0, a1, a2, a3, a4, a5, some v, a7⟩) c6, c7⟩) h, x⟩) F
noncomputable def ds119 (v : AV) (F : Fr) : Fr := @Fr.rec (fun _ => Fr) (fun b0 b1 b2 b3 b4 b5 b6 b7 h x => ⟨b0, b1, b2, b3, b4, b5, b6, b7, @F64.rec (fun _ => F64) (fun c0 c1 c2 c3 c4 c5 c6 c7 => ⟨c0, c1, c2, c3, c4, c5, @F8.rec (fun _ => F8) (fun a0 a1 a2 a3 a4 a5 a6 _ => ⟨a0, a1, a2, a3, a4, a5, a6, some v⟩) c6, c7⟩) h, x⟩) F
noncomputable def ds120 (v : AV) (F : Fr) : Fr := @Fr.rec (fun _ => Fr) (fun b0 b1 b2 b3 b4 b5 b6 b7 h x => ⟨b0, b1, b2, b3, b4, b5, b6, b7, @F64.rec (fun _ => F64) (fun c0 c1 c2 c3 c4 c5 c6 c7 => ⟨c0, c1, c2, c3, c4, c5, c6, @F8.rec (fun _ => F8) (fun _ a1 a2 a3 a4 a5 a6 a7 => ⟨some v, a1, a2, a3, a4, a5, a6, a7⟩) c7⟩) h, x⟩) F
noncomputable def ds121 (v : AV) (F : Fr) : Fr := @Fr.rec (fun _ => Fr) (fun b0 b1 b2 b3 b4 b5 b6 b7 h x => ⟨b0, b1, b2, b3, b4, b5, b6, b7, @F64.rec (fun _ => F64) (fun c0 c1 c2 c3 c4 c5 c6 c7 => ⟨c0, c1, c2, c3, c4, c5, c6, @F8.rec (fun _ => F8) (fun a0 _ a2 a3 a4 a5 a6 a7 => ⟨a0, some v, a2, a3, a4, a5, a6, a7⟩) c7⟩) h, x⟩) F
noncomputable def ds122 (v : AV) (F : Fr) : Fr := @Fr.rec (fun _ => Fr) (fun b0 b1 b2 b3 b4 b5 b6 b7 h x => ⟨b0, b1, b2, b3, b4, b5, b6, b7, @F64.rec (fun _ => F64) (fun c0 c1 c2 c3 c4 c5 c6 c7 => ⟨c0, c1, c2, c3, c4, c5, c6, @F8.rec (fun _ => F8) (fun a0 a1 _ a3 a4 a5 a6 a7 => ⟨a0, a1, some v, a3, a4, a5, a6, a7⟩) c7⟩) h, x⟩) F
noncomputable def ds123 (v : AV) (F : Fr) : Fr := @Fr.rec (fun _ => Fr) (fun b0 b1 b2 b3 b4 b5 b6 b7 h x => ⟨b0, b1, b2, b3, b4, b5, b6, b7, @F64.rec (fun _ => F64) (fun c0 c1 c2 c3 c4 c5 c6 c7 => ⟨c0, c1, c2, c3, c4, c5, c6, @F8.rec (fun _ => F8) (fun a0 a1 a2 _ a4 a5 a6 a7 => ⟨a0, a1, a2, some v, a4, a5, a6, a7⟩) c7⟩) h, x⟩) F
noncomputable def ds124 (v : AV) (F : Fr) : Fr := @Fr.rec (fun _ => Fr) (fun b0 b1 b2 b3 b4 b5 b6 b7 h x => ⟨b0, b1, b2, b3, b4, b5, b6, b7, @F64.rec (fun _ => F64) (fun c0 c1 c2 c3 c4 c5 c6 c7 => ⟨c0, c1, c2, c3, c4, c5, c6, @F8.rec (fun _ => F8) (fun a0 a1 a2 a3 _ a5 a6 a7 => ⟨a0, a1, a2, a3, some v, a5, a6, a7⟩) c7⟩) h, x⟩) F
noncomputable def ds125 (v : AV) (F : Fr) : Fr := @Fr.rec (fun _ => Fr) (fun b0 b1 b2 b3 b4 b5 b6 b7 h x => ⟨b0, b1, b2, b3, b4, b5, b6, b7, @F64.rec (fun _ => F64) (fun c0 c1 c2 c3 c4 c5 c6 c7 => ⟨c0, c1, c2, c3, c4, c5, c6, @F8.rec (fun _ => F8) (fun a0 a1 a2 a3 a4 _ a6 a7 => ⟨a0, a1, a2, a3, a4, some v, a6, a7⟩) c7⟩) h, x⟩) F
noncomputable def ds126 (v : AV) (F : Fr) : Fr := @Fr.rec (fun _ => Fr) (fun b0 b1 b2 b3 b4 b5 b6 b7 h x => ⟨b0, b1, b2, b3, b4, b5, b6, b7, @F64.rec (fun _ => F64) (fun c0 c1 c2 c3 c4 c5 c6 c7 => ⟨c0, c1, c2, c3, c4, c5, c6, @F8.rec (fun _ => F8) (fun a0 a1 a2 a3 a4 a5 _ a7 => ⟨a0, a1, a2, a3, a4, a5, some v, a7⟩) c7⟩) h, x⟩) F
noncomputable def ds127 (v : AV) (F : Fr) : Fr := @Fr.rec (fun _ => Fr) (fun b0 b1 b2 b3 b4 b5 b6 b7 h x => ⟨b0, b1, b2, b3, b4, b5, b6, b7, @F64.rec (fun _ => F64) (fun c0 c1 c2 c3 c4 c5 c6 c7 => ⟨c0, c1, c2, c3, c4, c5, c6, @F8.rec (fun _ => F8) (fun a0 a1 a2 a3 a4 a5 a6 _ => ⟨a0, a1, a2, a3, a4, a5, a6, some v⟩) c7⟩) h, x⟩) F
noncomputable def dsH (k : Nat) (v : AV) (F : Fr) : Fr := hiS ((Fr.ex F).set 10 k (some v)) F
noncomputable def dsN (_ : AV) (F : Fr) : Fr := F
noncomputable def setD (d : Ds) : AV → Fr → Fr := Ds.w d
noncomputable def dsL : List Ds := [⟨ds0⟩, ⟨ds1⟩, ⟨ds2⟩, ⟨ds3⟩, ⟨ds4⟩, ⟨ds5⟩, ⟨ds6⟩, ⟨ds7⟩, ⟨ds8⟩, ⟨ds9⟩, ⟨ds10⟩, ⟨ds11⟩, ⟨ds12⟩, ⟨ds13⟩, ⟨ds14⟩, ⟨ds15⟩, ⟨ds16⟩, ⟨ds17⟩, ⟨ds18⟩, ⟨ds19⟩, ⟨ds20⟩, ⟨ds21⟩, ⟨ds22⟩, ⟨ds23⟩, ⟨ds24⟩, ⟨ds25⟩, ⟨ds26⟩, ⟨ds27⟩, ⟨ds28⟩, ⟨ds29⟩, ⟨ds30⟩, ⟨ds31⟩, ⟨ds32⟩, ⟨ds33⟩, ⟨ds34⟩, ⟨ds35⟩, ⟨ds36⟩, ⟨ds37⟩, ⟨ds38⟩, ⟨ds39⟩, ⟨ds40⟩, ⟨ds41⟩, ⟨ds42⟩, ⟨ds43⟩, ⟨ds44⟩, ⟨ds45⟩, ⟨ds46⟩, ⟨ds47⟩, ⟨ds48⟩, ⟨ds49⟩, ⟨ds50⟩, ⟨ds51⟩, ⟨ds52⟩, ⟨ds53⟩, ⟨ds54⟩, ⟨ds55⟩, ⟨ds56⟩, ⟨ds57⟩, ⟨ds58⟩, ⟨ds59⟩, ⟨ds60⟩, ⟨ds61⟩, ⟨ds62⟩, ⟨ds63⟩, ⟨ds64⟩, ⟨ds65⟩, ⟨ds66⟩, ⟨ds67⟩, ⟨ds68⟩, ⟨ds69⟩, ⟨ds70⟩, ⟨ds71⟩, ⟨ds72⟩, ⟨ds73⟩, ⟨ds74⟩, ⟨ds75⟩, ⟨ds76⟩, ⟨ds77⟩, ⟨ds78⟩, ⟨ds79⟩, ⟨ds80⟩, ⟨ds81⟩, ⟨ds82⟩, ⟨ds83⟩, ⟨ds84⟩, ⟨ds85⟩, ⟨ds86⟩, ⟨ds87⟩, ⟨ds88⟩, ⟨ds89⟩, ⟨ds90⟩, ⟨ds91⟩, ⟨ds92⟩, ⟨ds93⟩, ⟨ds94⟩, ⟨ds95⟩, ⟨ds96⟩, ⟨ds97⟩, ⟨ds98⟩, ⟨ds99⟩, ⟨ds100⟩, ⟨ds101⟩, ⟨ds102⟩, ⟨ds103⟩, ⟨ds104⟩, ⟨ds105⟩, ⟨ds106⟩, ⟨ds107⟩, ⟨ds108⟩, ⟨ds109⟩, ⟨ds110⟩, ⟨ds111⟩, ⟨ds112⟩, ⟨ds113⟩, ⟨ds114⟩, ⟨ds115⟩, ⟨ds116⟩, ⟨ds117⟩, ⟨ds118⟩, ⟨ds119⟩, ⟨ds120⟩, ⟨ds121⟩, ⟨ds122⟩, ⟨ds123⟩, ⟨ds124⟩, ⟨ds125⟩, ⟨ds126⟩, ⟨ds127⟩]
noncomputable def dsM (t : Nat) : Ds := match dsL[t]? with
  | some o => o
  | none => ⟨dsN⟩
noncomputable def dsOf (N : Nat) : Option Tmp → Option Ds
  | none => some ⟨dsN⟩
  | some d => match Nat.blt d N, Nat.blt d 1000, Nat.blt d 128 with
    | true, true, true => some (dsM d)
    | true, true, false => some ⟨dsH (d - 128)⟩
    | _, _, _ => none
theorem dsM_lo (F : Fr) (v : AV) : ∀ a b : Nat, a < 8 → b < 8 → setD (dsM (8 * a + b)) v F = rowS (dig a) (colS (dig b) (some v)) F := by
  intro a b ha hb
  have e1 : a = 0 ∨ a = 1 ∨ a = 2 ∨ a = 3 ∨ a = 4 ∨ a = 5 ∨ a = 6 ∨ a = 7 := by omega
  have e2 : b = 0 ∨ b = 1 ∨ b = 2 ∨ b = 3 ∨ b = 4 ∨ b = 5 ∨ b = 6 ∨ b = 7 := by omega
  rcases e1 with rfl | rfl | rfl | rfl | rfl | rfl | rfl | rfl <;> rcases e2 with rfl | rfl | rfl | rfl | rfl | rfl | rfl | rfl <;> rfl
theorem dsM_mid (F : Fr) (v : AV) : ∀ a b : Nat, a < 8 → b < 8 → setD (dsM (64 + (8 * a + b))) v F = onH (rowHS (dig a) (colS (dig b) (some v))) F := by
  intro a b ha hb
  have e1 : a = 0 ∨ a = 1 ∨ a = 2 ∨ a = 3 ∨ a = 4 ∨ a = 5 ∨ a = 6 ∨ a = 7 := by omega
  have e2 : b = 0 ∨ b = 1 ∨ b = 2 ∨ b = 3 ∨ b = 4 ∨ b = 5 ∨ b = 6 ∨ b = 7 := by omega
  rcases e1 with rfl | rfl | rfl | rfl | rfl | rfl | rfl | rfl <;> rcases e2 with rfl | rfl | rfl | rfl | rfl | rfl | rfl | rfl <;> rfl
theorem dsOf_set {N : Nat} {t : Nat} {d : Ds} (hd : dsOf N (some t) = some d) (v : AV) (F : Fr) : t < N ∧ t < 1000 ∧ setD d v F = setI F t v := by
  unfold dsOf at hd
  simp only at hd
  split at hd
  · rename_i h1 h2 h3
    cases hd
    have h3 : t < 128 := by simpa [Nat.blt_eq] using h3
    refine ⟨by simpa [Nat.blt_eq] using h1, by simpa [Nat.blt_eq] using h2, ?_⟩
    by_cases h4 : t < 64
    · rw [setI_lo h4, ← dsM_lo F v (t / 8) (t % 8) (by omega) (Nat.mod_lt _ (by decide))]
      congr 2
      exact (Nat.div_add_mod t 8).symm
    · rw [setI_mid h4 h3, ← dsM_mid F v (t / 8 - 8) (t % 8) (by omega) (Nat.mod_lt _ (by decide))]
      congr 2
      have h4 : ¬ (t : Nat) < 64 := h4
      have h5 := Nat.div_add_mod t 8
      have : (t : Nat) = 64 + (8 * (t / 8 - 8) + t % 8) := by omega
      exact this
  · rename_i h1 h2 h3
    cases hd
    have h3 : ¬ t < 128 := by rw [Bool.eq_false_iff] at h3; simpa [Nat.blt_eq] using h3
    exact ⟨by simpa [Nat.blt_eq] using h1, by simpa [Nat.blt_eq] using h2, (setI_hi h3).symm⟩
  · cases hd
/-- A frame of this kind: what is known of its slots. -/
structure FRF (N : Nat) (Ds : List Deferred) (l : Env) (F : Fr) (a : Act) : Prop where
  size : a.tmps.size = N
  get : ∀ i v, getI F i = some v → ∃ x, a.tmps[i]? = some x ∧ VR l v x
  defers : a.defers = Ds
  glob : ∀ g, g < 1000 → l g = some (g, 0)
variable {N : Nat} {Ds0 : List Deferred} {l l' : Env} {F : Fr} {a : Act}
theorem FRF.mono (h : FRF N Ds0 l F a) (hl : l.le l') : FRF N Ds0 l' F a :=
  ⟨h.size, fun i v e => let ⟨x, h1, h2⟩ := h.get i v e; ⟨x, h1, h2.mono hl⟩, h.defers, fun g hg => hl _ _ (h.glob g hg)⟩
theorem FRF.fr (h : FRF N Ds0 l F a) : FR N Ds0 l (trF F) a := ⟨h.size, fun i v e => h.get i v (trF_get e), h.defers, h.glob⟩
theorem FRF.of {f : Tr AV} (h : FR N Ds0 l f a) : FRF N Ds0 l (frT f) a := ⟨h.size, fun i v e => h.get i v (frT_get e), h.defers, h.glob⟩
theorem FRF.put (h : FRF N Ds0 l F a) {dst : Option Tmp} {d : Ds} (hd : dsOf N dst = some d) {v : AV} {x : Value} (hv : VR l v x) : FRF N Ds0 l (setD d v F) (a.put dst x) := by
  cases dst with
  | none => cases hd; exact h
  | some t =>
    have key := dsOf_set hd v F
    obtain ⟨h1, h2, h3⟩ := key
    rw [h3]
    refine ⟨by simp [Act.put, h.size], fun i u e => ?_, h.defers, h.glob⟩
    rcases getI_setI h2 e with ⟨rfl, rfl⟩ | ⟨e1, e2⟩
    · exact ⟨x, by simp [Act.put, h.size, h1], hv⟩
    · obtain ⟨y, g1, g2⟩ := h.get i u e2
      refine ⟨y, ?_, g2⟩
      simp only [Act.put]
      rw [Array.getElem?_setIfInBounds_ne (fun e => e1 e.symm)]; exact g1
end Go.Proofs.YtcfmohjffnpfpaaGreatDoor.Ev
