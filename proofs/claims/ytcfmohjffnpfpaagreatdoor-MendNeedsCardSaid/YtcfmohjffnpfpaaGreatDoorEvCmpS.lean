/-
  CONTRACT of what direct.List compares by: two entries, by their names. No condition.
-/
import Derived.Test.YtcfmohjffnpfpaaGreatDoorEvSum
namespace Go.Proofs.YtcfmohjffnpfpaaGreatDoor.Ev
open Go Go.RowKit

/-- cmp.Compare of two texts. -/
noncomputable def cmpS (a b : List Nat) : Int := if strLt a b then -1 else if strLt b a then 1 else 0
theorem nan_any (s : ByteArray) (w : World) : Calls Tryz.prog 94 #[.string s] w fun r w' => r = .returned (.bool false) ∧ w' = w := by
  go_enter Tryz.func94, Tryz.ntmps94
  go_wp2
  go_ret
  simp
theorem less_eq {a b : List Nat} (ha : ∀ x ∈ a, x < 256) (hb : ∀ x ∈ b, x < 256) : Op.bytesLess (bs a).toList (bs b).toList = strLt a b := by
  rw [← strLt_ok a b ha hb]
  unfold bs
  rw [ByteArray.toList_eq, ByteArray.toList_eq]
theorem strLt_irr : ∀ a : List Nat, strLt a a = false
  | [] => rfl
  | x :: a => by
    unfold strLt
    rw [show Nat.blt x x = false from by simp [Nat.blt_eq, Bool.eq_false_iff], Nat.beq_refl]
    exact strLt_irr a
theorem strLt_tri : ∀ a b : List Nat, strLt a b = false → a ≠ b → strLt b a = true
  | [], [], _, h => absurd rfl h
  | [], y :: b, h, _ => by simp [strLt] at h
  | x :: a, [], _, _ => by simp [strLt]
  | x :: a, y :: b, h, hn => by
    unfold strLt at h ⊢
    rcases Nat.lt_trichotomy x y with hh | hh | hh
    · rw [show Nat.blt x y = true from by simpa [Nat.blt_eq] using hh] at h; cases h
    · subst hh
      rw [show Nat.blt x x = false from by simp [Nat.blt_eq, Bool.eq_false_iff], Nat.beq_refl] at h ⊢
      exact strLt_tri a b h (fun e => hn (by rw [e]))
    · rw [show Nat.blt y x = true from by simpa [Nat.blt_eq] using hh]
theorem strLt_asym : ∀ a b : List Nat, strLt a b = true → strLt b a = false
  | _, [], h => by simp [strLt] at h
  | [], y :: b, _ => by simp [strLt]
  | x :: a, y :: b, h => by
    unfold strLt at h ⊢
    rcases Nat.lt_trichotomy x y with hh | hh | hh
    · rw [show Nat.blt y x = false from by rw [Bool.eq_false_iff]; simp [Nat.blt_eq]; omega, show Nat.beq y x = false from by rw [Bool.eq_false_iff]; simp; omega]
    · subst hh
      rw [show Nat.blt x x = false from by simp [Nat.blt_eq, Bool.eq_false_iff], Nat.beq_refl] at h ⊢
      exact strLt_asym a b h
    · rw [show Nat.blt x y = false from by rw [Bool.eq_false_iff]; simp [Nat.blt_eq]; omega, show Nat.beq x y = false from by rw [Bool.eq_false_iff]; simp; omega] at h
      cases h
set_option maxRecDepth 1000000 in
theorem cmpS_any {a b : List Nat} (ha : ∀ x ∈ a, x < 256) (hb : ∀ x ∈ b, x < 256) (w : World) : Calls Tryz.prog 55 #[.string (bs a), .string (bs b)] w fun r w' => r = .returned (.int .i64 (cmpS a b)) ∧ w' = w := by
  have h1 := less_eq ha hb
  have h3 : ((bs a).toList == (bs b).toList) = decide (a = b) := by rw [Bool.eq_iff_iff, beq_iff_eq, bs_inj ha hb, decide_eq_true_iff]
  obtain ⟨c, hc⟩ : ∃ c, c = cmpS a b := ⟨_, rfl⟩
  rw [← hc]
  unfold cmpS at hc
  rcases hx : strLt a b with _ | _
  · by_cases he : a = b
    · rw [hx] at h1
      rw [decide_eq_true he] at h3
      rw [hx, he, strLt_irr] at hc
      obtain rfl : c = 0 := by simpa using hc
      clear hc hx he
      generalize bs a = sa at h1 h3 ⊢
      generalize bs b = sb at h1 h3 ⊢
      go_enter Tryz.func55, Tryz.ntmps55
      go_wp2_with (go_at_call 94; refine (nan_any _ _).mono ?_; rintro _ _ ⟨rfl, rfl⟩)
      go_ret
      exact ⟨rfl, rfl⟩
    · have hy := strLt_tri a b hx he
      rw [hx] at h1
      rw [decide_eq_false he] at h3
      rw [hx, hy] at hc
      obtain rfl : c = 1 := by simpa using hc
      clear hc hx he hy
      generalize bs a = sa at h1 h3 ⊢
      generalize bs b = sb at h1 h3 ⊢
      go_enter Tryz.func55, Tryz.ntmps55
      go_wp2_with (go_at_call 94; refine (nan_any _ _).mono ?_; rintro _ _ ⟨rfl, rfl⟩)
      go_ret
      exact ⟨rfl, rfl⟩
  · rw [hx] at h1 hc
    obtain rfl : c = -1 := by simpa using hc
    clear hc hx h3
    generalize bs a = sa at h1 ⊢
    generalize bs b = sb at h1 ⊢
    go_enter Tryz.func55, Tryz.ntmps55
    go_wp2_with (go_at_call 94; refine (nan_any _ _).mono ?_; rintro _ _ ⟨rfl, rfl⟩)
    go_ret
    exact ⟨rfl, rfl⟩
set_option maxRecDepth 1000000 in
theorem less_any {a b : List Nat} (ha : ∀ x ∈ a, x < 256) (hb : ∀ x ∈ b, x < 256) (i j : Int) (w : World) : Calls Tryz.prog 54 #[.agg #[.string (bs a), .int .i64 i], .agg #[.string (bs b), .int .i64 j]] w fun r w' => r = .returned (.int .i64 (cmpS a b)) ∧ w' = (w.alloc (.cells #[.string (bs a), .int .i64 i] 116)).alloc (.cells #[.string (bs b), .int .i64 j] 116) := by
  have hc := cmpS_any ha hb
  generalize cmpS a b = c at hc ⊢
  generalize bs a = sa at hc ⊢
  generalize bs b = sb at hc ⊢
  go_enter Tryz.func54, Tryz.ntmps54
  go_wp2_with (go_at_call 55; refine (hc _).mono ?_; rintro _ _ ⟨rfl, rfl⟩)
  go_ret
  exact ⟨rfl, rfl⟩
end Go.Proofs.YtcfmohjffnpfpaaGreatDoor.Ev
