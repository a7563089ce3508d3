/-
  CONTRACTS of the writer's methods letters, name.
-/
import Derived.Test.YtlhpcgmbbeihiaaWr1
import Derived.Test.YtlhpcgmbbeihiaaRef29c
namespace Go.Proofs.Ytlhpcgmbbeihiaa
open Go.RowKit

theorem WS.refl (B r : Nat) (w : World) : Upd (WS B r w) w w := Upd.refl _ _

set_option maxRecDepth 100000 in
set_option maxHeartbeats 1000000 in
theorem letters_any' {B : Nat} (w : World) (r : Nat) (t : List UInt8) (many : Int) (s : WSt) (h : Writer B w r s) (hl : s.1.length + t.length < 70368744177664) :
    Calls Try.prog 64 #[.pointer (some ⟨r, 0, none⟩), str t, .int .i64 many] w fun e w' => e = .returned (.tuple #[]) ∧ Writer B w' r (lettersW many t s) ∧ Upd (WS B r w) w w' := by
  have H := Lib.hid h
  clear h
  go_enter Try.func64, Try.ntmps64
  go_wp2
  go_loopw [9] (fun i wr => ∃ k : Nat, k ≤ t.length ∧ i = .int .i64 k ∧ Writer B wr r (lettersW many (t.take k) s) ∧ Upd (WS B r w) w wr) (fun i _ => t.length - (intOf i).toNat)
  case atStart => exact ⟨0, Nat.zero_le _, rfl, H.out, WS.refl _ _ _⟩
  case round =>
    obtain ⟨k, hk, rfl, hw, hu⟩ := hrel
    have HW := Lib.hid hw
    have HU := Lib.hid hu
    clear hw hu
    by_cases hlt : k < t.length
    · obtain ⟨m, hm⟩ : ∃ m : Int, m = t[k].toNat := ⟨_, rfl⟩
      have hm0 : 0 ≤ m := by omega
      have hm1 : m < 256 := by have := UInt8.toNat_lt t[k]; omega
      have hidx := run_index_str (P := Try.prog) Try.underlying9 (m := m) (List.getElem?_eq_getElem hlt) hm.symm
      have HM := Lib.hid hm
      have hll := lettersW_len many (t.take k) s
      rw [List.length_take] at hll
      have HLL := Lib.hid hll
      clear hm hll
      go_wp2_with (go_at_call 34; fail)
      refine (put_any _ r (m - 97) many _ HW.out (by have := HLL.out; omega)).mono ?_
      rintro e w2 ⟨rfl, hw2, hu2⟩
      have HW2 := Lib.hid hw2
      have HU2 := Lib.hid (WS.trans HU.out hu2)
      clear hw2 hu2
      go_wp2
      go_roundw
      case rel =>
        refine ⟨k + 1, by omega, by go_num, ?_, HU2.out⟩
        rw [List.take_succ_eq_append_getElem hlt, lettersW_snoc, ← HM.out]
        exact HW2.out
      case measure => simp [intOf]; omega
    · go_wp2
      go_end0
      have hkl : k = t.length := by omega
      rw [hkl, List.take_length] at HW
      exact ⟨rfl, HW.out, HU.out⟩

set_option maxRecDepth 100000 in
set_option maxHeartbeats 1000000 in
theorem name_any' {B : Nat} (w : World) (r : Nat) (t : List UInt8) (s : WSt) (h : Writer B w r s) (hl : s.1.length + t.length < 70368744177663) (ht : t.length < 70368744177664) :
    Calls Try.prog 63 #[.pointer (some ⟨r, 0, none⟩), str t] w fun e w' => e = .returned (.tuple #[]) ∧ Writer B w' r (nameW t s) ∧ Upd (WS B r w) w w' := by
  have hb := h.bad true
  have H := Lib.hid h
  have HB := Lib.hid hb
  obtain ⟨h0, h1, v, h2, h3⟩ := h
  have y1 := cellAt h2 1 (.bool s.2) rfl
  have f1 := freeAt h2 1
  clear h2 h3 hb
  go_enter Try.func63, Try.ntmps63
  by_cases h0' : t.length = 0
  · have hq : ((t.length : Int) == 0) = true := by simp [h0']
    have HQ := Lib.hid h0'
    clear h0'
    go_wp2_with (go_at_call 34; fail)
    refine (put_any _ r 255 256 _ H.out (by omega)).mono ?_
    rintro e w2 ⟨rfl, hw2, hu2⟩
    go_wp2
    go_end0
    exact ⟨rfl, by rw [nameW, if_pos HQ.out]; exact hw2, hu2⟩
  · have hq : ((t.length : Int) == 0) = false := by simpa using h0'
    by_cases h1' : t.length = 1
    · have hq1 : ((t.length : Int) == 1) = true := by simp [h1']
      have HQ := Lib.hid h0'
      have HQ1 := Lib.hid h1'
      clear h0' h1'
      go_wp2_with (go_at_call 64; fail)
      refine (letters_any' _ r t 6 _ H.out (by omega)).mono ?_
      rintro e w2 ⟨rfl, hw2, hu2⟩
      go_wp2
      go_end0
      exact ⟨rfl, by rw [nameW, if_neg HQ.out, if_pos HQ1.out]; exact hw2, hu2⟩
    · have hq1 : ((t.length : Int) == 1) = false := by simp; omega
      have HQ := Lib.hid h0'
      have HQ1 := Lib.hid h1'
      clear h0' h1'
      go_wp2
      go_end0
      exact ⟨rfl, by rw [nameW, if_neg HQ.out, if_neg HQ1.out]; exact HB.out.1, HB.out.2⟩
end Go.Proofs.Ytlhpcgmbbeihiaa
