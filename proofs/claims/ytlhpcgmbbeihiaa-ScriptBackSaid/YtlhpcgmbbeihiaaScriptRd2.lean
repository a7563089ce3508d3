/-
  CONTRACTS of script's reader: name, letters.
-/
import Derived.Test.YtlhpcgmbbeihiaaScriptRd1
import Derived.Test.YtlhpcgmbbeihiaaBuilder
namespace Go.Proofs.Ytlhpcgmbbeihiaa
open Go.RowKit

theorem encode_ascii (n : Nat) (h : n < 128) : Utf8.encode (n : Int) = ⟨#[UInt8.ofNat n]⟩ := by
  have hv : Utf8.valid (n : Int) = true := by unfold Utf8.valid; simp; omega
  unfold Utf8.encode
  simp only [hv, if_true, Int.toNat_natCast]
  rw [if_pos h]

set_option maxHeartbeats 400000 in
theorem name_any {B : Nat} (w : World) (r : Nat) (l : List UInt8) (h : Reader B w r l) :
    Calls Try.prog 55 #[.pointer (some ⟨r, 0, none⟩)] w fun e w' => e = .returned (str (nameF (hd l))) ∧ Upd (At r) w w' ∧ Reader B w' r (l.drop 1) := by
  have hb := hd_lt l
  by_cases hc : hd l = 255
  · have h1 : ((hd l : Int) == 255) = true := by rw [beq_iff_eq]; omega
    have HC := Lib.hid hc
    clear hc
    go_enter Try.func55, Try.ntmps55
    go_wp2_with (go_at_call 26; refine (next_any w r l h).mono ?_; rintro e w1 ⟨rfl, hu, hr⟩)
    go_ret
    exact ⟨by rw [nameF, if_pos HC.out]; rfl, hu, hr⟩
  · have h1 : ((hd l : Int) == 255) = false := by rw [beq_eq_false_iff_ne]; omega
    have HC := Lib.hid hc
    clear hc
    go_enter Try.func55, Try.ntmps55
    go_wp2_with (go_at_call 26; refine (next_any w r l h).mono ?_; rintro e w1 ⟨rfl, hu, hr⟩)
    go_ret
    refine ⟨?_, hu, hr⟩
    rw [nameF, if_neg HC.out, str, ← encode_ascii _ (by omega)]
    rfl

theorem u8_letter (h : Nat) : Value.int .u8 (97 + (h : Int) % 26) = u8 (UInt8.ofNat (97 + h % 26)) := by
  unfold u8
  rw [UInt8.toNat_ofNat_of_lt' (by show 97 + h % 26 < 256; omega)]
  rfl
theorem letters_cells (k : Nat) (l : List UInt8) : (lettersF k l).map u8 ++ [Value.int .u8 (97 + (hd (l.drop k) : Int) % 26)] = (lettersF (k + 1) l).map u8 := by
  rw [lettersF_snoc, List.map_append, u8_letter]; rfl

set_option maxHeartbeats 1000000 in
theorem letters_any {B : Nat} (w : World) (r : Nat) (l : List UInt8) (n : Nat) (hn : n ≤ 100000) (h : Reader B w r l) :
    Calls Try.prog 56 #[.pointer (some ⟨r, 0, none⟩), .int .i64 n] w fun e w' => e = .returned (str (lettersF n l)) ∧ Upd (At r) w w' ∧ Reader B w' r (l.drop n) := by
  have hrl := h.lt
  go_enter Try.func56, Try.ntmps56
  go_wp2
  go_loopw [7] (fun i wr => ∃ k : Nat, k ≤ n ∧ i = .int .i64 k ∧ Upd (At r) w wr ∧ Reader B wr r (l.drop k) ∧ Lib.IsBuilder 121 5 w.heap.size w.heap.size ((lettersF k l).map u8) wr)
    (fun i _ => n - (intOf i).toNat)
  case atStart => exact ⟨0, Nat.zero_le _, rfl, (Upd.refl _ _).alloc _, h.upd ((Upd.refl Nothing _).alloc _) (fun _ e => e.elim), Lib.fresh_isBuilder _ _ _⟩
  case round =>
    obtain ⟨k, hk, rfl, hu, hr, hb⟩ := hrel
    have hlen := lettersF_length k l
    have HLen := Lib.hid hlen
    clear hlen
    by_cases hlt : k < n
    · have hdb := hd_lt (l.drop k)
      go_wp2_with (first | (go_at_call 26; refine (next_any _ r _ hr).mono ?_; rintro e w1 ⟨rfl, hu1, hr1⟩) | (go_at_call 70; refine (bld_byte _ _ _ _ _ (bld_upd hb hu1 (fun i e => by unfold At at e; omega)) (by have := HLen.out; rw [List.length_map]; omega) (by have := hu.size; have := hu1.size; omega)).mono ?_; rintro e w2 ⟨rfl, hb2, hbl⟩))
      go_roundw
      case rel => exact ⟨k + 1, by omega, by go_num, (hu.trans hu1).till hbl (Nat.le_refl _), by have := (hr1.upd (Upd.of_below hbl) (fun i e => by unfold From at e; omega)); rwa [List.drop_drop] at this, by rw [letters_cells] at hb2; exact hb2⟩
      case measure => simp [intOf]; omega
    · have hkn : k = n := by omega
      subst hkn
      go_wp2_with (go_at_call 71; refine (bld_string _ _ _ _ hb hu.size).mono ?_; rintro e w2 ⟨rfl, hbl⟩)
      go_ret
      exact ⟨rfl, hu.till hbl (Nat.le_refl _), hr.upd (Upd.of_below hbl) (fun i e => by unfold From at e; omega)⟩

theorem letters_c {B : Nat} (w : World) (r : Nat) (l : List UInt8) (m : Int) (n : Nat) (hm : m = n) (hn : n ≤ 100000) (h : Reader B w r l) :
    Calls Try.prog 56 #[.pointer (some ⟨r, 0, none⟩), .int .i64 m] w fun e w' => ∃ (s l' : List UInt8), e = .returned (str s) ∧ Hid (s = lettersF n l) ∧ Hid (l' = l.drop n) ∧ Upd (At r) w w' ∧ Reader B w' r l' ∧ r < w'.heap.size := by
  subst hm
  exact (letters_any w r l n hn h).mono fun _ _ ⟨he, hu, hr⟩ => ⟨_, _, he, Lib.hid rfl, Lib.hid rfl, hu, hr, hr.lt⟩
theorem name_c {B : Nat} (w : World) (r : Nat) (l : List UInt8) (h : Reader B w r l) :
    Calls Try.prog 55 #[.pointer (some ⟨r, 0, none⟩)] w fun e w' => ∃ (s l' : List UInt8), e = .returned (str s) ∧ Hid (s = nameF (hd l)) ∧ Hid (l' = l.drop 1) ∧ Upd (At r) w w' ∧ Reader B w' r l' ∧ r < w'.heap.size :=
  (name_any w r l h).mono fun _ _ ⟨he, hu, hr⟩ => ⟨_, _, he, Lib.hid rfl, Lib.hid rfl, hu, hr, hr.lt⟩

end Go.Proofs.Ytlhpcgmbbeihiaa
