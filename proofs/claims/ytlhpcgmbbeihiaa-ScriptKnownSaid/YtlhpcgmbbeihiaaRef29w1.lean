/-
  CONTRACTS of the reference's word, named; of both Words.
-/
import Derived.Test.YtlhpcgmbbeihiaaGWlaw
import Derived.Test.YtlhpcgmbbeihiaaRef19a
namespace Go.Proofs.Ytlhpcgmbbeihiaa
open Go.RowKit

theorem wordF_len (s : List UInt8) : (wordF s).length = s.length := by simp [wordF]
theorem wordF_snoc (s : List UInt8) (k : Nat) (hk : k < s.length) : wordF (s.take (k + 1)) = wordF (s.take k) ++ [toByte ((s[k].toNat : Int) - 97)] := by
  unfold wordF; rw [List.take_succ_eq_append_getElem hk, List.map_append]; rfl

set_option maxRecDepth 100000 in
set_option maxHeartbeats 1000000 in
theorem word_any (w : World) (s : List UInt8) (hs : s.length ≤ 70368744177664) :
    Calls Try.prog 69 #[str s] w fun e w' => ∃ v', e = .returned v' ∧ w'.ownsRow w.heap.size 5 1 v' s.length ((wordF s).map u8) ∧ Ext w w' := by
  go_enter Try.func69, Try.ntmps69
  go_wp2
  go_loopw [3, 4] (fun v i wr => ∃ k : Nat, k ≤ s.length ∧ i = .int .i64 k ∧ Ext w wr ∧ wr.ownsRow w.heap.size 5 1 v k ((wordF (s.take k)).map u8))
    (fun _ i _ => s.length - (intOf i).toNat)
  case atStart => exact ⟨0, Nat.zero_le _, rfl, Upd.refl _ _, World.ownsRow_nil _ _ _ _⟩
  case round =>
    obtain ⟨k, hk, rfl, hu, hown⟩ := hrel
    have HU := Lib.hid hu
    have hus := hu.size
    clear hu
    by_cases hlt : k < s.length
    · obtain ⟨m, hm⟩ : ∃ m : Int, m = s[k].toNat := ⟨_, rfl⟩
      have hm0 : 0 ≤ m := by omega
      have hm1 : m < 256 := by have := UInt8.toNat_lt s[k]; omega
      have hidx := run_index_str (P := Try.prog) Try.underlying9 (m := m) (List.getElem?_eq_getElem hlt) hm.symm
      have HM := Lib.hid hm
      clear hm
      go_wp2_with (at_builtin; go_must (refine wpList_append_row rfl _ _ _ rfl Try.bytesT rfl (hown.alloc _) rfl (row_new _ _ _ 1 _ (by decide) (by simp)) rfl (by intro u hu; simp at hu; subst hu; rfl) ?c3 ?c4 ?c5 ?_))
      case c3 => unfold maxLen; omega
      case c4 => omega
      case c5 => simp; omega
      intro v' w2 hown2 hg _
      rw [show (.int .u8 ((m - 97) % 256) : Value) = Go.Proofs.Ytlhpcgmbbeihiaa.u8 (toByte (m - 97)) from by rw [Go.Proofs.Ytlhpcgmbbeihiaa.u8, toByte_nat]] at hown2
      go_wp2
      go_roundw
      case rel => exact ⟨k + 1, by omega, by go_num, (HU.out.alloc _).grown hg (fun j hj h => by have := (hown.lt j hj).1; omega), by rw [wordF_snoc s k hlt, ← HM.out, List.map_append]; exact hown2⟩
      case measure => simp [intOf]; omega
    · have hkn : k = s.length := by omega
      subst hkn
      rw [List.take_length] at hown
      go_wp2
      go_ret
      exact ⟨_, rfl, hown, HU.out⟩

theorem namedF_cases (s : List UInt8) : (s.length = 0 → namedF s = [toByte 255]) ∧ (s.length ≠ 0 → namedF s = wordF s) := by
  unfold namedF
  exact ⟨fun h => if_pos h, fun h => if_neg h⟩

set_option maxRecDepth 100000 in
theorem named_any (w : World) (s : List UInt8) (hs : s.length ≤ 70368744177664) :
    Calls Try.prog 68 #[str s] w fun e w' => ∃ v' S, e = .returned v' ∧ Bytes S w' v' (namedF s) ∧ (∀ k, S k → w.heap.size ≤ k) ∧ Ext w w' := by
  by_cases h0 : s.length = 0
  · have hs0 : s = [] := List.eq_nil_of_length_eq_zero h0
    subst hs0
    go_enter Try.func68, Try.ntmps68
    go_wp2
    go_ret
    exact ⟨_, At w.heap.size, rfl, row_new w #[.int .u8 255] _ 1 _ (by decide) rfl, fun k hk => by unfold At at hk; omega, (Upd.refl _ _).alloc _⟩
  · have hne : ((⟨s.toArray⟩ : ByteArray).toList == ([] : List UInt8)) = false := by
      rw [beq_eq_false_iff_ne, bytes_toList]; intro e; rw [e] at h0; exact h0 rfl
    have hne2 : s.isEmpty = false := by cases s with | nil => exact absurd rfl h0 | cons a b => rfl
    have H0 := Lib.hid h0
    clear h0
    go_enter Try.func68, Try.ntmps68
    go_wp2_with (go_at_call 69; fail)
    refine (word_any w s hs).mono ?_
    rintro e w1 ⟨v1, rfl, ho, hu⟩
    go_wp2
    go_ret
    refine ⟨v1, From w.heap.size, rfl, ?_, fun k hk => hk, hu⟩
    rw [(namedF_cases s).2 H0.out]
    have := Row.of_owns ho
    rw [← wordF_len s] at this
    exact this

/-- A kind's name. -/
def wordOf (k : Int) : List UInt8 :=
  if k = 1 then [115, 116, 101, 112] else if k = 2 then [105, 110, 118, 111, 107, 101] else if k = 3 then [116, 105, 99, 107] else if k = 4 then [99, 114, 97, 115, 104]
  else if k = 5 then [114, 101, 115, 116, 97, 114, 116] else if k = 6 then [112, 111, 119, 101, 114] else []
set_option maxRecDepth 100000 in
set_option maxHeartbeats 1000000 in
theorem sword_any (w : World) (k : Int) (h0 : 0 ≤ k) (h1 : k < 256) :
    Calls Try.prog 20 #[.int .u8 k] w fun e w' => e = .returned (str (wordOf k)) ∧ Ext w w' := by
  have hk : k = 0 ∨ k = 1 ∨ k = 2 ∨ k = 3 ∨ k = 4 ∨ k = 5 ∨ k = 6 ∨ 7 ≤ k := by omega
  rcases hk with rfl | rfl | rfl | rfl | rfl | rfl | rfl | hk
  case inr.inr.inr.inr.inr.inr.inr =>
    have hn : ¬ k < 7 := by omega
    go_enter Try.func20, Try.ntmps20
    go_wp2
    go_ret
    exact ⟨by unfold wordOf; rw [if_neg (by omega), if_neg (by omega), if_neg (by omega), if_neg (by omega), if_neg (by omega), if_neg (by omega)]; rfl, (Upd.refl _ _).alloc _⟩
  all_goals
    go_enter Try.func20, Try.ntmps20
    go_wp2
    go_ret
    exact ⟨rfl, (Upd.refl _ _).alloc _⟩
set_option maxRecDepth 100000 in
set_option maxHeartbeats 1000000 in
theorem rword_any (w : World) (k : Int) (h0 : 0 ≤ k) (h1 : k < 256) :
    Calls Try.prog 21 #[.int .u8 k] w fun e w' => e = .returned (str (wordOf k)) ∧ Ext w w' := by
  have hk : k = 0 ∨ k = 1 ∨ k = 2 ∨ k = 3 ∨ k = 4 ∨ k = 5 ∨ k = 6 ∨ 7 ≤ k := by omega
  rcases hk with rfl | rfl | rfl | rfl | rfl | rfl | rfl | hk
  case inr.inr.inr.inr.inr.inr.inr =>
    have hn : 6 < k := by omega
    go_enter Try.func21, Try.ntmps21
    go_wp2
    go_ret
    exact ⟨by unfold wordOf; rw [if_neg (by omega), if_neg (by omega), if_neg (by omega), if_neg (by omega), if_neg (by omega), if_neg (by omega)]; rfl, Upd.refl _ _⟩
  all_goals
    go_enter Try.func21, Try.ntmps21
    go_wp2
    go_ret
    exact ⟨rfl, (Upd.refl _ _).alloc _⟩
end Go.Proofs.Ytlhpcgmbbeihiaa
