/-
  CONTRACT of slices.Index at texts: the first place of a text among texts. No condition.
-/
import Derived.Test.YtfpioijfocmfcaaGreatDoorNOf
namespace Go.Proofs.YtfpioijfocmfcaaGreatDoor
open Go.RowKit

/-- The first place of x in l, or -1. -/
def idxF (x : List UInt8) : List (List UInt8) → Int
  | [] => -1
  | y :: r => if y = x then 0 else if idxF x r = -1 then -1 else idxF x r + 1
theorem idxF_ge (x : List UInt8) : ∀ l, -1 ≤ idxF x l
  | [] => Int.le_refl _
  | y :: r => by have := idxF_ge x r; unfold idxF; split <;> (try split) <;> omega
theorem idxF_none {x : List UInt8} : ∀ {l : List (List UInt8)}, (∀ k (h : k < l.length), l[k] ≠ x) → idxF x l = -1
  | [], _ => rfl
  | y :: r, h => by
    have h0 : y ≠ x := h 0 (by simp)
    have hr : idxF x r = -1 := idxF_none (fun k hk => by have := h (k + 1) (by simp; omega); simpa using this)
    unfold idxF; rw [if_neg h0, if_pos hr]
theorem idxF_at {x : List UInt8} : ∀ {l : List (List UInt8)} {k : Nat} (hk : k < l.length), l[k] = x → (∀ j (h : j < l.length), j < k → l[j] ≠ x) → idxF x l = k
  | y :: r, 0, _, h1, _ => by unfold idxF; rw [if_pos (by simpa using h1)]; rfl
  | y :: r, k + 1, hk, h1, h2 => by
    have h0 : y ≠ x := h2 0 (by simp) (by omega)
    have hr : idxF x r = k := idxF_at (l := r) (k := k) (by simpa using hk) (by simpa using h1) (fun j hj hjk => by have := h2 (j + 1) (by simp; omega) (by omega); simpa using this)
    unfold idxF; rw [if_neg h0, hr, if_neg (by omega)]; omega

set_option maxHeartbeats 400000 in
theorem index_any {S : Nat → Prop} (w : World) (v : Value) (l : List (List UInt8)) (x : List UInt8) (h : Texts S w v l) :
    Calls Tryz.prog 39 #[v, str x] w fun e w' => e = .returned (.int .i64 (idxF x l)) ∧ Ext w w' := by
  have g := h.addr
  have G := Lib.hid g
  obtain ⟨a, c, rfl, hn, hm, -⟩ := h
  unfold maxLen at hm
  clear g
  go_enter Tryz.func39, Tryz.ntmps39
  go_wp2
  go_loopw [8] (fun i wr => ∃ k : Nat, k ≤ l.length ∧ i = .int .i64 k ∧ Ext w wr ∧ ∀ j (h : j < l.length), j < k → l[j] ≠ x) (fun i _ => l.length - (intOf i).toNat)
  case atStart => exact ⟨0, Nat.zero_le _, rfl, Upd.refl _ _, fun j _ hj => absurd hj (Nat.not_lt_zero _)⟩
  case round =>
    obtain ⟨k, hk, rfl, hx, hno⟩ := hrel
    have HNO := Lib.hid hno
    clear hno
    by_cases hlt : k < l.length
    · obtain ⟨b, o, c', e, -, -, -, hq⟩ := G.out (by omega)
      cases e
      have hc := hx.cell (texts_cell hq k hlt) id
      obtain ⟨s, hs⟩ : ∃ s, s = l[k] := ⟨_, rfl⟩
      rw [← hs] at hc
      have HS := Lib.hid hs
      have HX := Lib.hid hx
      clear hx hq hs
      by_cases he : s = x
      · have HE := Lib.hid he
        subst he
        go_wp2
        go_ret
        exact ⟨by rw [idxF_at hlt HS.out.symm HNO.out]; rfl, HX.out⟩
      · have hb : ((⟨x.toArray⟩ : ByteArray).toList == (⟨s.toArray⟩ : ByteArray).toList) = false := by
          rw [beq_eq_false_iff_ne, bytes_toList, bytes_toList]; exact fun e => he e.symm
        have hb2 : (x == s) = false := by rw [beq_eq_false_iff_ne]; exact fun e => he e.symm
        have HE := Lib.hid he
        clear he
        go_wp2
        go_roundw
        case rel =>
          refine ⟨k + 1, by omega, by go_num, HX.out, fun j hj hjk => ?_⟩
          by_cases hjk' : j = k
          · subst hjk'; rw [← HS.out]; exact HE.out
          · exact HNO.out j hj (by omega)
        case measure => simp [intOf]; omega
    · go_wp2
      go_ret
      refine ⟨by rw [idxF_none (fun j hj => HNO.out j hj (by omega))]; rfl, hx⟩
end Go.Proofs.YtfpioijfocmfcaaGreatDoor
