/-
  CONTRACTS of cmp.Compare at uint8, uint64, and cmp.Or at int. No condition.
-/
import Derived.Test.YtfniemagbapeaaaGreatDoorNLaw1
namespace Go.Proofs.YtfniemagbapeaaaGreatDoor
open Go.RowKit

def cmpN (a b : Nat) : Int := if a < b then -1 else if b < a then 1 else 0
def orF : List Int → Int
  | [] => 0
  | x :: r => if x = 0 then orF r else x
theorem orF_at : ∀ {l : List Int} {k : Nat} (hk : k < l.length), (∀ j (h : j < l.length), j < k → l[j] = 0) → l[k] ≠ 0 → orF l = l[k]
  | x :: r, 0, _, _, h => by unfold orF; rw [if_neg (by simpa using h)]; rfl
  | x :: r, k + 1, hk, h0, h => by
    have hx : x = 0 := h0 0 (by simp) (by omega)
    unfold orF
    rw [if_pos hx]
    have := orF_at (l := r) (k := k) (by simpa using hk) (fun j hj hjk => by have := h0 (j + 1) (by simp; omega) (by omega); simpa using this) (by simpa using h)
    rw [this]; simp
theorem orF_zero : ∀ {l : List Int}, (∀ j (h : j < l.length), l[j] = 0) → orF l = 0
  | [], _ => rfl
  | x :: r, h => by
    unfold orF
    rw [if_pos (show x = 0 from h 0 (by simp))]
    exact orF_zero (fun j hj => by have := h (j + 1) (by simp; omega); simpa using this)
theorem cmp8_any (w : World) (a b : Nat) : Calls Tryz.prog 74 #[.int .u8 a, .int .u8 b] w fun e w' => e = .returned (.int .i64 (cmpN a b)) ∧ Ext w w' := by
  have h1 : ((a : Int) != (a : Int)) = false := by simp
  have h2 : ((b : Int) != (b : Int)) = false := by simp
  by_cases hl : a < b
  · have HC := Lib.hid (show cmpN a b = -1 by unfold cmpN; rw [if_pos hl])
    go_enter Tryz.func74, Tryz.ntmps74
    go_wp2
    go_ret
    exact ⟨by rw [HC.out]; rfl, Upd.refl _ _⟩
  · by_cases hg : b < a
    · have HC := Lib.hid (show cmpN a b = 1 by unfold cmpN; rw [if_neg hl, if_pos hg])
      go_enter Tryz.func74, Tryz.ntmps74
      go_wp2
      go_ret
      exact ⟨by rw [HC.out]; rfl, Upd.refl _ _⟩
    · have HC := Lib.hid (show cmpN a b = 0 by unfold cmpN; rw [if_neg hl, if_neg hg])
      go_enter Tryz.func74, Tryz.ntmps74
      go_wp2
      go_ret
      exact ⟨by rw [HC.out]; rfl, Upd.refl _ _⟩
theorem cmp64_any (w : World) (a b : Nat) : Calls Tryz.prog 75 #[.int .u64 a, .int .u64 b] w fun e w' => e = .returned (.int .i64 (cmpN a b)) ∧ Ext w w' := by
  have h1 : ((a : Int) != (a : Int)) = false := by simp
  have h2 : ((b : Int) != (b : Int)) = false := by simp
  by_cases hl : a < b
  · have HC := Lib.hid (show cmpN a b = -1 by unfold cmpN; rw [if_pos hl])
    go_enter Tryz.func75, Tryz.ntmps75
    go_wp2
    go_ret
    exact ⟨by rw [HC.out]; rfl, Upd.refl _ _⟩
  · by_cases hg : b < a
    · have HC := Lib.hid (show cmpN a b = 1 by unfold cmpN; rw [if_neg hl, if_pos hg])
      go_enter Tryz.func75, Tryz.ntmps75
      go_wp2
      go_ret
      exact ⟨by rw [HC.out]; rfl, Upd.refl _ _⟩
    · have HC := Lib.hid (show cmpN a b = 0 by unfold cmpN; rw [if_neg hl, if_neg hg])
      go_enter Tryz.func75, Tryz.ntmps75
      go_wp2
      go_ret
      exact ⟨by rw [HC.out]; rfl, Upd.refl _ _⟩
abbrev i64 (n : Int) : Value := .int .i64 n
set_option maxHeartbeats 400000 in
theorem or_any {S : Nat → Prop} (w : World) (v : Value) (l : List Int) (h : Row S w v l.length (l.map i64)) :
    Calls Tryz.prog 73 #[v] w fun e w' => e = .returned (.int .i64 (orF l)) ∧ Ext w w' := by
  have g := h.addr
  have G := Lib.hid g
  obtain ⟨a, c, rfl, hn, hm, -⟩ := h
  unfold maxLen at hm
  clear g
  go_enter Tryz.func73, Tryz.ntmps73
  go_wp2
  go_loopw [8] (fun i wr => ∃ k : Nat, k ≤ l.length ∧ i = .int .i64 k ∧ Ext w wr ∧ ∀ j (h : j < l.length), j < k → l[j] = 0) (fun i _ => l.length - (intOf i).toNat)
  case atStart => exact ⟨0, Nat.zero_le _, rfl, Upd.refl _ _, fun j _ hj => absurd hj (Nat.not_lt_zero _)⟩
  case round =>
    obtain ⟨k, hk, rfl, hx, hno⟩ := hrel
    have HNO := Lib.hid hno
    clear hno
    by_cases hlt : k < l.length
    · obtain ⟨b, o, c', e, -, -, -, hq⟩ := G.out (by omega)
      cases e
      have hc := hx.cell (hq k (i64 l[k]) (by simp [hlt])) id
      obtain ⟨s, hs⟩ : ∃ s, s = l[k] := ⟨_, rfl⟩
      rw [← hs] at hc
      have HS := Lib.hid hs
      have HX := Lib.hid hx
      clear hx hq hs
      by_cases he : s = 0
      · have hb : (s != 0) = false := by simpa using he
        have HE := Lib.hid he
        clear he
        go_wp2
        go_roundw
        case rel =>
          refine ⟨k + 1, by omega, by go_num, HX.out, fun j hj hjk => ?_⟩
          by_cases hjk' : j = k
          · subst hjk'; rw [← HS.out]; exact HE.out
          · exact HNO.out j hj (by omega)
        case measure => simp [intOf]; omega
      · have hb : (s != 0) = true := by simpa using he
        have HE := Lib.hid he
        clear he
        go_wp2
        go_ret
        exact ⟨by rw [orF_at hlt HNO.out (by rw [← HS.out]; exact HE.out), ← HS.out]; rfl, HX.out⟩
    · go_wp2
      go_ret
      refine ⟨by rw [orF_zero (fun j hj => HNO.out j hj (by omega))]; rfl, hx⟩
end Go.Proofs.YtfniemagbapeaaaGreatDoor
