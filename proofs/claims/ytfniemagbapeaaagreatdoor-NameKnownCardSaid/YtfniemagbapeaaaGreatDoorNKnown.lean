/-
  CONTRACT of the law NameKnown. Condition: the library's variables lie as they are laid.
-/
import Derived.Test.YtfniemagbapeaaaGreatDoorNLaw3
import Derived.Test.YtfniemagbapeaaaGreatDoorNLaw4
import Derived.Test.YtfniemagbapeaaaGreatDoorNLaw5
namespace Go.Proofs.YtfniemagbapeaaaGreatDoor
open Go.RowKit

def lnum : List Nat := [0, 1, 9, 10, 9223372036854775807, 9223372036854775808, 18446744073709551614, 18446744073709551615]
def ln (i : Nat) : Nat := lnum.getD i 0
theorem ln_lt (i : Nat) : ln i < 18446744073709551616 := by
  unfold ln lnum
  match i with
  | 0 | 1 | 2 | 3 | 4 | 5 | 6 | 7 => decide
  | k + 8 => simp
def txs : List (List UInt8) := [[], [115], [115, 45], [115, 45, 49], [115, 45, 49, 45, 50], [115, 45, 49, 45, 50, 45, 51], [115, 45, 48, 49, 45, 50], [115, 45, 49, 45, 48, 50], [115, 45, 45, 49], [115, 45, 49, 45], [115, 45, 32, 49, 45, 50], [83, 45, 49, 45, 50], [98, 45, 48, 45, 48], [98, 45, 49, 56, 52, 52, 54, 55, 52, 52, 48, 55, 51, 55, 48, 57, 53, 53, 49, 54, 49, 53, 45, 49], [98, 45, 49, 56, 52, 52, 54, 55, 52, 52, 48, 55, 51, 55, 48, 57, 53, 53, 49, 54, 49, 54, 45, 49], [98, 45, 49, 45, 57, 57, 57, 57, 57, 57, 57, 57, 57, 57, 57, 57, 57, 57, 57, 57, 57, 57, 57, 57], [98, 45, 49, 45, 49, 48, 48, 48, 48, 48, 48, 48, 48, 48, 48, 48, 48, 48, 48, 48, 48, 48, 48, 48, 48], [116, 45, 49, 45, 50], [116, 45, 49, 45, 50, 45, 51], [116, 45, 49, 45, 50, 45, 51, 45, 52], [106, 45, 49, 45, 50, 45, 51], [106, 45, 49, 45, 50, 45, 51, 45, 52], [106, 45, 49, 45, 50, 45, 51, 45, 52, 45, 53], [120, 45, 49, 45, 50], [45, 49, 45, 50], [115, 45, 49, 45, 50, 0], [115, 45, 49, 45, 97], [115, 45, 49, 45, 50, 10], [115, 45, 43, 49, 45, 50]]
theorem str_app (s : List UInt8) (c : UInt8) : Value.string ((⟨s.toArray⟩ : ByteArray) ++ ⟨#[c]⟩) = str (s ++ [c]) := by
  unfold str
  congr 1
abbrev uw (n : Nat) : Value := u64 n
theorem vals_past {v : Nat → Value} {L : Nat → Bool} {val : Nat → Value} (h : ∀ j, j < 26 → L j = true → v j = val j) {m : Nat} {x : Value} (hm : 26 ≤ m) : ∀ j, j < 26 → mrkL L m j = true → mrkV v m x j = val j := fun j hj e => by
  have hne : j ≠ m := by omega
  simp only [mrkL, mrkV, if_neg hne] at e ⊢
  exact h j hj e
theorem Tryz.vnm6 : (Tryz.prog.info? 63).map (·.size) = some 6 := by kernel_rfl
structure KJ (T : TypeId) (x y : Nm) (val : Nat → Value) (w0 : World) (L : Nat → Bool) (v : Nat → Value) (w : World) : Prop where
  upd : Upd (From w0.heap.size) w0 w
  vals : ∀ j, j < 26 → L j = true → v j = val j
  c26 : L 26 = true → Bx T w0.heap.size x (L 28) (v 26) w
  c27 : L 27 = true → Bx T w0.heap.size y (L 29) (v 27) w
  ne : L 26 = true → L 27 = true → v 26 ≠ v 27
  l28 : L 28 = true → L 26 = true
  l29 : L 29 = true → L 27 = true
theorem KJ.put {T : TypeId} {x y : Nm} {val : Nat → Value} {w0 : World} {L : Nat → Bool} {v : Nat → Value} {w : World} (h : KJ T x y val w0 L v w) {m : Nat} (_ : L m = false) (hm : m < 26) : KJ T x y val w0 (mrkL L m) (mrkV v m (val m)) w := by
  have e : ∀ j, 26 ≤ j → mrkL L m j = L j := fun j hj => by unfold mrkL; rw [if_neg (by omega)]
  have f : ∀ j, 26 ≤ j → mrkV v m (val m) j = v j := fun j hj => by unfold mrkV; rw [if_neg (by omega)]
  refine ⟨h.upd, fun j hj hq => ?_, ?_, ?_, ?_, ?_, ?_⟩
  · by_cases hjm : j = m
    · subst hjm; simp [mrkV]
    · simp only [mrkL, mrkV, if_neg hjm] at hq ⊢; exact h.vals j hj hq
  · rw [e 26 (by decide), e 28 (by decide), f 26 (by decide)]; exact h.c26
  · rw [e 27 (by decide), e 29 (by decide), f 27 (by decide)]; exact h.c27
  · rw [e 26 (by decide), e 27 (by decide), f 26 (by decide), f 27 (by decide)]; exact h.ne
  · rw [e 28 (by decide), e 26 (by decide)]; exact h.l28
  · rw [e 29 (by decide), e 27 (by decide)]; exact h.l29
def sixT : List (List UInt8) := [[115, 45, 50, 45, 49], [98, 45, 48, 45, 49], [115, 45, 49, 48, 45, 49], [115, 45, 50, 45, 49], [116, 45, 48, 45, 48, 45, 48], [115, 45, 50, 45, 48]]
def nk13Val (x y : Nm) (gl i k q : Nat) : Nat → Value
  | 0 => .int .u8 (q : Int)
  | 1 => .slice (some ⟨gl, 0, none⟩) 8 8
  | 2 => .int .i64 (i : Int)
  | 3 => .pointer (some ⟨gl, i, none⟩)
  | 4 => uw (ln i)
  | 5 => .slice (some ⟨gl, 0, none⟩) 8 8
  | 6 => .int .i64 (k : Int)
  | 7 => .pointer (some ⟨gl, k, none⟩)
  | 8 => uw (ln k)
  | 9 => .agg (nmCells x)
  | 10 => .int .u8 (q : Int)
  | 11 => .slice (some ⟨gl, 0, none⟩) 8 8
  | 12 => .int .i64 (k : Int)
  | 13 => .pointer (some ⟨gl, k, none⟩)
  | 14 => uw (ln k)
  | 15 => .slice (some ⟨gl, 0, none⟩) 8 8
  | 16 => .int .i64 (i : Int)
  | 17 => .pointer (some ⟨gl, i, none⟩)
  | 18 => uw (ln i)
  | 19 => .slice (some ⟨gl, 0, none⟩) 8 8
  | 20 => .int .i64 (i : Int)
  | 21 => .int .i64 ((i : Int) + 1)
  | 22 => .int .i64 (((i + 1) % 8) : Nat)
  | 23 => .pointer (some ⟨gl, ((i + 1) % 8), none⟩)
  | 24 => uw (ln ((i + 1) % 8))
  | 25 => .agg (nmCells y)
  | _ => undef
def nk13Dst (i : Nat) : Tmp := if i < 26 then 50 + i else if i = 26 then 5 else if i = 27 then 6 else 1000 + i
def nk8Val (gl i k : Nat) : Nat → Value
  | 0 => .slice (some ⟨gl, 0, none⟩) 8 8
  | 1 => .int .i64 (i : Int)
  | 2 => .pointer (some ⟨gl, i, none⟩)
  | 3 => uw (ln i)
  | 4 => .slice (some ⟨gl, 0, none⟩) 8 8
  | 5 => .int .i64 (k : Int)
  | 6 => .pointer (some ⟨gl, k, none⟩)
  | 7 => uw (ln k)
  | 8 => .slice (some ⟨gl, 0, none⟩) 8 8
  | 9 => .int .i64 (i : Int)
  | 10 => .int .i64 (k : Int)
  | 11 => .int .i64 ((i + k : Nat) : Int)
  | 12 => .int .i64 (((i + k) % 8) : Nat)
  | 13 => .pointer (some ⟨gl, ((i + k) % 8), none⟩)
  | 14 => uw (ln ((i + k) % 8))
  | 15 => .slice (some ⟨gl, 0, none⟩) 8 8
  | 16 => .int .i64 (i : Int)
  | 17 => .int .i64 (k : Int)
  | 18 => .int .i64 ((i * k : Nat) : Int)
  | 19 => .int .i64 ((i * k % 8) : Nat)
  | 20 => .pointer (some ⟨gl, (i * k % 8), none⟩)
  | 21 => uw (ln (i * k % 8))
  | 22 => .bool true
  | 23 => .bool false
  | _ => undef
def nk8Dst (i : Nat) : Tmp := 22 + i
theorem nk8Dst_ne {j t : Nat} (ht : t = 1 ∨ t = 2 ∨ t = 3) (e : nk8Dst j = t) : False := by
  unfold nk8Dst at e
  have e : (22 + j : Nat) = t := e
  rcases ht with rfl | rfl | rfl <;> (repeat' (split at e)) <;> omega
def nk8Phi (gl i k : Nat) (ix : Nat) (v : Value) (_ : World) : Prop := v = nk8Val gl i k ix
theorem nk8Phi.ext {gl i k : Nat} {ix : Nat} {v : Value} {w w' : World} (h : nk8Phi gl i k ix v w) (_ : Ext w w') : nk8Phi gl i k ix v w' := by
  unfold nk8Phi at h ⊢
  exact h
def nk14Val (x y z : Nm) (gl g5 g6 i q : Nat) : Nat → Value
  | 0 => .agg (nmCells x)
  | 1 => .agg (nmCells y)
  | 2 => .bool true
  | 3 => .bool false
  | 4 => .bool false
  | 5 => .agg (nmCells y)
  | 6 => .int .u8 (q : Int)
  | 7 => .int .u8 ((6 - q : Nat) : Int)
  | 8 => .slice (some ⟨gl, 0, none⟩) 8 8
  | 9 => .int .i64 (i : Int)
  | 10 => .pointer (some ⟨gl, i, none⟩)
  | 11 => uw (ln i)
  | 12 => .agg (nmCells z)
  | 13 => .bool true
  | 14 => .bool false
  | 15 => .bool false
  | 16 => .bool false
  | 17 => .agg (nmCells x)
  | 18 => .agg (nmCells y)
  | 19 => .bool true
  | 20 => .bool false
  | 21 => .bool false
  | _ => undef
def nk14Dst (i : Nat) : Tmp := 76 + i
theorem nk14Dst_ne {j t : Nat} (ht : t = 1 ∨ t = 2 ∨ t = 4 ∨ t = 5 ∨ t = 6) (e : nk14Dst j = t) : False := by
  unfold nk14Dst at e
  have e : (76 + j : Nat) = t := e
  rcases ht with rfl | rfl | rfl | rfl | rfl <;> (repeat' (split at e)) <;> omega
def nk14Phi (x y z : Nm) (gl g5 g6 i q : Nat) (ix : Nat) (v : Value) (_ : World) : Prop := v = nk14Val x y z gl g5 g6 i q ix
theorem nk14Phi.ext {x y z : Nm} {gl g5 g6 i q : Nat} {ix : Nat} {v : Value} {w w' : World} (h : nk14Phi x y z gl g5 g6 i q ix v w) (_ : Ext w w') : nk14Phi x y z gl g5 g6 i q ix v w' := by
  unfold nk14Phi at h ⊢
  exact h
set_option maxRecDepth 100000 in
set_option maxHeartbeats 16000000 in
theorem nameKnown_any (w : World) (hE : Env w) :
    Calls Tryz.prog 6 #[] w fun e w' => e = .returned (.bool true) ∧ Ext w w' := by
  have hb0 := newAt w (.cells (lnum.map fun n => u64 n).toArray 22)
  have hx0 : Ext w (w.alloc (.cells (lnum.map fun n => u64 n).toArray 22)) := (Upd.refl _ _).alloc _
  have HE := Lib.hid hE
  have hgl : w.heap.size < (w.alloc (.cells (lnum.map fun n => u64 n).toArray 22)).heap.size := by simp
  obtain ⟨w0, hw0⟩ : ∃ u, u = w.alloc (.cells (lnum.map fun n => u64 n).toArray 22) := ⟨_, rfl⟩
  obtain ⟨gl, hg⟩ : ∃ u, u = w.heap.size := ⟨_, rfl⟩
  rw [← hw0] at hb0 hx0 hgl
  rw [← hg] at hb0 hgl
  have HX0 := Lib.hid hx0
  have HLN := Lib.hid (show ∀ j, j < 8 → w0.cell? ⟨gl, j, none⟩ = some (uw (ln j)) from fun j hj => cellAt hb0 j _ (by
    have e : j = 0 ∨ j = 1 ∨ j = 2 ∨ j = 3 ∨ j = 4 ∨ j = 5 ∨ j = 6 ∨ j = 7 := by omega
    rcases e with rfl | rfl | rfl | rfl | rfl | rfl | rfl | rfl <;> rfl))
  have HE := Lib.hid (HE.out.ext hx0)
  have HGL := Lib.hid hgl
  have HW0 := Lib.hid hw0
  have HG := Lib.hid hg
  clear hE hb0 hx0 hw0 hg hgl
  go_enter Tryz.func6, Tryz.ntmps6
  go_upto_region 2 with (fail)
  rw [show w.alloc (.cells #[.int .u64 0, .int .u64 1, .int .u64 9, .int .u64 10, .int .u64 9223372036854775807, .int .u64 9223372036854775808, .int .u64 18446744073709551614, .int .u64 18446744073709551615] 22) = w0 from by rw [HW0.out]; rfl, show w.heap.size = gl from HG.out.symm]
  go_wp2
  go_loopw [2] (fun t wr => ∃ i : Nat, i ≤ 8 ∧ t = .int .i64 (i : Int) ∧ Ext w0 wr) (fun t _ => 8 - (intOf t).toNat)
  case atStart => exact ⟨0, by omega, rfl, Upd.refl _ _⟩
  case round =>
    obtain ⟨i, hi, rfl, hx⟩ := hrel
    by_cases hi8 : i < 8
    · have HXO := Lib.hid hx
      have hdi : decide ((i : Int) < 8) = true := by simp; omega
      have hiI : (i : Int) < 8 := by omega
      obtain ⟨wo, hwo⟩ : ∃ u, u = wr := ⟨_, rfl⟩
      subst hwo
      clear hx
      go_wp2
      go_loopw [3] (fun t wr => ∃ k : Nat, k ≤ 8 ∧ t = .int .i64 (k : Int) ∧ Ext w0 wr) (fun t _ => 8 - (intOf t).toNat)
      case atStart => exact ⟨0, by omega, rfl, HXO.out⟩
      case round =>
        obtain ⟨k, hk, rfl, hx⟩ := hrel
        by_cases hk8 : k < 8
        · have HXK := Lib.hid hx
          have hdk : decide ((k : Int) < 8) = true := by simp; omega
          have hkI : (k : Int) < 8 := by omega
          have HLN0 := HLN
          have HLN := Lib.hid (show ∀ j, j < 8 → wr.cell? ⟨gl, j, none⟩ = some (uw (ln j)) from fun j hj => hx.cell (HLN0.out j hj) id)
          have HEE := Lib.hid (HE.out.ext hx)
          have hm1 : (i + k) % 8 < 8 := Nat.mod_lt _ (by decide)
          have hm2 : i * k % 8 < 8 := Nat.mod_lt _ (by decide)
          have hm8 : (i + 1) % 8 < 8 := Nat.mod_lt _ (by decide)
          have hmw : wrap64 ((i : Int) * (k : Int)) = ((i * k : Nat) : Int) := by
            have h49 : i * k ≤ 7 * 7 := Nat.mul_le_mul (by omega) (by omega)
            rw [← Int.natCast_mul]
            unfold wrap64; omega
          have HMW := Lib.hid hmw
          clear hmw
          clear hx
          go_upto_region 8 with (fail)
          refine wp_region_invH Nothing (fun _ => Ext) 1000 nk8Dst (nk8Phi gl i k) 142 (by kernel_rfl) (by decide) (by decide) rfl (fun i hi => .inl ((by decide : ∀ i, i < 24 → nk8Dst i < 142) i hi)) (fun i w w' h => ⟨h, fun _ => h⟩) (fun i j v w w' _ _ _ _ h hu => h.ext hu) ?_ ?_
          · intro i o b' w1' ho hx1' hd hk hE hSZ
            have hi : i < 24 := (Array.getElem?_eq_some_iff.1 ho).1
            have his : i = 0 ∨ i = 1 ∨ i = 2 ∨ i = 3 ∨ i = 4 ∨ i = 5 ∨ i = 6 ∨ i = 7 ∨ i = 8 ∨ i = 9 ∨ i = 10 ∨ i = 11 ∨ i = 12 ∨ i = 13 ∨ i = 14 ∨ i = 15 ∨ i = 16 ∨ i = 17 ∨ i = 18 ∨ i = 19 ∨ i = 20 ∨ i = 21 ∨ i = 22 ∨ i = 23 := by omega
            clear hE hSZ
            have HW1 := Lib.hid hx1'
            clear hx1'
            rcases his with rfl | rfl | rfl | rfl | rfl | rfl | rfl | rfl | rfl | rfl | rfl | rfl | rfl | rfl | rfl | rfl | rfl | rfl | rfl | rfl | rfl | rfl | rfl | rfl
            all_goals (simp at ho; subst ho)
            case inl =>
              refine .inl ⟨by simp [Region.wanted], ?_⟩
              have o1 : b'.tmps[1]?.getD undef = .slice (some ⟨gl, 0, none⟩) 8 8 := by
                have := hk 1 (fun j oj _ e => (nk8Dst_ne (by decide) e).elim)
                simpa using this
              clear hd hk
              go_step
              exact ⟨_, rfl, rfl, Upd.refl _ _⟩
            case inr.inl =>
              refine .inl ⟨by simp [Region.wanted], ?_⟩
              have o2 : b'.tmps[2]?.getD undef = .int .i64 (i : Int) := by
                have := hk 2 (fun j oj _ e => (nk8Dst_ne (by decide) e).elim)
                simpa using this
              clear hd hk
              go_step
              exact ⟨_, rfl, rfl, Upd.refl _ _⟩
            case inr.inr.inl =>
              refine .inl ⟨by simp [Region.wanted], ?_⟩
              have e0 : b'.tmps[22]?.getD undef = .slice (some ⟨gl, 0, none⟩) 8 8 := by have := (show b'.tmps.getD 22 undef = .slice (some ⟨gl, 0, none⟩) 8 8 from hd ⟨0, .data⟩ (by simp) rfl); simpa using this
              have e1 : b'.tmps[23]?.getD undef = .int .i64 (i : Int) := by have := (show b'.tmps.getD 23 undef = .int .i64 (i : Int) from hd ⟨1, .data⟩ (by simp) rfl); simpa using this
              clear hd hk
              go_step
              exact ⟨_, rfl, rfl, Upd.refl _ _⟩
            case inr.inr.inr.inl =>
              refine .inl ⟨by simp [Region.wanted], ?_⟩
              have e2 : b'.tmps[24]?.getD undef = .pointer (some ⟨gl, i, none⟩) := by have := (show b'.tmps.getD 24 undef = .pointer (some ⟨gl, i, none⟩) from hd ⟨2, .data⟩ (by simp) rfl); simpa using this
              clear hd hk
              have hc := HW1.out.cell (HLN.out i hi8) id
              go_step
              exact ⟨_, rfl, rfl, Upd.refl _ _⟩
            case inr.inr.inr.inr.inl =>
              refine .inl ⟨by simp [Region.wanted], ?_⟩
              have o1 : b'.tmps[1]?.getD undef = .slice (some ⟨gl, 0, none⟩) 8 8 := by
                have := hk 1 (fun j oj _ e => (nk8Dst_ne (by decide) e).elim)
                simpa using this
              clear hd hk
              go_step
              exact ⟨_, rfl, rfl, Upd.refl _ _⟩
            case inr.inr.inr.inr.inr.inl =>
              refine .inl ⟨by simp [Region.wanted], ?_⟩
              have o3 : b'.tmps[3]?.getD undef = .int .i64 (k : Int) := by
                have := hk 3 (fun j oj _ e => (nk8Dst_ne (by decide) e).elim)
                simpa using this
              clear hd hk
              go_step
              exact ⟨_, rfl, rfl, Upd.refl _ _⟩
            case inr.inr.inr.inr.inr.inr.inl =>
              refine .inl ⟨by simp [Region.wanted], ?_⟩
              have e4 : b'.tmps[26]?.getD undef = .slice (some ⟨gl, 0, none⟩) 8 8 := by have := (show b'.tmps.getD 26 undef = .slice (some ⟨gl, 0, none⟩) 8 8 from hd ⟨4, .data⟩ (by simp) rfl); simpa using this
              have e5 : b'.tmps[27]?.getD undef = .int .i64 (k : Int) := by have := (show b'.tmps.getD 27 undef = .int .i64 (k : Int) from hd ⟨5, .data⟩ (by simp) rfl); simpa using this
              clear hd hk
              go_step
              exact ⟨_, rfl, rfl, Upd.refl _ _⟩
            case inr.inr.inr.inr.inr.inr.inr.inl =>
              refine .inl ⟨by simp [Region.wanted], ?_⟩
              have e6 : b'.tmps[28]?.getD undef = .pointer (some ⟨gl, k, none⟩) := by have := (show b'.tmps.getD 28 undef = .pointer (some ⟨gl, k, none⟩) from hd ⟨6, .data⟩ (by simp) rfl); simpa using this
              clear hd hk
              have hc := HW1.out.cell (HLN.out k hk8) id
              go_step
              exact ⟨_, rfl, rfl, Upd.refl _ _⟩
            case inr.inr.inr.inr.inr.inr.inr.inr.inl =>
              refine .inl ⟨by simp [Region.wanted], ?_⟩
              have o1 : b'.tmps[1]?.getD undef = .slice (some ⟨gl, 0, none⟩) 8 8 := by
                have := hk 1 (fun j oj _ e => (nk8Dst_ne (by decide) e).elim)
                simpa using this
              clear hd hk
              go_step
              exact ⟨_, rfl, rfl, Upd.refl _ _⟩
            case inr.inr.inr.inr.inr.inr.inr.inr.inr.inl =>
              refine .inl ⟨by simp [Region.wanted], ?_⟩
              have o2 : b'.tmps[2]?.getD undef = .int .i64 (i : Int) := by
                have := hk 2 (fun j oj _ e => (nk8Dst_ne (by decide) e).elim)
                simpa using this
              clear hd hk
              go_step
              exact ⟨_, rfl, rfl, Upd.refl _ _⟩
            case inr.inr.inr.inr.inr.inr.inr.inr.inr.inr.inl =>
              refine .inl ⟨by simp [Region.wanted], ?_⟩
              have o3 : b'.tmps[3]?.getD undef = .int .i64 (k : Int) := by
                have := hk 3 (fun j oj _ e => (nk8Dst_ne (by decide) e).elim)
                simpa using this
              clear hd hk
              go_step
              exact ⟨_, rfl, rfl, Upd.refl _ _⟩
            case inr.inr.inr.inr.inr.inr.inr.inr.inr.inr.inr.inl =>
              refine .inl ⟨by simp [Region.wanted], ?_⟩
              have e9 : b'.tmps[31]?.getD undef = .int .i64 (i : Int) := by have := (show b'.tmps.getD 31 undef = .int .i64 (i : Int) from hd ⟨9, .data⟩ (by simp) rfl); simpa using this
              have e10 : b'.tmps[32]?.getD undef = .int .i64 (k : Int) := by have := (show b'.tmps.getD 32 undef = .int .i64 (k : Int) from hd ⟨10, .data⟩ (by simp) rfl); simpa using this
              clear hd hk
              go_step
              refine ⟨_, rfl, ?_, Upd.refl _ _⟩
              show Value.int .i64 _ = Value.int .i64 _
              congr 1
              try (push_cast; rfl)
            case inr.inr.inr.inr.inr.inr.inr.inr.inr.inr.inr.inr.inl =>
              refine .inl ⟨by simp [Region.wanted], ?_⟩
              have e11 : b'.tmps[33]?.getD undef = .int .i64 ((i + k : Nat) : Int) := by have := (show b'.tmps.getD 33 undef = .int .i64 ((i + k : Nat) : Int) from hd ⟨11, .data⟩ (by simp) rfl); simpa using this
              clear hd hk
              go_step
              refine ⟨_, rfl, ?_, Upd.refl _ _⟩
              show Value.int .i64 _ = Value.int .i64 _
              congr 1
              try (first | rfl | omega | (push_cast; rfl))
            case inr.inr.inr.inr.inr.inr.inr.inr.inr.inr.inr.inr.inr.inl =>
              refine .inl ⟨by simp [Region.wanted], ?_⟩
              have e8 : b'.tmps[30]?.getD undef = .slice (some ⟨gl, 0, none⟩) 8 8 := by have := (show b'.tmps.getD 30 undef = .slice (some ⟨gl, 0, none⟩) 8 8 from hd ⟨8, .data⟩ (by simp) rfl); simpa using this
              have e12 : b'.tmps[34]?.getD undef = .int .i64 (((i + k) % 8) : Nat) := by have := (show b'.tmps.getD 34 undef = .int .i64 (((i + k) % 8) : Nat) from hd ⟨12, .data⟩ (by simp) rfl); simpa using this
              clear hd hk
              have hb1 : 0 ≤ ((i : Int) + (k : Int)) % 8 := Int.emod_nonneg _ (by decide)
              have hb2 : ((i : Int) + (k : Int)) % 8 < 8 := Int.emod_lt_of_pos _ (by decide)
              go_step
              exact ⟨_, rfl, rfl, Upd.refl _ _⟩
            case inr.inr.inr.inr.inr.inr.inr.inr.inr.inr.inr.inr.inr.inr.inl =>
              refine .inl ⟨by simp [Region.wanted], ?_⟩
              have e13 : b'.tmps[35]?.getD undef = .pointer (some ⟨gl, ((i + k) % 8), none⟩) := by have := (show b'.tmps.getD 35 undef = .pointer (some ⟨gl, ((i + k) % 8), none⟩) from hd ⟨13, .data⟩ (by simp) rfl); simpa using this
              clear hd hk
              have hc := HW1.out.cell (HLN.out ((i + k) % 8) hm1) id
              go_step
              exact ⟨_, rfl, rfl, Upd.refl _ _⟩
            case inr.inr.inr.inr.inr.inr.inr.inr.inr.inr.inr.inr.inr.inr.inr.inl =>
              refine .inl ⟨by simp [Region.wanted], ?_⟩
              have o1 : b'.tmps[1]?.getD undef = .slice (some ⟨gl, 0, none⟩) 8 8 := by
                have := hk 1 (fun j oj _ e => (nk8Dst_ne (by decide) e).elim)
                simpa using this
              clear hd hk
              go_step
              exact ⟨_, rfl, rfl, Upd.refl _ _⟩
            case inr.inr.inr.inr.inr.inr.inr.inr.inr.inr.inr.inr.inr.inr.inr.inr.inl =>
              refine .inl ⟨by simp [Region.wanted], ?_⟩
              have o2 : b'.tmps[2]?.getD undef = .int .i64 (i : Int) := by
                have := hk 2 (fun j oj _ e => (nk8Dst_ne (by decide) e).elim)
                simpa using this
              clear hd hk
              go_step
              exact ⟨_, rfl, rfl, Upd.refl _ _⟩
            case inr.inr.inr.inr.inr.inr.inr.inr.inr.inr.inr.inr.inr.inr.inr.inr.inr.inl =>
              refine .inl ⟨by simp [Region.wanted], ?_⟩
              have o3 : b'.tmps[3]?.getD undef = .int .i64 (k : Int) := by
                have := hk 3 (fun j oj _ e => (nk8Dst_ne (by decide) e).elim)
                simpa using this
              clear hd hk
              go_step
              exact ⟨_, rfl, rfl, Upd.refl _ _⟩
            case inr.inr.inr.inr.inr.inr.inr.inr.inr.inr.inr.inr.inr.inr.inr.inr.inr.inr.inl =>
              refine .inl ⟨by simp [Region.wanted], ?_⟩
              have e16 : b'.tmps[38]?.getD undef = .int .i64 (i : Int) := by have := (show b'.tmps.getD 38 undef = .int .i64 (i : Int) from hd ⟨16, .data⟩ (by simp) rfl); simpa using this
              have e17 : b'.tmps[39]?.getD undef = .int .i64 (k : Int) := by have := (show b'.tmps.getD 39 undef = .int .i64 (k : Int) from hd ⟨17, .data⟩ (by simp) rfl); simpa using this
              clear hd hk
              go_step
              refine ⟨_, rfl, ?_, Upd.refl _ _⟩
              show Value.int .i64 _ = Value.int .i64 _
              congr 1
              try (exact HMW.out)
            case inr.inr.inr.inr.inr.inr.inr.inr.inr.inr.inr.inr.inr.inr.inr.inr.inr.inr.inr.inl =>
              refine .inl ⟨by simp [Region.wanted], ?_⟩
              have e18 : b'.tmps[40]?.getD undef = .int .i64 ((i * k : Nat) : Int) := by have := (show b'.tmps.getD 40 undef = .int .i64 ((i * k : Nat) : Int) from hd ⟨18, .data⟩ (by simp) rfl); simpa using this
              clear hd hk
              go_step
              refine ⟨_, rfl, ?_, Upd.refl _ _⟩
              show Value.int .i64 _ = Value.int .i64 _
              congr 1
              try (first | rfl | omega | (push_cast; rfl))
            case inr.inr.inr.inr.inr.inr.inr.inr.inr.inr.inr.inr.inr.inr.inr.inr.inr.inr.inr.inr.inl =>
              refine .inl ⟨by simp [Region.wanted], ?_⟩
              have e15 : b'.tmps[37]?.getD undef = .slice (some ⟨gl, 0, none⟩) 8 8 := by have := (show b'.tmps.getD 37 undef = .slice (some ⟨gl, 0, none⟩) 8 8 from hd ⟨15, .data⟩ (by simp) rfl); simpa using this
              have e19 : b'.tmps[41]?.getD undef = .int .i64 ((i * k % 8) : Nat) := by have := (show b'.tmps.getD 41 undef = .int .i64 ((i * k % 8) : Nat) from hd ⟨19, .data⟩ (by simp) rfl); simpa using this
              clear hd hk
              have hb1 : 0 ≤ ((i : Int) * (k : Int)) % 8 := Int.emod_nonneg _ (by decide)
              have hb2 : ((i : Int) * (k : Int)) % 8 < 8 := Int.emod_lt_of_pos _ (by decide)
              go_step
              exact ⟨_, rfl, rfl, Upd.refl _ _⟩
            case inr.inr.inr.inr.inr.inr.inr.inr.inr.inr.inr.inr.inr.inr.inr.inr.inr.inr.inr.inr.inr.inl =>
              refine .inl ⟨by simp [Region.wanted], ?_⟩
              have e20 : b'.tmps[42]?.getD undef = .pointer (some ⟨gl, (i * k % 8), none⟩) := by have := (show b'.tmps.getD 42 undef = .pointer (some ⟨gl, (i * k % 8), none⟩) from hd ⟨20, .data⟩ (by simp) rfl); simpa using this
              clear hd hk
              have hc := HW1.out.cell (HLN.out (i * k % 8) hm2) id
              go_step
              exact ⟨_, rfl, rfl, Upd.refl _ _⟩
            case inr.inr.inr.inr.inr.inr.inr.inr.inr.inr.inr.inr.inr.inr.inr.inr.inr.inr.inr.inr.inr.inr.inl =>
              refine .inl ⟨by simp [Region.wanted], ?_⟩
              have e3 : b'.tmps[25]?.getD undef = uw (ln i) := by have := (show b'.tmps.getD 25 undef = uw (ln i) from hd ⟨3, .data⟩ (by simp) rfl); simpa using this
              have e7 : b'.tmps[29]?.getD undef = uw (ln k) := by have := (show b'.tmps.getD 29 undef = uw (ln k) from hd ⟨7, .data⟩ (by simp) rfl); simpa using this
              have e14 : b'.tmps[36]?.getD undef = uw (ln ((i + k) % 8)) := by have := (show b'.tmps.getD 36 undef = uw (ln ((i + k) % 8)) from hd ⟨14, .data⟩ (by simp) rfl); simpa using this
              have e21 : b'.tmps[43]?.getD undef = uw (ln (i * k % 8)) := by have := (show b'.tmps.getD 43 undef = uw (ln (i * k % 8)) from hd ⟨21, .data⟩ (by simp) rfl); simpa using this
              clear hd hk
              go_step
              refine (nameOf_any w1' (ln i) (ln k) (ln ((i + k) % 8)) (ln (i * k % 8)) (ln_lt _) (ln_lt _) (ln_lt _) (ln_lt _) (HEE.out.ext HW1.out)).mono ?_
              rintro e w2 ⟨rfl, hu⟩
              exact ⟨_, rfl, rfl, hu⟩
            case inr.inr.inr.inr.inr.inr.inr.inr.inr.inr.inr.inr.inr.inr.inr.inr.inr.inr.inr.inr.inr.inr.inr =>
              refine .inl ⟨by simp [Region.wanted], ?_⟩
              have e22 : b'.tmps[44]?.getD undef = .bool true := by have := (show b'.tmps.getD 44 undef = .bool true from hd ⟨22, .data⟩ (by simp) rfl); simpa using this
              clear hd hk
              go_step
              exact ⟨_, rfl, rfl, Upd.refl _ _⟩
          · intro v w1' hx1' hp
            have h23 : v 23 = .bool false := hp 23 (by decide)
            have HX8 := Lib.hid (HXK.out.trans hx1')
            clear hp hx1'
            simp only [List.size_toArray, List.length_cons, List.length_nil, Nat.reduceAdd, fillAll, nk8Dst]
            go_simp
            go_wp2
            obtain ⟨wk, hwk⟩ : ∃ u, u = w1' := ⟨_, rfl⟩
            subst hwk
            go_loopw [4] (fun t wr => ∃ q : Nat, q ≤ 6 ∧ t = .int .u8 (q : Int) ∧ Ext w0 wr) (fun t _ => 6 - (intOf t).toNat)
            case atStart => exact ⟨0, by omega, rfl, HX8.out⟩
            case round =>
              obtain ⟨q, hq, rfl, hx⟩ := hrel
              by_cases hq6 : q < 6
              · obtain ⟨wk, hwk⟩ : ∃ u, u = wr := ⟨_, rfl⟩
                subst hwk
                obtain ⟨x, hx1⟩ : ∃ x : Nm, x = ⟨q, ln i, ln k, 0, 0, 0⟩ := ⟨_, rfl⟩
                obtain ⟨y, hy1⟩ : ∃ y : Nm, y = ⟨q, 0, 0, ln k, ln i, ln ((i + 1) % 8)⟩ := ⟨_, rfl⟩
                obtain ⟨z, hz1⟩ : ∃ z : Nm, z = ⟨6 - q, ln i, 0, 1, 0, 0⟩ := ⟨_, rfl⟩
                have HWX := Lib.hid (show WfNm x by rw [hx1]; exact ⟨by show q < 256; omega, ln_lt _, ln_lt _, z64, z64, z64⟩)
                have HWY := Lib.hid (show WfNm y by rw [hy1]; exact ⟨by show q < 256; omega, z64, z64, ln_lt _, ln_lt _, ln_lt _⟩)
                have HWZ := Lib.hid (show WfNm z by rw [hz1]; exact ⟨by show 6 - q < 256; omega, ln_lt _, z64, (by show (1 : Nat) < 18446744073709551616; decide), z64, z64⟩)
                have HXE := Lib.hid hx1
                have HYE := Lib.hid hy1
                have HZ := Lib.hid hz1
                have HXQ := Lib.hid hx
                have HLN := Lib.hid (show ∀ j, j < 8 → wk.cell? ⟨gl, j, none⟩ = some (uw (ln j)) from fun j hj => hx.cell (HLN0.out j hj) id)
                have HLW := Lib.hid (show gl < wk.heap.size from Nat.lt_of_lt_of_le HGL.out hx.size)
                clear hx hx1 hy1 hz1
                go_upto_region 13 with (fail)
                refine wp_region_J nk13Dst 142 (KJ 63 x y (nk13Val x y gl i k q) wk) (by kernel_rfl) (by decide) (by decide) rfl (fun w0 h0 hh => ⟨h0.mono (fun _ _ e => e.elim), fun _ _ e => (by cases e), fun e => (by cases e), fun e => (by cases e), fun e => (by cases e), fun e => (by cases e), fun e => (by cases e)⟩) ?_ ?_
                · intro m o b' L v w1' ho hLi hA hV hO hSZ hJ
                  have HSZ := Lib.hid hSZ
                  clear hSZ
                  have hi30 : m < 30 := (Array.getElem?_eq_some_iff.1 ho).1
                  have his : m = 0 ∨ m = 1 ∨ m = 2 ∨ m = 3 ∨ m = 4 ∨ m = 5 ∨ m = 6 ∨ m = 7 ∨ m = 8 ∨ m = 9 ∨ m = 10 ∨ m = 11 ∨ m = 12 ∨ m = 13 ∨ m = 14 ∨ m = 15 ∨ m = 16 ∨ m = 17 ∨ m = 18 ∨ m = 19 ∨ m = 20 ∨ m = 21 ∨ m = 22 ∨ m = 23 ∨ m = 24 ∨ m = 25 ∨ m = 26 ∨ m = 27 ∨ m = 28 ∨ m = 29 := by omega
                  clear hi30
                  rcases his with rfl | rfl | rfl | rfl | rfl | rfl | rfl | rfl | rfl | rfl | rfl | rfl | rfl | rfl | rfl | rfl | rfl | rfl | rfl | rfl | rfl | rfl | rfl | rfl | rfl | rfl | rfl | rfl | rfl | rfl
                  all_goals (simp at ho; subst ho)
                  case inl =>
                    refine .inl ⟨by simp [Region.wanted], ?_⟩
                    have f4 : b'.tmps[4]?.getD undef = .int .u8 (q : Int) := by
                      have := hO 4 (by decide)
                      simpa using this
                    have HJP := Lib.hid (hJ.put hLi (show 0 < 26 by decide))
                    clear hA hV hO hJ hLi
                    go_step
                    refine ⟨_, rfl, ?_⟩
                    refine (congrArg (fun z => KJ 63 x y (nk13Val x y gl i k q) wk (mrkL L 0) (mrkV v 0 z) w1') (show _ = nk13Val x y gl i k q 0 from ?_)).mpr HJP.out
                    rfl
                  case inr.inl =>
                    refine .inl ⟨by simp [Region.wanted], ?_⟩
                    have f1 : b'.tmps[1]?.getD undef = .slice (some ⟨gl, 0, none⟩) 8 8 := by
                      have := hO 1 (by decide)
                      simpa using this
                    have HJP := Lib.hid (hJ.put hLi (show 1 < 26 by decide))
                    clear hA hV hO hJ hLi
                    go_step
                    refine ⟨_, rfl, ?_⟩
                    refine (congrArg (fun z => KJ 63 x y (nk13Val x y gl i k q) wk (mrkL L 1) (mrkV v 1 z) w1') (show _ = nk13Val x y gl i k q 1 from ?_)).mpr HJP.out
                    rfl
                  case inr.inr.inl =>
                    refine .inl ⟨by simp [Region.wanted], ?_⟩
                    have f2 : b'.tmps[2]?.getD undef = .int .i64 (i : Int) := by
                      have := hO 2 (by decide)
                      simpa using this
                    have HJP := Lib.hid (hJ.put hLi (show 2 < 26 by decide))
                    clear hA hV hO hJ hLi
                    go_step
                    refine ⟨_, rfl, ?_⟩
                    refine (congrArg (fun z => KJ 63 x y (nk13Val x y gl i k q) wk (mrkL L 2) (mrkV v 2 z) w1') (show _ = nk13Val x y gl i k q 2 from ?_)).mpr HJP.out
                    rfl
                  case inr.inr.inr.inl =>
                    refine .inl ⟨by simp [Region.wanted], ?_⟩
                    have e1 : b'.tmps[51]?.getD undef = .slice (some ⟨gl, 0, none⟩) 8 8 := by
                      have h0 := hA ⟨1, .data⟩ (by simp) rfl
                      have h1 : b'.tmps.getD 51 undef = v 1 := hV 1 (by decide) h0 (by decide)
                      rw [hJ.vals 1 (by decide) h0] at h1
                      have h2 : b'.tmps.getD 51 undef = .slice (some ⟨gl, 0, none⟩) 8 8 := h1
                      simpa using h2
                    have e2 : b'.tmps[52]?.getD undef = .int .i64 (i : Int) := by
                      have h0 := hA ⟨2, .data⟩ (by simp) rfl
                      have h1 : b'.tmps.getD 52 undef = v 2 := hV 2 (by decide) h0 (by decide)
                      rw [hJ.vals 2 (by decide) h0] at h1
                      have h2 : b'.tmps.getD 52 undef = .int .i64 (i : Int) := h1
                      simpa using h2
                    have HJP := Lib.hid (hJ.put hLi (show 3 < 26 by decide))
                    clear hA hV hO hJ hLi
                    go_step
                    refine ⟨_, rfl, ?_⟩
                    refine (congrArg (fun z => KJ 63 x y (nk13Val x y gl i k q) wk (mrkL L 3) (mrkV v 3 z) w1') (show _ = nk13Val x y gl i k q 3 from ?_)).mpr HJP.out
                    rfl
                  case inr.inr.inr.inr.inl =>
                    refine .inl ⟨by simp [Region.wanted], ?_⟩
                    have e3 : b'.tmps[53]?.getD undef = .pointer (some ⟨gl, i, none⟩) := by
                      have h0 := hA ⟨3, .data⟩ (by simp) rfl
                      have h1 : b'.tmps.getD 53 undef = v 3 := hV 3 (by decide) h0 (by decide)
                      rw [hJ.vals 3 (by decide) h0] at h1
                      have h2 : b'.tmps.getD 53 undef = .pointer (some ⟨gl, i, none⟩) := h1
                      simpa using h2
                    have hc : w1'.cell? ⟨gl, i, none⟩ = some (uw (ln i)) := hJ.upd.cell (HLN.out i hi8) (Nat.not_le_of_lt HLW.out)
                    have HJP := Lib.hid (hJ.put hLi (show 4 < 26 by decide))
                    clear hA hV hO hJ hLi
                    go_step
                    refine ⟨_, rfl, ?_⟩
                    refine (congrArg (fun z => KJ 63 x y (nk13Val x y gl i k q) wk (mrkL L 4) (mrkV v 4 z) w1') (show _ = nk13Val x y gl i k q 4 from ?_)).mpr HJP.out
                    rfl
                  case inr.inr.inr.inr.inr.inl =>
                    refine .inl ⟨by simp [Region.wanted], ?_⟩
                    have f1 : b'.tmps[1]?.getD undef = .slice (some ⟨gl, 0, none⟩) 8 8 := by
                      have := hO 1 (by decide)
                      simpa using this
                    have HJP := Lib.hid (hJ.put hLi (show 5 < 26 by decide))
                    clear hA hV hO hJ hLi
                    go_step
                    refine ⟨_, rfl, ?_⟩
                    refine (congrArg (fun z => KJ 63 x y (nk13Val x y gl i k q) wk (mrkL L 5) (mrkV v 5 z) w1') (show _ = nk13Val x y gl i k q 5 from ?_)).mpr HJP.out
                    rfl
                  case inr.inr.inr.inr.inr.inr.inl =>
                    refine .inl ⟨by simp [Region.wanted], ?_⟩
                    have f3 : b'.tmps[3]?.getD undef = .int .i64 (k : Int) := by
                      have := hO 3 (by decide)
                      simpa using this
                    have HJP := Lib.hid (hJ.put hLi (show 6 < 26 by decide))
                    clear hA hV hO hJ hLi
                    go_step
                    refine ⟨_, rfl, ?_⟩
                    refine (congrArg (fun z => KJ 63 x y (nk13Val x y gl i k q) wk (mrkL L 6) (mrkV v 6 z) w1') (show _ = nk13Val x y gl i k q 6 from ?_)).mpr HJP.out
                    rfl
                  case inr.inr.inr.inr.inr.inr.inr.inl =>
                    refine .inl ⟨by simp [Region.wanted], ?_⟩
                    have e5 : b'.tmps[55]?.getD undef = .slice (some ⟨gl, 0, none⟩) 8 8 := by
                      have h0 := hA ⟨5, .data⟩ (by simp) rfl
                      have h1 : b'.tmps.getD 55 undef = v 5 := hV 5 (by decide) h0 (by decide)
                      rw [hJ.vals 5 (by decide) h0] at h1
                      have h2 : b'.tmps.getD 55 undef = .slice (some ⟨gl, 0, none⟩) 8 8 := h1
                      simpa using h2
                    have e6 : b'.tmps[56]?.getD undef = .int .i64 (k : Int) := by
                      have h0 := hA ⟨6, .data⟩ (by simp) rfl
                      have h1 : b'.tmps.getD 56 undef = v 6 := hV 6 (by decide) h0 (by decide)
                      rw [hJ.vals 6 (by decide) h0] at h1
                      have h2 : b'.tmps.getD 56 undef = .int .i64 (k : Int) := h1
                      simpa using h2
                    have HJP := Lib.hid (hJ.put hLi (show 7 < 26 by decide))
                    clear hA hV hO hJ hLi
                    go_step
                    refine ⟨_, rfl, ?_⟩
                    refine (congrArg (fun z => KJ 63 x y (nk13Val x y gl i k q) wk (mrkL L 7) (mrkV v 7 z) w1') (show _ = nk13Val x y gl i k q 7 from ?_)).mpr HJP.out
                    rfl
                  case inr.inr.inr.inr.inr.inr.inr.inr.inl =>
                    refine .inl ⟨by simp [Region.wanted], ?_⟩
                    have e7 : b'.tmps[57]?.getD undef = .pointer (some ⟨gl, k, none⟩) := by
                      have h0 := hA ⟨7, .data⟩ (by simp) rfl
                      have h1 : b'.tmps.getD 57 undef = v 7 := hV 7 (by decide) h0 (by decide)
                      rw [hJ.vals 7 (by decide) h0] at h1
                      have h2 : b'.tmps.getD 57 undef = .pointer (some ⟨gl, k, none⟩) := h1
                      simpa using h2
                    have hc : w1'.cell? ⟨gl, k, none⟩ = some (uw (ln k)) := hJ.upd.cell (HLN.out k hk8) (Nat.not_le_of_lt HLW.out)
                    have HJP := Lib.hid (hJ.put hLi (show 8 < 26 by decide))
                    clear hA hV hO hJ hLi
                    go_step
                    refine ⟨_, rfl, ?_⟩
                    refine (congrArg (fun z => KJ 63 x y (nk13Val x y gl i k q) wk (mrkL L 8) (mrkV v 8 z) w1') (show _ = nk13Val x y gl i k q 8 from ?_)).mpr HJP.out
                    rfl
                  case inr.inr.inr.inr.inr.inr.inr.inr.inr.inl =>
                    refine .inl ⟨by simp [Region.wanted], ?_⟩
                    have e0 : b'.tmps[50]?.getD undef = .int .u8 (q : Int) := by
                      have h0 := hA ⟨0, .data⟩ (by simp) rfl
                      have h1 : b'.tmps.getD 50 undef = v 0 := hV 0 (by decide) h0 (by decide)
                      rw [hJ.vals 0 (by decide) h0] at h1
                      have h2 : b'.tmps.getD 50 undef = .int .u8 (q : Int) := h1
                      simpa using h2
                    have e4 : b'.tmps[54]?.getD undef = uw (ln i) := by
                      have h0 := hA ⟨4, .data⟩ (by simp) rfl
                      have h1 : b'.tmps.getD 54 undef = v 4 := hV 4 (by decide) h0 (by decide)
                      rw [hJ.vals 4 (by decide) h0] at h1
                      have h2 : b'.tmps.getD 54 undef = uw (ln i) := h1
                      simpa using h2
                    have e8 : b'.tmps[58]?.getD undef = uw (ln k) := by
                      have h0 := hA ⟨8, .data⟩ (by simp) rfl
                      have h1 : b'.tmps.getD 58 undef = v 8 := hV 8 (by decide) h0 (by decide)
                      rw [hJ.vals 8 (by decide) h0] at h1
                      have h2 : b'.tmps.getD 58 undef = uw (ln k) := h1
                      simpa using h2
                    have HJP := Lib.hid (hJ.put hLi (show 9 < 26 by decide))
                    clear hA hV hO hJ hLi
                    go_step
                    refine ⟨_, rfl, ?_⟩
                    refine (congrArg (fun z => KJ 63 x y (nk13Val x y gl i k q) wk (mrkL L 9) (mrkV v 9 z) w1') (show _ = nk13Val x y gl i k q 9 from ?_)).mpr HJP.out
                    show Value.agg _ = .agg (nmCells x)
                    rw [HXE.out]; rfl
                  case inr.inr.inr.inr.inr.inr.inr.inr.inr.inr.inl =>
                    refine .inl ⟨by simp [Region.wanted], ?_⟩
                    have f4 : b'.tmps[4]?.getD undef = .int .u8 (q : Int) := by
                      have := hO 4 (by decide)
                      simpa using this
                    have HJP := Lib.hid (hJ.put hLi (show 10 < 26 by decide))
                    clear hA hV hO hJ hLi
                    go_step
                    refine ⟨_, rfl, ?_⟩
                    refine (congrArg (fun z => KJ 63 x y (nk13Val x y gl i k q) wk (mrkL L 10) (mrkV v 10 z) w1') (show _ = nk13Val x y gl i k q 10 from ?_)).mpr HJP.out
                    rfl
                  case inr.inr.inr.inr.inr.inr.inr.inr.inr.inr.inr.inl =>
                    refine .inl ⟨by simp [Region.wanted], ?_⟩
                    have f1 : b'.tmps[1]?.getD undef = .slice (some ⟨gl, 0, none⟩) 8 8 := by
                      have := hO 1 (by decide)
                      simpa using this
                    have HJP := Lib.hid (hJ.put hLi (show 11 < 26 by decide))
                    clear hA hV hO hJ hLi
                    go_step
                    refine ⟨_, rfl, ?_⟩
                    refine (congrArg (fun z => KJ 63 x y (nk13Val x y gl i k q) wk (mrkL L 11) (mrkV v 11 z) w1') (show _ = nk13Val x y gl i k q 11 from ?_)).mpr HJP.out
                    rfl
                  case inr.inr.inr.inr.inr.inr.inr.inr.inr.inr.inr.inr.inl =>
                    refine .inl ⟨by simp [Region.wanted], ?_⟩
                    have f3 : b'.tmps[3]?.getD undef = .int .i64 (k : Int) := by
                      have := hO 3 (by decide)
                      simpa using this
                    have HJP := Lib.hid (hJ.put hLi (show 12 < 26 by decide))
                    clear hA hV hO hJ hLi
                    go_step
                    refine ⟨_, rfl, ?_⟩
                    refine (congrArg (fun z => KJ 63 x y (nk13Val x y gl i k q) wk (mrkL L 12) (mrkV v 12 z) w1') (show _ = nk13Val x y gl i k q 12 from ?_)).mpr HJP.out
                    rfl
                  case inr.inr.inr.inr.inr.inr.inr.inr.inr.inr.inr.inr.inr.inl =>
                    refine .inl ⟨by simp [Region.wanted], ?_⟩
                    have e11 : b'.tmps[61]?.getD undef = .slice (some ⟨gl, 0, none⟩) 8 8 := by
                      have h0 := hA ⟨11, .data⟩ (by simp) rfl
                      have h1 : b'.tmps.getD 61 undef = v 11 := hV 11 (by decide) h0 (by decide)
                      rw [hJ.vals 11 (by decide) h0] at h1
                      have h2 : b'.tmps.getD 61 undef = .slice (some ⟨gl, 0, none⟩) 8 8 := h1
                      simpa using h2
                    have e12 : b'.tmps[62]?.getD undef = .int .i64 (k : Int) := by
                      have h0 := hA ⟨12, .data⟩ (by simp) rfl
                      have h1 : b'.tmps.getD 62 undef = v 12 := hV 12 (by decide) h0 (by decide)
                      rw [hJ.vals 12 (by decide) h0] at h1
                      have h2 : b'.tmps.getD 62 undef = .int .i64 (k : Int) := h1
                      simpa using h2
                    have HJP := Lib.hid (hJ.put hLi (show 13 < 26 by decide))
                    clear hA hV hO hJ hLi
                    go_step
                    refine ⟨_, rfl, ?_⟩
                    refine (congrArg (fun z => KJ 63 x y (nk13Val x y gl i k q) wk (mrkL L 13) (mrkV v 13 z) w1') (show _ = nk13Val x y gl i k q 13 from ?_)).mpr HJP.out
                    rfl
                  case inr.inr.inr.inr.inr.inr.inr.inr.inr.inr.inr.inr.inr.inr.inl =>
                    refine .inl ⟨by simp [Region.wanted], ?_⟩
                    have e13 : b'.tmps[63]?.getD undef = .pointer (some ⟨gl, k, none⟩) := by
                      have h0 := hA ⟨13, .data⟩ (by simp) rfl
                      have h1 : b'.tmps.getD 63 undef = v 13 := hV 13 (by decide) h0 (by decide)
                      rw [hJ.vals 13 (by decide) h0] at h1
                      have h2 : b'.tmps.getD 63 undef = .pointer (some ⟨gl, k, none⟩) := h1
                      simpa using h2
                    have hc : w1'.cell? ⟨gl, k, none⟩ = some (uw (ln k)) := hJ.upd.cell (HLN.out k hk8) (Nat.not_le_of_lt HLW.out)
                    have HJP := Lib.hid (hJ.put hLi (show 14 < 26 by decide))
                    clear hA hV hO hJ hLi
                    go_step
                    refine ⟨_, rfl, ?_⟩
                    refine (congrArg (fun z => KJ 63 x y (nk13Val x y gl i k q) wk (mrkL L 14) (mrkV v 14 z) w1') (show _ = nk13Val x y gl i k q 14 from ?_)).mpr HJP.out
                    rfl
                  case inr.inr.inr.inr.inr.inr.inr.inr.inr.inr.inr.inr.inr.inr.inr.inl =>
                    refine .inl ⟨by simp [Region.wanted], ?_⟩
                    have f1 : b'.tmps[1]?.getD undef = .slice (some ⟨gl, 0, none⟩) 8 8 := by
                      have := hO 1 (by decide)
                      simpa using this
                    have HJP := Lib.hid (hJ.put hLi (show 15 < 26 by decide))
                    clear hA hV hO hJ hLi
                    go_step
                    refine ⟨_, rfl, ?_⟩
                    refine (congrArg (fun z => KJ 63 x y (nk13Val x y gl i k q) wk (mrkL L 15) (mrkV v 15 z) w1') (show _ = nk13Val x y gl i k q 15 from ?_)).mpr HJP.out
                    rfl
                  case inr.inr.inr.inr.inr.inr.inr.inr.inr.inr.inr.inr.inr.inr.inr.inr.inl =>
                    refine .inl ⟨by simp [Region.wanted], ?_⟩
                    have f2 : b'.tmps[2]?.getD undef = .int .i64 (i : Int) := by
                      have := hO 2 (by decide)
                      simpa using this
                    have HJP := Lib.hid (hJ.put hLi (show 16 < 26 by decide))
                    clear hA hV hO hJ hLi
                    go_step
                    refine ⟨_, rfl, ?_⟩
                    refine (congrArg (fun z => KJ 63 x y (nk13Val x y gl i k q) wk (mrkL L 16) (mrkV v 16 z) w1') (show _ = nk13Val x y gl i k q 16 from ?_)).mpr HJP.out
                    rfl
                  case inr.inr.inr.inr.inr.inr.inr.inr.inr.inr.inr.inr.inr.inr.inr.inr.inr.inl =>
                    refine .inl ⟨by simp [Region.wanted], ?_⟩
                    have e15 : b'.tmps[65]?.getD undef = .slice (some ⟨gl, 0, none⟩) 8 8 := by
                      have h0 := hA ⟨15, .data⟩ (by simp) rfl
                      have h1 : b'.tmps.getD 65 undef = v 15 := hV 15 (by decide) h0 (by decide)
                      rw [hJ.vals 15 (by decide) h0] at h1
                      have h2 : b'.tmps.getD 65 undef = .slice (some ⟨gl, 0, none⟩) 8 8 := h1
                      simpa using h2
                    have e16 : b'.tmps[66]?.getD undef = .int .i64 (i : Int) := by
                      have h0 := hA ⟨16, .data⟩ (by simp) rfl
                      have h1 : b'.tmps.getD 66 undef = v 16 := hV 16 (by decide) h0 (by decide)
                      rw [hJ.vals 16 (by decide) h0] at h1
                      have h2 : b'.tmps.getD 66 undef = .int .i64 (i : Int) := h1
                      simpa using h2
                    have HJP := Lib.hid (hJ.put hLi (show 17 < 26 by decide))
                    clear hA hV hO hJ hLi
                    go_step
                    refine ⟨_, rfl, ?_⟩
                    refine (congrArg (fun z => KJ 63 x y (nk13Val x y gl i k q) wk (mrkL L 17) (mrkV v 17 z) w1') (show _ = nk13Val x y gl i k q 17 from ?_)).mpr HJP.out
                    rfl
                  case inr.inr.inr.inr.inr.inr.inr.inr.inr.inr.inr.inr.inr.inr.inr.inr.inr.inr.inl =>
                    refine .inl ⟨by simp [Region.wanted], ?_⟩
                    have e17 : b'.tmps[67]?.getD undef = .pointer (some ⟨gl, i, none⟩) := by
                      have h0 := hA ⟨17, .data⟩ (by simp) rfl
                      have h1 : b'.tmps.getD 67 undef = v 17 := hV 17 (by decide) h0 (by decide)
                      rw [hJ.vals 17 (by decide) h0] at h1
                      have h2 : b'.tmps.getD 67 undef = .pointer (some ⟨gl, i, none⟩) := h1
                      simpa using h2
                    have hc : w1'.cell? ⟨gl, i, none⟩ = some (uw (ln i)) := hJ.upd.cell (HLN.out i hi8) (Nat.not_le_of_lt HLW.out)
                    have HJP := Lib.hid (hJ.put hLi (show 18 < 26 by decide))
                    clear hA hV hO hJ hLi
                    go_step
                    refine ⟨_, rfl, ?_⟩
                    refine (congrArg (fun z => KJ 63 x y (nk13Val x y gl i k q) wk (mrkL L 18) (mrkV v 18 z) w1') (show _ = nk13Val x y gl i k q 18 from ?_)).mpr HJP.out
                    rfl
                  case inr.inr.inr.inr.inr.inr.inr.inr.inr.inr.inr.inr.inr.inr.inr.inr.inr.inr.inr.inl =>
                    refine .inl ⟨by simp [Region.wanted], ?_⟩
                    have f1 : b'.tmps[1]?.getD undef = .slice (some ⟨gl, 0, none⟩) 8 8 := by
                      have := hO 1 (by decide)
                      simpa using this
                    have HJP := Lib.hid (hJ.put hLi (show 19 < 26 by decide))
                    clear hA hV hO hJ hLi
                    go_step
                    refine ⟨_, rfl, ?_⟩
                    refine (congrArg (fun z => KJ 63 x y (nk13Val x y gl i k q) wk (mrkL L 19) (mrkV v 19 z) w1') (show _ = nk13Val x y gl i k q 19 from ?_)).mpr HJP.out
                    rfl
                  case inr.inr.inr.inr.inr.inr.inr.inr.inr.inr.inr.inr.inr.inr.inr.inr.inr.inr.inr.inr.inl =>
                    refine .inl ⟨by simp [Region.wanted], ?_⟩
                    have f2 : b'.tmps[2]?.getD undef = .int .i64 (i : Int) := by
                      have := hO 2 (by decide)
                      simpa using this
                    have HJP := Lib.hid (hJ.put hLi (show 20 < 26 by decide))
                    clear hA hV hO hJ hLi
                    go_step
                    refine ⟨_, rfl, ?_⟩
                    refine (congrArg (fun z => KJ 63 x y (nk13Val x y gl i k q) wk (mrkL L 20) (mrkV v 20 z) w1') (show _ = nk13Val x y gl i k q 20 from ?_)).mpr HJP.out
                    rfl
                  case inr.inr.inr.inr.inr.inr.inr.inr.inr.inr.inr.inr.inr.inr.inr.inr.inr.inr.inr.inr.inr.inl =>
                    refine .inl ⟨by simp [Region.wanted], ?_⟩
                    have e20 : b'.tmps[70]?.getD undef = .int .i64 (i : Int) := by
                      have h0 := hA ⟨20, .data⟩ (by simp) rfl
                      have h1 : b'.tmps.getD 70 undef = v 20 := hV 20 (by decide) h0 (by decide)
                      rw [hJ.vals 20 (by decide) h0] at h1
                      have h2 : b'.tmps.getD 70 undef = .int .i64 (i : Int) := h1
                      simpa using h2
                    have HJP := Lib.hid (hJ.put hLi (show 21 < 26 by decide))
                    clear hA hV hO hJ hLi
                    go_step
                    refine ⟨_, rfl, ?_⟩
                    refine (congrArg (fun z => KJ 63 x y (nk13Val x y gl i k q) wk (mrkL L 21) (mrkV v 21 z) w1') (show _ = nk13Val x y gl i k q 21 from ?_)).mpr HJP.out
                    rfl
                  case inr.inr.inr.inr.inr.inr.inr.inr.inr.inr.inr.inr.inr.inr.inr.inr.inr.inr.inr.inr.inr.inr.inl =>
                    refine .inl ⟨by simp [Region.wanted], ?_⟩
                    have e21 : b'.tmps[71]?.getD undef = .int .i64 ((i : Int) + 1) := by
                      have h0 := hA ⟨21, .data⟩ (by simp) rfl
                      have h1 : b'.tmps.getD 71 undef = v 21 := hV 21 (by decide) h0 (by decide)
                      rw [hJ.vals 21 (by decide) h0] at h1
                      have h2 : b'.tmps.getD 71 undef = .int .i64 ((i : Int) + 1) := h1
                      simpa using h2
                    have HJP := Lib.hid (hJ.put hLi (show 22 < 26 by decide))
                    clear hA hV hO hJ hLi
                    go_step
                    refine ⟨_, rfl, ?_⟩
                    refine (congrArg (fun z => KJ 63 x y (nk13Val x y gl i k q) wk (mrkL L 22) (mrkV v 22 z) w1') (show _ = nk13Val x y gl i k q 22 from ?_)).mpr HJP.out
                    show Value.int .i64 _ = Value.int .i64 _
                    congr 1
                    try (first | rfl | omega | (push_cast; rfl))
                  case inr.inr.inr.inr.inr.inr.inr.inr.inr.inr.inr.inr.inr.inr.inr.inr.inr.inr.inr.inr.inr.inr.inr.inl =>
                    refine .inl ⟨by simp [Region.wanted], ?_⟩
                    have e19 : b'.tmps[69]?.getD undef = .slice (some ⟨gl, 0, none⟩) 8 8 := by
                      have h0 := hA ⟨19, .data⟩ (by simp) rfl
                      have h1 : b'.tmps.getD 69 undef = v 19 := hV 19 (by decide) h0 (by decide)
                      rw [hJ.vals 19 (by decide) h0] at h1
                      have h2 : b'.tmps.getD 69 undef = .slice (some ⟨gl, 0, none⟩) 8 8 := h1
                      simpa using h2
                    have e22 : b'.tmps[72]?.getD undef = .int .i64 (((i + 1) % 8) : Nat) := by
                      have h0 := hA ⟨22, .data⟩ (by simp) rfl
                      have h1 : b'.tmps.getD 72 undef = v 22 := hV 22 (by decide) h0 (by decide)
                      rw [hJ.vals 22 (by decide) h0] at h1
                      have h2 : b'.tmps.getD 72 undef = .int .i64 (((i + 1) % 8) : Nat) := h1
                      simpa using h2
                    have HJP := Lib.hid (hJ.put hLi (show 23 < 26 by decide))
                    clear hA hV hO hJ hLi
                    have hb1 : 0 ≤ ((i : Int) + 1) % 8 := Int.emod_nonneg _ (by decide)
                    have hb2 : ((i : Int) + 1) % 8 < 8 := Int.emod_lt_of_pos _ (by decide)
                    go_step
                    refine ⟨_, rfl, ?_⟩
                    refine (congrArg (fun z => KJ 63 x y (nk13Val x y gl i k q) wk (mrkL L 23) (mrkV v 23 z) w1') (show _ = nk13Val x y gl i k q 23 from ?_)).mpr HJP.out
                    rfl
                  case inr.inr.inr.inr.inr.inr.inr.inr.inr.inr.inr.inr.inr.inr.inr.inr.inr.inr.inr.inr.inr.inr.inr.inr.inl =>
                    refine .inl ⟨by simp [Region.wanted], ?_⟩
                    have e23 : b'.tmps[73]?.getD undef = .pointer (some ⟨gl, ((i + 1) % 8), none⟩) := by
                      have h0 := hA ⟨23, .data⟩ (by simp) rfl
                      have h1 : b'.tmps.getD 73 undef = v 23 := hV 23 (by decide) h0 (by decide)
                      rw [hJ.vals 23 (by decide) h0] at h1
                      have h2 : b'.tmps.getD 73 undef = .pointer (some ⟨gl, ((i + 1) % 8), none⟩) := h1
                      simpa using h2
                    have hc : w1'.cell? ⟨gl, ((i + 1) % 8), none⟩ = some (uw (ln ((i + 1) % 8))) := hJ.upd.cell (HLN.out ((i + 1) % 8) hm8) (Nat.not_le_of_lt HLW.out)
                    have HJP := Lib.hid (hJ.put hLi (show 24 < 26 by decide))
                    clear hA hV hO hJ hLi
                    go_step
                    refine ⟨_, rfl, ?_⟩
                    refine (congrArg (fun z => KJ 63 x y (nk13Val x y gl i k q) wk (mrkL L 24) (mrkV v 24 z) w1') (show _ = nk13Val x y gl i k q 24 from ?_)).mpr HJP.out
                    rfl
                  case inr.inr.inr.inr.inr.inr.inr.inr.inr.inr.inr.inr.inr.inr.inr.inr.inr.inr.inr.inr.inr.inr.inr.inr.inr.inl =>
                    refine .inl ⟨by simp [Region.wanted], ?_⟩
                    have e10 : b'.tmps[60]?.getD undef = .int .u8 (q : Int) := by
                      have h0 := hA ⟨10, .data⟩ (by simp) rfl
                      have h1 : b'.tmps.getD 60 undef = v 10 := hV 10 (by decide) h0 (by decide)
                      rw [hJ.vals 10 (by decide) h0] at h1
                      have h2 : b'.tmps.getD 60 undef = .int .u8 (q : Int) := h1
                      simpa using h2
                    have e14 : b'.tmps[64]?.getD undef = uw (ln k) := by
                      have h0 := hA ⟨14, .data⟩ (by simp) rfl
                      have h1 : b'.tmps.getD 64 undef = v 14 := hV 14 (by decide) h0 (by decide)
                      rw [hJ.vals 14 (by decide) h0] at h1
                      have h2 : b'.tmps.getD 64 undef = uw (ln k) := h1
                      simpa using h2
                    have e18 : b'.tmps[68]?.getD undef = uw (ln i) := by
                      have h0 := hA ⟨18, .data⟩ (by simp) rfl
                      have h1 : b'.tmps.getD 68 undef = v 18 := hV 18 (by decide) h0 (by decide)
                      rw [hJ.vals 18 (by decide) h0] at h1
                      have h2 : b'.tmps.getD 68 undef = uw (ln i) := h1
                      simpa using h2
                    have e24 : b'.tmps[74]?.getD undef = uw (ln ((i + 1) % 8)) := by
                      have h0 := hA ⟨24, .data⟩ (by simp) rfl
                      have h1 : b'.tmps.getD 74 undef = v 24 := hV 24 (by decide) h0 (by decide)
                      rw [hJ.vals 24 (by decide) h0] at h1
                      have h2 : b'.tmps.getD 74 undef = uw (ln ((i + 1) % 8)) := h1
                      simpa using h2
                    have HJP := Lib.hid (hJ.put hLi (show 25 < 26 by decide))
                    clear hA hV hO hJ hLi
                    go_step
                    refine ⟨_, rfl, ?_⟩
                    refine (congrArg (fun z => KJ 63 x y (nk13Val x y gl i k q) wk (mrkL L 25) (mrkV v 25 z) w1') (show _ = nk13Val x y gl i k q 25 from ?_)).mpr HJP.out
                    show Value.agg _ = .agg (nmCells y)
                    rw [HYE.out]; rfl
                  case inr.inr.inr.inr.inr.inr.inr.inr.inr.inr.inr.inr.inr.inr.inr.inr.inr.inr.inr.inr.inr.inr.inr.inr.inr.inr.inl =>
                    refine .inl ⟨by simp [Region.wanted], ?_⟩
                    have HJ := Lib.hid hJ
                    have hLi6 : L 28 = true → L 26 = true := hJ.l28
                    clear hA hV hO hJ
                    go_step
                    have hu : Ext w1' (w1'.alloc (.cells #[.int .u8 0, .int .u64 0, .int .u64 0, .int .u64 0, .int .u64 0, .int .u64 0] 63)) := (Upd.refl _ _).alloc _
                    refine ⟨_, rfl, ⟨HJ.out.upd.ext hu, vals_past HJ.out.vals (by decide), fun _ => ⟨w1'.heap.size, _, rfl, HJ.out.upd.size, newAt _ _, rfl, fun h6 => by rw [show L 26 = true from hLi6 h6] at hLi; cases hLi⟩, fun e => (HJ.out.c27 e).ext hu, fun _ h5 => ?_, fun _ => rfl, HJ.out.l29⟩⟩
                    obtain ⟨g, hg, hlt⟩ := (HJ.out.c27 h5).lt
                    intro e
                    rw [show mrkV v 26 (Value.pointer (some ⟨w1'.heap.size, 0, none⟩)) 27 = v 27 from rfl, hg] at e
                    have e : Value.pointer (some ⟨w1'.heap.size, 0, none⟩) = Value.pointer (some ⟨g, 0, none⟩) := e
                    cases e
                    omega
                  case inr.inr.inr.inr.inr.inr.inr.inr.inr.inr.inr.inr.inr.inr.inr.inr.inr.inr.inr.inr.inr.inr.inr.inr.inr.inr.inr.inl =>
                    refine .inl ⟨by simp [Region.wanted], ?_⟩
                    have HJ := Lib.hid hJ
                    have hLi6 : L 29 = true → L 27 = true := hJ.l29
                    clear hA hV hO hJ
                    go_step
                    have hu : Ext w1' (w1'.alloc (.cells #[.int .u8 0, .int .u64 0, .int .u64 0, .int .u64 0, .int .u64 0, .int .u64 0] 63)) := (Upd.refl _ _).alloc _
                    refine ⟨_, rfl, ⟨HJ.out.upd.ext hu, vals_past HJ.out.vals (by decide), fun e => (HJ.out.c26 e).ext hu, fun _ => ⟨w1'.heap.size, _, rfl, HJ.out.upd.size, newAt _ _, rfl, fun h6 => by rw [show L 27 = true from hLi6 h6] at hLi; cases hLi⟩, fun h4 _ => ?_, HJ.out.l28, fun _ => rfl⟩⟩
                    obtain ⟨g, hg, hlt⟩ := (HJ.out.c26 h4).lt
                    intro e
                    rw [show mrkV v 27 (Value.pointer (some ⟨w1'.heap.size, 0, none⟩)) 26 = v 26 from rfl, hg] at e
                    have e : Value.pointer (some ⟨g, 0, none⟩) = Value.pointer (some ⟨w1'.heap.size, 0, none⟩) := e
                    cases e
                    omega
                  case inr.inr.inr.inr.inr.inr.inr.inr.inr.inr.inr.inr.inr.inr.inr.inr.inr.inr.inr.inr.inr.inr.inr.inr.inr.inr.inr.inr.inl =>
                    refine .inl ⟨by simp [Region.wanted], ?_⟩
                    have h4 : L 26 = true := hA ⟨26, .data⟩ (by simp) rfl
                    have h1 : L 9 = true := hA ⟨9, .data⟩ (by simp) rfl
                    have e4 : b'.tmps.getD 5 undef = v 26 := hV 26 (by decide) h4 (by decide)
                    have e1 : b'.tmps.getD 59 undef = v 9 := hV 9 (by decide) h1 (by decide)
                    rw [hJ.vals 9 (by decide) h1] at e1
                    have hbx := hJ.c26 h4
                    obtain ⟨g, cs, hg, hn, hh, hc, -⟩ := id hbx
                    refine wp_store_row 63 (.tmp 5) (.tmp 59) rfl g (nmCells x) (by rw [← hg, ← e4]; simp [Act.eval]) (by have e1 : b'.tmps.getD 59 undef = .agg (nmCells x) := e1; simpa [Act.eval] using e1) _ _ hh Tryz.vnm6 hc (nmCells_one _)
                      ⟨undef, put_past (by show b'.tmps.size ≤ 1028; rw [HSZ.out]; decide), ?_⟩
                    exact ⟨hJ.upd.step (Upd.row w1' g _) (fun i hi e => by cases e; exact hn), vals_past hJ.vals (by decide), fun _ => hbx.self hg, fun h5 => hbx.set (hJ.c27 h5) (hJ.ne h4 h5) hg, hJ.ne, fun _ => h4, hJ.l29⟩
                  case inr.inr.inr.inr.inr.inr.inr.inr.inr.inr.inr.inr.inr.inr.inr.inr.inr.inr.inr.inr.inr.inr.inr.inr.inr.inr.inr.inr.inr =>
                    refine .inl ⟨by simp [Region.wanted], ?_⟩
                    have h4 : L 27 = true := hA ⟨27, .data⟩ (by simp) rfl
                    have h1 : L 25 = true := hA ⟨25, .data⟩ (by simp) rfl
                    have e4 : b'.tmps.getD 6 undef = v 27 := hV 27 (by decide) h4 (by decide)
                    have e1 : b'.tmps.getD 75 undef = v 25 := hV 25 (by decide) h1 (by decide)
                    rw [hJ.vals 25 (by decide) h1] at e1
                    have hbx := hJ.c27 h4
                    obtain ⟨g, cs, hg, hn, hh, hc, -⟩ := id hbx
                    refine wp_store_row 63 (.tmp 6) (.tmp 75) rfl g (nmCells y) (by rw [← hg, ← e4]; simp [Act.eval]) (by have e1 : b'.tmps.getD 75 undef = .agg (nmCells y) := e1; simpa [Act.eval] using e1) _ _ hh Tryz.vnm6 hc (nmCells_one _)
                      ⟨undef, put_past (by show b'.tmps.size ≤ 1029; rw [HSZ.out]; decide), ?_⟩
                    exact ⟨hJ.upd.step (Upd.row w1' g _) (fun i hi e => by cases e; exact hn), vals_past hJ.vals (by decide), fun h4' => hbx.set (hJ.c26 h4') (fun e => hJ.ne h4' h4 e.symm) hg, fun _ => hbx.self hg, hJ.ne, hJ.l28, fun _ => h4⟩
                · intro L v w1' hL hJ
                  have hall : L 26 = true ∧ L 27 = true ∧ L 28 = true ∧ L 29 = true := ⟨hL 26 (by decide), hL 27 (by decide), hL 28 (by decide), hL 29 (by decide)⟩
                  obtain ⟨hl4, hl5, hl6, hl7⟩ := hall
                  obtain ⟨g5, cs5, hv5, hn5, hh5, -, hc5⟩ := hJ.c26 hl4
                  obtain ⟨g6, cs6, hv6, hn6, hh6, -, hc6⟩ := hJ.c27 hl5
                  rw [hc5 hl6] at hh5
                  rw [hc6 hl7] at hh6
                  have hxw : Ext w0 w1' := HXQ.out.step hJ.upd (fun j hj e => by have := HXQ.out.size; unfold From at e; omega)
                  have HG5 := Lib.hid hh5
                  have HG6 := Lib.hid hh6
                  have HXZ := Lib.hid hxw
                  have HEE := Lib.hid (HE.out.ext hxw)
                  have HLN1 := Lib.hid (show ∀ j, j < 8 → w1'.cell? ⟨gl, j, none⟩ = some (uw (ln j)) from fun j hj => hJ.upd.cell (HLN.out j hj) (Nat.not_le_of_lt HLW.out))
                  clear hL hJ hl4 hl5 hl6 hl7 hn5 hn6 hh5 hh6 hc5 hc6 hxw HLN
                  have HLN := HLN1
                  clear HLN1
                  simp only [List.size_toArray, List.length_cons, List.length_nil, Nat.reduceAdd, fillAll, nk13Dst]
                  rw [hv5, hv6]
                  clear hv5 hv6
                  go_simp
                  go_upto_region 14 with (fail)
                  refine wp_region_invH Nothing (fun _ => Ext) 1000 nk14Dst (nk14Phi x y z gl g5 g6 i q) 142 (by kernel_rfl) (by decide) (by decide) rfl (fun i hi => .inl ((by decide : ∀ i, i < 22 → nk14Dst i < 142) i hi)) (fun i w w' h => ⟨h, fun _ => h⟩) (fun i j v w w' _ _ _ _ h hu => h.ext hu) ?_ ?_
                  · intro i o b' w1' ho hx1' hd hk hE hSZ
                    have hi : i < 22 := (Array.getElem?_eq_some_iff.1 ho).1
                    have his : i = 0 ∨ i = 1 ∨ i = 2 ∨ i = 3 ∨ i = 4 ∨ i = 5 ∨ i = 6 ∨ i = 7 ∨ i = 8 ∨ i = 9 ∨ i = 10 ∨ i = 11 ∨ i = 12 ∨ i = 13 ∨ i = 14 ∨ i = 15 ∨ i = 16 ∨ i = 17 ∨ i = 18 ∨ i = 19 ∨ i = 20 ∨ i = 21 := by omega
                    clear hE hSZ
                    have HW1 := Lib.hid hx1'
                    clear hx1'
                    rcases his with rfl | rfl | rfl | rfl | rfl | rfl | rfl | rfl | rfl | rfl | rfl | rfl | rfl | rfl | rfl | rfl | rfl | rfl | rfl | rfl | rfl | rfl
                    all_goals (simp at ho; subst ho)
                    case inl =>
                      refine .inl ⟨by simp [Region.wanted], ?_⟩
                      have o5 : b'.eval (.tmp 5) = .pointer (some ⟨g5, 0, none⟩) := by
                        have := hk 5 (fun j oj _ e => (nk14Dst_ne (by decide) e).elim)
                        simpa [Act.eval] using this
                      have hg1 := HW1.out.at_ HG5.out id
                      exact wp_load_mid (w := w1') 63 (.tmp 5) rfl g5 0 o5 (nmCells x).toList _ (fun j u hj => by have := cellAt hg1 j u (by simpa using hj); simpa using this) Tryz.underlying63 rfl (by kernel_rfl) ⟨_, rfl, rfl, Upd.refl _ _⟩
                    case inr.inl =>
                      refine .inl ⟨by simp [Region.wanted], ?_⟩
                      have o6 : b'.eval (.tmp 6) = .pointer (some ⟨g6, 0, none⟩) := by
                        have := hk 6 (fun j oj _ e => (nk14Dst_ne (by decide) e).elim)
                        simpa [Act.eval] using this
                      have hg1 := HW1.out.at_ HG6.out id
                      exact wp_load_mid (w := w1') 63 (.tmp 6) rfl g6 0 o6 (nmCells y).toList _ (fun j u hj => by have := cellAt hg1 j u (by simpa using hj); simpa using this) Tryz.underlying63 rfl (by kernel_rfl) ⟨_, rfl, rfl, Upd.refl _ _⟩
                    case inr.inr.inl =>
                      refine .inl ⟨by simp [Region.wanted], ?_⟩
                      have e0 : b'.tmps[76]?.getD undef = .agg (nmCells x) := by have := (show b'.tmps.getD 76 undef = .agg (nmCells x) from hd ⟨0, .data⟩ (by simp) rfl); simpa using this
                      have e1 : b'.tmps[77]?.getD undef = .agg (nmCells y) := by have := (show b'.tmps.getD 77 undef = .agg (nmCells y) from hd ⟨1, .data⟩ (by simp) rfl); simpa using this
                      clear hd hk
                      go_step
                      refine (namePuts_any w1' x y HWX.out HWY.out (HEE.out.ext HW1.out)).mono ?_
                      rintro e w2 ⟨rfl, hu⟩
                      exact ⟨_, rfl, rfl, hu⟩
                    case inr.inr.inr.inl =>
                      refine .inl ⟨by simp [Region.wanted], ?_⟩
                      have e2 : b'.tmps[78]?.getD undef = .bool true := by have := (show b'.tmps.getD 78 undef = .bool true from hd ⟨2, .data⟩ (by simp) rfl); simpa using this
                      clear hd hk
                      go_step
                      exact ⟨_, rfl, rfl, Upd.refl _ _⟩
                    case inr.inr.inr.inr.inl =>
                      refine .inl ⟨by simp [Region.wanted], ?_⟩
                      have e3 : b'.tmps[79]?.getD undef = .bool false := by have := (show b'.tmps.getD 79 undef = .bool false from hd ⟨3, .data⟩ (by simp) rfl); simpa using this
                      clear hd hk
                      go_step
                      exact ⟨_, rfl, rfl, Upd.refl _ _⟩
                    case inr.inr.inr.inr.inr.inl =>
                      refine .inl ⟨by
                        have := tmp_some (show b'.tmps.getD 80 undef = .bool false from hd ⟨4, .guard⟩ (by simp) rfl)
                        simp [Region.wanted, yielded, this], ?_⟩
                      have o6 : b'.eval (.tmp 6) = .pointer (some ⟨g6, 0, none⟩) := by
                        have := hk 6 (fun j oj _ e => (nk14Dst_ne (by decide) e).elim)
                        simpa [Act.eval] using this
                      have hg1 := HW1.out.at_ HG6.out id
                      exact wp_load_mid (w := w1') 63 (.tmp 6) rfl g6 0 o6 (nmCells y).toList _ (fun j u hj => by have := cellAt hg1 j u (by simpa using hj); simpa using this) Tryz.underlying63 rfl (by kernel_rfl) ⟨_, rfl, rfl, Upd.refl _ _⟩
                    case inr.inr.inr.inr.inr.inr.inl =>
                      refine .inl ⟨by
                        have := tmp_some (show b'.tmps.getD 80 undef = .bool false from hd ⟨4, .guard⟩ (by simp) rfl)
                        simp [Region.wanted, yielded, this], ?_⟩
                      have o4 : b'.tmps[4]?.getD undef = .int .u8 (q : Int) := by
                        have := hk 4 (fun j oj _ e => (nk14Dst_ne (by decide) e).elim)
                        simpa using this
                      clear hd hk
                      go_step
                      exact ⟨_, rfl, rfl, Upd.refl _ _⟩
                    case inr.inr.inr.inr.inr.inr.inr.inl =>
                      refine .inl ⟨by
                        have := tmp_some (show b'.tmps.getD 80 undef = .bool false from hd ⟨4, .guard⟩ (by simp) rfl)
                        simp [Region.wanted, yielded, this], ?_⟩
                      have e6 : b'.tmps[82]?.getD undef = .int .u8 (q : Int) := by have := (show b'.tmps.getD 82 undef = .int .u8 (q : Int) from hd ⟨6, .data⟩ (by simp) rfl); simpa using this
                      clear hd hk
                      go_step
                      refine ⟨_, rfl, ?_, Upd.refl _ _⟩
                      show Value.int .u8 _ = Value.int .u8 _
                      congr 1
                      try (first | rfl | omega)
                    case inr.inr.inr.inr.inr.inr.inr.inr.inl =>
                      refine .inl ⟨by
                        have := tmp_some (show b'.tmps.getD 80 undef = .bool false from hd ⟨4, .guard⟩ (by simp) rfl)
                        simp [Region.wanted, yielded, this], ?_⟩
                      have o1 : b'.tmps[1]?.getD undef = .slice (some ⟨gl, 0, none⟩) 8 8 := by
                        have := hk 1 (fun j oj _ e => (nk14Dst_ne (by decide) e).elim)
                        simpa using this
                      clear hd hk
                      go_step
                      exact ⟨_, rfl, rfl, Upd.refl _ _⟩
                    case inr.inr.inr.inr.inr.inr.inr.inr.inr.inl =>
                      refine .inl ⟨by
                        have := tmp_some (show b'.tmps.getD 80 undef = .bool false from hd ⟨4, .guard⟩ (by simp) rfl)
                        simp [Region.wanted, yielded, this], ?_⟩
                      have o2 : b'.tmps[2]?.getD undef = .int .i64 (i : Int) := by
                        have := hk 2 (fun j oj _ e => (nk14Dst_ne (by decide) e).elim)
                        simpa using this
                      clear hd hk
                      go_step
                      exact ⟨_, rfl, rfl, Upd.refl _ _⟩
                    case inr.inr.inr.inr.inr.inr.inr.inr.inr.inr.inl =>
                      refine .inl ⟨by
                        have := tmp_some (show b'.tmps.getD 80 undef = .bool false from hd ⟨4, .guard⟩ (by simp) rfl)
                        simp [Region.wanted, yielded, this], ?_⟩
                      have e8 : b'.tmps[84]?.getD undef = .slice (some ⟨gl, 0, none⟩) 8 8 := by have := (show b'.tmps.getD 84 undef = .slice (some ⟨gl, 0, none⟩) 8 8 from hd ⟨8, .data⟩ (by simp) rfl); simpa using this
                      have e9 : b'.tmps[85]?.getD undef = .int .i64 (i : Int) := by have := (show b'.tmps.getD 85 undef = .int .i64 (i : Int) from hd ⟨9, .data⟩ (by simp) rfl); simpa using this
                      clear hd hk
                      go_step
                      exact ⟨_, rfl, rfl, Upd.refl _ _⟩
                    case inr.inr.inr.inr.inr.inr.inr.inr.inr.inr.inr.inl =>
                      refine .inl ⟨by
                        have := tmp_some (show b'.tmps.getD 80 undef = .bool false from hd ⟨4, .guard⟩ (by simp) rfl)
                        simp [Region.wanted, yielded, this], ?_⟩
                      have e10 : b'.tmps[86]?.getD undef = .pointer (some ⟨gl, i, none⟩) := by have := (show b'.tmps.getD 86 undef = .pointer (some ⟨gl, i, none⟩) from hd ⟨10, .data⟩ (by simp) rfl); simpa using this
                      clear hd hk
                      have hc := HW1.out.cell (HLN.out i hi8) id
                      go_step
                      exact ⟨_, rfl, rfl, Upd.refl _ _⟩
                    case inr.inr.inr.inr.inr.inr.inr.inr.inr.inr.inr.inr.inl =>
                      refine .inl ⟨by
                        have := tmp_some (show b'.tmps.getD 80 undef = .bool false from hd ⟨4, .guard⟩ (by simp) rfl)
                        simp [Region.wanted, yielded, this], ?_⟩
                      have e7 : b'.tmps[83]?.getD undef = .int .u8 ((6 - q : Nat) : Int) := by have := (show b'.tmps.getD 83 undef = .int .u8 ((6 - q : Nat) : Int) from hd ⟨7, .data⟩ (by simp) rfl); simpa using this
                      have e11 : b'.tmps[87]?.getD undef = uw (ln i) := by have := (show b'.tmps.getD 87 undef = uw (ln i) from hd ⟨11, .data⟩ (by simp) rfl); simpa using this
                      clear hd hk
                      go_step
                      exact ⟨_, rfl, (show Value.agg _ = .agg (nmCells z) from by rw [HZ.out]; rfl), Upd.refl _ _⟩
                    case inr.inr.inr.inr.inr.inr.inr.inr.inr.inr.inr.inr.inr.inl =>
                      refine .inl ⟨by
                        have := tmp_some (show b'.tmps.getD 80 undef = .bool false from hd ⟨4, .guard⟩ (by simp) rfl)
                        simp [Region.wanted, yielded, this], ?_⟩
                      have e5 : b'.tmps[81]?.getD undef = .agg (nmCells y) := by have := (show b'.tmps.getD 81 undef = .agg (nmCells y) from hd ⟨5, .data⟩ (by simp) rfl); simpa using this
                      have e12 : b'.tmps[88]?.getD undef = .agg (nmCells z) := by have := (show b'.tmps.getD 88 undef = .agg (nmCells z) from hd ⟨12, .data⟩ (by simp) rfl); simpa using this
                      clear hd hk
                      go_step
                      refine (namePuts_any w1' y z HWY.out HWZ.out (HEE.out.ext HW1.out)).mono ?_
                      rintro e w2 ⟨rfl, hu⟩
                      exact ⟨_, rfl, rfl, hu⟩
                    case inr.inr.inr.inr.inr.inr.inr.inr.inr.inr.inr.inr.inr.inr.inl =>
                      refine .inl ⟨by
                        have := tmp_some (show b'.tmps.getD 80 undef = .bool false from hd ⟨4, .guard⟩ (by simp) rfl)
                        simp [Region.wanted, yielded, this], ?_⟩
                      have e13 : b'.tmps[89]?.getD undef = .bool true := by have := (show b'.tmps.getD 89 undef = .bool true from hd ⟨13, .data⟩ (by simp) rfl); simpa using this
                      clear hd hk
                      go_step
                      exact ⟨_, rfl, rfl, Upd.refl _ _⟩
                    case inr.inr.inr.inr.inr.inr.inr.inr.inr.inr.inr.inr.inr.inr.inr.inl =>
                      refine .inl ⟨by simp [Region.wanted], ?_⟩
                      have e4 : b'.tmps[80]?.getD undef = .bool false := by have := (show b'.tmps.getD 80 undef = .bool false from hd ⟨4, .data⟩ (by simp) rfl); simpa using this
                      have e14 : b'.tmps[90]?.getD undef = .bool false := by have := (show b'.tmps.getD 90 undef = .bool false from hd ⟨14, .data⟩ (by simp) rfl); simpa using this
                      clear hd hk
                      go_step
                      exact ⟨_, rfl, rfl, Upd.refl _ _⟩
                    case inr.inr.inr.inr.inr.inr.inr.inr.inr.inr.inr.inr.inr.inr.inr.inr.inl =>
                      refine .inl ⟨by simp [Region.wanted], ?_⟩
                      have e15 : b'.tmps[91]?.getD undef = .bool false := by have := (show b'.tmps.getD 91 undef = .bool false from hd ⟨15, .data⟩ (by simp) rfl); simpa using this
                      clear hd hk
                      go_step
                      exact ⟨_, rfl, rfl, Upd.refl _ _⟩
                    case inr.inr.inr.inr.inr.inr.inr.inr.inr.inr.inr.inr.inr.inr.inr.inr.inr.inl =>
                      refine .inl ⟨by
                        have := tmp_some (show b'.tmps.getD 92 undef = .bool false from hd ⟨16, .guard⟩ (by simp) rfl)
                        simp [Region.wanted, yielded, this], ?_⟩
                      have o5 : b'.eval (.tmp 5) = .pointer (some ⟨g5, 0, none⟩) := by
                        have := hk 5 (fun j oj _ e => (nk14Dst_ne (by decide) e).elim)
                        simpa [Act.eval] using this
                      have hg1 := HW1.out.at_ HG5.out id
                      exact wp_load_mid (w := w1') 63 (.tmp 5) rfl g5 0 o5 (nmCells x).toList _ (fun j u hj => by have := cellAt hg1 j u (by simpa using hj); simpa using this) Tryz.underlying63 rfl (by kernel_rfl) ⟨_, rfl, rfl, Upd.refl _ _⟩
                    case inr.inr.inr.inr.inr.inr.inr.inr.inr.inr.inr.inr.inr.inr.inr.inr.inr.inr.inl =>
                      refine .inl ⟨by
                        have := tmp_some (show b'.tmps.getD 92 undef = .bool false from hd ⟨16, .guard⟩ (by simp) rfl)
                        simp [Region.wanted, yielded, this], ?_⟩
                      have o6 : b'.eval (.tmp 6) = .pointer (some ⟨g6, 0, none⟩) := by
                        have := hk 6 (fun j oj _ e => (nk14Dst_ne (by decide) e).elim)
                        simpa [Act.eval] using this
                      have hg1 := HW1.out.at_ HG6.out id
                      exact wp_load_mid (w := w1') 63 (.tmp 6) rfl g6 0 o6 (nmCells y).toList _ (fun j u hj => by have := cellAt hg1 j u (by simpa using hj); simpa using this) Tryz.underlying63 rfl (by kernel_rfl) ⟨_, rfl, rfl, Upd.refl _ _⟩
                    case inr.inr.inr.inr.inr.inr.inr.inr.inr.inr.inr.inr.inr.inr.inr.inr.inr.inr.inr.inl =>
                      refine .inl ⟨by
                        have := tmp_some (show b'.tmps.getD 92 undef = .bool false from hd ⟨16, .guard⟩ (by simp) rfl)
                        simp [Region.wanted, yielded, this], ?_⟩
                      have e17 : b'.tmps[93]?.getD undef = .agg (nmCells x) := by have := (show b'.tmps.getD 93 undef = .agg (nmCells x) from hd ⟨17, .data⟩ (by simp) rfl); simpa using this
                      have e18 : b'.tmps[94]?.getD undef = .agg (nmCells y) := by have := (show b'.tmps.getD 94 undef = .agg (nmCells y) from hd ⟨18, .data⟩ (by simp) rfl); simpa using this
                      clear hd hk
                      go_step
                      refine (nameBack_any w1' x y [115, 45, 49, 45, 50] HWX.out HWY.out (HEE.out.ext HW1.out)).mono ?_
                      rintro e w2 ⟨rfl, hu⟩
                      exact ⟨_, rfl, rfl, hu⟩
                    case inr.inr.inr.inr.inr.inr.inr.inr.inr.inr.inr.inr.inr.inr.inr.inr.inr.inr.inr.inr.inl =>
                      refine .inl ⟨by
                        have := tmp_some (show b'.tmps.getD 92 undef = .bool false from hd ⟨16, .guard⟩ (by simp) rfl)
                        simp [Region.wanted, yielded, this], ?_⟩
                      have e19 : b'.tmps[95]?.getD undef = .bool true := by have := (show b'.tmps.getD 95 undef = .bool true from hd ⟨19, .data⟩ (by simp) rfl); simpa using this
                      clear hd hk
                      go_step
                      exact ⟨_, rfl, rfl, Upd.refl _ _⟩
                    case inr.inr.inr.inr.inr.inr.inr.inr.inr.inr.inr.inr.inr.inr.inr.inr.inr.inr.inr.inr.inr =>
                      refine .inl ⟨by simp [Region.wanted], ?_⟩
                      have e16 : b'.tmps[92]?.getD undef = .bool false := by have := (show b'.tmps.getD 92 undef = .bool false from hd ⟨16, .data⟩ (by simp) rfl); simpa using this
                      have e20 : b'.tmps[96]?.getD undef = .bool false := by have := (show b'.tmps.getD 96 undef = .bool false from hd ⟨20, .data⟩ (by simp) rfl); simpa using this
                      clear hd hk
                      go_step
                      exact ⟨_, rfl, rfl, Upd.refl _ _⟩
                  · intro v' w1' hx1' hp
                    have h21 : v' 21 = .bool false := hp 21 (by decide)
                    have HX9 := Lib.hid (HXZ.out.trans hx1')
                    clear hp hx1'
                    simp only [List.size_toArray, List.length_cons, List.length_nil, Nat.reduceAdd, fillAll, nk14Dst]
                    go_simp
                    go_wp2
                    go_roundw
                    case rel => exact ⟨q + 1, by omega, by go_num, HX9.out⟩
                    case measure => simp [intOf]; omega
              · have HXR := Lib.hid hx
                clear hx
                go_wp2
                go_roundw
                case rel => exact ⟨k + 1, by omega, by go_num, HXR.out⟩
                case measure => simp [intOf]; omega
        · have HXR := Lib.hid hx
          clear hx
          go_wp2
          go_roundw
          case rel => exact ⟨i + 1, by omega, by go_num, HXR.out⟩
          case measure => simp [intOf]; omega
    · have hxt : Ext wr (wr.alloc (.cells (strs txs).toArray 9)) := (Upd.refl _ _).alloc _
      have hrow : Texts (At wr.heap.size) (wr.alloc (.cells (strs txs).toArray 9)) (.slice (some ⟨wr.heap.size, 0, none⟩) 29 29) txs := row_new wr (strs txs).toArray 9 29 _ (by decide) rfl
      have hbt := newAt wr (.cells (strs txs).toArray 9)
      obtain ⟨wt, hwt⟩ : ∃ u, u = wr.alloc (.cells (strs txs).toArray 9) := ⟨_, rfl⟩
      obtain ⟨gt, hgt⟩ : ∃ u, u = wr.heap.size := ⟨_, rfl⟩
      rw [← hwt] at hrow hxt hbt
      rw [← hgt] at hrow hbt
      have HXT := Lib.hid (hx.trans hxt)
      have HBT := Lib.hid hbt
      have HWT := Lib.hid hwt
      have HGT := Lib.hid hgt
      clear hx hxt hrow hwt hgt hbt
      go_upto_region 17 with (fail)
      rw [show wr.alloc (.cells #[.string ⟨#[]⟩, .string ⟨#[115]⟩, .string ⟨#[115, 45]⟩, .string ⟨#[115, 45, 49]⟩, .string ⟨#[115, 45, 49, 45, 50]⟩, .string ⟨#[115, 45, 49, 45, 50, 45, 51]⟩, .string ⟨#[115, 45, 48, 49, 45, 50]⟩, .string ⟨#[115, 45, 49, 45, 48, 50]⟩, .string ⟨#[115, 45, 45, 49]⟩, .string ⟨#[115, 45, 49, 45]⟩, .string ⟨#[115, 45, 32, 49, 45, 50]⟩, .string ⟨#[83, 45, 49, 45, 50]⟩, .string ⟨#[98, 45, 48, 45, 48]⟩, .string ⟨#[98, 45, 49, 56, 52, 52, 54, 55, 52, 52, 48, 55, 51, 55, 48, 57, 53, 53, 49, 54, 49, 53, 45, 49]⟩, .string ⟨#[98, 45, 49, 56, 52, 52, 54, 55, 52, 52, 48, 55, 51, 55, 48, 57, 53, 53, 49, 54, 49, 54, 45, 49]⟩, .string ⟨#[98, 45, 49, 45, 57, 57, 57, 57, 57, 57, 57, 57, 57, 57, 57, 57, 57, 57, 57, 57, 57, 57, 57, 57]⟩, .string ⟨#[98, 45, 49, 45, 49, 48, 48, 48, 48, 48, 48, 48, 48, 48, 48, 48, 48, 48, 48, 48, 48, 48, 48, 48, 48]⟩, .string ⟨#[116, 45, 49, 45, 50]⟩, .string ⟨#[116, 45, 49, 45, 50, 45, 51]⟩, .string ⟨#[116, 45, 49, 45, 50, 45, 51, 45, 52]⟩, .string ⟨#[106, 45, 49, 45, 50, 45, 51]⟩, .string ⟨#[106, 45, 49, 45, 50, 45, 51, 45, 52]⟩, .string ⟨#[106, 45, 49, 45, 50, 45, 51, 45, 52, 45, 53]⟩, .string ⟨#[120, 45, 49, 45, 50]⟩, .string ⟨#[45, 49, 45, 50]⟩, .string ⟨#[115, 45, 49, 45, 50, 0]⟩, .string ⟨#[115, 45, 49, 45, 97]⟩, .string ⟨#[115, 45, 49, 45, 50, 10]⟩, .string ⟨#[115, 45, 43, 49, 45, 50]⟩] 9) = wt from by rw [HWT.out]; rfl, show wr.heap.size = gt from HGT.out.symm]
      go_wp2
      go_loopw [8] (fun t wr => ∃ i : Nat, i ≤ 29 ∧ t = .int .i64 (i : Int) ∧ Ext wt wr) (fun t _ => 29 - (intOf t).toNat)
      case atStart => exact ⟨0, by omega, rfl, Upd.refl _ _⟩
      case round =>
        obtain ⟨i, hi, rfl, hx⟩ := hrel
        have HXI := Lib.hid hx
        by_cases hi29 : i < 29
        · have hil : i < txs.length := hi29
          have hi29' : (i : Int) < 29 := by omega
          have hbt := hx.at_ HBT.out id
          have hc : wr.cell? ⟨gt, i, none⟩ = some (str txs[i]) := cellAt hbt i _ (by simp [hil])
          have htd : Texts (fun _ => True) wr (.slice (some ⟨gt, i, none⟩) (29 - i) (29 - i)) (txs.drop i) := by
            refine ⟨some ⟨gt, i, none⟩, 29 - i, by rw [List.length_drop]; rfl, by rw [List.length_drop]; exact Nat.le_refl _, by unfold maxLen; omega, fun e => (by cases e), fun x e _ => (by cases e; exact ⟨rfl, trivial⟩), fun b o e j u hj => ?_⟩
            cases e
            refine cellAt hbt (i + j) u ?_
            rw [List.getElem?_map, List.getElem?_drop] at hj
            simpa using hj
          obtain ⟨s, hs⟩ : ∃ s, s = txs[i] := ⟨_, rfl⟩
          rw [← hs] at hc
          have hsl : s.length ≤ 30 := by rw [hs]; exact (by decide : ∀ t ∈ txs, t.length ≤ 30) _ (List.getElem_mem hil)
          have hyc : ¬ 9223372036854775807 < s.length + 1 := by omega
          have HTC := Lib.hid hc
          have HTD := Lib.hid htd
          have HEE := Lib.hid (HE.out.ext (HXT.out.trans hx))
          clear hx hil hbt htd hs
          go_wp2_with (go_at_call 32; fail)
          refine (nameReads_any _ s HEE.out).mono ?_
          rintro e w1 ⟨rfl, hu⟩
          have HU1 := Lib.hid hu
          have hc1 := hu.cell HTC.out id
          clear hc hu
          go_wp2_with (go_at_call 32; fail)
          refine (nameReads_any _ (s ++ [48]) (HEE.out.ext HU1.out)).mono ?_
          rintro e w2 ⟨rfl, hu⟩
          have HU2 := Lib.hid (HU1.out.trans hu)
          have hc2 := hu.cell hc1 id
          clear hc1 hu
          go_wp2_with (go_at_call 5; fail)
          refine (nameSorts_any _ _ (txs.drop i) (HTD.out.ext HU2.out) (HEE.out.ext HU2.out)).mono ?_
          rintro e w3 ⟨rfl, hu⟩
          have HU3 := Lib.hid (HU2.out.trans hu)
          have hc3 := hu.cell hc2 id
          clear hc2 hu
          go_wp2_with (go_at_call 31; fail)
          refine (nameBack_any _ Nm.zero Nm.zero s wf_zero wf_zero (HEE.out.ext HU3.out)).mono ?_
          rintro e w4 ⟨rfl, hu⟩
          have HX8 := Lib.hid (HXI.out.trans (HU3.out.trans hu))
          clear hc3 hu
          go_wp2
          go_roundw
          case rel => exact ⟨i + 1, by omega, by go_num, HX8.out⟩
          case measure => simp [intOf]; omega
        · have HXR := Lib.hid (HXT.out.trans hx)
          clear hx
          have hrow6 : Texts (At wr.heap.size) (wr.alloc (.cells (strs sixT).toArray 9)) (.slice (some ⟨wr.heap.size, 0, none⟩) 6 6) sixT := row_new wr (strs sixT).toArray 9 6 _ (by decide) rfl
          have HR6 := Lib.hid hrow6
          clear hrow6
          go_wp2_with (go_at_call 5; fail)
          have hx6 : Ext w0 (wr.alloc (.cells (strs sixT).toArray 9)) := HXR.out.trans ((Upd.refl _ _).alloc _)
          refine (nameSorts_any _ _ sixT HR6.out (HE.out.ext hx6)).mono ?_
          rintro e w7 ⟨rfl, hx7⟩
          have HX7 := Lib.hid (hx6.trans hx7)
          clear hx6 hx7
          go_wp2_with (go_at_call 25; fail)
          refine (works_any _ (HE.out.ext HX7.out)).mono ?_
          rintro e w9 ⟨rfl, hx9⟩
          have HX9 := Lib.hid (HX0.out.trans (HX7.out.trans hx9))
          clear hx9
          go_wp2
          go_ret
          exact ⟨rfl, HX9.out⟩
end Go.Proofs.YtfniemagbapeaaaGreatDoor
