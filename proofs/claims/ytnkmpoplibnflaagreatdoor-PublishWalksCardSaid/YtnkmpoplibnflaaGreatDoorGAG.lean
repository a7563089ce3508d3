/-
  Numbers as bytes, plain; the reference's groups, Put, Text.
  Numbers and texts, read: plain.
  The reference's All.
  varint.Take, TakeText.
-/
import Derived.Test.YtnkmpoplibnflaaGreatDoorGAF
import Derived.Lib.AppendStr
import Derived.WalkMore
set_option maxRecDepth 100000
set_option maxHeartbeats 16000000
namespace Go.Proofs.YtnkmpoplibnflaaGreatDoor.Wk
open Go.Proofs.YtnkmpoplibnflaaGreatDoor Go.RowKit
def vput (n : Nat) : List UInt8 := if h : n < 128 then [UInt8.ofNat n] else UInt8.ofNat (n % 128 + 128) :: vput (n / 128)
termination_by n
decreasing_by omega
theorem vput_small {n : Nat} (h : n < 128) : vput n = [UInt8.ofNat n] := by rw [vput, dif_pos h]
theorem vput_big {n : Nat} (h : ¬ n < 128) : vput n = UInt8.ofNat (n % 128 + 128) :: vput (n / 128) := by rw [vput, dif_neg h]
theorem vput_ne (n : Nat) : vput n ≠ [] := by
 by_cases h : n < 128
 ·rw [vput_small h]; simp
 ·rw [vput_big h]; simp
def vtake (i n : Nat) : List UInt8 -> Nat × Nat × Nat
 | [] => (0, 0, 1)
 | c :: l => if (i = 9 /\ 1 < c.toNat) \/ (c.toNat = 0 /\ 0 < i) then (0, 0, 2)
  else if c.toNat < 128 then (n + c.toNat * 128 ^ i, i + 1, 0) else vtake (i + 1) (n + (c.toNat - 128) * 128 ^ i) l
theorem ofNat_toNat {n : Nat} (h : n < 256) : (UInt8.ofNat n).toNat = n := by rw [UInt8.toNat_ofNat', Nat.mod_eq_of_lt h]
theorem vtake_vput (r : List UInt8) : ∀ (m i n : Nat), (i = 0 \/ 0 < m) -> m * 128 ^ i < 2 ^ 64 -> vtake i n (vput m ++ r) = (n + m * 128 ^ i, i + (vput m).length, 0) := by
 intro m
 induction m using Nat.strongRecOn with
 | _ m ih =>
  intro i n h0 hm
  have hi : i <= 9 := by
   rcases h0 with rfl | h0
   ·omega
   ·rcases Nat.lt_or_ge 9 i with h | h
    ·exfalso
     have : 128 ^ 10 <= 128 ^ i := Nat.pow_le_pow_right (by decide) h
     have h2 : 128 ^ i <= m * 128 ^ i := Nat.le_mul_of_pos_left _ h0
     have : (2 : Nat) ^ 64 < 128 ^ 10 := by decide
     omega
    ·exact h
  have h9 : i = 9 -> m <= 1 := fun e => by
   subst e
   rcases Nat.lt_or_ge 1 m with h | h
   ·exfalso
    have h2 : 2 * 128 ^ 9 <= m * 128 ^ 9 := Nat.mul_le_mul_right _ h
    have : (2 : Nat) ^ 64 <= 2 * 128 ^ 9 := by decide
    omega
   ·exact h
  by_cases h : m < 128
  ·rw [vput_small h, List.singleton_append, vtake, ofNat_toNat (by omega), if_neg, if_pos h]
   ·simp
   ·rintro (⟨a, b⟩ | ⟨a, b⟩)
    ·have := h9 a; omega
    ·omega
  ·rw [vput_big h, List.cons_append, vtake, ofNat_toNat (by omega), if_neg, if_neg (by omega), ih (m / 128) (by omega) (i + 1) _ (.inr (by omega))]
   ·have e : m = m % 128 + 128 * (m / 128) := by omega
    have : n + (m % 128 + 128 - 128) * 128 ^ i + m / 128 * 128 ^ (i + 1) = n + m * 128 ^ i := by
     rw [Nat.add_sub_cancel, Nat.pow_succ]
     conv => rhs; rw [e, Nat.add_mul]
     rw [Nat.mul_comm (128 ^ i) 128, <- Nat.mul_assoc, Nat.mul_comm (m / 128) 128]; omega
    rw [this, List.length_cons]
    simp only [Prod.mk.injEq, true_and, and_true]; omega
   ·rw [Nat.pow_succ, Nat.mul_comm (128 ^ i) 128, <- Nat.mul_assoc]
    have : m / 128 * 128 <= m := Nat.div_mul_le_self _ _
    exact Nat.lt_of_le_of_lt (Nat.mul_le_mul_right _ this) hm
   ·rintro (⟨a, b⟩ | ⟨a, b⟩)
    ·have := h9 a; omega
    ·omega
theorem vput_vtake : ∀ (l : List UInt8) (i n N k : Nat), vtake i n l = (N, k, 0) -> ∃ m, N = n + m * 128 ^ i /\ k = i + (vput m).length /\ (0 < i -> 0 < m) /\ l = vput m ++ l.drop (vput m).length := by
 intro l
 induction l with
 | nil => intro i n N k h; simp [vtake] at h
 | cons c l ih =>
  intro i n N k h
  have hc := c.toNat_lt
  rw [vtake] at h
  by_cases h1 : (i = 9 /\ 1 < c.toNat) \/ (c.toNat = 0 /\ 0 < i)
  ·rw [if_pos h1] at h; simp at h
  ·rw [if_neg h1] at h
   by_cases h2 : c.toNat < 128
   ·rw [if_pos h2] at h
    simp only [Prod.mk.injEq, and_true] at h
    obtain ⟨rfl, rfl⟩ := h
    refine ⟨c.toNat, rfl, by rw [vput_small h2]; rfl, fun hi => by omega, ?_⟩
    rw [vput_small h2]; simp
   ·rw [if_neg h2] at h
    obtain ⟨m, e1, e2, e3, e4⟩ := ih _ _ _ _ h
    have hm := e3 (by omega)
    have hmm : ¬ (c.toNat - 128) + 128 * m < 128 := by omega
    have hd : ((c.toNat - 128) + 128 * m) / 128 = m := by omega
    have hr : ((c.toNat - 128) + 128 * m) % 128 + 128 = c.toNat := by omega
    refine ⟨(c.toNat - 128) + 128 * m, ?_, ?_, fun _ => by omega, ?_⟩
    ·rw [e1, Nat.pow_succ, Nat.add_mul, Nat.mul_comm (128 ^ i) 128, <- Nat.mul_assoc, Nat.mul_comm m 128]; omega
    ·rw [vput_big hmm, hd, List.length_cons, e2]; omega
    ·rw [vput_big hmm, hd, hr, List.length_cons, List.cons_append, List.drop_succ_cons, <- e4]; simp
theorem vput_len : ∀ (k n : Nat), n < 128 ^ (k + 1) -> (vput n).length <= k + 1 := by
 intro k
 induction k with
 | zero => intro n h; rw [vput_small (by simpa using h)]; simp
 | succ k ih =>
  intro n h
  by_cases h1 : n < 128
  ·rw [vput_small h1]; simp
  ·have h2 : n / 128 < 128 ^ (k + 1) := by
    rw [Nat.div_lt_iff_lt_mul (by decide)]; rw [Nat.pow_succ] at h; exact h
   rw [vput_big h1, List.length_cons]
   have := ih _ h2; omega
theorem vput_len1 (n : Nat) : 1 <= (vput n).length := by
 have := vput_ne n
 cases h : vput n with
 | nil => exact absurd h this
 | cons c l => simp
theorem vput_len_le {n : Nat} (hn : n < 18446744073709551616) : (vput n).length <= 10 := vput_len 9 n (by
 have : (18446744073709551616 : Nat) < 128 ^ 10 := by decide
 omega)
theorem groups_any (w : World) (n : Nat) (hn : n < 18446744073709551616) :
  Calls Tryz.prog 116 #[.int .u64 n] w fun e w' => e = .returned (.int .i64 ((vput n).length : Int)) /\ Ext w w' := by
 have hlen := vput_len_le hn
 go_enter Tryz.func116, Tryz.ntmps116
 go_wp2
 go_loopw [0, 3] (fun m c wr => ∃ (k j : Nat), m = .int .u64 (k : Int) /\ c = .int .i64 (j : Int) /\ (vput n).length + 1 = j + (vput k).length /\ k <= n /\ Ext w wr) (fun m _ _ => (intOf m).toNat)
 case atStart => exact ⟨n, 1, rfl, rfl, by omega, Nat.le_refl _, uZ⟩
 case round =>
  obtain ⟨k, j, rfl, rfl, he, hkn, hu⟩ := hrel
  have HU := zq hu
  have h1 := vput_len1 k
  have HE := zq he
  have hj : j <= 10 := by omega
  clear hu he
  by_cases hlt : k < 128
  ·have hk0 : ¬ (0 < (k : Int) / 128) := by omega
   have e := HE.out
   rw [vput_small hlt] at e
   have e2 : j = (vput n).length := by simp at e; omega
   subst e2
   clear e
   go_wp2
   go_ret
   exact ⟨rfl, HU.out⟩
  ·have hk0 : 0 < (k : Int) / 128 := by omega
   have e := HE.out
   rw [vput_big hlt, List.length_cons] at e
   have HE2 := zq e
   clear e
   go_wp2
   go_roundw
   case rel => exact ⟨k / 128, j + 1, by congr 1, by go_num, by have := HE2.out; omega, by omega, HU.out⟩
   case measure => simp [intOf]; omega
theorem rPut_any (w : World) (n : Nat) (hn : n < 18446744073709551616) :
  Calls Tryz.prog 96 #[.int .u64 n] w fun e w' => ∃ v, e = .returned v /\ w'.ownsRow w.heap.size 5 1 v (vput n).length ((vput n).map u8) /\ Ext w w' := by
 have hlen := vput_len_le hn
 have hlen1 := vput_len1 n
 go_enter Tryz.func96, Tryz.ntmps96
 go_wp2_with (go_at_call 116; fail)
 refine (groups_any w n hn).mono ?_
 rintro e w1 ⟨rfl, hx⟩
 have HX := zq hx
 have hsz := hx.size
 clear hx
 go_wp2
 go_loopw [0, 3, 5] (fun m b i wr => ∃ (k j : Nat) (dn : List UInt8), m = .int .u64 (k : Int) /\ i = .int .i64 (j : Int) /\ dn.length = j /\ j <= (vput n).length /\ (j < (vput n).length -> vput n = dn ++ vput k) /\ (j = (vput n).length -> dn = vput n) /\ k <= n /\ Ext w wr /\ wr.ownsRow w.heap.size 5 1 b dn.length (dn.map u8)) (fun _ _ i _ => (vput n).length - (intOf i).toNat)
 case atStart => exact ⟨n, 0, [], rfl, rfl, rfl, by omega, fun _ => rfl, fun h => by omega, Nat.le_refl _, HX.out, World.ownsRow_nil _ _ _ _⟩
 case round =>
  obtain ⟨k, j, dn, rfl, rfl, hd, hj, ha, hb, hkn, hu, hown⟩ := hrel
  have HU := zq hu
  have hus := hu.size
  have HA := zq ha
  have HB := zq hb
  clear hu ha hb
  by_cases hlt : j < (vput n).length
  ·have hv := HA.out hlt
   have hvl := congrArg List.length hv
   rw [List.length_append] at hvl
   by_cases h128 : k < 128
   ·have hk1 : (vput k).length = 1 := by rw [vput_small h128]; rfl
    have hc : ¬ ((j : Int) + 1 < ((vput n).length : Int)) := by omega
    have HV := zq hv
    clear hv hvl hk1
    go_wp2_with (at_builtin; go_must (refine wpList_append_row rfl _ _ _ rfl Tryz.bytesT rfl (hown.alloc _) rfl (row_new _ _ _ 1 _ (by decide) (by simp)) rfl (by intro u hu; simp at hu; subst hu; rfl) ?c3 ?c4 ?c5 ?_))
    case c3 => unfold maxLen; omega
    case c4 => omega
    case c5 => first | omega | (simp; omega)
    intro v' w2 hown2 hg _
    have hx2 := (HU.out.alloc _).grown hg (fun j hj h => by have := (hown.lt j hj).1; omega)
    have HX2 := zq hx2
    have HO2 := zq hown2
    clear hx2 hg hown2
    go_wp2
    go_roundw
    case rel =>
     have ho : w2.ownsRow w.heap.size 5 1 v' (j + 1) ((dn ++ [UInt8.ofNat k]).map _root_.Go.Proofs.YtnkmpoplibnflaaGreatDoor.u8) := by
      have := HO2.out
      rw [show (.int .u8 ((k : Int) % 128) : Value) = _root_.Go.Proofs.YtnkmpoplibnflaaGreatDoor.u8 (UInt8.ofNat k) from by rw [_root_.Go.Proofs.YtnkmpoplibnflaaGreatDoor.u8, ofNat_toNat (by omega)]; congr 1; omega] at this
      rw [List.map_append]; exact this
     have e := HV.out
     rw [vput_small h128] at e
     refine ⟨k / 128, j + 1, dn ++ [UInt8.ofNat k], by congr 1, by go_num, by simp [hd], by omega, fun h => by omega, fun _ => e.symm, by omega, HX2.out, ?_⟩
     rw [show (dn ++ [UInt8.ofNat k]).length = j + 1 from by simp [hd]]; exact ho
    case measure => simp [intOf]; omega
   ·have hk1 : 1 <= (vput (k / 128)).length := vput_len1 _
    rw [vput_big h128, List.length_cons] at hvl
    have hc : (j : Int) + 1 < ((vput n).length : Int) := by omega
    have HV := zq hv
    clear hv hvl hk1
    go_wp2_with (at_builtin; go_must (refine wpList_append_row rfl _ _ _ rfl Tryz.bytesT rfl (hown.alloc _) rfl (row_new _ _ _ 1 _ (by decide) (by simp)) rfl (by intro u hu; simp at hu; subst hu; rfl) ?c3 ?c4 ?c5 ?_))
    case c3 => unfold maxLen; omega
    case c4 => omega
    case c5 => first | omega | (simp; omega)
    intro v' w2 hown2 hg _
    have hx2 := (HU.out.alloc _).grown hg (fun j hj h => by have := (hown.lt j hj).1; omega)
    have HX2 := zq hx2
    have HO2 := zq hown2
    clear hx2 hg hown2
    go_wp2
    go_roundw
    case rel =>
     have ho : w2.ownsRow w.heap.size 5 1 v' (j + 1) ((dn ++ [UInt8.ofNat (k % 128 + 128)]).map _root_.Go.Proofs.YtnkmpoplibnflaaGreatDoor.u8) := by
      have := HO2.out
      rw [show (.int .u8 ((k : Int) % 128 + 128) : Value) = _root_.Go.Proofs.YtnkmpoplibnflaaGreatDoor.u8 (UInt8.ofNat (k % 128 + 128)) from by rw [_root_.Go.Proofs.YtnkmpoplibnflaaGreatDoor.u8, ofNat_toNat (by omega)]; congr 1] at this
      rw [List.map_append]; exact this
     have e := HV.out
     rw [vput_big h128] at e
     refine ⟨k / 128, j + 1, dn ++ [UInt8.ofNat (k % 128 + 128)], by congr 1, by go_num, by simp [hd], by omega, fun _ => by rw [e]; simp, fun h => by omega, by omega, HX2.out, ?_⟩
     rw [show (dn ++ [UInt8.ofNat (k % 128 + 128)]).length = j + 1 from by simp [hd]]; exact ho
    case measure => simp [intOf]; omega
  ·have hje : j = (vput n).length := by omega
   have hdn := HB.out hje
   rw [hdn] at hown
   clear hdn hd
   go_wp2
   go_ret
   exact ⟨_, rfl, hown, HU.out⟩
def vtext (s : List UInt8) : List UInt8 := vput s.length ++ s
theorem rText_any (w : World) (s : List UInt8) (hs : s.length <= 70368744177664) :
  Calls Tryz.prog 97 #[str s] w fun e w' => ∃ v, e = .returned v /\ w'.ownsRow w.heap.size 5 1 v (vtext s).length ((vtext s).map u8) /\ Ext w w' := by
 have hlen := vput_len_le (n := s.length) (by omega)
 go_enter Tryz.func97, Tryz.ntmps97
 go_wp2_with (go_at_call 96; fail)
 refine (rPut_any w s.length (by omega)).mono ?_
 rintro e w1 ⟨v, rfl, hown, hx⟩
 have HX := zq hx
 have hsz := hx.size
 clear hx
 go_wp2
 go_loopw [3, 4] (fun v i wr => ∃ k : Nat, k <= s.length /\ i = .int .i64 k /\ Ext w wr /\ wr.ownsRow w.heap.size 5 1 v ((vput s.length).length + k) ((vput s.length ++ s.take k).map u8))
  (fun _ i _ => s.length - (intOf i).toNat)
 case atStart => exact ⟨0, Nat.zero_le _, rfl, HX.out, by rw [List.take_zero, List.append_nil]; exact hown⟩
 case round =>
  obtain ⟨k, hk, rfl, hu, hown⟩ := hrel
  have HU := zq hu
  have hus := hu.size
  clear hu
  by_cases hlt : k < s.length
  ·obtain ⟨m, hm⟩ : ∃ m : Int, m = s[k].toNat := ⟨_, rfl⟩
   have hm0 : 0 <= m := by omega
   have hm1 : m < 256 := by have := UInt8.toNat_lt s[k]; omega
   have hidx := index_str (P := Tryz.prog) Tryz.underlying9 (m := m) (List.getElem?_eq_getElem hlt) hm.symm
   have HM := zq hm
   clear hm
   go_wp2_with (at_builtin; go_must (refine wpList_append_row rfl _ _ _ rfl Tryz.bytesT rfl (hown.alloc _) rfl (row_new _ _ _ 1 _ (by decide) (by simp)) rfl (by intro u hu; simp at hu; subst hu; rfl) ?c3 ?c4 ?c5 ?_))
   case c3 => unfold maxLen; omega
   case c4 => omega
   case c5 => first | omega | (simp; omega)
   intro v' w2 hown2 hg _
   rw [show (.int .u8 m : Value) = _root_.Go.Proofs.YtnkmpoplibnflaaGreatDoor.u8 s[k] from by rw [_root_.Go.Proofs.YtnkmpoplibnflaaGreatDoor.u8, HM.out]] at hown2
   go_wp2
   go_roundw
   case rel => exact ⟨k + 1, by omega, by go_num, (HU.out.alloc _).grown hg (fun j hj h => by have := (hown.lt j hj).1; omega), by rw [List.take_succ_eq_append_getElem hlt, List.map_append, List.map_append, List.map_take]; exact hown2⟩
   case measure => simp [intOf]; omega
  ·have hkn : k = s.length := by omega
   subst hkn
   rw [List.take_length] at hown
   go_wp2
   go_ret
   exact ⟨_, rfl, by rw [vtext, List.length_append]; exact hown, HU.out⟩
end Go.Proofs.YtnkmpoplibnflaaGreatDoor.Wk
set_option maxRecDepth 100000
set_option maxHeartbeats 16000000
namespace Go.Proofs.YtnkmpoplibnflaaGreatDoor.Wk
open Go.Proofs.YtnkmpoplibnflaaGreatDoor Go.RowKit
theorem pow9 : (128 : Nat) ^ 9 = 9223372036854775808 := by decide
theorem vtake_lt : ∀ (l : List UInt8) (i n N k : Nat), vtake i n l = (N, k, 0) -> n < 128 ^ i -> i <= 9 -> N < 18446744073709551616 := by
 intro l
 induction l with
 | nil => intro i n N k h; simp [vtake] at h
 | cons c l ih =>
  intro i n N k h hn hi
  have hc := c.toNat_lt
  rw [vtake] at h
  by_cases h1 : (i = 9 /\ 1 < c.toNat) \/ (c.toNat = 0 /\ 0 < i)
  ·rw [if_pos h1] at h; simp at h
  ·rw [if_neg h1] at h
   by_cases h9 : i = 9
   ·subst h9
    have hc1 : c.toNat <= 1 := by omega
    rw [if_pos (by omega)] at h
    simp only [Prod.mk.injEq, and_true] at h
    have : c.toNat * 128 ^ 9 <= 1 * 128 ^ 9 := Nat.mul_le_mul_right _ hc1
    rw [pow9] at hn this
    rw [pow9] at h
    omega
   ·have hp : (128 : Nat) ^ (i + 1) <= 128 ^ 9 := Nat.pow_le_pow_right (by decide) (by omega)
    rw [pow9, Nat.pow_succ] at hp
    by_cases h2 : c.toNat < 128
    ·rw [if_pos h2] at h
     simp only [Prod.mk.injEq, and_true] at h
     have : c.toNat * 128 ^ i <= 127 * 128 ^ i := Nat.mul_le_mul_right _ (by omega)
     omega
    ·rw [if_neg h2] at h
     refine ih _ _ _ _ h ?_ (by omega)
     have : (c.toNat - 128) * 128 ^ i <= 127 * 128 ^ i := Nat.mul_le_mul_right _ (by omega)
     rw [Nat.pow_succ]
     omega
def numF (l : List UInt8) : Int × Nat × Nat :=
 if (vtake 0 0 l).2.2 = 0 then (0, (vtake 0 0 l).1, (vtake 0 0 l).2.1) else if (vtake 0 0 l).2.2 = 1 then (10, 0, 0) else (11, 0, 0)
def textF (l : List UInt8) : Int × List UInt8 × Nat :=
 if (numF l).1 = 0 then (if l.length - (numF l).2.2 < (numF l).2.1 then (10, [], 0) else (0, (l.drop (numF l).2.2).take (numF l).2.1, (numF l).2.2 + (numF l).2.1)) else ((numF l).1, [], 0)
theorem numF_put (n : Nat) (hn : n < 18446744073709551616) (r : List UInt8) : numF (vput n ++ r) = (0, n, (vput n).length) := by
 have h := vtake_vput r n 0 0 (.inl rfl) (by simpa using hn)
 simp only [Nat.zero_add, Nat.pow_zero, Nat.mul_one] at h
 rw [numF, h]; rfl
theorem numF_ok {l : List UInt8} (h : (numF l).1 = 0) : (numF l).2.1 < 18446744073709551616 /\ (numF l).2.2 = (vput (numF l).2.1).length /\ l = vput (numF l).2.1 ++ l.drop (numF l).2.2 /\ (numF l).2.2 <= l.length := by
 have h0 : (vtake 0 0 l).2.2 = 0 := by
  unfold numF at h
  split at h
  ·assumption
  ·split at h <;> simp at h
 have e : vtake 0 0 l = ((vtake 0 0 l).1, (vtake 0 0 l).2.1, 0) := (show ∀ q : Nat × Nat × Nat, q.2.2 = 0 -> q = (q.1, q.2.1, 0) from by rintro ⟨a, b, c⟩ h; simp at h; subst h; rfl) _ h0
 have hq : numF l = (0, (vtake 0 0 l).1, (vtake 0 0 l).2.1) := by rw [numF, if_pos h0]
 obtain ⟨m, e1, e2, -, e4⟩ := vput_vtake _ _ _ _ _ e
 have hl := vtake_lt _ _ _ _ _ e (by simp) (by omega)
 simp only [Nat.zero_add, Nat.pow_zero, Nat.mul_one] at e1 e2
 rw [hq]
 dsimp only
 rw [e1] at hl ⊢
 rw [e2]
 refine ⟨hl, rfl, e4, ?_⟩
 have := congrArg List.length e4
 rw [List.length_append] at this; omega
theorem textF_ok {l : List UInt8} (h : (textF l).1 = 0) : (textF l).2.1.length < 18446744073709551616 /\ (textF l).2.2 = (vtext (textF l).2.1).length /\ l = vtext (textF l).2.1 ++ l.drop (textF l).2.2 /\ (textF l).2.2 <= l.length := by
 by_cases h0 : (numF l).1 = 0
 ·by_cases h1 : l.length - (numF l).2.2 < (numF l).2.1
  ·rw [textF, if_pos h0, if_pos h1] at h; simp at h
  ·obtain ⟨a1, a2, a3, a4⟩ := numF_ok h0
   have hq : textF l = (0, (l.drop (numF l).2.2).take (numF l).2.1, (numF l).2.2 + (numF l).2.1) := by rw [textF, if_pos h0, if_neg h1]
   have hlen : ((l.drop (numF l).2.2).take (numF l).2.1).length = (numF l).2.1 := by simp; omega
   rw [hq]
   dsimp only
   rw [vtext, hlen]
   refine ⟨a1, by rw [List.length_append, <- a2, hlen], ?_, by omega⟩
   rw [List.append_assoc, <- List.drop_drop, List.take_append_drop]; exact a3
 ·rw [textF, if_neg h0] at h; exact absurd h h0
end Go.Proofs.YtnkmpoplibnflaaGreatDoor.Wk
set_option maxRecDepth 100000
set_option maxHeartbeats 16000000
namespace Go.Proofs.YtnkmpoplibnflaaGreatDoor.Wk
open Go.Proofs.YtnkmpoplibnflaaGreatDoor Go.RowKit
abbrev u64v (n : Nat) : Value := .int .u64 (n : Int)
abbrev Nums (S : Nat -> Prop) (w : World) (v : Value) (l : List Nat) : Prop := Row S w v l.length (l.map u64v)
def vputs (l : List Nat) : List UInt8 := (l.map vput).flatten
theorem vputs_snoc {l : List Nat} {k : Nat} (hk : k < l.length) : vputs (l.take (k + 1)) = vputs (l.take k) ++ vput l[k] := by
 unfold vputs; rw [List.take_succ_eq_append_getElem hk, List.map_append, List.flatten_append]; simp
theorem vputs_len {l : List Nat} (h : ∀ n ∈ l, n < 18446744073709551616) : (vputs l).length <= 10 * l.length := by
 induction l with
 | nil => simp [vputs]
 | cons n l ih =>
  have h1 := vput_len_le (h n (by simp))
  have h2 := ih fun m hm => h m (by simp [hm])
  simp only [vputs, List.map_cons, List.flatten_cons, List.length_append, List.length_cons] at h2 ⊢; omega
theorem nums_cell {l : List Nat} {w : World} {b o : Nat} (h : ∀ j u, (l.map u64v)[j]? = some u -> w.cell? ⟨b, o + j, none⟩ = some u) (k : Nat) (hk : k < l.length) :
  w.cell? ⟨b, o + k, none⟩ = some (.int .u64 ((l[k] : Nat) : Int)) := h k _ (by simp [hk])
theorem rAll_any {S : Nat -> Prop} (w : World) (v : Value) (l : List Nat) (h : Nums S w v l) (hl : l.length <= 100) (hn : ∀ n ∈ l, n < 18446744073709551616) :
  Calls Tryz.prog 73 #[v] w fun e w' => ∃ v, e = .returned v /\ w'.ownsRow w.heap.size 5 1 v (vputs l).length ((vputs l).map u8) /\ Ext w w' := by
 have g := h.addr
 obtain ⟨a, c, rfl, hnc, hm, -⟩ := h
 unfold maxLen at hm
 have G := zq g
 have HNN := zq hn
 clear g hn
 go_enter Tryz.func73, Tryz.ntmps73
 go_wp2
 go_loopw [3, 4] (fun v i wr => ∃ k : Nat, k <= l.length /\ i = .int .i64 k /\ Ext w wr /\ wr.ownsRow w.heap.size 5 1 v (vputs (l.take k)).length ((vputs (l.take k)).map u8))
  (fun _ i _ => l.length - (intOf i).toNat)
 case atStart => exact ⟨0, Nat.zero_le _, rfl, uZ, World.ownsRow_nil _ _ _ _⟩
 case round =>
  obtain ⟨k, hk, rfl, hx, hown⟩ := hrel
  have HX := zq hx
  have hus := hx.size
  clear hx
  by_cases hlt : k < l.length
  ·obtain ⟨b1, o1, c1', e1, -, -, -, hc1⟩ := G.out (by omega)
   cases e1
   have hcell := HX.out.cell (nums_cell hc1 k hlt) id
   have hN := HNN.out l[k] (List.getElem_mem hlt)
   have hsn := vputs_snoc hlt
   have hbig : (vputs (l.take k)).length <= 1000 := by
    have := vputs_len (l := l.take k) (fun n hn => HNN.out n (List.mem_of_mem_take hn))
    rw [List.length_take] at this; omega
   obtain ⟨N, hNN⟩ : ∃ N, N = l[k] := ⟨_, rfl⟩
   rw [<- hNN] at hcell hN hsn
   have hv10 := vput_len_le hN
   have HSN := zq hsn
   clear hc1 hNN hsn
   go_wp2_with (go_at_call 96; fail)
   refine (rPut_any _ N hN).mono ?_
   rintro e w2 ⟨v2, rfl, hown2, hx2⟩
   have hown1 := hx2.ownsRow hown (fun _ _ e => e)
   have hsz2 := hx2.size
   have HX2 := zq (HX.out.trans hx2)
   clear hown hx2
   obtain ⟨a1, n1, c1, rfl⟩ := ownsForm hown1
   obtain ⟨a2, n2, c2, rfl⟩ := ownsForm hown2
   go_wp2_with (at_builtin; go_must (refine wpList_append_row rfl _ _ _ rfl Tryz.bytesT rfl hown1 rfl (Row.of_owns hown2) (by simp) (u8_one _) ?c3 ?c4 ?c5 ?_))
   case c3 => unfold maxLen; omega
   case c4 => omega
   case c5 => omega
   intro v' w3 hown3 hg _
   have hx3 := HX2.out.grown hg (fun j hj h => by have := (hown1.lt j hj).1; omega)
   have HX3 := zq hx3
   clear hx3 hg
   go_wp2
   go_roundw
   case rel => exact ⟨k + 1, by omega, by go_num, HX3.out, by rw [HSN.out, List.length_append, List.map_append]; exact hown3⟩
   case measure => simp [intOf]; omega
  ·have hkl : k = l.length := by omega
   rw [hkl, List.take_length] at hown
   go_wp2
   go_ret
   exact ⟨_, rfl, hown, HX.out⟩
end Go.Proofs.YtnkmpoplibnflaaGreatDoor.Wk
set_option maxRecDepth 100000
set_option maxHeartbeats 16000000
namespace Go.Proofs.YtnkmpoplibnflaaGreatDoor.Wk
open Go.Proofs.YtnkmpoplibnflaaGreatDoor Go.RowKit
theorem vtake_step {i n : Nat} {c : UInt8} {l : List UInt8} (h : ¬ ((i = 9 /\ 1 < c.toNat) \/ (c.toNat = 0 /\ 0 < i))) : vtake i n (c :: l) = if c.toNat < 128 then (n + c.toNat * 128 ^ i, i + 1, 0) else vtake (i + 1) (n + (c.toNat - 128) * 128 ^ i) l := by rw [vtake, if_neg h]
theorem vtake_long {i n : Nat} {c : UInt8} {l : List UInt8} (h : (i = 9 /\ 1 < c.toNat) \/ (c.toNat = 0 /\ 0 < i)) : vtake i n (c :: l) = (0, 0, 2) := by rw [vtake, if_pos h]
theorem andNot128 : ∀ m : Fin 256, bits BinOp.andNot IntKind.u8 ((m.val : Nat) : Int) 128 = ((m.val % 128 : Nat) : Int) := by decide +kernel
theorem wraps_u64n {n : Int} (h0 : 0 <= n) (h1 : n < 18446744073709551616) : IntKind.u64.wrap n = n := by rw [IntKind.wrap_u64]; omega
theorem or_comm64 (x y : Int) : bits BinOp.or IntKind.u64 x y = bits BinOp.or IntKind.u64 y x := by simp only [bits, BitVec.or_comm]
theorem orGroup {N m k : Nat} (hm : m < 256) (hN : N < 128 ^ k) (hlt : m % 128 * 128 ^ k < 18446744073709551616) (h : N < 18446744073709551616) {z : Int} (hz : z = 2 ^ (7 * k)) :
  bits BinOp.or IntKind.u64 (N : Int) (IntKind.u64.wrap (IntKind.u64.wrap (bits BinOp.andNot IntKind.u8 (m : Int) 128) * z)) = ((N + m % 128 * 128 ^ k : Nat) : Int) := by
 have e : ((2 : Int) ^ (7 * k)) = ((128 ^ k : Nat) : Int) := by rw [Int.pow_mul]; simp
 have t64 : (2 : Int) ^ 64 = 18446744073709551616 := by decide
 obtain ⟨A, hA⟩ : ∃ A, A = 128 ^ k := ⟨_, rfl⟩
 obtain ⟨B, hB⟩ : ∃ B, B = m % 128 := ⟨_, rfl⟩
 subst hz
 rw [andNot128 ⟨m, hm⟩, e]
 dsimp only
 rw [<- hA] at hN hlt e ⊢
 rw [<- hB] at hlt ⊢
 have hB1 : B < 128 := by omega
 rw [wraps_u64n (n := (B : Int)) (by omega) (by omega), <- Int.natCast_mul]
 have hmod : ((B * A : Nat) : Int) % 2 ^ (7 * k) = 0 := by rw [e, Int.natCast_mul]; exact Int.mul_emod_left _ _
 have hn : (N : Int) < 2 ^ (7 * k) := by rw [e]; exact_mod_cast hN
 rw [wraps_u64n (by omega) (by omega), or_comm64]
 rw [bits_join .u64 64 (by decide) (fun n h0 h1 => wraps_u64n h0 (by rw [t64] at h1; exact h1)) (7 * k) _ _ (by omega) hmod (by rw [t64]; omega) (by omega) hn (by rw [t64]; omega)]
 omega
theorem vTake_same {S : Nat -> Prop} (w : World) (v : Value) (l : List UInt8) (h : Bytes S w v l) (p : Nat) (hp : p <= l.length) :
  Calls Tryz.prog 145 #[v, .int .i64 p] w fun e w' => e = .returned (.tuple #[.int .u64 ((numF (l.drop p)).2.1 : Nat), .int .i64 ((p + (numF (l.drop p)).2.2 : Nat) : Int), .int .i64 (numF (l.drop p)).1]) /\ w' = w := by
 have g := h.addr
 obtain ⟨a, c, rfl, hn, hm, -⟩ := h
 unfold maxLen at hm
 have G := zq g
 clear g
 by_cases hlt : p < l.length
 ·have hi1 : (0 : Int) <= p := by omega
  have hi2 : (p : Int) < l.length := by omega
  obtain ⟨b1, o1, c1', e1, -, hnc, hcm, hc1⟩ := G.out (by omega)
  cases e1
  have HC := zq hc1
  clear hc1 G
  go_enter Tryz.func145, Tryz.ntmps145
  go_wp2
  go_step3
  go_wp2
  go_step3
  go_wp2
  go_loopw [4, 6, 23] (fun n er i wr => ∃ (k N : Nat), er = .int .i64 10 /\ p + k <= l.length /\ n = .int .u64 (N : Int) /\ i = .int .i64 (k : Int) /\ vtake 0 0 (l.drop p) = vtake k N (l.drop (p + k)) /\ N < 128 ^ k /\ k <= 9 /\ wr = w) (fun _ _ i _ => l.length - (intOf i).toNat)
  case atStart => exact ⟨0, 0, rfl, by omega, rfl, rfl, by simp, by simp, by omega, rfl⟩
  case round =>
   obtain ⟨k, N, rfl, hk, rfl, rfl, ht, hN, hk9, hx⟩ := hrel
   have HWR := zq hx
   have hxe : Ext w wr := by rw [hx]; exact uZ
   clear hx
   have hx := hxe
   clear hxe
   have HX := zq hx
   have HT := zq ht
   have HN := zq hN
   have hN64 : N < 18446744073709551616 := by
    have : (128 : Nat) ^ k <= 128 ^ 9 := Nat.pow_le_pow_right (by decide) hk9
    rw [pow9] at this; omega
   clear hx ht hN
   by_cases hlk : p + k < l.length
   ·obtain ⟨m, hm⟩ : ∃ m : Nat, m = l[p + k].toNat := ⟨_, rfl⟩
    have hm1 : m < 256 := by have := UInt8.toNat_lt l[p + k]; omega
    have hcell := HX.out.cell (bytes_cell HC.out (p + k) hlk) id
    rw [<- hm, <- Nat.add_assoc] at hcell
    have HM := zq hm
    clear hm
    have hcond : k < l.length - p := by omega
    by_cases h9 : (k = 9 /\ 1 < m) \/ (m = 0 /\ 0 < k)
    ·have HQ := zq (show numF (l.drop p) = (11, 0, 0) from by
      unfold numF
      rw [HT.out, List.drop_eq_getElem_cons hlk, vtake_long (by rw [<- HM.out]; exact h9)]
      rfl)
     by_cases h9a : k = 9 /\ 1 < m
     ·obtain ⟨h9a, h9b⟩ := h9a
      subst h9a
      clear h9
      go_wp2
      try rw [Exit.noGoto_ret]
      go_ret3
      exact ⟨by rw [HQ.out]; rfl, HWR.out⟩
     ·obtain ⟨h9c, h9d⟩ : m = 0 /\ 0 < k := by omega
      subst h9c
      by_cases h9e : k = 9
      ·subst h9e
       go_wp2
       try rw [Exit.noGoto_ret]
       go_ret3
       exact ⟨by rw [HQ.out]; rfl, HWR.out⟩
      ·go_wp2
       try rw [Exit.noGoto_ret]
       go_ret3
       exact ⟨by rw [HQ.out]; rfl, HWR.out⟩
    ·have hq9 : k = 9 -> m <= 1 := by omega
     have hq0 : 0 < k -> 0 < m := by omega
     have hfit : m % 128 * 128 ^ k < 18446744073709551616 := by
      by_cases h : k = 9
      ·subst h
       have := hq9 rfl
       have h3 : m % 128 * 128 ^ 9 <= 1 * 128 ^ 9 := Nat.mul_le_mul_right _ (by omega)
       rw [pow9] at h3 ⊢; omega
      ·have h2 : (128 : Nat) ^ k <= 128 ^ 8 := Nat.pow_le_pow_right (by decide) (by omega)
       have h4 : m % 128 * 128 ^ k <= 127 * 128 ^ 8 := Nat.mul_le_mul (by omega) h2
       have : (127 * 128 ^ 8 : Nat) < 18446744073709551616 := by decide
       omega
     have HV := zq (show vtake 0 0 (l.drop p) = if m < 128 then (N + m * 128 ^ k, k + 1, 0) else vtake (k + 1) (N + (m - 128) * 128 ^ k) (l.drop (p + (k + 1))) from by
      rw [HT.out, List.drop_eq_getElem_cons hlk, vtake_step (by rw [<- HM.out]; exact h9), <- HM.out]; rfl)
     have HF := zq hfit
     clear hfit
     by_cases h128 : m < 128
     ·have HQ := zq (show numF (l.drop p) = (0, N + m * 128 ^ k, k + 1) from by
       unfold numF
       rw [HV.out, if_pos h128]; rfl)
      have hb := orGroup hm1 HN.out HF.out hN64 (z := 2 ^ (7 * k)) rfl
      rw [show m % 128 = m from by omega] at hb
      have key : ∀ (V : Int) (j : Int), V = ((N + m * 128 ^ k : Nat) : Int) -> j = (p : Int) + k + 1 -> Ending.returned (.tuple #[.int .u64 V, .int .i64 j, .int .i64 0]) = .returned (.tuple #[.int .u64 ((numF (l.drop p)).2.1 : Nat), .int .i64 ((p + (numF (l.drop p)).2.2 : Nat) : Int), .int .i64 (numF (l.drop p)).1]) := by
       intro V j hV hj
       subst hV; subst hj
       rw [HQ.out]
       congr 4
      have KEY := zq key
      clear key
      by_cases h9e : k = 9
      ·subst h9e
       have HB := zq hb
       clear hb
       have hm0 : ¬ m = 0 := by have := hq0 (by omega); omega
       go_wp2
       try rw [Exit.noGoto_ret]
       go_ret3
       exact ⟨KEY.out _ _ HB.out (by omega), HWR.out⟩
      ·by_cases hm0 : m = 0
       ·have hk0 : ¬ 0 < k := by omega
        subst hm0
        have HB := zq hb
        clear hb
        go_wp2
        try rw [Exit.noGoto_ret]
        go_ret3
        exact ⟨KEY.out _ _ HB.out (by omega), HWR.out⟩
       ·have HB := zq hb
        clear hb
        go_wp2
        try rw [Exit.noGoto_ret]
        go_ret3
        exact ⟨KEY.out _ _ HB.out (by omega), HWR.out⟩
     ·have hb := orGroup hm1 HN.out HF.out hN64 (z := 2 ^ (7 * k)) rfl
      have HB := zq hb
      clear hb
      have hk9' : ¬ k = 9 := by omega
      go_wp2
      refine ⟨⟨_, _, _, _, _, _, _, ?rel, rfl, rfl, rfl, rfl, rfl, rfl, rfl⟩, ?measure⟩
      case rel =>
       refine ⟨rfl, k + 1, by omega, N + m % 128 * 128 ^ k, by rw [HB.out], by go_num, ?_, ?_, by omega, HWR.out⟩
       ·rw [HV.out, if_neg h128, show m % 128 = m - 128 from by omega]
       ·have := HN.out
        have h5 : m % 128 * 128 ^ k <= 127 * 128 ^ k := Nat.mul_le_mul_right _ (by omega)
        rw [Nat.pow_succ]; omega
      case measure => simp [intOf]; omega
   ·have hkl : p + k = l.length := by omega
    have HQ := zq (show numF (l.drop p) = (10, 0, 0) from by
     unfold numF
     rw [HT.out, List.drop_eq_nil_of_le (by omega)]; rfl)
    have hcond : ¬ k < l.length - p := by omega
    go_wp2
    try rw [Exit.noGoto_ret]
    go_ret3
    exact ⟨by rw [HQ.out]; rfl, HWR.out⟩
 ·go_enter Tryz.func145, Tryz.ntmps145
  go_wp2
  go_step3
  go_wp2
  try rw [Exit.noGoto_ret]
  go_ret3
  have hd : l.drop p = [] := List.drop_eq_nil_of_le (by omega)
  refine ⟨?_, rfl⟩
  rw [hd]; rfl
theorem vTake_any {S : Nat -> Prop} (w : World) (v : Value) (l : List UInt8) (h : Bytes S w v l) (p : Nat) (hp : p <= l.length) :
  Calls Tryz.prog 145 #[v, .int .i64 p] w fun e w' => e = .returned (.tuple #[.int .u64 ((numF (l.drop p)).2.1 : Nat), .int .i64 ((p + (numF (l.drop p)).2.2 : Nat) : Int), .int .i64 (numF (l.drop p)).1]) /\ Ext w w' :=
 (vTake_same w v l h p hp).mono fun _ _ ⟨h1, h2⟩ => ⟨h1, by rw [h2]; exact uZ⟩
theorem Row.slice {S : Nat -> Prop} {w : World} {b o c n : Nat} {l : List UInt8} (hc1 : ∀ j u, (l.map u8)[j]? = some u -> w.cell? ⟨b, o + j, none⟩ = some u) (hS : S b) (hm : c <= maxLen) (hn : l.length <= c) {q : Nat} (hq : q + n <= l.length) :
  Bytes S w (.slice (some ⟨b, o + q, none⟩) n (c - q)) ((l.drop q).take n) := by
 have hlen : ((l.drop q).take n).length = n := by simp; omega
 refine ⟨_, _, by rw [hlen], by omega, by omega, fun e => (by cases e), fun x e _ => (by cases e; exact ⟨rfl, hS⟩), fun b' o' e j u hj => ?_⟩
 cases e
 rw [Nat.add_assoc]
 apply hc1
 rw [List.getElem?_map] at hj ⊢
 rw [List.getElem?_take] at hj
 split at hj
 ·rw [List.getElem?_drop] at hj; exact hj
 ·simp at hj
theorem vTakeText_same {S : Nat -> Prop} (w : World) (v : Value) (l : List UInt8) (h : Bytes S w v l) (p : Nat) (hp : p <= l.length) (hl : l.length <= 70368744177664) :
  Calls Tryz.prog 146 #[v, .int .i64 p] w fun e w' => e = .returned (.tuple #[str (textF (l.drop p)).2.1, .int .i64 ((p + (textF (l.drop p)).2.2 : Nat) : Int), .int .i64 (textF (l.drop p)).1]) /\ w' = w := by
 have g := h.addr
 have H := zq h
 obtain ⟨a, c, rfl, hn, hm, -⟩ := h
 have G := zq g
 clear g
 go_enter Tryz.func146, Tryz.ntmps146
 go_wp2_with (go_at_call 145; fail)
 refine (vTake_same w _ l H.out p hp).mono ?_
 rintro e w1 ⟨rfl, hw1⟩
 have HWR := zq hw1
 have hx : Ext w w1 := by rw [hw1]; exact uZ
 clear hw1
 have HX := zq hx
 clear hx
 by_cases h0 : (numF (l.drop p)).1 = 0
 ·obtain ⟨n1, n2, n3, n4⟩ := numF_ok h0
  rw [List.length_drop] at n4
  clear n2 n3
  obtain ⟨N, hN⟩ : ∃ N, N = (numF (l.drop p)).2.1 := ⟨_, rfl⟩
  obtain ⟨q, hq⟩ : ∃ q, q = p + (numF (l.drop p)).2.2 := ⟨_, rfl⟩
  rw [h0, <- hN, <- hq]
  rw [<- hN] at n1
  have hql : q <= l.length := by omega
  by_cases hfit : l.length - q < N
  ·have HQ := zq (show textF (l.drop p) = (10, [], 0) from by
    rw [textF, if_pos h0, if_pos (by rw [List.length_drop, <- hN]; omega)])
   have hc : (l.length : Int) - q < N := by omega
   clear hN hq h0 n4
   go_wp2
   go_ret3
   exact ⟨by rw [HQ.out]; rfl, HWR.out⟩
  ·have HQ := zq (show textF (l.drop p) = (0, (l.drop q).take N, q - p + N) from by
    rw [textF, if_pos h0, if_neg (by rw [List.length_drop, <- hN]; omega), List.drop_drop, <- hq, <- hN]
    simp only [Prod.mk.injEq, true_and]; omega)
   have hc : ¬ (l.length : Int) - q < N := by omega
   have hpq : p <= q := by omega
   have hkey : ((q - p + N : Nat) : Int) + p = (q : Int) + N := by omega
   have hpl : 0 < l.length := by
    rcases Nat.lt_or_ge 0 l.length with h | h
    ·exact h
    ·have : l = [] := List.eq_nil_of_length_eq_zero (by omega)
     subst this
     simp [numF, vtake] at h0
   clear hN hq h0 n4
   obtain ⟨b1, o1, c1', e1, hS1, hnc, hcm, hc1⟩ := G.out hpl
   cases e1
   by_cases hcq : c = q
   ·have hN0 : N = 0 := by omega
    subst hN0
    subst hcq
    have hcv := run_convert_bytes_empty (P := Tryz.prog) (w := w1) 23 5 Tryz.underlying23 Tryz.underlying5 ⟨b1, o1, none⟩ 0 9 Tryz.underlying9
    clear hc1 G
    go_wp2
    go_ret3
    refine ⟨?_, HWR.out⟩
    rw [HQ.out]
    dsimp only
    rw [List.take_zero, show ((p + (c - p + 0) : Nat) : Int) = (c : Int) from by omega]
    first | rfl | (simp; done)
   ·have hr := Row.slice (S := fun _ => True) (w := w1) (fun j u hj => HX.out.cell (hc1 j u hj) id) trivial hcm hnc (q := q) (n := N) (by omega)
    have hcv := row_string (P := Tryz.prog) hr Tryz.underlying23 Tryz.underlying5 Tryz.underlying9
    clear hc1 G hr
    go_wp2
    go_ret3
    refine ⟨?_, HWR.out⟩
    rw [HQ.out]
    dsimp only
    rw [show ((p + (q - p + N) : Nat) : Int) = (q : Int) + N from by omega]
    rfl
 ·have HQ := zq (show textF (l.drop p) = ((numF (l.drop p)).1, [], 0) from by rw [textF, if_neg h0])
  obtain ⟨E, hE⟩ : ∃ E, E = (numF (l.drop p)).1 := ⟨_, rfl⟩
  rw [<- hE] at h0 HQ ⊢
  have hb : (E != 0) = true := by simpa using h0
  clear hE
  go_wp2
  go_ret3
  exact ⟨by rw [HQ.out]; rfl, HWR.out⟩
theorem vTakeText_any {S : Nat -> Prop} (w : World) (v : Value) (l : List UInt8) (h : Bytes S w v l) (p : Nat) (hp : p <= l.length) (hl : l.length <= 70368744177664) :
  Calls Tryz.prog 146 #[v, .int .i64 p] w fun e w' => e = .returned (.tuple #[str (textF (l.drop p)).2.1, .int .i64 ((p + (textF (l.drop p)).2.2 : Nat) : Int), .int .i64 (textF (l.drop p)).1]) /\ Ext w w' :=
 (vTakeText_same w v l h p hp hl).mono fun _ _ ⟨h1, h2⟩ => ⟨h1, by rw [h2]; exact uZ⟩
end Go.Proofs.YtnkmpoplibnflaaGreatDoor.Wk
