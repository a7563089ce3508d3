/-
  PLAIN: numbers written in groups of seven binary digits, the lowest first, and read so; no program in sight.
  CONTRACT of varint.Put: of any number.
  CONTRACTS of the reference's groups and Put: of any number.
  CONTRACTS of varint.Text and the reference's Text: of any text.
-/
import Derived.Test.YtlhpcgmbbeihiaaDoorGBase
import Derived.Lib.AppendStr
namespace Go.Proofs.YtlhpcgmbbeihiaaDoor
open Go.RowKit

/-- A number as it is written. -/
def vput (n : Nat) : List UInt8 := if h : n < 128 then [UInt8.ofNat n] else UInt8.ofNat (n % 128 + 128) :: vput (n / 128)
termination_by n
decreasing_by omega
theorem vput_small {n : Nat} (h : n < 128) : vput n = [UInt8.ofNat n] := by rw [vput, dif_pos h]
theorem vput_big {n : Nat} (h : ¬ n < 128) : vput n = UInt8.ofNat (n % 128 + 128) :: vput (n / 128) := by rw [vput, dif_neg h]
theorem vput_ne (n : Nat) : vput n ≠ [] := by
  by_cases h : n < 128
  · rw [vput_small h]; simp
  · rw [vput_big h]; simp

/-- What is read from a place on: the number, how many bytes it took, and the fault (0 none, 1 short, 2 long); i bytes were read before, which said n. -/
def vtake (i n : Nat) : List UInt8 → Nat × Nat × Nat
  | [] => (0, 0, 1)
  | c :: l => if (i = 9 ∧ 1 < c.toNat) ∨ (c.toNat = 0 ∧ 0 < i) then (0, 0, 2)
    else if c.toNat < 128 then (n + c.toNat * 128 ^ i, i + 1, 0) else vtake (i + 1) (n + (c.toNat - 128) * 128 ^ i) l

theorem ofNat_toNat {n : Nat} (h : n < 256) : (UInt8.ofNat n).toNat = n := by rw [UInt8.toNat_ofNat', Nat.mod_eq_of_lt h]
/-- What was written is read. -/
theorem vtake_vput (r : List UInt8) : ∀ (m i n : Nat), (i = 0 ∨ 0 < m) → m * 128 ^ i < 2 ^ 64 → vtake i n (vput m ++ r) = (n + m * 128 ^ i, i + (vput m).length, 0) := by
  intro m
  induction m using Nat.strongRecOn with
  | _ m ih =>
    intro i n h0 hm
    have hi : i ≤ 9 := by
      rcases h0 with rfl | h0
      · omega
      · rcases Nat.lt_or_ge 9 i with h | h
        · exfalso
          have : 128 ^ 10 ≤ 128 ^ i := Nat.pow_le_pow_right (by decide) h
          have h2 : 128 ^ i ≤ m * 128 ^ i := Nat.le_mul_of_pos_left _ h0
          have : (2 : Nat) ^ 64 < 128 ^ 10 := by decide
          omega
        · exact h
    have h9 : i = 9 → m ≤ 1 := fun e => by
      subst e
      rcases Nat.lt_or_ge 1 m with h | h
      · exfalso
        have h2 : 2 * 128 ^ 9 ≤ m * 128 ^ 9 := Nat.mul_le_mul_right _ h
        have : (2 : Nat) ^ 64 ≤ 2 * 128 ^ 9 := by decide
        omega
      · exact h
    by_cases h : m < 128
    · rw [vput_small h, List.singleton_append, vtake, ofNat_toNat (by omega), if_neg, if_pos h]
      · simp
      · rintro (⟨a, b⟩ | ⟨a, b⟩)
        · have := h9 a; omega
        · omega
    · rw [vput_big h, List.cons_append, vtake, ofNat_toNat (by omega), if_neg, if_neg (by omega), ih (m / 128) (by omega) (i + 1) _ (.inr (by omega))]
      · have e : m = m % 128 + 128 * (m / 128) := by omega
        have : n + (m % 128 + 128 - 128) * 128 ^ i + m / 128 * 128 ^ (i + 1) = n + m * 128 ^ i := by
          rw [Nat.add_sub_cancel, Nat.pow_succ]
          conv => rhs; rw [e, Nat.add_mul]
          rw [Nat.mul_comm (128 ^ i) 128, ← Nat.mul_assoc, Nat.mul_comm (m / 128) 128]; omega
        rw [this, List.length_cons]
        simp only [Prod.mk.injEq, true_and, and_true]; omega
      · rw [Nat.pow_succ, Nat.mul_comm (128 ^ i) 128, ← Nat.mul_assoc]
        have : m / 128 * 128 ≤ m := Nat.div_mul_le_self _ _
        exact Nat.lt_of_le_of_lt (Nat.mul_le_mul_right _ this) hm
      · rintro (⟨a, b⟩ | ⟨a, b⟩)
        · have := h9 a; omega
        · omega
/-- What is read whole was written so. -/
theorem vput_vtake : ∀ (l : List UInt8) (i n N k : Nat), vtake i n l = (N, k, 0) → ∃ m, N = n + m * 128 ^ i ∧ k = i + (vput m).length ∧ (0 < i → 0 < m) ∧ l = vput m ++ l.drop (vput m).length := by
  intro l
  induction l with
  | nil => intro i n N k h; simp [vtake] at h
  | cons c l ih =>
    intro i n N k h
    have hc := c.toNat_lt
    rw [vtake] at h
    by_cases h1 : (i = 9 ∧ 1 < c.toNat) ∨ (c.toNat = 0 ∧ 0 < i)
    · rw [if_pos h1] at h; simp at h
    · rw [if_neg h1] at h
      by_cases h2 : c.toNat < 128
      · rw [if_pos h2] at h
        simp only [Prod.mk.injEq, and_true] at h
        obtain ⟨rfl, rfl⟩ := h
        refine ⟨c.toNat, rfl, by rw [vput_small h2]; rfl, fun hi => by omega, ?_⟩
        rw [vput_small h2]; simp
      · rw [if_neg h2] at h
        obtain ⟨m, e1, e2, e3, e4⟩ := ih _ _ _ _ h
        have hm := e3 (by omega)
        have hmm : ¬ (c.toNat - 128) + 128 * m < 128 := by omega
        have hd : ((c.toNat - 128) + 128 * m) / 128 = m := by omega
        have hr : ((c.toNat - 128) + 128 * m) % 128 + 128 = c.toNat := by omega
        refine ⟨(c.toNat - 128) + 128 * m, ?_, ?_, fun _ => by omega, ?_⟩
        · rw [e1, Nat.pow_succ, Nat.add_mul, Nat.mul_comm (128 ^ i) 128, ← Nat.mul_assoc, Nat.mul_comm m 128]; omega
        · rw [vput_big hmm, hd, List.length_cons, e2]; omega
        · rw [vput_big hmm, hd, hr, List.length_cons, List.cons_append, List.drop_succ_cons, ← e4]; simp
end Go.Proofs.YtlhpcgmbbeihiaaDoor
namespace Go.Proofs.YtlhpcgmbbeihiaaDoor
open Go.RowKit

theorem vput_len : ∀ (k n : Nat), n < 128 ^ (k + 1) → (vput n).length ≤ k + 1 := by
  intro k
  induction k with
  | zero => intro n h; rw [vput_small (by simpa using h)]; simp
  | succ k ih =>
    intro n h
    by_cases h1 : n < 128
    · rw [vput_small h1]; simp
    · have h2 : n / 128 < 128 ^ (k + 1) := by
        rw [Nat.div_lt_iff_lt_mul (by decide)]; rw [Nat.pow_succ] at h; exact h
      rw [vput_big h1, List.length_cons]
      have := ih _ h2; omega

theorem orBit : ∀ m : Fin 256, bits BinOp.or IntKind.u8 ((m.val : Nat) : Int) 128 = ((m.val % 128 + 128 : Nat) : Int) := by decide +kernel
theorem or128 (k : Nat) : (.int .u8 (bits BinOp.or IntKind.u8 ((k : Int) % 256) 128) : Value) = Go.Proofs.YtlhpcgmbbeihiaaDoor.u8 (UInt8.ofNat (k % 128 + 128)) := by
  have h := orBit ⟨k % 256, Nat.mod_lt _ (by decide)⟩
  have e : ((k % 256 : Nat) : Int) = (k : Int) % 256 := by omega
  rw [e] at h
  rw [h, Go.Proofs.YtlhpcgmbbeihiaaDoor.u8, ofNat_toNat (by omega)]
  congr 1
  have : k % 256 % 128 = k % 128 := by omega
  rw [this]

set_option maxRecDepth 100000 in
set_option maxHeartbeats 1000000 in
theorem vPut_any (w : World) (n : Nat) (hn : n < 18446744073709551616) :
    Calls Tryd.prog 33 #[.int .u64 n] w fun e w' => ∃ v, e = .returned v ∧ w'.ownsRow w.heap.size 5 1 v (vput n).length ((vput n).map u8) ∧ Ext w w' := by
  have hlen := vput_len 9 n (by have : (18446744073709551616 : Nat) < 128 ^ 10 := by decide
                                omega)
  go_enter Tryd.func33, Tryd.ntmps33
  go_wp2
  go_loopw [0, 3] (fun m b wr => ∃ (k : Nat) (dn : List UInt8), m = .int .u64 (k : Int) ∧ vput n = dn ++ vput k ∧ k ≤ n ∧ Ext w wr ∧ wr.ownsRow w.heap.size 5 1 b dn.length (dn.map u8)) (fun m _ _ => (intOf m).toNat)
  case atStart => exact ⟨n, [], rfl, rfl, Nat.le_refl _, Upd.refl _ _, World.ownsRow_nil _ _ _ _⟩
  case round =>
    obtain ⟨k, dn, rfl, he, hkn, hu, hown⟩ := hrel
    have HU := Lib.hid hu
    have hus := hu.size
    have HE := Lib.hid he
    have hdl : dn.length ≤ 10 := by have := congrArg List.length he; rw [List.length_append] at this; omega
    clear hu he
    by_cases hlt : k < 128
    · have hk0 : ¬ (128 ≤ (k : Int)) := by omega
      go_wp2_with (at_builtin; go_must (refine wpList_append_row rfl _ _ _ rfl Tryd.bytesT rfl (hown.alloc _) rfl (row_new _ _ _ 1 _ (by decide) (by simp)) rfl (by intro u hu; simp at hu; subst hu; rfl) ?c3 ?c4 ?c5 ?_))
      case c3 => unfold maxLen; omega
      case c4 => omega
      case c5 => first | omega | (simp; omega)
      intro v' w2 hown2 hg _
      rw [show (.int .u8 (k : Int) : Value) = Go.Proofs.YtlhpcgmbbeihiaaDoor.u8 (UInt8.ofNat k) from by rw [Go.Proofs.YtlhpcgmbbeihiaaDoor.u8, ofNat_toNat (by omega)]] at hown2
      have hx2 := (HU.out.alloc _).grown hg (fun j hj h => by have := (hown.lt j hj).1; omega)
      go_wp2
      go_ret
      exact ⟨_, rfl, by rw [HE.out, vput_small hlt, List.length_append, List.map_append]; exact hown2, hx2⟩
    · have hk0 : 128 ≤ (k : Int) := by omega
      go_wp2_with (at_builtin; go_must (refine wpList_append_row rfl _ _ _ rfl Tryd.bytesT rfl (hown.alloc _) rfl (row_new _ _ _ 1 _ (by decide) (by simp)) rfl (by intro u hu; simp at hu; subst hu; rfl) ?c3 ?c4 ?c5 ?_))
      case c3 => unfold maxLen; omega
      case c4 => omega
      case c5 => first | omega | (simp; omega)
      intro v' w2 hown2 hg _
      rw [or128] at hown2
      have hx2 := (HU.out.alloc _).grown hg (fun j hj h => by have := (hown.lt j hj).1; omega)
      have HX2 := Lib.hid hx2
      clear hx2 hg
      go_wp2
      go_roundw
      case rel =>
        refine ⟨k / 128, dn ++ [UInt8.ofNat (k % 128 + 128)], ?_, ?_, ?_, HX2.out, ?_⟩
        · congr 1
        · rw [HE.out, vput_big hlt]; simp
        · omega
        · rw [List.length_append, List.map_append]; exact hown2
      case measure => simp [intOf]; omega
end Go.Proofs.YtlhpcgmbbeihiaaDoor
namespace Go.Proofs.YtlhpcgmbbeihiaaDoor
open Go.RowKit

theorem vput_len1 (n : Nat) : 1 ≤ (vput n).length := by
  have := vput_ne n
  cases h : vput n with
  | nil => exact absurd h this
  | cons c l => simp
theorem vput_len_le {n : Nat} (hn : n < 18446744073709551616) : (vput n).length ≤ 10 := vput_len 9 n (by
  have : (18446744073709551616 : Nat) < 128 ^ 10 := by decide
  omega)

set_option maxRecDepth 100000 in
set_option maxHeartbeats 1000000 in
theorem groups_any (w : World) (n : Nat) (hn : n < 18446744073709551616) :
    Calls Tryd.prog 62 #[.int .u64 n] w fun e w' => e = .returned (.int .i64 ((vput n).length : Int)) ∧ Ext w w' := by
  have hlen := vput_len_le hn
  go_enter Tryd.func62, Tryd.ntmps62
  go_wp2
  go_loopw [0, 3] (fun m c wr => ∃ (k j : Nat), m = .int .u64 (k : Int) ∧ c = .int .i64 (j : Int) ∧ (vput n).length + 1 = j + (vput k).length ∧ k ≤ n ∧ Ext w wr) (fun m _ _ => (intOf m).toNat)
  case atStart => exact ⟨n, 1, rfl, rfl, by omega, Nat.le_refl _, Upd.refl _ _⟩
  case round =>
    obtain ⟨k, j, rfl, rfl, he, hkn, hu⟩ := hrel
    have HU := Lib.hid hu
    have h1 := vput_len1 k
    have HE := Lib.hid he
    have hj : j ≤ 10 := by omega
    clear hu he
    by_cases hlt : k < 128
    · have hk0 : ¬ (0 < (k : Int) / 128) := by omega
      have e := HE.out
      rw [vput_small hlt] at e
      have e2 : j = (vput n).length := by simp at e; omega
      subst e2
      clear e
      go_wp2
      go_ret
      exact ⟨rfl, HU.out⟩
    · have hk0 : 0 < (k : Int) / 128 := by omega
      have e := HE.out
      rw [vput_big hlt, List.length_cons] at e
      have HE2 := Lib.hid e
      clear e
      go_wp2
      go_roundw
      case rel => exact ⟨k / 128, j + 1, by congr 1, by go_num, by have := HE2.out; omega, by omega, HU.out⟩
      case measure => simp [intOf]; omega

set_option maxRecDepth 100000 in
set_option maxHeartbeats 1000000 in
theorem rPut_any (w : World) (n : Nat) (hn : n < 18446744073709551616) :
    Calls Tryd.prog 37 #[.int .u64 n] w fun e w' => ∃ v, e = .returned v ∧ w'.ownsRow w.heap.size 5 1 v (vput n).length ((vput n).map u8) ∧ Ext w w' := by
  have hlen := vput_len_le hn
  have hlen1 := vput_len1 n
  go_enter Tryd.func37, Tryd.ntmps37
  go_wp2_with (go_at_call 62; fail)
  refine (groups_any w n hn).mono ?_
  rintro e w1 ⟨rfl, hx⟩
  have HX := Lib.hid hx
  have hsz := hx.size
  clear hx
  go_wp2
  go_loopw [0, 3, 5] (fun m b i wr => ∃ (k j : Nat) (dn : List UInt8), m = .int .u64 (k : Int) ∧ i = .int .i64 (j : Int) ∧ dn.length = j ∧ j ≤ (vput n).length ∧ (j < (vput n).length → vput n = dn ++ vput k) ∧ (j = (vput n).length → dn = vput n) ∧ k ≤ n ∧ Ext w wr ∧ wr.ownsRow w.heap.size 5 1 b dn.length (dn.map u8)) (fun _ _ i _ => (vput n).length - (intOf i).toNat)
  case atStart => exact ⟨n, 0, [], rfl, rfl, rfl, by omega, fun _ => rfl, fun h => by omega, Nat.le_refl _, HX.out, World.ownsRow_nil _ _ _ _⟩
  case round =>
    obtain ⟨k, j, dn, rfl, rfl, hd, hj, ha, hb, hkn, hu, hown⟩ := hrel
    have HU := Lib.hid hu
    have hus := hu.size
    have HA := Lib.hid ha
    have HB := Lib.hid hb
    clear hu ha hb
    by_cases hlt : j < (vput n).length
    · have hv := HA.out hlt
      have hvl := congrArg List.length hv
      rw [List.length_append] at hvl
      by_cases h128 : k < 128
      · have hk1 : (vput k).length = 1 := by rw [vput_small h128]; rfl
        have hc : ¬ ((j : Int) + 1 < ((vput n).length : Int)) := by omega
        have HV := Lib.hid hv
        clear hv hvl hk1
        go_wp2_with (at_builtin; go_must (refine wpList_append_row rfl _ _ _ rfl Tryd.bytesT rfl (hown.alloc _) rfl (row_new _ _ _ 1 _ (by decide) (by simp)) rfl (by intro u hu; simp at hu; subst hu; rfl) ?c3 ?c4 ?c5 ?_))
        case c3 => unfold maxLen; omega
        case c4 => omega
        case c5 => first | omega | (simp; omega)
        intro v' w2 hown2 hg _
        have hx2 := (HU.out.alloc _).grown hg (fun j hj h => by have := (hown.lt j hj).1; omega)
        have HX2 := Lib.hid hx2
        have HO2 := Lib.hid hown2
        clear hx2 hg hown2
        go_wp2
        go_roundw
        case rel =>
          have ho : w2.ownsRow w.heap.size 5 1 v' (j + 1) ((dn ++ [UInt8.ofNat k]).map Go.Proofs.YtlhpcgmbbeihiaaDoor.u8) := by
            have := HO2.out
            rw [show (.int .u8 ((k : Int) % 128) : Value) = Go.Proofs.YtlhpcgmbbeihiaaDoor.u8 (UInt8.ofNat k) from by rw [Go.Proofs.YtlhpcgmbbeihiaaDoor.u8, ofNat_toNat (by omega)]; congr 1; omega] at this
            rw [List.map_append]; exact this
          have e := HV.out
          rw [vput_small h128] at e
          refine ⟨k / 128, j + 1, dn ++ [UInt8.ofNat k], by congr 1, by go_num, by simp [hd], by omega, fun h => by omega, fun _ => e.symm, by omega, HX2.out, ?_⟩
          rw [show (dn ++ [UInt8.ofNat k]).length = j + 1 from by simp [hd]]; exact ho
        case measure => simp [intOf]; omega
      · have hk1 : 1 ≤ (vput (k / 128)).length := vput_len1 _
        rw [vput_big h128, List.length_cons] at hvl
        have hc : (j : Int) + 1 < ((vput n).length : Int) := by omega
        have HV := Lib.hid hv
        clear hv hvl hk1
        go_wp2_with (at_builtin; go_must (refine wpList_append_row rfl _ _ _ rfl Tryd.bytesT rfl (hown.alloc _) rfl (row_new _ _ _ 1 _ (by decide) (by simp)) rfl (by intro u hu; simp at hu; subst hu; rfl) ?c3 ?c4 ?c5 ?_))
        case c3 => unfold maxLen; omega
        case c4 => omega
        case c5 => first | omega | (simp; omega)
        intro v' w2 hown2 hg _
        have hx2 := (HU.out.alloc _).grown hg (fun j hj h => by have := (hown.lt j hj).1; omega)
        have HX2 := Lib.hid hx2
        have HO2 := Lib.hid hown2
        clear hx2 hg hown2
        go_wp2
        go_roundw
        case rel =>
          have ho : w2.ownsRow w.heap.size 5 1 v' (j + 1) ((dn ++ [UInt8.ofNat (k % 128 + 128)]).map Go.Proofs.YtlhpcgmbbeihiaaDoor.u8) := by
            have := HO2.out
            rw [show (.int .u8 ((k : Int) % 128 + 128) : Value) = Go.Proofs.YtlhpcgmbbeihiaaDoor.u8 (UInt8.ofNat (k % 128 + 128)) from by rw [Go.Proofs.YtlhpcgmbbeihiaaDoor.u8, ofNat_toNat (by omega)]; congr 1] at this
            rw [List.map_append]; exact this
          have e := HV.out
          rw [vput_big h128] at e
          refine ⟨k / 128, j + 1, dn ++ [UInt8.ofNat (k % 128 + 128)], by congr 1, by go_num, by simp [hd], by omega, fun _ => by rw [e]; simp, fun h => by omega, by omega, HX2.out, ?_⟩
          rw [show (dn ++ [UInt8.ofNat (k % 128 + 128)]).length = j + 1 from by simp [hd]]; exact ho
        case measure => simp [intOf]; omega
    · have hje : j = (vput n).length := by omega
      have hdn := HB.out hje
      rw [hdn] at hown
      clear hdn hd
      go_wp2
      go_ret
      exact ⟨_, rfl, hown, HU.out⟩
end Go.Proofs.YtlhpcgmbbeihiaaDoor
namespace Go.Proofs.YtlhpcgmbbeihiaaDoor
open Go.RowKit

/-- A text as it is written. -/
def vtext (s : List UInt8) : List UInt8 := vput s.length ++ s

theorem index_str {P : Program} {T : TypeId} (hT : P.underlying T = some .string) {ps : List UInt8} {k : Nat} {c : UInt8} {m : Int} (hc : ps[k]? = some c) (hm : (c.toNat : Int) = m) (w : World) : (Instr.index T (str ps) (.int .i64 k)).run P w = .ok (.int .u8 m) w := by
  subst hm
  obtain ⟨hk, hck⟩ := List.getElem?_eq_some_iff.1 hc
  have hk' : k < (⟨ps.toArray⟩ : ByteArray).size := hk
  have hget : (⟨ps.toArray⟩ : ByteArray)[k]'hk' = c := hck
  rw [run_index_string _ _ _ _ _ hT, dif_pos ⟨by omega, by exact_mod_cast hk'⟩]
  congr 3
  simp only [Int.toNat_natCast]; rw [hget]
theorem strCells_map (l : List UInt8) : Lib.strCells ⟨l.toArray⟩ = l.map u8 := rfl

set_option maxRecDepth 100000 in
set_option maxHeartbeats 1000000 in
theorem vText_any (w : World) (s : List UInt8) (hs : s.length ≤ 70368744177664) :
    Calls Tryd.prog 34 #[str s] w fun e w' => ∃ v, e = .returned v ∧ w'.ownsRow w.heap.size 5 1 v (vtext s).length ((vtext s).map u8) ∧ Ext w w' := by
  have hlen := vput_len_le (n := s.length) (by omega)
  go_enter Tryd.func34, Tryd.ntmps34
  go_wp2_with (go_at_call 33; fail)
  refine (vPut_any w s.length (by omega)).mono ?_
  rintro e w1 ⟨v, rfl, hown, hx⟩
  have HX := Lib.hid hx
  have hsz := hx.size
  clear hx
  obtain ⟨va, vn, vc, rfl⟩ := ownsForm hown
  have hz : (Tryd.prog.info? 5).map (fun i => (i.zero, i.size, i.bytes)) = some (some (.int .u8 0), 1, 1) := by kernel_rfl
  obtain ⟨i, hi, hq⟩ := Option.map_eq_some_iff.1 hz
  simp only [Prod.mk.injEq] at hq
  obtain ⟨q1, q2, q3⟩ := hq
  clear hz
  go_wp2_with (at_builtin; go_must (refine Lib.wpList_append_own_string _ rfl _ _ _ _ rfl w.heap.size 5 i Tryd.underlying26 Tryd.underlying9 hi q1 q2 q3 _ _ _ rfl hown ⟨s.toArray⟩ rfl ?c3 ?c4 ?c5 ?_))
  case c3 => unfold maxLen; simp [ByteArray.size]; omega
  case c4 => simp [ByteArray.size]; omega
  case c5 => omega
  intro v' w2 hown2 hg _
  have hx2 := HX.out.grown hg (fun j hj h => by have := (hown.lt j hj).1; omega)
  go_wp2
  go_ret
  refine ⟨_, rfl, ?_, hx2⟩
  rw [strCells_map, ← List.map_append] at hown2
  rw [vtext, List.length_append]
  exact hown2

set_option maxRecDepth 100000 in
set_option maxHeartbeats 1000000 in
theorem rText_any (w : World) (s : List UInt8) (hs : s.length ≤ 70368744177664) :
    Calls Tryd.prog 38 #[str s] w fun e w' => ∃ v, e = .returned v ∧ w'.ownsRow w.heap.size 5 1 v (vtext s).length ((vtext s).map u8) ∧ Ext w w' := by
  have hlen := vput_len_le (n := s.length) (by omega)
  go_enter Tryd.func38, Tryd.ntmps38
  go_wp2_with (go_at_call 37; fail)
  refine (rPut_any w s.length (by omega)).mono ?_
  rintro e w1 ⟨v, rfl, hown, hx⟩
  have HX := Lib.hid hx
  have hsz := hx.size
  clear hx
  go_wp2
  go_loopw [3, 4] (fun v i wr => ∃ k : Nat, k ≤ s.length ∧ i = .int .i64 k ∧ Ext w wr ∧ wr.ownsRow w.heap.size 5 1 v ((vput s.length).length + k) ((vput s.length ++ s.take k).map u8))
    (fun _ i _ => s.length - (intOf i).toNat)
  case atStart => exact ⟨0, Nat.zero_le _, rfl, HX.out, by rw [List.take_zero, List.append_nil]; exact hown⟩
  case round =>
    obtain ⟨k, hk, rfl, hu, hown⟩ := hrel
    have HU := Lib.hid hu
    have hus := hu.size
    clear hu
    by_cases hlt : k < s.length
    · obtain ⟨m, hm⟩ : ∃ m : Int, m = s[k].toNat := ⟨_, rfl⟩
      have hm0 : 0 ≤ m := by omega
      have hm1 : m < 256 := by have := UInt8.toNat_lt s[k]; omega
      have hidx := index_str (P := Tryd.prog) Tryd.underlying9 (m := m) (List.getElem?_eq_getElem hlt) hm.symm
      have HM := Lib.hid hm
      clear hm
      go_wp2_with (at_builtin; go_must (refine wpList_append_row rfl _ _ _ rfl Tryd.bytesT rfl (hown.alloc _) rfl (row_new _ _ _ 1 _ (by decide) (by simp)) rfl (by intro u hu; simp at hu; subst hu; rfl) ?c3 ?c4 ?c5 ?_))
      case c3 => unfold maxLen; omega
      case c4 => omega
      case c5 => first | omega | (simp; omega)
      intro v' w2 hown2 hg _
      rw [show (.int .u8 m : Value) = Go.Proofs.YtlhpcgmbbeihiaaDoor.u8 s[k] from by rw [Go.Proofs.YtlhpcgmbbeihiaaDoor.u8, HM.out]] at hown2
      go_wp2
      go_roundw
      case rel => exact ⟨k + 1, by omega, by go_num, (HU.out.alloc _).grown hg (fun j hj h => by have := (hown.lt j hj).1; omega), by rw [List.take_succ_eq_append_getElem hlt, List.map_append, List.map_append, List.map_take]; exact hown2⟩
      case measure => simp [intOf]; omega
    · have hkn : k = s.length := by omega
      subst hkn
      rw [List.take_length] at hown
      go_wp2
      go_ret
      exact ⟨_, rfl, by rw [vtext, List.length_append]; exact hown, HU.out⟩
end Go.Proofs.YtlhpcgmbbeihiaaDoor
