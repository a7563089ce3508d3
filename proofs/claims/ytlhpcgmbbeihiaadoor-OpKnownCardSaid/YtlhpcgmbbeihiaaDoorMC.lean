/-
  CONTRACT of varint.Take: of any bytes, at any place in them.
  CONTRACT of varint.TakeText.
-/
import Derived.Test.YtlhpcgmbbeihiaaDoorMF
import Derived.WalkMore
namespace Go.Proofs.YtlhpcgmbbeihiaaDoor
open Go.RowKit

theorem vtake_step {i n : Nat} {c : UInt8} {l : List UInt8} (h : ¬ ((i = 9 ∧ 1 < c.toNat) ∨ (c.toNat = 0 ∧ 0 < i))) : vtake i n (c :: l) = if c.toNat < 128 then (n + c.toNat * 128 ^ i, i + 1, 0) else vtake (i + 1) (n + (c.toNat - 128) * 128 ^ i) l := by rw [vtake, if_neg h]
theorem vtake_long {i n : Nat} {c : UInt8} {l : List UInt8} (h : (i = 9 ∧ 1 < c.toNat) ∨ (c.toNat = 0 ∧ 0 < i)) : vtake i n (c :: l) = (0, 0, 2) := by rw [vtake, if_pos h]

theorem andNot128 : ∀ m : Fin 256, bits BinOp.andNot IntKind.u8 ((m.val : Nat) : Int) 128 = ((m.val % 128 : Nat) : Int) := by decide +kernel
theorem wraps_u64n {n : Int} (h0 : 0 ≤ n) (h1 : n < 18446744073709551616) : IntKind.u64.wrap n = n := by rw [IntKind.wrap_u64]; omega
theorem or_comm64 (x y : Int) : bits BinOp.or IntKind.u64 x y = bits BinOp.or IntKind.u64 y x := by simp only [bits, BitVec.or_comm]
/-- One group more. -/
theorem orGroup {N m k : Nat} (hm : m < 256) (hN : N < 128 ^ k) (hlt : m % 128 * 128 ^ k < 18446744073709551616) (h : N < 18446744073709551616) {z : Int} (hz : z = 2 ^ (7 * k)) :
    bits BinOp.or IntKind.u64 (N : Int) (IntKind.u64.wrap (IntKind.u64.wrap (bits BinOp.andNot IntKind.u8 (m : Int) 128) * z)) = ((N + m % 128 * 128 ^ k : Nat) : Int) := by
  have e : ((2 : Int) ^ (7 * k)) = ((128 ^ k : Nat) : Int) := by rw [Int.pow_mul]; simp
  have t64 : (2 : Int) ^ 64 = 18446744073709551616 := by decide
  obtain ⟨A, hA⟩ : ∃ A, A = 128 ^ k := ⟨_, rfl⟩
  obtain ⟨B, hB⟩ : ∃ B, B = m % 128 := ⟨_, rfl⟩
  subst hz
  rw [andNot128 ⟨m, hm⟩, e]
  dsimp only
  rw [← hA] at hN hlt e ⊢
  rw [← hB] at hlt ⊢
  have hB1 : B < 128 := by omega
  rw [wraps_u64n (n := (B : Int)) (by omega) (by omega), ← Int.natCast_mul]
  have hmod : ((B * A : Nat) : Int) % 2 ^ (7 * k) = 0 := by rw [e, Int.natCast_mul]; exact Int.mul_emod_left _ _
  have hn : (N : Int) < 2 ^ (7 * k) := by rw [e]; exact_mod_cast hN
  rw [wraps_u64n (by omega) (by omega), or_comm64]
  rw [bits_join .u64 64 (by decide) (fun n h0 h1 => wraps_u64n h0 (by rw [t64] at h1; exact h1)) (7 * k) _ _ (by omega) hmod (by rw [t64]; omega) (by omega) hn (by rw [t64]; omega)]
  omega

set_option maxRecDepth 100000 in
set_option maxHeartbeats 1000000 in
theorem vTake_same {S : Nat → Prop} (w : World) (v : Value) (l : List UInt8) (h : Bytes S w v l) (p : Nat) (hp : p ≤ l.length) :
    Calls Tryd.prog 63 #[v, .int .i64 p] w fun e w' => e = .returned (.tuple #[.int .u64 ((numF (l.drop p)).2.1 : Nat), .int .i64 ((p + (numF (l.drop p)).2.2 : Nat) : Int), .int .i64 (numF (l.drop p)).1]) ∧ w' = w := by
  have g := h.addr
  obtain ⟨a, c, rfl, hn, hm, -⟩ := h
  unfold maxLen at hm
  have G := Lib.hid g
  clear g
  by_cases hlt : p < l.length
  · have hi1 : (0 : Int) ≤ p := by omega
    have hi2 : (p : Int) < l.length := by omega
    obtain ⟨b1, o1, c1', e1, -, hnc, hcm, hc1⟩ := G.out (by omega)
    cases e1
    have HC := Lib.hid hc1
    clear hc1 G
    go_enter Tryd.func63, Tryd.ntmps63
    go_wp2
    go_step3
    go_wp2
    go_step3
    go_wp2
    go_loopw [4, 6, 23] (fun n er i wr => ∃ (k N : Nat), er = .int .i64 10 ∧ p + k ≤ l.length ∧ n = .int .u64 (N : Int) ∧ i = .int .i64 (k : Int) ∧ vtake 0 0 (l.drop p) = vtake k N (l.drop (p + k)) ∧ N < 128 ^ k ∧ k ≤ 9 ∧ wr = w) (fun _ _ i _ => l.length - (intOf i).toNat)
    case atStart => exact ⟨0, 0, rfl, by omega, rfl, rfl, by simp, by simp, by omega, rfl⟩
    case round =>
      obtain ⟨k, N, rfl, hk, rfl, rfl, ht, hN, hk9, hx⟩ := hrel
      have HWR := Lib.hid hx
      have hxe : Ext w wr := by rw [hx]; exact Upd.refl _ _
      clear hx
      have hx := hxe
      clear hxe
      have HX := Lib.hid hx
      have HT := Lib.hid ht
      have HN := Lib.hid hN
      have hN64 : N < 18446744073709551616 := by
        have : (128 : Nat) ^ k ≤ 128 ^ 9 := Nat.pow_le_pow_right (by decide) hk9
        rw [pow9] at this; omega
      clear hx ht hN
      by_cases hlk : p + k < l.length
      · obtain ⟨m, hm⟩ : ∃ m : Nat, m = l[p + k].toNat := ⟨_, rfl⟩
        have hm1 : m < 256 := by have := UInt8.toNat_lt l[p + k]; omega
        have hcell := HX.out.cell (bytes_cell HC.out (p + k) hlk) id
        rw [← hm, ← Nat.add_assoc] at hcell
        have HM := Lib.hid hm
        clear hm
        have hcond : k < l.length - p := by omega
        by_cases h9 : (k = 9 ∧ 1 < m) ∨ (m = 0 ∧ 0 < k)
        · have HQ := Lib.hid (show numF (l.drop p) = (11, 0, 0) from by
            unfold numF
            rw [HT.out, List.drop_eq_getElem_cons hlk, vtake_long (by rw [← HM.out]; exact h9)]
            rfl)
          by_cases h9a : k = 9 ∧ 1 < m
          · obtain ⟨h9a, h9b⟩ := h9a
            subst h9a
            clear h9
            go_wp2
            try rw [Exit.noGoto_ret]
            go_ret3
            exact ⟨by rw [HQ.out]; rfl, HWR.out⟩
          · obtain ⟨h9c, h9d⟩ : m = 0 ∧ 0 < k := by omega
            subst h9c
            by_cases h9e : k = 9
            · subst h9e
              go_wp2
              try rw [Exit.noGoto_ret]
              go_ret3
              exact ⟨by rw [HQ.out]; rfl, HWR.out⟩
            · go_wp2
              try rw [Exit.noGoto_ret]
              go_ret3
              exact ⟨by rw [HQ.out]; rfl, HWR.out⟩
        · have hq9 : k = 9 → m ≤ 1 := by omega
          have hq0 : 0 < k → 0 < m := by omega
          have hfit : m % 128 * 128 ^ k < 18446744073709551616 := by
            by_cases h : k = 9
            · subst h
              have := hq9 rfl
              have h3 : m % 128 * 128 ^ 9 ≤ 1 * 128 ^ 9 := Nat.mul_le_mul_right _ (by omega)
              rw [pow9] at h3 ⊢; omega
            · have h2 : (128 : Nat) ^ k ≤ 128 ^ 8 := Nat.pow_le_pow_right (by decide) (by omega)
              have h4 : m % 128 * 128 ^ k ≤ 127 * 128 ^ 8 := Nat.mul_le_mul (by omega) h2
              have : (127 * 128 ^ 8 : Nat) < 18446744073709551616 := by decide
              omega
          have HV := Lib.hid (show vtake 0 0 (l.drop p) = if m < 128 then (N + m * 128 ^ k, k + 1, 0) else vtake (k + 1) (N + (m - 128) * 128 ^ k) (l.drop (p + (k + 1))) from by
            rw [HT.out, List.drop_eq_getElem_cons hlk, vtake_step (by rw [← HM.out]; exact h9), ← HM.out]; rfl)
          have HF := Lib.hid hfit
          clear hfit
          by_cases h128 : m < 128
          · have HQ := Lib.hid (show numF (l.drop p) = (0, N + m * 128 ^ k, k + 1) from by
              unfold numF
              rw [HV.out, if_pos h128]; rfl)
            have hb := orGroup hm1 HN.out HF.out hN64 (z := 2 ^ (7 * k)) rfl
            rw [show m % 128 = m from by omega] at hb
            have key : ∀ (V : Int) (j : Int), V = ((N + m * 128 ^ k : Nat) : Int) → j = (p : Int) + k + 1 → Ending.returned (.tuple #[.int .u64 V, .int .i64 j, .int .i64 0]) = .returned (.tuple #[.int .u64 ((numF (l.drop p)).2.1 : Nat), .int .i64 ((p + (numF (l.drop p)).2.2 : Nat) : Int), .int .i64 (numF (l.drop p)).1]) := by
              intro V j hV hj
              subst hV; subst hj
              rw [HQ.out]
              congr 4
            have KEY := Lib.hid key
            clear key
            by_cases h9e : k = 9
            · subst h9e
              have HB := Lib.hid hb
              clear hb
              have hm0 : ¬ m = 0 := by have := hq0 (by omega); omega
              go_wp2
              try rw [Exit.noGoto_ret]
              go_ret3
              exact ⟨KEY.out _ _ HB.out (by omega), HWR.out⟩
            · by_cases hm0 : m = 0
              · have hk0 : ¬ 0 < k := by omega
                subst hm0
                have HB := Lib.hid hb
                clear hb
                go_wp2
                try rw [Exit.noGoto_ret]
                go_ret3
                exact ⟨KEY.out _ _ HB.out (by omega), HWR.out⟩
              · have HB := Lib.hid hb
                clear hb
                go_wp2
                try rw [Exit.noGoto_ret]
                go_ret3
                exact ⟨KEY.out _ _ HB.out (by omega), HWR.out⟩
          · have hb := orGroup hm1 HN.out HF.out hN64 (z := 2 ^ (7 * k)) rfl
            have HB := Lib.hid hb
            clear hb
            have hk9' : ¬ k = 9 := by omega
            go_wp2
            refine ⟨⟨_, _, _, _, _, _, _, ?rel, rfl, rfl, rfl, rfl, rfl, rfl, rfl⟩, ?measure⟩
            case rel =>
              refine ⟨rfl, k + 1, by omega, N + m % 128 * 128 ^ k, by rw [HB.out], by go_num, ?_, ?_, by omega, HWR.out⟩
              · rw [HV.out, if_neg h128, show m % 128 = m - 128 from by omega]
              · have := HN.out
                have h5 : m % 128 * 128 ^ k ≤ 127 * 128 ^ k := Nat.mul_le_mul_right _ (by omega)
                rw [Nat.pow_succ]; omega
            case measure => simp [intOf]; omega
      · have hkl : p + k = l.length := by omega
        have HQ := Lib.hid (show numF (l.drop p) = (10, 0, 0) from by
          unfold numF
          rw [HT.out, List.drop_eq_nil_of_le (by omega)]; rfl)
        have hcond : ¬ k < l.length - p := by omega
        go_wp2
        try rw [Exit.noGoto_ret]
        go_ret3
        exact ⟨by rw [HQ.out]; rfl, HWR.out⟩
  · go_enter Tryd.func63, Tryd.ntmps63
    go_wp2
    go_step3
    go_wp2
    try rw [Exit.noGoto_ret]
    go_ret3
    have hd : l.drop p = [] := List.drop_eq_nil_of_le (by omega)
    refine ⟨?_, rfl⟩
    rw [hd]; rfl
theorem vTake_any {S : Nat → Prop} (w : World) (v : Value) (l : List UInt8) (h : Bytes S w v l) (p : Nat) (hp : p ≤ l.length) :
    Calls Tryd.prog 63 #[v, .int .i64 p] w fun e w' => e = .returned (.tuple #[.int .u64 ((numF (l.drop p)).2.1 : Nat), .int .i64 ((p + (numF (l.drop p)).2.2 : Nat) : Int), .int .i64 (numF (l.drop p)).1]) ∧ Ext w w' :=
  (vTake_same w v l h p hp).mono fun _ _ ⟨h1, h2⟩ => ⟨h1, by rw [h2]; exact Upd.refl _ _⟩
end Go.Proofs.YtlhpcgmbbeihiaaDoor
namespace Go.Proofs.YtlhpcgmbbeihiaaDoor
open Go.RowKit

/-- A slice of a row. -/
theorem Row.slice {S : Nat → Prop} {w : World} {b o c n : Nat} {l : List UInt8} (hc1 : ∀ j u, (l.map u8)[j]? = some u → w.cell? ⟨b, o + j, none⟩ = some u) (hS : S b) (hm : c ≤ maxLen) (hn : l.length ≤ c) {q : Nat} (hq : q + n ≤ l.length) :
    Bytes S w (.slice (some ⟨b, o + q, none⟩) n (c - q)) ((l.drop q).take n) := by
  have hlen : ((l.drop q).take n).length = n := by simp; omega
  refine ⟨_, _, by rw [hlen], by omega, by omega, fun e => (by cases e), fun x e _ => (by cases e; exact ⟨rfl, hS⟩), fun b' o' e j u hj => ?_⟩
  cases e
  rw [Nat.add_assoc]
  apply hc1
  rw [List.getElem?_map] at hj ⊢
  rw [List.getElem?_take] at hj
  split at hj
  · rw [List.getElem?_drop] at hj; exact hj
  · simp at hj

set_option maxRecDepth 100000 in
set_option maxHeartbeats 1000000 in
theorem vTakeText_same {S : Nat → Prop} (w : World) (v : Value) (l : List UInt8) (h : Bytes S w v l) (p : Nat) (hp : p ≤ l.length) (hl : l.length ≤ 70368744177664) :
    Calls Tryd.prog 64 #[v, .int .i64 p] w fun e w' => e = .returned (.tuple #[str (textF (l.drop p)).2.1, .int .i64 ((p + (textF (l.drop p)).2.2 : Nat) : Int), .int .i64 (textF (l.drop p)).1]) ∧ w' = w := by
  have g := h.addr
  have H := Lib.hid h
  obtain ⟨a, c, rfl, hn, hm, -⟩ := h
  have G := Lib.hid g
  clear g
  go_enter Tryd.func64, Tryd.ntmps64
  go_wp2_with (go_at_call 63; fail)
  refine (vTake_same w _ l H.out p hp).mono ?_
  rintro e w1 ⟨rfl, hw1⟩
  have HWR := Lib.hid hw1
  have hx : Ext w w1 := by rw [hw1]; exact Upd.refl _ _
  clear hw1
  have HX := Lib.hid hx
  clear hx
  by_cases h0 : (numF (l.drop p)).1 = 0
  · obtain ⟨n1, n2, n3, n4⟩ := numF_ok h0
    rw [List.length_drop] at n4
    clear n2 n3
    obtain ⟨N, hN⟩ : ∃ N, N = (numF (l.drop p)).2.1 := ⟨_, rfl⟩
    obtain ⟨q, hq⟩ : ∃ q, q = p + (numF (l.drop p)).2.2 := ⟨_, rfl⟩
    rw [h0, ← hN, ← hq]
    rw [← hN] at n1
    have hql : q ≤ l.length := by omega
    by_cases hfit : l.length - q < N
    · have HQ := Lib.hid (show textF (l.drop p) = (10, [], 0) from by
        rw [textF, if_pos h0, if_pos (by rw [List.length_drop, ← hN]; omega)])
      have hc : (l.length : Int) - q < N := by omega
      clear hN hq h0 n4
      go_wp2
      go_ret3
      exact ⟨by rw [HQ.out]; rfl, HWR.out⟩
    · have HQ := Lib.hid (show textF (l.drop p) = (0, (l.drop q).take N, q - p + N) from by
        rw [textF, if_pos h0, if_neg (by rw [List.length_drop, ← hN]; omega), List.drop_drop, ← hq, ← hN]
        simp only [Prod.mk.injEq, true_and]; omega)
      have hc : ¬ (l.length : Int) - q < N := by omega
      have hpq : p ≤ q := by omega
      have hkey : ((q - p + N : Nat) : Int) + p = (q : Int) + N := by omega
      have hpl : 0 < l.length := by
        rcases Nat.lt_or_ge 0 l.length with h | h
        · exact h
        · have : l = [] := List.eq_nil_of_length_eq_zero (by omega)
          subst this
          simp [numF, vtake] at h0
      clear hN hq h0 n4
      obtain ⟨b1, o1, c1', e1, hS1, hnc, hcm, hc1⟩ := G.out hpl
      cases e1
      by_cases hcq : c = q
      · have hN0 : N = 0 := by omega
        subst hN0
        subst hcq
        have hcv := run_convert_bytes_empty (P := Tryd.prog) (w := w1) 26 5 Tryd.underlying26 Tryd.underlying5 ⟨b1, o1, none⟩ 0 9 Tryd.underlying9
        clear hc1 G
        go_wp2
        go_ret3
        refine ⟨?_, HWR.out⟩
        rw [HQ.out]
        dsimp only
        rw [List.take_zero, show ((p + (c - p + 0) : Nat) : Int) = (c : Int) from by omega]
        first | rfl | (simp; done)
      · have hr := Row.slice (S := fun _ => True) (w := w1) (fun j u hj => HX.out.cell (hc1 j u hj) id) trivial hcm hnc (q := q) (n := N) (by omega)
        have hcv := row_string (P := Tryd.prog) hr Tryd.underlying26 Tryd.underlying5 Tryd.underlying9
        clear hc1 G hr
        go_wp2
        go_ret3
        refine ⟨?_, HWR.out⟩
        rw [HQ.out]
        dsimp only
        rw [show ((p + (q - p + N) : Nat) : Int) = (q : Int) + N from by omega]
        rfl
  · have HQ := Lib.hid (show textF (l.drop p) = ((numF (l.drop p)).1, [], 0) from by rw [textF, if_neg h0])
    obtain ⟨E, hE⟩ : ∃ E, E = (numF (l.drop p)).1 := ⟨_, rfl⟩
    rw [← hE] at h0 HQ ⊢
    have hb : (E != 0) = true := by simpa using h0
    clear hE
    go_wp2
    go_ret3
    exact ⟨by rw [HQ.out]; rfl, HWR.out⟩
theorem vTakeText_any {S : Nat → Prop} (w : World) (v : Value) (l : List UInt8) (h : Bytes S w v l) (p : Nat) (hp : p ≤ l.length) (hl : l.length ≤ 70368744177664) :
    Calls Tryd.prog 64 #[v, .int .i64 p] w fun e w' => e = .returned (.tuple #[str (textF (l.drop p)).2.1, .int .i64 ((p + (textF (l.drop p)).2.2 : Nat) : Int), .int .i64 (textF (l.drop p)).1]) ∧ Ext w w' :=
  (vTakeText_same w v l h p hp hl).mono fun _ _ ⟨h1, h2⟩ => ⟨h1, by rw [h2]; exact Upd.refl _ _⟩
end Go.Proofs.YtlhpcgmbbeihiaaDoor
