/-
  The reference's same, Take, TakeText.
  The reference's TakeAll.
  The check of bytes, plain: a register, digit by digit, and by a table.
-/
import Derived.Test.YtnkmpoplibnflaaGreatDoorGAG
set_option maxRecDepth 100000
set_option maxHeartbeats 16000000
namespace Go.Proofs.YtnkmpoplibnflaaGreatDoor.Wk
open Go.Proofs.YtnkmpoplibnflaaGreatDoor Go.RowKit
def sameF (l : List UInt8) (p : Nat) (s : List UInt8) : Bool := (l.drop p).take s.length == s
theorem rsame_any {S1 S2 : Nat -> Prop} (w : World) (v1 v2 : Value) (l s : List UInt8) (h1 : Bytes S1 w v1 l) (h2 : Bytes S2 w v2 s) (p : Nat) (hp : p <= l.length) (hs : s.length <= 70368744177664) (hl : l.length <= 70368744177664) :
  Calls Tryz.prog 112 #[v1, .int .i64 p, v2] w fun e w' => e = .returned (.bool (sameF l p s)) /\ Ext w w' := by
 have g1 := h1.addr
 have g2 := h2.addr
 obtain ⟨a1, c1, rfl, hn1, hm1, -⟩ := h1
 obtain ⟨a2, c2, rfl, hn2, hm2, -⟩ := h2
 unfold maxLen at hm1 hm2
 by_cases hl : p + s.length <= l.length
 ·have hb : ¬ ((l.length : Int) < p + s.length) := by omega
  have G1 := zq g1
  have G2 := zq g2
  clear g1 g2
  go_enter Tryz.func112, Tryz.ntmps112
  go_wp2
  go_loopw [7] (fun i wr => ∃ k : Nat, k <= s.length /\ i = .int .i64 k /\ (l.drop p).take k = s.take k /\ Ext w wr)
   (fun i _ => s.length - (intOf i).toNat)
  case atStart => exact ⟨0, Nat.zero_le _, rfl, rfl, uZ⟩
  case round =>
   obtain ⟨k, hk, rfl, ht, hx⟩ := hrel
   have HT := zq ht
   clear ht
   by_cases hlt : k < s.length
   ·have hlt2 : p + k < l.length := by omega
    obtain ⟨b1, o1, c1', e1, -, -, -, hc1⟩ := G1.out (by omega)
    obtain ⟨b2, o2, c2', e2, -, -, -, hc2⟩ := G2.out (by omega)
    cases e1; cases e2
    have q1 := hx.cell (bytes_cell hc1 (p + k) hlt2) id
    have q2 := hx.cell (bytes_cell hc2 k hlt) id
    clear hc1 hc2
    have hdl : (l.drop p)[k]? = some l[p + k] := by rw [List.getElem?_drop, List.getElem?_eq_getElem hlt2]
    obtain ⟨hdk, hdv⟩ := List.getElem?_eq_some_iff.1 hdl
    have HDV := zq hdv
    clear hdl hdv
    by_cases he : (l[p + k].toNat : Int) = s[k].toNat
    ·have HE := zq he
     have hb2 : ((l[p + k].toNat : Int) != (s[k].toNat : Int)) = false := by simp [he]
     clear he
     go_wp2
     go_quiet (fail)
     go_wp2
     go_roundw
     case rel => exact ⟨k + 1, by omega, by go_num, take_ext hdk hlt HT.out (by rw [HDV.out]; exact HE.out), hx.drewN _⟩
     case measure => simp [intOf]; omega
    ·have hb2 : ((l[p + k].toNat : Int) != (s[k].toNat : Int)) = true := by simpa using he
     have HE := zq he
     clear he
     go_wp2
     go_quiet (fail)
     go_wp2
     go_ret
     refine ⟨?_, hx.drewN _⟩
     have : sameF l p s = false := by
      rw [sameF, beq_eq_false_iff_ne]
      intro e
      have h3 : ((l.drop p).take s.length)[k]? = s[k]? := by rw [e]
      rw [List.getElem?_take_of_lt hlt, List.getElem?_eq_getElem hdk, List.getElem?_eq_getElem hlt, HDV.out] at h3
      simp only [Option.some.injEq] at h3
      exact HE.out (by rw [h3])
     rw [this]; rfl
   ·go_wp2
    go_ret
    have hkl : k = s.length := by omega
    subst hkl
    refine ⟨?_, hx⟩
    have : sameF l p s = true := by rw [sameF, beq_iff_eq, HT.out, List.take_length]
    rw [this]; rfl
 ·have hb : (l.length : Int) < p + s.length := by omega
  clear g1 g2
  go_enter Tryz.func112, Tryz.ntmps112
  go_wp2
  go_ret
  refine ⟨?_, uZ⟩
  have : sameF l p s = false := by
   rw [sameF, beq_eq_false_iff_ne]
   intro e
   have := congrArg List.length e
   simp at this; omega
  rw [this]; rfl
theorem weight64 {k : Nat} (h : k <= 9) : IntKind.u64.wrap ((2 : Int) ^ (7 * k)) = ((128 ^ k : Nat) : Int) := by
 have e : ((2 : Int) ^ (7 * k)) = ((128 ^ k : Nat) : Int) := by rw [Int.pow_mul]; simp
 have h2 : (128 : Nat) ^ k <= 128 ^ 9 := Nat.pow_le_pow_right (by decide) h
 rw [pow9] at h2
 obtain ⟨A, hA⟩ : ∃ A, A = 128 ^ k := ⟨_, rfl⟩
 rw [<- hA] at e h2 ⊢
 rw [e, wraps_u64n (by omega) (by omega)]
theorem rgroup {N m k : Nat} (h9 : k <= 9) (hm : m % 128 * 128 ^ k < 18446744073709551616) (hsum : N + m % 128 * 128 ^ k < 18446744073709551616) :
  IntKind.u64.wrap ((N : Int) + IntKind.u64.wrap ((m : Int) % 128 * IntKind.u64.wrap (2 ^ (7 * k)))) = ((N + m % 128 * 128 ^ k : Nat) : Int) := by
 rw [weight64 h9, show (m : Int) % 128 = ((m % 128 : Nat) : Int) from by omega, <- Int.natCast_mul]
 obtain ⟨A, hA⟩ : ∃ A, A = m % 128 * 128 ^ k := ⟨_, rfl⟩
 rw [<- hA] at hm hsum ⊢
 rw [wraps_u64n (n := (A : Int)) (by omega) (by omega), wraps_u64n (by omega) (by omega)]
 omega
theorem sameF_put {l : List UInt8} {p V : Nat} (h : l.drop p = vput V ++ (l.drop p).drop (vput V).length) : sameF l p (vput V) = true := by
 rw [sameF, beq_iff_eq]
 conv => lhs; rw [h]
 rw [List.take_left']; rfl
theorem rTake_any {S : Nat -> Prop} (w : World) (v : Value) (l : List UInt8) (h : Bytes S w v l) (p : Nat) (hp : p <= l.length) (hl : l.length <= 70368744177664) :
  Calls Tryz.prog 90 #[v, .int .i64 p] w fun e w' => e = .returned (.tuple #[.int .u64 ((numF (l.drop p)).2.1 : Nat), .int .i64 ((p + (numF (l.drop p)).2.2 : Nat) : Int), .int .i64 (numF (l.drop p)).1]) /\ Ext w w' := by
 have g := h.addr
 have H := zq h
 obtain ⟨a, c, rfl, hn, hm, -⟩ := h
 unfold maxLen at hm
 have G := zq g
 clear g
 by_cases hlt : p < l.length
 ·have hi1 : (0 : Int) <= p := by omega
  have hi2 : (p : Int) < l.length := by omega
  have d2 : decide (l.length <= p) = false := by simp; omega
  obtain ⟨b1, o1, c1', e1, -, hnc, hcm, hc1⟩ := G.out (by omega)
  cases e1
  have HC := zq hc1
  clear hc1 G
  go_enter Tryz.func90, Tryz.ntmps90
  go_wp2
  go_loopw [7, 8] (fun n i wr => ∃ (k N : Nat), p + k <= l.length /\ n = .int .u64 (N : Int) /\ i = .int .i64 (k : Int) /\ vtake 0 0 (l.drop p) = vtake k N (l.drop (p + k)) /\ N < 128 ^ k /\ k <= 9 /\ Ext w wr) (fun _ i _ => l.length - (intOf i).toNat)
  case atStart => exact ⟨0, 0, by omega, rfl, rfl, by simp, by simp, by omega, uZ⟩
  case round =>
   obtain ⟨k, N, hk, rfl, rfl, ht, hN, hk9, hx⟩ := hrel
   have HX := zq hx
   have HT := zq ht
   have HN := zq hN
   have hN64 : N < 18446744073709551616 := by
    have : (128 : Nat) ^ k <= 128 ^ 9 := Nat.pow_le_pow_right (by decide) hk9
    rw [pow9] at this; omega
   clear hx ht hN
   by_cases hlk : p + k < l.length
   ·obtain ⟨m, hm⟩ : ∃ m : Nat, m = l[p + k].toNat := ⟨_, rfl⟩
    have hm1 : m < 256 := by have := UInt8.toNat_lt l[p + k]; omega
    have hcell := HX.out.cell (bytes_cell HC.out (p + k) hlk) id
    rw [<- hm] at hcell
    have HM := zq hm
    clear hm
    by_cases h9 : k = 9 /\ 1 < m
    ·have HQ := zq (show numF (l.drop p) = (11, 0, 0) from by
      unfold numF
      rw [HT.out, List.drop_eq_getElem_cons hlk, vtake_long (by rw [<- HM.out]; exact .inl h9)]
      rfl)
     obtain ⟨h9a, h9b⟩ := h9
     subst h9a
     go_wp2
     go_ret3
     exact ⟨by rw [HQ.out]; rfl, HX.out⟩
    ·have hq9 : k = 9 -> m <= 1 := by omega
     have hfit : N + m % 128 * 128 ^ k < 18446744073709551616 := by
      have hN := HN.out
      by_cases h : k = 9
      ·subst h
       have := hq9 rfl
       have h3 : m % 128 * 128 ^ 9 <= 1 * 128 ^ 9 := Nat.mul_le_mul_right _ (by omega)
       rw [pow9] at h3 hN ⊢; omega
      ·have h2 : (128 : Nat) ^ k <= 128 ^ 8 := Nat.pow_le_pow_right (by decide) (by omega)
       have h4 : m % 128 * 128 ^ k <= 127 * 128 ^ 8 := Nat.mul_le_mul (by omega) h2
       have : (127 * 128 ^ 8 : Nat) + 128 ^ 8 < 18446744073709551616 := by decide
       omega
     have hbit := rgroup (N := N) (m := m) hk9 (by omega) hfit
     by_cases h128 : m < 128
     ·rw [show m % 128 = m from by omega] at hbit hfit
      obtain ⟨V, hV⟩ : ∃ V, V = N + m * 128 ^ k := ⟨_, rfl⟩
      rw [<- hV] at hbit hfit
      have HB := zq hbit
      have hlenV := vput_len_le hfit
      -- what the document says
      have hcase : (m = 0 /\ 0 < k /\ numF (l.drop p) = (11, 0, 0) /\ (vput V).length <= k) \/ (numF (l.drop p) = (0, V, k + 1) /\ sameF l p (vput V) = true /\ (vput V).length = k + 1) := by
       by_cases h0 : m = 0 /\ 0 < k
       ·refine .inl ⟨h0.1, h0.2, ?_, ?_⟩
        ·unfold numF
         rw [HT.out, List.drop_eq_getElem_cons hlk, vtake_long (by rw [<- HM.out]; exact .inr h0)]
         rfl
        ·have hN := HN.out
         rw [h0.1, Nat.zero_mul, Nat.add_zero] at hV
         subst hV
         have := vput_len (k - 1) V (by rw [show k - 1 + 1 = k from by omega]; exact hN)
         omega
       ·have hq : vtake 0 0 (l.drop p) = (V, k + 1, 0) := by
         rw [HT.out, List.drop_eq_getElem_cons hlk, vtake_step (by rw [<- HM.out]; omega), <- HM.out, if_pos h128, <- hV]
        obtain ⟨M, e1, e2, -, e4⟩ := vput_vtake _ _ _ _ _ hq
        simp only [Nat.zero_add, Nat.pow_zero, Nat.mul_one] at e1 e2
        subst e1
        exact .inr ⟨by unfold numF; rw [hq]; rfl, sameF_put e4, e2.symm⟩
      have HCASE := zq hcase
      clear hbit hV hcase hq9
      go_wp2_with (go_at_call 96; fail)
      all_goals
       rw [HB.out]
       refine (rPut_any _ V hfit).mono ?_
       rintro e w2 ⟨v2, rfl, hown2, hx2⟩
       have hx02 := HX.out.trans hx2
       have HX2 := zq hx02
       obtain ⟨a2, n2, c2, rfl⟩ := ownsForm hown2
       clear hx2 hx02
       go_wp2_with (go_at_call 112; fail)
       refine (rsame_any _ _ _ l (vput V) (H.out.ext HX2.out) (Row.of_owns hown2) p hp (by omega) hl).mono ?_
       rintro e w3 ⟨rfl, hx3⟩
       have HX3 := zq (HX2.out.trans hx3)
       clear hx3
       rcases HCASE.out with ⟨hm0, hk0, hnum, hlen⟩ | ⟨hnum, hsame, hlen⟩
       ·have HQ := zq hnum
        clear hnum
        by_cases hsame : sameF l p (vput V) = true
        ·rw [hsame]
         clear hown2
         go_wp2_with (go_at_call 96; fail)
         refine (rPut_any _ V hfit).mono ?_
         rintro e w4 ⟨v4, rfl, hown4, hx4⟩
         have HX4 := zq (HX3.out.trans hx4)
         obtain ⟨a4, n4, c4, rfl⟩ := ownsForm hown4
         obtain ⟨L, hL⟩ : ∃ L, L = (vput V).length := ⟨_, rfl⟩
         have hneq : n4 = (vput V).length := by
          rcases hown4.2 with ⟨e, h⟩ | ⟨g, cap, cur, e, -⟩
          ·cases e; omega
          ·cases e; rfl
         have hb5 : ((k : Int) + 1 != (n4 : Int)) = true := by simp; omega
         clear hown4 hx4
         go_wp2
         go_ret3
         exact ⟨by rw [HQ.out]; rfl, HX4.out⟩
        ·have hs2 : sameF l p (vput V) = false := by simpa using hsame
         rw [hs2]
         clear hown2
         go_wp2
         go_ret3
         exact ⟨by rw [HQ.out]; rfl, HX3.out⟩
       ·have HQ := zq hnum
        clear hnum hown2
        rw [hsame]
        go_wp2_with (go_at_call 96; fail)
        refine (rPut_any _ V hfit).mono ?_
        rintro e w4 ⟨v4, rfl, hown4, hx4⟩
        have HX4 := zq (HX3.out.trans hx4)
        obtain ⟨a4, n4, c4, rfl⟩ := ownsForm hown4
        have hneq : n4 = k + 1 := by
         rcases hown4.2 with ⟨e, h⟩ | ⟨g, cap, cur, e, -⟩
         ·cases e; omega
         ·cases e; exact hlen
        subst hneq
        clear hown4 hx4
        go_wp2
        go_ret3
        refine ⟨?_, HX4.out⟩
        rw [HQ.out]
        dsimp only
        rw [show ((p + (k + 1) : Nat) : Int) = (p : Int) + k + 1 from by omega]
        first | rfl | (simp; omega)
     ·clear hfit
      have HB := zq hbit
      clear hbit
      have hk9' : ¬ k = 9 := by omega
      go_wp2
      go_roundw
      case rel =>
       refine ⟨k + 1, N + m % 128 * 128 ^ k, by omega, by rw [HB.out], by go_num, ?_, ?_, by omega, HX.out⟩
       ·rw [HT.out, List.drop_eq_getElem_cons hlk, vtake_step (by rw [<- HM.out]; omega), <- HM.out, if_neg h128, show m % 128 = m - 128 from by omega]; rfl
       ·have := HN.out
        have h5 : m % 128 * 128 ^ k <= 127 * 128 ^ k := Nat.mul_le_mul_right _ (by omega)
        rw [Nat.pow_succ]; omega
      case measure => simp [intOf]; omega
   ·have hkl : p + k = l.length := by omega
    have HQ := zq (show numF (l.drop p) = (10, 0, 0) from by
     unfold numF
     rw [HT.out, List.drop_eq_nil_of_le (by omega)]; rfl)
    go_wp2
    go_ret3
    exact ⟨by rw [HQ.out]; rfl, HX.out⟩
 ·go_enter Tryz.func90, Tryz.ntmps90
  go_wp2
  go_ret3
  have hd : l.drop p = [] := List.drop_eq_nil_of_le (by omega)
  refine ⟨?_, uZ⟩
  rw [hd]; rfl
theorem rTakeText_any {S : Nat -> Prop} (w : World) (v : Value) (l : List UInt8) (h : Bytes S w v l) (p : Nat) (hp : p <= l.length) (hl : l.length <= 70368744177664) :
  Calls Tryz.prog 92 #[v, .int .i64 p] w fun e w' => e = .returned (.tuple #[str (textF (l.drop p)).2.1, .int .i64 ((p + (textF (l.drop p)).2.2 : Nat) : Int), .int .i64 (textF (l.drop p)).1]) /\ Ext w w' := by
 have g := h.addr
 have H := zq h
 obtain ⟨a, c, rfl, hn, hm, -⟩ := h
 have G := zq g
 clear g
 go_enter Tryz.func92, Tryz.ntmps92
 go_wp2_with (go_at_call 90; fail)
 refine (rTake_any w _ l H.out p hp hl).mono ?_
 rintro e w1 ⟨rfl, hx⟩
 have HX := zq hx
 clear hx
 by_cases h0 : (numF (l.drop p)).1 = 0
 ·obtain ⟨n1, n2, n3, n4⟩ := numF_ok h0
  rw [List.length_drop] at n4
  clear n2 n3
  obtain ⟨N, hN⟩ : ∃ N, N = (numF (l.drop p)).2.1 := ⟨_, rfl⟩
  obtain ⟨q, hq⟩ : ∃ q, q = p + (numF (l.drop p)).2.2 := ⟨_, rfl⟩
  rw [h0, <- hN, <- hq]
  rw [<- hN] at n1
  have hql : q <= l.length := by omega
  by_cases hfit : l.length - q < N
  ·have HQ := zq (show textF (l.drop p) = (10, [], 0) from by
    rw [textF, if_pos h0, if_pos (by rw [List.length_drop, <- hN]; omega)])
   clear hN hq h0 n4
   by_cases hbig : l.length < N
   ·have hc : (l.length : Int) < N := by omega
    go_wp2
    go_ret3
    exact ⟨by rw [HQ.out]; rfl, HX.out⟩
   ·have hc : ¬ (l.length : Int) < N := by omega
    have hc2 : (l.length : Int) < (q : Int) + N := by omega
    go_wp2
    go_ret3
    exact ⟨by rw [HQ.out]; rfl, HX.out⟩
  ·have HQ := zq (show textF (l.drop p) = (0, (l.drop q).take N, q - p + N) from by
    rw [textF, if_pos h0, if_neg (by rw [List.length_drop, <- hN]; omega), List.drop_drop, <- hq, <- hN]
    simp only [Prod.mk.injEq, true_and]; omega)
   have hc : ¬ (l.length : Int) < N := by omega
   have hc2 : ¬ (l.length : Int) < (q : Int) + N := by omega
   have hpq : p <= q := by omega
   have hkey : ((q - p + N : Nat) : Int) + p = (q : Int) + N := by omega
   have hpl : 0 < l.length := by
    rcases Nat.lt_or_ge 0 l.length with h | h
    ·exact h
    ·have : l = [] := List.eq_nil_of_length_eq_zero (by omega)
     subst this
     simp [numF, vtake] at h0
   clear hN hq h0 n4
   obtain ⟨b1, o1, c1', e1, hS1, hnc, hcm, hc1⟩ := G.out hpl
   cases e1
   by_cases hcq : c = q
   ·have hN0 : N = 0 := by omega
    subst hN0
    subst hcq
    have hcv := run_convert_bytes_empty (P := Tryz.prog) (w := w1) 23 5 Tryz.underlying23 Tryz.underlying5 ⟨b1, o1, none⟩ 0 9 Tryz.underlying9
    clear hc1 G
    go_wp2
    go_ret3
    refine ⟨?_, HX.out⟩
    rw [HQ.out]
    dsimp only
    rw [List.take_zero, show ((p + (c - p + 0) : Nat) : Int) = (c : Int) from by omega]
    first | rfl | (simp; done)
   ·have hr := Row.slice (S := fun _ => True) (w := w1) (fun j u hj => HX.out.cell (hc1 j u hj) id) trivial hcm hnc (q := q) (n := N) (by omega)
    have hcv := row_string (P := Tryz.prog) hr Tryz.underlying23 Tryz.underlying5 Tryz.underlying9
    clear hc1 G hr
    go_wp2
    go_ret3
    refine ⟨?_, HX.out⟩
    rw [HQ.out]
    dsimp only
    rw [show ((p + (q - p + N) : Nat) : Int) = (q : Int) + N from by omega]
    rfl
 ·have HQ := zq (show textF (l.drop p) = ((numF (l.drop p)).1, [], 0) from by rw [textF, if_neg h0])
  obtain ⟨E, hE⟩ : ∃ E, E = (numF (l.drop p)).1 := ⟨_, rfl⟩
  rw [<- hE] at h0 HQ ⊢
  have hb : (E != 0) = true := by simpa using h0
  clear hE
  go_wp2
  go_ret3
  exact ⟨by rw [HQ.out]; rfl, HX.out⟩
end Go.Proofs.YtnkmpoplibnflaaGreatDoor.Wk
set_option maxRecDepth 100000
set_option maxHeartbeats 16000000
namespace Go.Proofs.YtnkmpoplibnflaaGreatDoor.Wk
open Go.Proofs.YtnkmpoplibnflaaGreatDoor Go.RowKit
abbrev nilS : Value := .slice none 0 0
def numsP (l : List UInt8) : Nat -> Nat -> Int × List Nat × Nat
 | 0, a => (0, [], a)
 | k + 1, a => if (numF (l.drop a)).1 = 0 then (if (numsP l k (a + (numF (l.drop a)).2.2)).1 = 0 then (0, (numF (l.drop a)).2.1 :: (numsP l k (a + (numF (l.drop a)).2.2)).2.1, (numsP l k (a + (numF (l.drop a)).2.2)).2.2) else ((numsP l k (a + (numF (l.drop a)).2.2)).1, [], 0)) else ((numF (l.drop a)).1, [], 0)
def numsJoin (dn : List Nat) (r : Int × List Nat × Nat) : Int × List Nat × Nat := if r.1 = 0 then (0, dn ++ r.2.1, r.2.2) else (r.1, [], 0)
theorem numsJoin_step {l : List UInt8} {dn : List Nat} {k a : Nat} (h : (numF (l.drop a)).1 = 0) : numsJoin dn (numsP l (k + 1) a) = numsJoin (dn ++ [(numF (l.drop a)).2.1]) (numsP l k (a + (numF (l.drop a)).2.2)) := by
 rw [numsP, if_pos h]
 by_cases h1 : (numsP l k (a + (numF (l.drop a)).2.2)).1 = 0
 ·rw [if_pos h1]
  simp only [numsJoin, h1, if_true]; simp
 ·rw [if_neg h1]
  simp only [numsJoin, if_neg h1]
theorem numsJoin_bad {l : List UInt8} {dn : List Nat} {k a : Nat} (h : (numF (l.drop a)).1 ≠ 0) : numsJoin dn (numsP l (k + 1) a) = ((numF (l.drop a)).1, [], 0) := by
 rw [numsP, if_neg h, numsJoin, if_neg h]
theorem Tryz.u64sT : SliceT Tryz.prog 80 22 1 8 := sliceT_of Tryz.underlying80 (by kernel_rfl) (by decide)
theorem rTakeAll_any {S : Nat -> Prop} (w : World) (v : Value) (l : List UInt8) (h : Bytes S w v l) (p many : Nat) (hp : p <= l.length) (hl : l.length <= 70368744177664) (hmany : many <= 100) :
  Calls Tryz.prog 69 #[v, .int .i64 p, .int .i64 many] w fun e w' => ∃ v, Ext w w' ∧
   (((numsP l many p).1 = 0 /\ (numsP l many p).2.2 <= l.length /\ (numsP l many p).2.1.length = many /\ e = .returned (.tuple #[v, .int .i64 ((numsP l many p).2.2 : Nat), .int .i64 0]) /\ w'.ownsRow w.heap.size 22 1 v many ((numsP l many p).2.1.map u64v)) ∨
    ((numsP l many p).1 ≠ 0 /\ e = .returned (.tuple #[nilS, .int .i64 p, .int .i64 (numsP l many p).1]))) := by
 have g := h.addr
 have H := zq h
 obtain ⟨a, c, rfl, hn, hm, -⟩ := h
 have G := zq g
 clear g
 obtain ⟨R, hR⟩ : ∃ R, R = numsP l many p := ⟨_, rfl⟩
 rw [<- hR]
 have HR := zq hR
 clear hR
 go_enter Tryz.func69, Tryz.ntmps69
 go_wp2
 go_loopw [9, 10, 11] (fun v q i wr => ∃ (j b : Nat) (dn : List Nat), j <= many /\ b <= l.length /\ dn.length = j /\ i = .int .i64 (j : Int) /\ q = .int .i64 (b : Int) /\ R = numsJoin dn (numsP l (many - j) b) /\ Ext w wr /\ wr.ownsRow w.heap.size 22 1 v dn.length (dn.map u64v)) (fun _ _ i _ => many - (intOf i).toNat)
 case atStart =>
  refine ⟨0, p, [], by omega, hp, rfl, rfl, rfl, ?_, uZ, World.ownsRow_nil _ _ _ _⟩
  rw [HR.out, numsJoin]
  split
  ·rename_i h; simp only [List.nil_append, Nat.sub_zero] at h ⊢
   exact (show ∀ q : Int × List Nat × Nat, q.1 = 0 -> q = (0, q.2.1, q.2.2) from by rintro ⟨x, y, z⟩ h; simp at h; subst h; rfl) _ h
  ·rename_i h
   simp only [Nat.sub_zero] at h ⊢
   cases many with
   | zero => exact absurd rfl h
   | succ m =>
    rw [numsP] at h ⊢
    split
    ·rename_i h1
     rw [if_pos h1] at h
     split
     ·rename_i h2; rw [if_pos h2] at h; exact absurd rfl h
     ·rfl
    ·rfl
 case round =>
  obtain ⟨j, b, dn, hj, hb, hdn, rfl, rfl, hr, hx, hown⟩ := hrel
  have HX := zq hx
  have hus := hx.size
  have HRJ := zq hr
  clear hx hr
  by_cases hlt : j < many
  ·go_wp2_with (go_at_call 90; fail)
   refine (rTake_any _ _ l (H.out.ext HX.out) b hb hl).mono ?_
   rintro e w2 ⟨rfl, hx2⟩
   have hown1 := hx2.ownsRow hown (fun _ _ e => e)
   have hsz2 := hx2.size
   have HX2 := zq (HX.out.trans hx2)
   clear hown hx2
   have hstep := HRJ.out
   rw [show many - j = (many - (j + 1)) + 1 from by omega] at hstep
   by_cases h0 : (numF (l.drop b)).1 = 0
   ·rw [numsJoin_step h0] at hstep
    obtain ⟨n1, n2, n3, n4⟩ := numF_ok h0
    rw [List.length_drop] at n4
    clear n2 n3
    obtain ⟨N, hN⟩ : ∃ N, N = (numF (l.drop b)).2.1 := ⟨_, rfl⟩
    obtain ⟨q, hq⟩ : ∃ q, q = b + (numF (l.drop b)).2.2 := ⟨_, rfl⟩
    rw [<- hN, <- hq] at hstep
    have hql : q <= l.length := by omega
    rw [h0, <- hN, <- hq]
    rw [<- hN] at n1
    have HS := zq hstep
    clear hstep hN hq n4 h0
    go_wp2_with (at_builtin; go_must (refine wpList_append_row rfl _ _ _ rfl Tryz.u64sT rfl (hown1.alloc _) rfl (row_new _ _ _ 1 _ (by decide) (by simp)) rfl (by intro u hu; simp at hu; subst hu; rfl) ?c3 ?c4 ?c5 ?_))
    case c3 => unfold maxLen; omega
    case c4 => omega
    case c5 => first | omega | (simp; omega)
    intro v' w3 hown3 hg _
    have hx3 := (HX2.out.alloc _).grown hg (fun j hj h => by have := (hown1.lt j hj).1; omega)
    have HX3 := zq hx3
    clear hx3 hg
    go_wp2
    go_roundw
    case rel => exact ⟨j + 1, q, dn ++ [N], by omega, hql, by simp [hdn], by go_num, rfl, HS.out, HX3.out, by rw [List.length_append, List.map_append, List.length_singleton, hdn]; exact hown3⟩
    case measure => simp [intOf]; omega
   ·rw [numsJoin_bad h0] at hstep
    obtain ⟨E, hE⟩ : ∃ E, E = (numF (l.drop b)).1 := ⟨_, rfl⟩
    rw [<- hE] at h0 hstep ⊢
    have hb : (E != 0) = true := by simpa using h0
    have HS := zq hstep
    have HE := zq h0
    clear hE hstep h0 hown1
    go_wp2
    go_ret3
    exact ⟨nilS, HX2.out, .inr ⟨by rw [HS.out]; exact HE.out, by rw [HS.out]; rfl⟩⟩
  ·have hjm : j = many := by omega
   subst hjm
   go_wp2
   go_ret3
   have := HRJ.out
   rw [Nat.sub_self, numsP, numsJoin, if_pos rfl] at this
   rw [this]
   dsimp only
   rw [List.append_nil]
   rw [hdn] at hown
   refine ⟨?v, HX.out, .inl ⟨rfl, hb, hdn, ?d, ?e⟩⟩
   case e => exact hown
   case d => rfl
end Go.Proofs.YtnkmpoplibnflaaGreatDoor.Wk
set_option maxRecDepth 100000
set_option maxHeartbeats 16000000
namespace Go.Proofs.YtnkmpoplibnflaaGreatDoor.Wk
open Go Go.Proofs.YtnkmpoplibnflaaGreatDoor Go.RowKit
def crcStep (n : Nat) : Nat := Nat.xor (n >>> 1) (if n % 2 = 1 then 2197175160 else 0)
def crcIter : Nat -> Nat -> Nat
 | 0, n => n
 | k + 1, n => crcStep (crcIter k n)
def crcCells (i : Nat) : Array Value := ((List.range 256).map fun j => Value.int .u32 (if j < i then ((crcIter 8 j : Nat) : Int) else 0)).toArray
theorem crcCells_size (i : Nat) : (crcCells i).size = 256 := by simp [crcCells]
theorem crcCells_at (i j : Nat) (_ : j < 256) {_ : j < (crcCells i).size} : (crcCells i)[j]'(by assumption) = Value.int .u32 (if j < i then ((crcIter 8 j : Nat) : Int) else 0) := by
 simp [crcCells]
theorem crcCells_set {i : Nat} (_ : i < 256) : (crcCells i).setIfInBounds i (.int .u32 ((crcIter 8 i : Nat) : Int)) = crcCells (i + 1) := by
 apply Array.ext
 ·simp [crcCells]
 ·intro j h1 h2
  have hj : j < 256 := by simpa [crcCells] using h2
  rw [Array.getElem_setIfInBounds (by simpa [crcCells] using hj), crcCells_at i j hj, crcCells_at (i + 1) j hj]
  by_cases e : i = j
  ·subst e; simp
  ·rw [if_neg e]
   have : (j < i + 1) = (j < i) := by rw [eq_iff_iff]; omega
   simp only [this]
theorem crcStep_lt {n : Nat} (h : n < 4294967296) : crcStep n < 4294967296 := by
 unfold crcStep
 refine Nat.xor_lt_two_pow (n := 32) ?_ ?_
 ·rw [Nat.shiftRight_eq_div_pow]; omega
 ·split <;> omega
theorem crcIter_lt : ∀ (k : Nat) {n : Nat}, n < 4294967296 -> crcIter k n < 4294967296
 | 0, _, h => h
 | k + 1, _, h => crcStep_lt (crcIter_lt k h)
theorem crcCells_zero : crcCells 0 = Tryz.zeroCells298 := by kernel_rfl
theorem crcCells_one (i : Nat) : AllOne (crcCells i) := by
 unfold AllOne crcCells
 rw [Array.all_eq_true]
 intro k hk
 simp [Value.oneCell']
theorem wraps32 (n : Int) (h0 : 0 <= n) (h1 : n < 2 ^ 32) : IntKind.u32.wrap n = n := by
 have h1 : n < 4294967296 := h1
 simp [IntKind.wrap, IntKind.bits, IntKind.signed]
 omega
theorem and32 (a b : Nat) (ha : a < 4294967296) (hb : b < 4294967296) : bits BinOp.and IntKind.u32 (a : Int) (b : Int) = ((a &&& b : Nat) : Int) :=
 (bits_nat .u32 32 (by decide) wraps32 a b ha hb).1
theorem xor32 (a b : Nat) (ha : a < 4294967296) (hb : b < 4294967296) : bits BinOp.xor IntKind.u32 (a : Int) (b : Int) = ((a ^^^ b : Nat) : Int) := by
 have ha' : a % 2 ^ IntKind.u32.bits = a := Nat.mod_eq_of_lt ha
 have hb' : b % 2 ^ IntKind.u32.bits = b := Nat.mod_eq_of_lt hb
 simp only [bits, BitVec.ofInt_natCast, BitVec.toNat_xor, BitVec.toNat_ofNat, ha', hb']
 have := Nat.xor_lt_two_pow (n := 32) ha hb
 exact wraps32 _ (Int.natCast_nonneg _) (by exact_mod_cast this)
theorem crc_law {n : Nat} (h : n < 4294967296) : bits BinOp.xor IntKind.u32 ((n : Int) / 2) (bits BinOp.and IntKind.u32 2197175160 (-bits BinOp.and IntKind.u32 (n : Int) 1 % 4294967296)) = ((crcStep n : Nat) : Int) := by
 unfold crcStep
 have e1 : bits BinOp.and IntKind.u32 (n : Int) 1 = ((n % 2 : Nat) : Int) := by
  rw [show (1 : Int) = ((1 : Nat) : Int) from rfl, and32 n 1 h (by decide), Nat.and_one_is_mod]
 have e2 : (n : Int) / (2 : Int) = ((n >>> 1 : Nat) : Int) := by rw [Nat.shiftRight_eq_div_pow]; omega
 have e3 : n >>> 1 < 4294967296 := by rw [Nat.shiftRight_eq_div_pow]; omega
 rw [e1, e2]
 rcases Nat.mod_two_eq_zero_or_one n with hm | hm
 ·rw [hm, if_neg (by decide), show (-((0 : Nat) : Int) % 4294967296) = ((0 : Nat) : Int) by decide, show (2197175160 : Int) = ((2197175160 : Nat) : Int) from rfl, and32 _ _ (by decide) (by decide), xor32 _ _ e3 (by decide)]
  rfl
 ·rw [hm, if_pos rfl, show (-((1 : Nat) : Int) % 4294967296) = ((4294967295 : Nat) : Int) by decide, show (2197175160 : Int) = ((2197175160 : Nat) : Int) from rfl, and32 _ _ (by decide) (by decide), xor32 _ _ e3 (by decide)]
  rfl
theorem parity_xor (a b : Nat) : (a ^^^ b) % 2 = (a % 2 + b % 2) % 2 := by
 have h := Nat.testBit_xor (x := a) (y := b) (i := 0)
 simp only [Nat.testBit_zero] at h
 have ha := Nat.mod_two_eq_zero_or_one a
 have hb := Nat.mod_two_eq_zero_or_one b
 have hc := Nat.mod_two_eq_zero_or_one (a ^^^ b)
 rcases ha with ha | ha <;> rcases hb with hb | hb <;> rcases hc with hc | hc <;> simp [ha, hb, hc] at h ⊢
theorem xlc (a b c : Nat) : a ^^^ (b ^^^ c) = b ^^^ (a ^^^ c) := by rw [<- Nat.xor_assoc, Nat.xor_comm a, Nat.xor_assoc]
theorem crcStep_xor (a b : Nat) : crcStep (a ^^^ b) = crcStep a ^^^ crcStep b := by
 unfold crcStep
 have e : ((a ^^^ b) >>> 1) = (a >>> 1) ^^^ (b >>> 1) := Nat.shiftRight_xor_distrib
 show Nat.xor ((a ^^^ b) >>> 1) _ = (Nat.xor _ _) ^^^ (Nat.xor _ _)
 rw [e, parity_xor]
 have ha := Nat.mod_two_eq_zero_or_one a
 have hb := Nat.mod_two_eq_zero_or_one b
 generalize a >>> 1 = x
 generalize b >>> 1 = y
 show (x ^^^ y) ^^^ _ = (x ^^^ _) ^^^ (y ^^^ _)
 rcases ha with ha | ha <;> rcases hb with hb | hb <;> simp only [ha, hb] <;> simp [Nat.xor_assoc, Nat.xor_comm, xlc]
theorem crcStep_even (y : Nat) : crcStep (2 * y) = y := by
 unfold crcStep
 rw [if_neg (by omega)]
 show ((2 * y) >>> 1) ^^^ 0 = y
 rw [Nat.xor_zero, Nat.shiftRight_eq_div_pow]; omega
theorem crcIter_xor : ∀ (k a b : Nat), crcIter k (a ^^^ b) = crcIter k a ^^^ crcIter k b
 | 0, _, _ => rfl
 | k + 1, a, b => by rw [crcIter, crcIter_xor k, crcStep_xor]; rfl
theorem crcIter_step : ∀ (k n : Nat), crcIter k (crcStep n) = crcStep (crcIter k n)
 | 0, _ => rfl
 | k + 1, n => by rw [crcIter, crcIter_step k]; rfl
theorem crcIter_shift : ∀ (k y : Nat), crcIter k (2 ^ k * y) = y
 | 0, y => by simp [crcIter]
 | k + 1, y => by
  rw [crcIter, <- crcIter_step, show 2 ^ (k + 1) * y = 2 * (2 ^ k * y) by rw [Nat.pow_succ]; ac_rfl, crcStep_even, crcIter_shift k]
theorem low_xor (x k : Nat) : (x % 2 ^ k) ^^^ (2 ^ k * (x / 2 ^ k % 2)) = x % 2 ^ (k + 1) := by
 have h1 : x % 2 ^ k < 2 ^ k := Nat.mod_lt _ (Nat.two_pow_pos k)
 have h := Nat.two_pow_add_eq_or_of_lt h1 (x / 2 ^ k % 2)
 rw [Nat.mod_pow_succ, Nat.add_comm, h]
 apply Nat.eq_of_testBit_eq
 intro i
 rw [Nat.testBit_xor, Nat.testBit_or, Nat.testBit_two_pow_mul]
 by_cases hi : k <= i
 ·have : (x % 2 ^ k).testBit i = false := Nat.testBit_lt_two_pow (Nat.lt_of_lt_of_le h1 (Nat.pow_le_pow_right (by decide) hi))
  simp [this]
 ·simp [hi]
theorem crc_digit (c x k : Nat) : crcStep (crcIter k (c ^^^ (x % 2 ^ k)) ^^^ (x / 2 ^ k % 2)) = crcIter (k + 1) (c ^^^ (x % 2 ^ (k + 1))) := by
 rw [<- low_xor, <- Nat.xor_assoc, crcIter, crcIter_xor k _ (2 ^ k * _), crcIter_shift]
theorem crc_byte (c x : Nat) : crcIter 8 (c ^^^ x) = crcIter 8 ((c % 256) ^^^ x) ^^^ (c / 256) := by
 have e : (c % 256) ^^^ (256 * (c / 256)) = c := by
  have h := Nat.two_pow_add_eq_or_of_lt (i := 8) (show c % 256 < 2 ^ 8 by omega) (c / 256)
  have h2 : c % 256 + 256 * (c / 256) = c := Nat.mod_add_div c 256
  have h3 : (c % 256) ^^^ (256 * (c / 256)) = (2 ^ 8 * (c / 256)) ||| (c % 256) := by
   apply Nat.eq_of_testBit_eq
   intro i
   rw [show (256 : Nat) * (c / 256) = 2 ^ 8 * (c / 256) from rfl, Nat.testBit_xor, Nat.testBit_or, Nat.testBit_two_pow_mul]
   by_cases hi : 8 <= i
   ·have : (c % 256).testBit i = false := Nat.testBit_lt_two_pow (Nat.lt_of_lt_of_le (show c % 256 < 2 ^ 8 by omega) (Nat.pow_le_pow_right (by decide) hi))
    simp [this]
   ·simp [hi]
  rw [h3, <- h]
  show 256 * (c / 256) + c % 256 = c
  omega
 have e2 : c ^^^ x = ((c % 256) ^^^ x) ^^^ (2 ^ 8 * (c / 256)) := by
  show _ = ((c % 256) ^^^ x) ^^^ (256 * (c / 256))
  rw [Nat.xor_assoc, Nat.xor_comm x, <- Nat.xor_assoc, e]
 rw [e2, crcIter_xor 8 _ (2 ^ 8 * (c / 256)), crcIter_shift]
def crcUp (c : Nat) (l : List UInt8) : Nat := l.foldl (fun c x => crcIter 8 (c ^^^ x.toNat)) c
theorem xor_lt32 {a b : Nat} (ha : a < 4294967296) (hb : b < 4294967296) : a ^^^ b < 4294967296 := Nat.xor_lt_two_pow (n := 32) ha hb
theorem crcUp_lt : ∀ (l : List UInt8) {c : Nat}, c < 4294967296 -> crcUp c l < 4294967296
 | [], _, h => h
 | x :: l, c, h => crcUp_lt l (crcIter_lt 8 (xor_lt32 h (by have := x.toNat_lt; omega)))
theorem crcUp_snoc (c : Nat) (l : List UInt8) (x : UInt8) : crcUp c (l ++ [x]) = crcIter 8 (crcUp c l ^^^ x.toNat) := by simp [crcUp]
def crcF (l : List UInt8) : Nat := crcUp 4294967295 l ^^^ 4294967295
theorem crcF_lt (l : List UInt8) : crcF l < 4294967296 := xor_lt32 (crcUp_lt l (by decide)) (by decide)
end Go.Proofs.YtnkmpoplibnflaaGreatDoor.Wk
