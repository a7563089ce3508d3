/-
  CONTRACT of the reference's same.
  CONTRACT of the reference's Take: of any bytes, at any place in them.
  CONTRACT of the reference's TakeText.
-/
import Derived.Test.YtlhpcgmbbeihiaaDoorMF
import Derived.Test.YtlhpcgmbbeihiaaDoorMC
namespace Go.Proofs.YtlhpcgmbbeihiaaDoor
open Go.RowKit

/-- Do the bytes s stand at p? -/
def sameF (l : List UInt8) (p : Nat) (s : List UInt8) : Bool := (l.drop p).take s.length == s
set_option maxRecDepth 100000 in
set_option maxHeartbeats 1000000 in
theorem rsame_any {S1 S2 : Nat → Prop} (w : World) (v1 v2 : Value) (l s : List UInt8) (h1 : Bytes S1 w v1 l) (h2 : Bytes S2 w v2 s) (p : Nat) (hp : p ≤ l.length) (hs : s.length ≤ 70368744177664) (hl : l.length ≤ 70368744177664) :
    Calls Tryd.prog 66 #[v1, .int .i64 p, v2] w fun e w' => e = .returned (.bool (sameF l p s)) ∧ Ext w w' := by
  have g1 := h1.addr
  have g2 := h2.addr
  obtain ⟨a1, c1, rfl, hn1, hm1, -⟩ := h1
  obtain ⟨a2, c2, rfl, hn2, hm2, -⟩ := h2
  unfold maxLen at hm1 hm2
  by_cases hl : p + s.length ≤ l.length
  · have hb : ¬ ((l.length : Int) < p + s.length) := by omega
    have G1 := Lib.hid g1
    have G2 := Lib.hid g2
    clear g1 g2
    go_enter Tryd.func66, Tryd.ntmps66
    go_wp2
    go_loopw [7] (fun i wr => ∃ k : Nat, k ≤ s.length ∧ i = .int .i64 k ∧ (l.drop p).take k = s.take k ∧ Ext w wr)
      (fun i _ => s.length - (intOf i).toNat)
    case atStart => exact ⟨0, Nat.zero_le _, rfl, rfl, Upd.refl _ _⟩
    case round =>
      obtain ⟨k, hk, rfl, ht, hx⟩ := hrel
      have HT := Lib.hid ht
      clear ht
      by_cases hlt : k < s.length
      · have hlt2 : p + k < l.length := by omega
        obtain ⟨b1, o1, c1', e1, -, -, -, hc1⟩ := G1.out (by omega)
        obtain ⟨b2, o2, c2', e2, -, -, -, hc2⟩ := G2.out (by omega)
        cases e1; cases e2
        have q1 := hx.cell (bytes_cell hc1 (p + k) hlt2) id
        have q2 := hx.cell (bytes_cell hc2 k hlt) id
        clear hc1 hc2
        have hdl : (l.drop p)[k]? = some l[p + k] := by rw [List.getElem?_drop, List.getElem?_eq_getElem hlt2]
        obtain ⟨hdk, hdv⟩ := List.getElem?_eq_some_iff.1 hdl
        have HDV := Lib.hid hdv
        clear hdl hdv
        by_cases he : (l[p + k].toNat : Int) = s[k].toNat
        · have HE := Lib.hid he
          have hb2 : ((l[p + k].toNat : Int) != (s[k].toNat : Int)) = false := by simp [he]
          clear he
          go_wp2
          go_quiet (fail)
          go_wp2
          go_roundw
          case rel => exact ⟨k + 1, by omega, by go_num, take_ext hdk hlt HT.out (by rw [HDV.out]; exact HE.out), hx.drewN _⟩
          case measure => simp [intOf]; omega
        · have hb2 : ((l[p + k].toNat : Int) != (s[k].toNat : Int)) = true := by simpa using he
          have HE := Lib.hid he
          clear he
          go_wp2
          go_quiet (fail)
          go_wp2
          go_ret
          refine ⟨?_, hx.drewN _⟩
          have : sameF l p s = false := by
            rw [sameF, beq_eq_false_iff_ne]
            intro e
            have h3 : ((l.drop p).take s.length)[k]? = s[k]? := by rw [e]
            rw [List.getElem?_take_of_lt hlt, List.getElem?_eq_getElem hdk, List.getElem?_eq_getElem hlt, HDV.out] at h3
            simp only [Option.some.injEq] at h3
            exact HE.out (by rw [h3])
          rw [this]; rfl
      · go_wp2
        go_ret
        have hkl : k = s.length := by omega
        subst hkl
        refine ⟨?_, hx⟩
        have : sameF l p s = true := by rw [sameF, beq_iff_eq, HT.out, List.take_length]
        rw [this]; rfl
  · have hb : (l.length : Int) < p + s.length := by omega
    clear g1 g2
    go_enter Tryd.func66, Tryd.ntmps66
    go_wp2
    go_ret
    refine ⟨?_, Upd.refl _ _⟩
    have : sameF l p s = false := by
      rw [sameF, beq_eq_false_iff_ne]
      intro e
      have := congrArg List.length e
      simp at this; omega
    rw [this]; rfl
end Go.Proofs.YtlhpcgmbbeihiaaDoor
namespace Go.Proofs.YtlhpcgmbbeihiaaDoor
open Go.RowKit

theorem weight64 {k : Nat} (h : k ≤ 9) : IntKind.u64.wrap ((2 : Int) ^ (7 * k)) = ((128 ^ k : Nat) : Int) := by
  have e : ((2 : Int) ^ (7 * k)) = ((128 ^ k : Nat) : Int) := by rw [Int.pow_mul]; simp
  have h2 : (128 : Nat) ^ k ≤ 128 ^ 9 := Nat.pow_le_pow_right (by decide) h
  rw [pow9] at h2
  obtain ⟨A, hA⟩ : ∃ A, A = 128 ^ k := ⟨_, rfl⟩
  rw [← hA] at e h2 ⊢
  rw [e, wraps_u64n (by omega) (by omega)]
theorem rgroup {N m k : Nat} (h9 : k ≤ 9) (hm : m % 128 * 128 ^ k < 18446744073709551616) (hsum : N + m % 128 * 128 ^ k < 18446744073709551616) :
    IntKind.u64.wrap ((N : Int) + IntKind.u64.wrap ((m : Int) % 128 * IntKind.u64.wrap (2 ^ (7 * k)))) = ((N + m % 128 * 128 ^ k : Nat) : Int) := by
  rw [weight64 h9, show (m : Int) % 128 = ((m % 128 : Nat) : Int) from by omega, ← Int.natCast_mul]
  obtain ⟨A, hA⟩ : ∃ A, A = m % 128 * 128 ^ k := ⟨_, rfl⟩
  rw [← hA] at hm hsum ⊢
  rw [wraps_u64n (n := (A : Int)) (by omega) (by omega), wraps_u64n (by omega) (by omega)]
  omega
theorem sameF_put {l : List UInt8} {p V : Nat} (h : l.drop p = vput V ++ (l.drop p).drop (vput V).length) : sameF l p (vput V) = true := by
  rw [sameF, beq_iff_eq]
  conv => lhs; rw [h]
  rw [List.take_left']; rfl

set_option maxRecDepth 100000 in
set_option maxHeartbeats 1000000 in
theorem rTake_any {S : Nat → Prop} (w : World) (v : Value) (l : List UInt8) (h : Bytes S w v l) (p : Nat) (hp : p ≤ l.length) (hl : l.length ≤ 70368744177664) :
    Calls Tryd.prog 44 #[v, .int .i64 p] w fun e w' => e = .returned (.tuple #[.int .u64 ((numF (l.drop p)).2.1 : Nat), .int .i64 ((p + (numF (l.drop p)).2.2 : Nat) : Int), .int .i64 (numF (l.drop p)).1]) ∧ Ext w w' := by
  have g := h.addr
  have H := Lib.hid h
  obtain ⟨a, c, rfl, hn, hm, -⟩ := h
  unfold maxLen at hm
  have G := Lib.hid g
  clear g
  by_cases hlt : p < l.length
  · have hi1 : (0 : Int) ≤ p := by omega
    have hi2 : (p : Int) < l.length := by omega
    have d2 : decide (l.length ≤ p) = false := by simp; omega
    obtain ⟨b1, o1, c1', e1, -, hnc, hcm, hc1⟩ := G.out (by omega)
    cases e1
    have HC := Lib.hid hc1
    clear hc1 G
    go_enter Tryd.func44, Tryd.ntmps44
    go_wp2
    go_loopw [7, 8] (fun n i wr => ∃ (k N : Nat), p + k ≤ l.length ∧ n = .int .u64 (N : Int) ∧ i = .int .i64 (k : Int) ∧ vtake 0 0 (l.drop p) = vtake k N (l.drop (p + k)) ∧ N < 128 ^ k ∧ k ≤ 9 ∧ Ext w wr) (fun _ i _ => l.length - (intOf i).toNat)
    case atStart => exact ⟨0, 0, by omega, rfl, rfl, by simp, by simp, by omega, Upd.refl _ _⟩
    case round =>
      obtain ⟨k, N, hk, rfl, rfl, ht, hN, hk9, hx⟩ := hrel
      have HX := Lib.hid hx
      have HT := Lib.hid ht
      have HN := Lib.hid hN
      have hN64 : N < 18446744073709551616 := by
        have : (128 : Nat) ^ k ≤ 128 ^ 9 := Nat.pow_le_pow_right (by decide) hk9
        rw [pow9] at this; omega
      clear hx ht hN
      by_cases hlk : p + k < l.length
      · obtain ⟨m, hm⟩ : ∃ m : Nat, m = l[p + k].toNat := ⟨_, rfl⟩
        have hm1 : m < 256 := by have := UInt8.toNat_lt l[p + k]; omega
        have hcell := HX.out.cell (bytes_cell HC.out (p + k) hlk) id
        rw [← hm] at hcell
        have HM := Lib.hid hm
        clear hm
        by_cases h9 : k = 9 ∧ 1 < m
        · have HQ := Lib.hid (show numF (l.drop p) = (11, 0, 0) from by
            unfold numF
            rw [HT.out, List.drop_eq_getElem_cons hlk, vtake_long (by rw [← HM.out]; exact .inl h9)]
            rfl)
          obtain ⟨h9a, h9b⟩ := h9
          subst h9a
          go_wp2
          go_ret3
          exact ⟨by rw [HQ.out]; rfl, HX.out⟩
        · have hq9 : k = 9 → m ≤ 1 := by omega
          have hfit : N + m % 128 * 128 ^ k < 18446744073709551616 := by
            have hN := HN.out
            by_cases h : k = 9
            · subst h
              have := hq9 rfl
              have h3 : m % 128 * 128 ^ 9 ≤ 1 * 128 ^ 9 := Nat.mul_le_mul_right _ (by omega)
              rw [pow9] at h3 hN ⊢; omega
            · have h2 : (128 : Nat) ^ k ≤ 128 ^ 8 := Nat.pow_le_pow_right (by decide) (by omega)
              have h4 : m % 128 * 128 ^ k ≤ 127 * 128 ^ 8 := Nat.mul_le_mul (by omega) h2
              have : (127 * 128 ^ 8 : Nat) + 128 ^ 8 < 18446744073709551616 := by decide
              omega
          have hbit := rgroup (N := N) (m := m) hk9 (by omega) hfit
          by_cases h128 : m < 128
          · rw [show m % 128 = m from by omega] at hbit hfit
            obtain ⟨V, hV⟩ : ∃ V, V = N + m * 128 ^ k := ⟨_, rfl⟩
            rw [← hV] at hbit hfit
            have HB := Lib.hid hbit
            have hlenV := vput_len_le hfit
            -- what the document says
            have hcase : (m = 0 ∧ 0 < k ∧ numF (l.drop p) = (11, 0, 0) ∧ (vput V).length ≤ k) ∨ (numF (l.drop p) = (0, V, k + 1) ∧ sameF l p (vput V) = true ∧ (vput V).length = k + 1) := by
              by_cases h0 : m = 0 ∧ 0 < k
              · refine .inl ⟨h0.1, h0.2, ?_, ?_⟩
                · unfold numF
                  rw [HT.out, List.drop_eq_getElem_cons hlk, vtake_long (by rw [← HM.out]; exact .inr h0)]
                  rfl
                · have hN := HN.out
                  rw [h0.1, Nat.zero_mul, Nat.add_zero] at hV
                  subst hV
                  have := vput_len (k - 1) V (by rw [show k - 1 + 1 = k from by omega]; exact hN)
                  omega
              · have hq : vtake 0 0 (l.drop p) = (V, k + 1, 0) := by
                  rw [HT.out, List.drop_eq_getElem_cons hlk, vtake_step (by rw [← HM.out]; omega), ← HM.out, if_pos h128, ← hV]
                obtain ⟨M, e1, e2, -, e4⟩ := vput_vtake _ _ _ _ _ hq
                simp only [Nat.zero_add, Nat.pow_zero, Nat.mul_one] at e1 e2
                subst e1
                exact .inr ⟨by unfold numF; rw [hq]; rfl, sameF_put e4, e2.symm⟩
            have HCASE := Lib.hid hcase
            clear hbit hV hcase hq9
            go_wp2_with (go_at_call 37; fail)
            all_goals
              rw [HB.out]
              refine (rPut_any _ V hfit).mono ?_
              rintro e w2 ⟨v2, rfl, hown2, hx2⟩
              have hx02 := HX.out.trans hx2
              have HX2 := Lib.hid hx02
              obtain ⟨a2, n2, c2, rfl⟩ := ownsForm hown2
              clear hx2 hx02
              go_wp2_with (go_at_call 66; fail)
              refine (rsame_any _ _ _ l (vput V) (H.out.ext HX2.out) (Row.of_owns hown2) p hp (by omega) hl).mono ?_
              rintro e w3 ⟨rfl, hx3⟩
              have HX3 := Lib.hid (HX2.out.trans hx3)
              clear hx3
              rcases HCASE.out with ⟨hm0, hk0, hnum, hlen⟩ | ⟨hnum, hsame, hlen⟩
              · have HQ := Lib.hid hnum
                clear hnum
                by_cases hsame : sameF l p (vput V) = true
                · rw [hsame]
                  clear hown2
                  go_wp2_with (go_at_call 37; fail)
                  refine (rPut_any _ V hfit).mono ?_
                  rintro e w4 ⟨v4, rfl, hown4, hx4⟩
                  have HX4 := Lib.hid (HX3.out.trans hx4)
                  obtain ⟨a4, n4, c4, rfl⟩ := ownsForm hown4
                  obtain ⟨L, hL⟩ : ∃ L, L = (vput V).length := ⟨_, rfl⟩
                  have hneq : n4 = (vput V).length := by
                    rcases hown4.2 with ⟨e, h⟩ | ⟨g, cap, cur, e, -⟩
                    · cases e; omega
                    · cases e; rfl
                  have hb5 : ((k : Int) + 1 != (n4 : Int)) = true := by simp; omega
                  clear hown4 hx4
                  go_wp2
                  go_ret3
                  exact ⟨by rw [HQ.out]; rfl, HX4.out⟩
                · have hs2 : sameF l p (vput V) = false := by simpa using hsame
                  rw [hs2]
                  clear hown2
                  go_wp2
                  go_ret3
                  exact ⟨by rw [HQ.out]; rfl, HX3.out⟩
              · have HQ := Lib.hid hnum
                clear hnum hown2
                rw [hsame]
                go_wp2_with (go_at_call 37; fail)
                refine (rPut_any _ V hfit).mono ?_
                rintro e w4 ⟨v4, rfl, hown4, hx4⟩
                have HX4 := Lib.hid (HX3.out.trans hx4)
                obtain ⟨a4, n4, c4, rfl⟩ := ownsForm hown4
                have hneq : n4 = k + 1 := by
                  rcases hown4.2 with ⟨e, h⟩ | ⟨g, cap, cur, e, -⟩
                  · cases e; omega
                  · cases e; exact hlen
                subst hneq
                clear hown4 hx4
                go_wp2
                go_ret3
                refine ⟨?_, HX4.out⟩
                rw [HQ.out]
                dsimp only
                rw [show ((p + (k + 1) : Nat) : Int) = (p : Int) + k + 1 from by omega]
                first | rfl | (simp; omega)
          · clear hfit
            have HB := Lib.hid hbit
            clear hbit
            have hk9' : ¬ k = 9 := by omega
            go_wp2
            go_roundw
            case rel =>
              refine ⟨k + 1, N + m % 128 * 128 ^ k, by omega, by rw [HB.out], by go_num, ?_, ?_, by omega, HX.out⟩
              · rw [HT.out, List.drop_eq_getElem_cons hlk, vtake_step (by rw [← HM.out]; omega), ← HM.out, if_neg h128, show m % 128 = m - 128 from by omega]; rfl
              · have := HN.out
                have h5 : m % 128 * 128 ^ k ≤ 127 * 128 ^ k := Nat.mul_le_mul_right _ (by omega)
                rw [Nat.pow_succ]; omega
            case measure => simp [intOf]; omega
      · have hkl : p + k = l.length := by omega
        have HQ := Lib.hid (show numF (l.drop p) = (10, 0, 0) from by
          unfold numF
          rw [HT.out, List.drop_eq_nil_of_le (by omega)]; rfl)
        go_wp2
        go_ret3
        exact ⟨by rw [HQ.out]; rfl, HX.out⟩
  · go_enter Tryd.func44, Tryd.ntmps44
    go_wp2
    go_ret3
    have hd : l.drop p = [] := List.drop_eq_nil_of_le (by omega)
    refine ⟨?_, Upd.refl _ _⟩
    rw [hd]; rfl
end Go.Proofs.YtlhpcgmbbeihiaaDoor
namespace Go.Proofs.YtlhpcgmbbeihiaaDoor
open Go.RowKit

set_option maxRecDepth 100000 in
set_option maxHeartbeats 1000000 in
theorem rTakeText_any {S : Nat → Prop} (w : World) (v : Value) (l : List UInt8) (h : Bytes S w v l) (p : Nat) (hp : p ≤ l.length) (hl : l.length ≤ 70368744177664) :
    Calls Tryd.prog 45 #[v, .int .i64 p] w fun e w' => e = .returned (.tuple #[str (textF (l.drop p)).2.1, .int .i64 ((p + (textF (l.drop p)).2.2 : Nat) : Int), .int .i64 (textF (l.drop p)).1]) ∧ Ext w w' := by
  have g := h.addr
  have H := Lib.hid h
  obtain ⟨a, c, rfl, hn, hm, -⟩ := h
  have G := Lib.hid g
  clear g
  go_enter Tryd.func45, Tryd.ntmps45
  go_wp2_with (go_at_call 44; fail)
  refine (rTake_any w _ l H.out p hp hl).mono ?_
  rintro e w1 ⟨rfl, hx⟩
  have HX := Lib.hid hx
  clear hx
  by_cases h0 : (numF (l.drop p)).1 = 0
  · obtain ⟨n1, n2, n3, n4⟩ := numF_ok h0
    rw [List.length_drop] at n4
    clear n2 n3
    obtain ⟨N, hN⟩ : ∃ N, N = (numF (l.drop p)).2.1 := ⟨_, rfl⟩
    obtain ⟨q, hq⟩ : ∃ q, q = p + (numF (l.drop p)).2.2 := ⟨_, rfl⟩
    rw [h0, ← hN, ← hq]
    rw [← hN] at n1
    have hql : q ≤ l.length := by omega
    by_cases hfit : l.length - q < N
    · have HQ := Lib.hid (show textF (l.drop p) = (10, [], 0) from by
        rw [textF, if_pos h0, if_pos (by rw [List.length_drop, ← hN]; omega)])
      clear hN hq h0 n4
      by_cases hbig : l.length < N
      · have hc : (l.length : Int) < N := by omega
        go_wp2
        go_ret3
        exact ⟨by rw [HQ.out]; rfl, HX.out⟩
      · have hc : ¬ (l.length : Int) < N := by omega
        have hc2 : (l.length : Int) < (q : Int) + N := by omega
        go_wp2
        go_ret3
        exact ⟨by rw [HQ.out]; rfl, HX.out⟩
    · have HQ := Lib.hid (show textF (l.drop p) = (0, (l.drop q).take N, q - p + N) from by
        rw [textF, if_pos h0, if_neg (by rw [List.length_drop, ← hN]; omega), List.drop_drop, ← hq, ← hN]
        simp only [Prod.mk.injEq, true_and]; omega)
      have hc : ¬ (l.length : Int) < N := by omega
      have hc2 : ¬ (l.length : Int) < (q : Int) + N := by omega
      have hpq : p ≤ q := by omega
      have hkey : ((q - p + N : Nat) : Int) + p = (q : Int) + N := by omega
      have hpl : 0 < l.length := by
        rcases Nat.lt_or_ge 0 l.length with h | h
        · exact h
        · have : l = [] := List.eq_nil_of_length_eq_zero (by omega)
          subst this
          simp [numF, vtake] at h0
      clear hN hq h0 n4
      obtain ⟨b1, o1, c1', e1, hS1, hnc, hcm, hc1⟩ := G.out hpl
      cases e1
      by_cases hcq : c = q
      · have hN0 : N = 0 := by omega
        subst hN0
        subst hcq
        have hcv := run_convert_bytes_empty (P := Tryd.prog) (w := w1) 26 5 Tryd.underlying26 Tryd.underlying5 ⟨b1, o1, none⟩ 0 9 Tryd.underlying9
        clear hc1 G
        go_wp2
        go_ret3
        refine ⟨?_, HX.out⟩
        rw [HQ.out]
        dsimp only
        rw [List.take_zero, show ((p + (c - p + 0) : Nat) : Int) = (c : Int) from by omega]
        first | rfl | (simp; done)
      · have hr := Row.slice (S := fun _ => True) (w := w1) (fun j u hj => HX.out.cell (hc1 j u hj) id) trivial hcm hnc (q := q) (n := N) (by omega)
        have hcv := row_string (P := Tryd.prog) hr Tryd.underlying26 Tryd.underlying5 Tryd.underlying9
        clear hc1 G hr
        go_wp2
        go_ret3
        refine ⟨?_, HX.out⟩
        rw [HQ.out]
        dsimp only
        rw [show ((p + (q - p + N) : Nat) : Int) = (q : Int) + N from by omega]
        rfl
  · have HQ := Lib.hid (show textF (l.drop p) = ((numF (l.drop p)).1, [], 0) from by rw [textF, if_neg h0])
    obtain ⟨E, hE⟩ : ∃ E, E = (numF (l.drop p)).1 := ⟨_, rfl⟩
    rw [← hE] at h0 HQ ⊢
    have hb : (E != 0) = true := by simpa using h0
    clear hE
    go_wp2
    go_ret3
    exact ⟨by rw [HQ.out]; rfl, HX.out⟩
end Go.Proofs.YtlhpcgmbbeihiaaDoor
