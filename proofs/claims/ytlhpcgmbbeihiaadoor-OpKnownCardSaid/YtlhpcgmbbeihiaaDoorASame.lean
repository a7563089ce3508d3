/-
  CONTRACTS of slices.Equal over texts and of the reference's SameAnswer.
-/
import Derived.Test.YtlhpcgmbbeihiaaDoorShow
import Derived.Test.YtlhpcgmbbeihiaaDoorDSame1
namespace Go.Proofs.YtlhpcgmbbeihiaaDoor
open Go.RowKit

set_option maxHeartbeats 400000 in
theorem eqTexts_any {S1 S2 : Nat → Prop} (w : World) (v1 v2 : Value) (l1 l2 : List (List UInt8)) (h1 : Texts S1 w v1 l1) (h2 : Texts S2 w v2 l2) :
    Calls Tryd.prog 58 #[v1, v2] w fun e w' => e = .returned (.bool (eqB l1 l2)) ∧ Ext w w' := by
  have g1 := h1.addr
  have g2 := h2.addr
  obtain ⟨a1, c1, rfl, hn1, hm1, -⟩ := h1
  obtain ⟨a2, c2, rfl, hn2, hm2, -⟩ := h2
  unfold maxLen at hm1 hm2
  by_cases hl : l1.length = l2.length
  · have hb : ((l1.length : Int) != (l2.length : Int)) = false := by simp [hl]
    have HL := Lib.hid hl
    have G1 := Lib.hid g1
    have G2 := Lib.hid g2
    clear hl g1 g2
    go_enter Tryd.func58, Tryd.ntmps58
    go_wp2
    go_loopw [13] (fun i wr => ∃ k : Nat, k ≤ l1.length ∧ i = .int .i64 k ∧ l1.take k = l2.take k ∧ Ext w wr)
      (fun i _ => l1.length - (intOf i).toNat)
    case atStart => exact ⟨0, Nat.zero_le _, rfl, rfl, Upd.refl _ _⟩
    case round =>
      obtain ⟨k, hk, rfl, ht, hx⟩ := hrel
      have HT := Lib.hid ht
      clear ht
      by_cases hlt : k < l1.length
      · have hlt2 : k < l2.length := by rw [← HL.out]; exact hlt
        obtain ⟨b1, o1, c1', e1, -, -, -, hc1⟩ := G1.out (by omega)
        obtain ⟨b2, o2, c2', e2, -, -, -, hc2⟩ := G2.out (by omega)
        cases e1; cases e2
        have p1 := hx.cell (texts_cell hc1 k hlt) id
        have q1 := hx.cell (texts_cell hc2 k hlt2) id
        clear hc1 hc2
        generalize hx1 : l1[k] = x1 at p1
        generalize hx2 : l2[k] = x2 at q1
        by_cases he : x1 = x2
        · have HE := Lib.hid (hx1.trans (he.trans hx2.symm))
          have HX1 := Lib.hid hx1
          have HX2 := Lib.hid hx2
          subst he
          clear hx1 hx2
          go_wp2
          go_quiet (fail)
          go_wp2
          go_roundw
          case rel => exact ⟨k + 1, by omega, by go_num, take_extG hlt hlt2 HT.out HE.out, hx.drewN _⟩
          case measure => simp [intOf]; omega
        · have HE := Lib.hid (show ¬ l1[k] = l2[k] from fun e => he (by rw [← hx1, ← hx2, e]))
          have HX1 := Lib.hid hx1
          have HX2 := Lib.hid hx2
          have hq := str_ne he
          have hq2 := beq_ne' he
          clear hx1 hx2 he
          go_wp2
          go_quiet (fail)
          go_wp2
          go_ret
          exact ⟨by rw [decide_ne_at hlt hlt2 HE.out]; rfl, hx.drewN _⟩
      · have hkl : k = l1.length := by omega
        have HKL := Lib.hid hkl
        clear hkl
        go_wp2
        go_ret
        refine ⟨?_, hx⟩
        have ht := HT.out
        rw [HKL.out] at ht
        rw [decide_of_take HL.out ht]; rfl
  · have hb : ((l1.length : Int) != (l2.length : Int)) = true := by rw [bne_iff_ne]; omega
    have HL := Lib.hid hl
    clear hl g1 g2
    go_enter Tryd.func58, Tryd.ntmps58
    go_wp2
    go_ret
    exact ⟨by rw [decide_len_ne HL.out]; rfl, Upd.refl _ _⟩
set_option maxHeartbeats 1000000 in
theorem rsameAns_any {S1 S2 : Nat → Prop} (w : World) (x1 x2 : Ans) (v1 v2 : Value) (h1 : Texts S1 w v1 x1.names) (h2 : Texts S2 w v2 x2.names) :
    Calls Tryd.prog 24 #[.agg (ansCells x1 v1), .agg (ansCells x2 v2)] w fun e w' => e = .returned (.bool (eqB x1 x2)) ∧ Ext w w' := by
  obtain ⟨k1, d1, t1, e1⟩ := x1
  obtain ⟨k2, d2, t2, e2⟩ := x2
  obtain ⟨hb1, hb2, hx⟩ := twoBoxes w (.cells #[.int .i64 k1, .int .u64 d1, str t1, v1] 55) (.cells #[.int .i64 k2, .int .u64 d2, str t2, v2] 55)
  obtain ⟨wb, hwb⟩ : ∃ wb, wb = (w.alloc (.cells #[.int .i64 k1, .int .u64 d1, str t1, v1] 55)).alloc (.cells #[.int .i64 k2, .int .u64 d2, str t2, v2] 55) := ⟨_, rfl⟩
  rw [← hwb] at hb1 hb2 hx
  have r1 := h1.ext hx
  have r2 := h2.ext hx
  have g1 := r1.addr
  have g2 := r2.addr
  obtain ⟨a1, z1, rfl, hn1, hm1, -⟩ := r1
  obtain ⟨a2, z2, rfl, hn2, hm2, -⟩ := r2
  dsimp only at hn1 hn2 g1 g2
  unfold maxLen at hm1 hm2
  have HX := Lib.hid hx
  have HB1 := Lib.hid hb1
  have HB2 := Lib.hid hb2
  have HWB := Lib.hid hwb
  have G1 := Lib.hid g1
  have G2 := Lib.hid g2
  clear hb1 hb2 hx hwb g1 g2 h1 h2
  simp only [ansCells]
  by_cases hl : e1.length = e2.length
  · have hb : ((e1.length : Int) != (e2.length : Int)) = false := by simp [hl]
    have HL := Lib.hid hl
    clear hl
    go_enter Tryd.func24, Tryd.ntmps24
    go_wp2
    rw [show (w.alloc (.cells #[.int .i64 k1, .int .u64 d1, str t1, .slice a1 e1.length z1] 55)).alloc (.cells #[.int .i64 k2, .int .u64 d2, str t2, .slice a2 e2.length z2] 55) = wb from HWB.out.symm]
    go_loopw [5] (fun i wr => ∃ k : Nat, k ≤ e1.length ∧ i = .int .i64 k ∧ e1.take k = e2.take k ∧ Ext wb wr)
      (fun i _ => e1.length - (intOf i).toNat)
    case atStart => exact ⟨0, Nat.zero_le _, rfl, rfl, Upd.refl _ _⟩
    case round =>
      obtain ⟨k, hk, rfl, ht, hx⟩ := hrel
      have HT := Lib.hid ht
      have hc1 := hx.at_ HB1.out (fun e => e)
      have hc2 := hx.at_ HB2.out (fun e => e)
      clear ht
      have y1r := cellAt hc1 3 (.slice a1 e1.length z1) rfl
      have y2r := cellAt hc2 3 (.slice a2 e2.length z2) rfl
      by_cases hlt : k < e1.length
      · clear hc1 hc2
        have hlt2 : k < e2.length := by rw [← HL.out]; exact hlt
        obtain ⟨b1, o1', c1', e1', -, -, -, hq1⟩ := G1.out (by omega)
        obtain ⟨b2, o2', c2', e2', -, -, -, hq2⟩ := G2.out (by omega)
        cases e1'; cases e2'
        have p1' := hx.cell (texts_cell hq1 k hlt) id
        have q1' := hx.cell (texts_cell hq2 k hlt2) id
        clear hq1 hq2
        generalize hx1 : e1[k] = x1 at p1'
        generalize hx2 : e2[k] = x2 at q1'
        by_cases he : x1 = x2
        · have HE := Lib.hid (hx1.trans (he.trans hx2.symm))
          have HX1 := Lib.hid hx1
          have HX2 := Lib.hid hx2
          subst he
          clear hx1 hx2
          go_wp2
          go_quiet (fail)
          go_wp2
          go_roundw
          case rel => exact ⟨k + 1, by omega, by go_num, take_extG hlt hlt2 HT.out HE.out, hx.drewN _⟩
          case measure => simp [intOf]; omega
        · have HE := Lib.hid (show ¬ e1[k] = e2[k] from fun e => he (by rw [← hx1, ← hx2, e]))
          have HX1 := Lib.hid hx1
          have HX2 := Lib.hid hx2
          have hq := str_ne he
          have hq2 := beq_ne' he
          clear hx1 hx2 he
          go_wp2
          go_quiet (fail)
          go_wp2
          go_ret
          exact ⟨(congrArg (fun b => Ending.returned (.bool b)) (eqB_ne (a := (⟨k1, d1, t1, e1⟩ : Ans)) (b := ⟨k2, d2, t2, e2⟩) (fun e => HE.out (by have := congrArg Ans.names e; dsimp only at this; subst this; rfl)))).symm, HX.out.trans (hx.drewN _)⟩
      · have hkl : k = e1.length := by omega
        subst hkl
        have hrow : e1 = e2 := by have h := HT.out; have hl := HL.out; rw [List.take_length, hl, List.take_length] at h; exact h
        subst hrow
        clear hlt hk
        have y1k := cellAt hc1 0 (.int .i64 k1) rfl
        have y2k := cellAt hc2 0 (.int .i64 k2) rfl
        have y1d := cellAt hc1 1 (.int .u64 d1) rfl
        have y2d := cellAt hc2 1 (.int .u64 d2) rfl
        have y1n := cellAt hc1 2 (str t1) rfl
        have y2n := cellAt hc2 2 (str t2) rfl
        clear hc1 hc2
        by_cases hn : k1 = k2
        · subst hn
          by_cases hn : d1 = d2
          · subst hn
            by_cases hn : t1 = t2
            · subst hn
              go_wp2
              go_ret
              exact ⟨by rw [eqB_self]; rfl, HX.out.trans hx⟩
            · have HN := Lib.hid hn
              have hq := str_ne hn
              have hq2 := beq_ne' hn
              clear hn
              go_wp2
              go_ret
              exact ⟨(congrArg (fun b => Ending.returned (.bool b)) (eqB_ne (a := (⟨k1, d1, t1, e1⟩ : Ans)) (b := ⟨k1, d1, t2, e1⟩) (fun e => HN.out (congrArg Ans.text e)))).symm, HX.out.trans hx⟩
          · have HN := Lib.hid hn
            have hq := beq_ne' hn
            clear hn
            go_wp2
            go_ret
            exact ⟨(congrArg (fun b => Ending.returned (.bool b)) (eqB_ne (a := (⟨k1, d1, t1, e1⟩ : Ans)) (b := ⟨k1, d2, t2, e1⟩) (fun e => HN.out (congrArg Ans.n e)))).symm, HX.out.trans hx⟩
        · have HN := Lib.hid hn
          have hq := beq_ne' hn
          clear hn
          go_wp2
          go_ret
          exact ⟨(congrArg (fun b => Ending.returned (.bool b)) (eqB_ne (a := (⟨k1, d1, t1, e1⟩ : Ans)) (b := ⟨k2, d2, t2, e1⟩) (fun e => HN.out (congrArg Ans.err e)))).symm, HX.out.trans hx⟩
  · have hb : ((e1.length : Int) != (e2.length : Int)) = true := by rw [bne_iff_ne]; omega
    have HL := Lib.hid hl
    clear hl
    go_enter Tryd.func24, Tryd.ntmps24
    go_wp2
    go_ret
    exact ⟨(congrArg (fun b => Ending.returned (.bool b)) (eqB_ne (a := (⟨k1, d1, t1, e1⟩ : Ans)) (b := ⟨k2, d2, t2, e2⟩) (fun e => HL.out (congrArg List.length (congrArg Ans.names e))))).symm, ((Upd.refl _ _).alloc _).alloc _⟩
end Go.Proofs.YtlhpcgmbbeihiaaDoor
