/-
  CONTRACT of ref29.Same.
-/
import Derived.Test.YtlhpcgmbbeihiaaSame3
namespace Go.Proofs.Ytlhpcgmbbeihiaa
open Go.RowKit

set_option maxHeartbeats 1000000 in
theorem rsame_any {S1 S2 T1 T2 : Nat → Prop} (w : World) (x1 x2 : Ev) (v1 v2 u1 u2 : Value) (h1 : Row S1 w v1 x1.op.edits.length (editCells x1.op.edits)) (h2 : Row S2 w v2 x2.op.edits.length (editCells x2.op.edits)) (f1 : Row T1 w u1 x1.keep.length (bools x1.keep)) (f2 : Row T2 w u2 x2.keep.length (bools x2.keep)) :
    Calls Try.prog 23 #[.agg (evCells x1 v1 u1), .agg (evCells x2 v2 u2)] w fun e w' => e = .returned (.bool (eqB x1 x2)) ∧ Ext w w' := by
  obtain ⟨k1, c1, o1, y1, s1, g1⟩ := x1
  obtain ⟨k2, c2, o2, y2, s2, g2⟩ := x2
  obtain ⟨hb1, hb2, hx⟩ := twoBoxes w (.cells #[.int .u8 k1, .int .i64 c1, .int .u8 o1.kind, .int .u64 o1.doc, str o1.name, str o1.to, str o1.text, v1, .int .u64 o1.epoch, .int .u64 o1.version, .int .u64 o1.dur, .int .u64 y1, .int .i64 s1, u1] 61) (.cells #[.int .u8 k2, .int .i64 c2, .int .u8 o2.kind, .int .u64 o2.doc, str o2.name, str o2.to, str o2.text, v2, .int .u64 o2.epoch, .int .u64 o2.version, .int .u64 o2.dur, .int .u64 y2, .int .i64 s2, u2] 61)
  obtain ⟨wb, hwb⟩ : ∃ wb, wb = (w.alloc (.cells #[.int .u8 k1, .int .i64 c1, .int .u8 o1.kind, .int .u64 o1.doc, str o1.name, str o1.to, str o1.text, v1, .int .u64 o1.epoch, .int .u64 o1.version, .int .u64 o1.dur, .int .u64 y1, .int .i64 s1, u1] 61)).alloc (.cells #[.int .u8 k2, .int .i64 c2, .int .u8 o2.kind, .int .u64 o2.doc, str o2.name, str o2.to, str o2.text, v2, .int .u64 o2.epoch, .int .u64 o2.version, .int .u64 o2.dur, .int .u64 y2, .int .i64 s2, u2] 61) := ⟨_, rfl⟩
  rw [← hwb] at hb1 hb2 hx
  have r1 := f1.ext hx
  have r2 := f2.ext hx
  have g1 := r1.addr
  have g2 := r2.addr
  have HH1 := Lib.hid (h1.ext hx)
  have HH2 := Lib.hid (h2.ext hx)
  obtain ⟨a1, z1, rfl, hn1, hm1, -⟩ := r1
  obtain ⟨a2, z2, rfl, hn2, hm2, -⟩ := r2
  dsimp only at hn1 hn2 g1 g2
  unfold maxLen at hm1 hm2
  have HX := Lib.hid hx
  have HB1 := Lib.hid hb1
  have HB2 := Lib.hid hb2
  have HWB := Lib.hid hwb
  have G1 := Lib.hid g1
  have G2 := Lib.hid g2
  clear hb1 hb2 hx hwb g1 g2 h1 h2 f1 f2
  simp only [evCells]
  by_cases hl : g1.length = g2.length
  · have hb : ((g1.length : Int) != (g2.length : Int)) = false := by simp [hl]
    have HL := Lib.hid hl
    clear hl
    go_enter Try.func23, Try.ntmps23
    go_wp2
    rw [show (w.alloc (.cells #[.int .u8 k1, .int .i64 c1, .int .u8 o1.kind, .int .u64 o1.doc, str o1.name, str o1.to, str o1.text, v1, .int .u64 o1.epoch, .int .u64 o1.version, .int .u64 o1.dur, .int .u64 y1, .int .i64 s1, .slice a1 g1.length z1] 61)).alloc (.cells #[.int .u8 k2, .int .i64 c2, .int .u8 o2.kind, .int .u64 o2.doc, str o2.name, str o2.to, str o2.text, v2, .int .u64 o2.epoch, .int .u64 o2.version, .int .u64 o2.dur, .int .u64 y2, .int .i64 s2, .slice a2 g2.length z2] 61) = wb from HWB.out.symm]
    go_loopw [5] (fun i wr => ∃ k : Nat, k ≤ g1.length ∧ i = .int .i64 k ∧ g1.take k = g2.take k ∧ Ext wb wr)
      (fun i _ => g1.length - (intOf i).toNat)
    case atStart => exact ⟨0, Nat.zero_le _, rfl, rfl, Upd.refl _ _⟩
    case round =>
      obtain ⟨k, hk, rfl, ht, hx⟩ := hrel
      have HT := Lib.hid ht
      have hc1 := hx.at_ HB1.out (fun e => e)
      have hc2 := hx.at_ HB2.out (fun e => e)
      clear ht
      have y1r := cellAt hc1 13 (.slice a1 g1.length z1) rfl
      have y2r := cellAt hc2 13 (.slice a2 g2.length z2) rfl
      by_cases hlt : k < g1.length
      · clear hc1 hc2
        have hlt2 : k < g2.length := by rw [← HL.out]; exact hlt
        obtain ⟨b1, o1', c1', e1', -, -, -, hq1⟩ := G1.out (by omega)
        obtain ⟨b2, o2', c2', e2', -, -, -, hq2⟩ := G2.out (by omega)
        cases e1'; cases e2'
        have p1' := hx.cell (bool_cell hq1 k hlt) id
        have q1' := hx.cell (bool_cell hq2 k hlt2) id
        clear hq1 hq2
        generalize hx1 : g1[k] = x1 at p1'
        generalize hx2 : g2[k] = x2 at q1'
        by_cases he : x1 = x2
        · have HE := Lib.hid (hx1.trans (he.trans hx2.symm))
          have HX1 := Lib.hid hx1
          have HX2 := Lib.hid hx2
          subst he
          clear hx1 hx2
          go_wp2
          go_quiet (fail)
          go_wp2
          go_roundw
          case rel => exact ⟨k + 1, by omega, by go_num, take_extG hlt hlt2 HT.out HE.out, hx.drewN _⟩
          case measure => simp [intOf]; omega
        · have HE := Lib.hid (show ¬ g1[k] = g2[k] from fun e => he (by rw [← hx1, ← hx2, e]))
          have HX1 := Lib.hid hx1
          have HX2 := Lib.hid hx2
          clear hx1 hx2
          have hb2 : (!(x1 == x2)) = true := by simpa using he
          clear he
          go_wp2
          go_quiet (fail)
          go_wp2
          go_ret
          exact ⟨(congrArg (fun b => Ending.returned (.bool b)) (eqB_ne (a := (⟨k1, c1, o1, y1, s1, g1⟩ : Ev)) (b := ⟨k2, c2, o2, y2, s2, g2⟩) (fun e => HE.out (by have := congrArg Ev.keep e; dsimp only at this; subst this; rfl)))).symm, HX.out.trans (hx.drewN _)⟩
      · have hkl : k = g1.length := by omega
        subst hkl
        have hrow : g1 = g2 := by have h := HT.out; have hl := HL.out; rw [List.take_length, hl, List.take_length] at h; exact h
        subst hrow
        clear hlt hk
        have y1k := cellAt hc1 0 (.int .u8 k1) rfl
        have y2k := cellAt hc2 0 (.int .u8 k2) rfl
        have y1c := cellAt hc1 1 (.int .i64 c1) rfl
        have y2c := cellAt hc2 1 (.int .i64 c2) rfl
        have y1y := cellAt hc1 11 (.int .u64 y1) rfl
        have y2y := cellAt hc2 11 (.int .u64 y2) rfl
        have y1s := cellAt hc1 12 (.int .i64 s1) rfl
        have y2s := cellAt hc2 12 (.int .i64 s2) rfl
        have HC1 := Lib.hid hc1
        have HC2 := Lib.hid hc2
        have y1o0 := cellAt hc1 2 (.int .u8 o1.kind) rfl
        have y2o0 := cellAt hc2 2 (.int .u8 o2.kind) rfl
        have y1o1 := cellAt hc1 3 (.int .u64 o1.doc) rfl
        have y2o1 := cellAt hc2 3 (.int .u64 o2.doc) rfl
        have y1o2 := cellAt hc1 4 (str o1.name) rfl
        have y2o2 := cellAt hc2 4 (str o2.name) rfl
        have y1o3 := cellAt hc1 5 (str o1.to) rfl
        have y2o3 := cellAt hc2 5 (str o2.to) rfl
        have y1o4 := cellAt hc1 6 (str o1.text) rfl
        have y2o4 := cellAt hc2 6 (str o2.text) rfl
        have y1o5 := cellAt hc1 7 (v1) rfl
        have y2o5 := cellAt hc2 7 (v2) rfl
        have y1o6 := cellAt hc1 8 (.int .u64 o1.epoch) rfl
        have y2o6 := cellAt hc2 8 (.int .u64 o2.epoch) rfl
        have y1o7 := cellAt hc1 9 (.int .u64 o1.version) rfl
        have y2o7 := cellAt hc2 9 (.int .u64 o2.version) rfl
        have y1o8 := cellAt hc1 10 (.int .u64 o1.dur) rfl
        have y2o8 := cellAt hc2 10 (.int .u64 o2.dur) rfl
        clear hc1 hc2
        by_cases hn : k1 = k2
        · subst hn
          by_cases hn : c1 = c2
          · subst hn
            by_cases hn : o1 = o2
            · subst hn
              by_cases hn : y1 = y2
              · subst hn
                by_cases hn : s1 = s2
                · subst hn
                  go_wp2_with (go_at_call 39; fail)
                  refine (rsameOp_any _ o1 o1 v1 v2 (HH1.out.ext hx) (HH2.out.ext hx)).mono ?_
                  rintro e w9 ⟨rfl, hx9⟩
                  have HXC := Lib.hid ((HX.out.trans hx).trans hx9)
                  have hd1 := hx9.at_ HC1.out (fun e => e)
                  have hd2 := hx9.at_ HC2.out (fun e => e)
                  have x1y := cellAt hd1 11 (.int .u64 y1) rfl
                  have x2y := cellAt hd2 11 (.int .u64 y1) rfl
                  have x1s := cellAt hd1 12 (.int .i64 s1) rfl
                  have x2s := cellAt hd2 12 (.int .i64 s1) rfl
                  clear hd1 hd2 hx9
                  rw [eqB_self]
                  go_wp2
                  go_ret
                  exact ⟨by rw [eqB_self]; rfl, HXC.out⟩
                · have HN := Lib.hid hn
                  have hq := beq_ne' hn
                  clear hn
                  go_wp2_with (go_at_call 39; fail)
                  refine (rsameOp_any _ o1 o1 v1 v2 (HH1.out.ext hx) (HH2.out.ext hx)).mono ?_
                  rintro e w9 ⟨rfl, hx9⟩
                  have HXC := Lib.hid ((HX.out.trans hx).trans hx9)
                  have hd1 := hx9.at_ HC1.out (fun e => e)
                  have hd2 := hx9.at_ HC2.out (fun e => e)
                  have x1y := cellAt hd1 11 (.int .u64 y1) rfl
                  have x2y := cellAt hd2 11 (.int .u64 y1) rfl
                  have x1s := cellAt hd1 12 (.int .i64 s1) rfl
                  have x2s := cellAt hd2 12 (.int .i64 s2) rfl
                  clear hd1 hd2 hx9
                  rw [eqB_self]
                  go_wp2
                  go_ret
                  exact ⟨(congrArg (fun b => Ending.returned (.bool b)) (eqB_ne (a := (⟨k1, c1, o1, y1, s1, g1⟩ : Ev)) (b := ⟨k1, c1, o1, y1, s2, g1⟩) (fun e => HN.out (congrArg Ev.ops e)))).symm, HXC.out⟩
              · have HN := Lib.hid hn
                have hq := beq_ne' hn
                clear hn
                go_wp2_with (go_at_call 39; fail)
                refine (rsameOp_any _ o1 o1 v1 v2 (HH1.out.ext hx) (HH2.out.ext hx)).mono ?_
                rintro e w9 ⟨rfl, hx9⟩
                have HXC := Lib.hid ((HX.out.trans hx).trans hx9)
                have hd1 := hx9.at_ HC1.out (fun e => e)
                have hd2 := hx9.at_ HC2.out (fun e => e)
                have x1y := cellAt hd1 11 (.int .u64 y1) rfl
                have x2y := cellAt hd2 11 (.int .u64 y2) rfl
                have x1s := cellAt hd1 12 (.int .i64 s1) rfl
                have x2s := cellAt hd2 12 (.int .i64 s2) rfl
                clear hd1 hd2 hx9
                rw [eqB_self]
                go_wp2
                go_ret
                exact ⟨(congrArg (fun b => Ending.returned (.bool b)) (eqB_ne (a := (⟨k1, c1, o1, y1, s1, g1⟩ : Ev)) (b := ⟨k1, c1, o1, y2, s2, g1⟩) (fun e => HN.out (congrArg Ev.by_ e)))).symm, HXC.out⟩
            · have HN := Lib.hid hn
              have hq := eqB_ne hn
              clear hn
              go_wp2_with (go_at_call 39; fail)
              refine (rsameOp_any _ o1 o2 v1 v2 (HH1.out.ext hx) (HH2.out.ext hx)).mono ?_
              rintro e w9 ⟨rfl, hx9⟩
              have HXC := Lib.hid ((HX.out.trans hx).trans hx9)
              have hd1 := hx9.at_ HC1.out (fun e => e)
              have hd2 := hx9.at_ HC2.out (fun e => e)
              have x1y := cellAt hd1 11 (.int .u64 y1) rfl
              have x2y := cellAt hd2 11 (.int .u64 y2) rfl
              have x1s := cellAt hd1 12 (.int .i64 s1) rfl
              have x2s := cellAt hd2 12 (.int .i64 s2) rfl
              clear hd1 hd2 hx9
              rw [hq]
              clear hq
              go_wp2
              go_ret
              exact ⟨(congrArg (fun b => Ending.returned (.bool b)) (eqB_ne (a := (⟨k1, c1, o1, y1, s1, g1⟩ : Ev)) (b := ⟨k1, c1, o2, y2, s2, g1⟩) (fun e => HN.out (congrArg Ev.op e)))).symm, HXC.out⟩
          · have HN := Lib.hid hn
            have hq := beq_ne' hn
            clear hn
            go_wp2
            go_ret
            exact ⟨(congrArg (fun b => Ending.returned (.bool b)) (eqB_ne (a := (⟨k1, c1, o1, y1, s1, g1⟩ : Ev)) (b := ⟨k1, c2, o2, y2, s2, g1⟩) (fun e => HN.out (congrArg Ev.proc e)))).symm, HX.out.trans hx⟩
        · have HN := Lib.hid hn
          have hq := beq_ne' hn
          clear hn
          go_wp2
          go_ret
          exact ⟨(congrArg (fun b => Ending.returned (.bool b)) (eqB_ne (a := (⟨k1, c1, o1, y1, s1, g1⟩ : Ev)) (b := ⟨k2, c2, o2, y2, s2, g1⟩) (fun e => HN.out (congrArg Ev.kind e)))).symm, HX.out.trans hx⟩
  · have hb : ((g1.length : Int) != (g2.length : Int)) = true := by simp; omega
    have HL := Lib.hid hl
    clear hl
    go_enter Try.func23, Try.ntmps23
    go_wp2
    go_ret
    exact ⟨(congrArg (fun b => Ending.returned (.bool b)) (eqB_ne (a := (⟨k1, c1, o1, y1, s1, g1⟩ : Ev)) (b := ⟨k2, c2, o2, y2, s2, g2⟩) (fun e => HL.out (congrArg List.length (congrArg Ev.keep e))))).symm, ((Upd.refl _ _).alloc _).alloc _⟩

end Go.Proofs.Ytlhpcgmbbeihiaa
