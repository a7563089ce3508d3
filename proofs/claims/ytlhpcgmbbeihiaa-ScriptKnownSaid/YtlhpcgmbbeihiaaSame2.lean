/-
  CONTRACT of script.Same.
-/
import Derived.Test.YtlhpcgmbbeihiaaSame1
namespace Go.Proofs.Ytlhpcgmbbeihiaa
open Go.RowKit

set_option maxHeartbeats 1000000 in
theorem scriptSame_any {S1 S2 T1 T2 : Nat → Prop} (w : World) (e1 e2 : Ev) (v1 v2 u1 u2 : Value) (h1 : Row S1 w v1 e1.op.edits.length (editCells e1.op.edits)) (h2 : Row S2 w v2 e2.op.edits.length (editCells e2.op.edits))
    (g1 : Row T1 w u1 e1.keep.length (bools e1.keep)) (g2 : Row T2 w u2 e2.keep.length (bools e2.keep)) :
    Calls Try.prog 22 #[.agg (evCells e1 v1 u1), .agg (evCells e2 v2 u2)] w fun e w' => e = .returned (.bool (eqB e1 e2)) ∧ Ext w w' := by
  obtain ⟨k1, c1, o1, b1, s1, y1⟩ := e1
  obtain ⟨k2, c2, o2, b2, s2, y2⟩ := e2
  obtain ⟨hb1, hb2, hx⟩ := twoBoxes w (.cells #[.int .u8 k1, .int .i64 c1, .int .u8 o1.kind, .int .u64 o1.doc, str o1.name, str o1.to, str o1.text, v1, .int .u64 o1.epoch, .int .u64 o1.version, .int .u64 o1.dur, .int .u64 b1, .int .i64 s1, u1] 44) (.cells #[.int .u8 k2, .int .i64 c2, .int .u8 o2.kind, .int .u64 o2.doc, str o2.name, str o2.to, str o2.text, v2, .int .u64 o2.epoch, .int .u64 o2.version, .int .u64 o2.dur, .int .u64 b2, .int .i64 s2, u2] 44)
  have HX := Lib.hid hx
  have HH1 := Lib.hid (h1.ext hx)
  have HH2 := Lib.hid (h2.ext hx)
  have HG1 := Lib.hid (g1.ext hx)
  have HG2 := Lib.hid (g2.ext hx)
  have HB1 := Lib.hid hb1
  have HB2 := Lib.hid hb2
  clear h1 h2 g1 g2 hx hb1 hb2
  simp only [evCells]
  go_enter Try.func22, Try.ntmps22
  by_cases hn : k1 = k2
  · subst hn
    by_cases hn : c1 = c2
    · subst hn
      by_cases hn : o1 = o2
      · subst hn
        by_cases hn : b1 = b2
        · subst hn
          by_cases hn : s1 = s2
          · subst hn
            by_cases hn : y1 = y2
            · subst hn
              go_wp2_with (go_at_call 16; fail)
              refine (sameOp_any _ o1 o1 v1 v2 HH1.out HH2.out).mono ?_
              rintro e w1 ⟨rfl, hx1⟩
              have HX1 := Lib.hid (HX.out.trans hx1)
              have HK1 := Lib.hid (HG1.out.ext hx1)
              have HK2 := Lib.hid (HG2.out.ext hx1)
              have hb1 := hx1.at_ HB1.out (fun e => e)
              have hb2 := hx1.at_ HB2.out (fun e => e)
              have y13 := cellAt hb1 11 (.int .u64 b1) rfl
              have y23 := cellAt hb2 11 (.int .u64 b1) rfl
              have y14 := cellAt hb1 12 (.int .i64 s1) rfl
              have y24 := cellAt hb2 12 (.int .i64 s1) rfl
              have y15 := cellAt hb1 13 (u1) rfl
              have y25 := cellAt hb2 13 (u2) rfl
              clear hb1 hb2 hx1
              rw [eqB_self]
              go_wp2_with (go_at_call 38; fail)
              refine (eqBools_any _ _ _ _ _ HK1.out HK2.out).mono ?_
              rintro e w2 ⟨rfl, hx2⟩
              have HX2 := Lib.hid (HX1.out.trans hx2)
              clear hx2
              rw [eqB_self]
              go_wp2
              go_ret
              exact ⟨by rw [eqB_self]; rfl, HX2.out⟩
            · have HN := Lib.hid hn
              have hq := eqB_ne hn
              clear hn
              go_wp2_with (go_at_call 16; fail)
              refine (sameOp_any _ o1 o1 v1 v2 HH1.out HH2.out).mono ?_
              rintro e w1 ⟨rfl, hx1⟩
              have HX1 := Lib.hid (HX.out.trans hx1)
              have HK1 := Lib.hid (HG1.out.ext hx1)
              have HK2 := Lib.hid (HG2.out.ext hx1)
              have hb1 := hx1.at_ HB1.out (fun e => e)
              have hb2 := hx1.at_ HB2.out (fun e => e)
              have y13 := cellAt hb1 11 (.int .u64 b1) rfl
              have y23 := cellAt hb2 11 (.int .u64 b1) rfl
              have y14 := cellAt hb1 12 (.int .i64 s1) rfl
              have y24 := cellAt hb2 12 (.int .i64 s1) rfl
              have y15 := cellAt hb1 13 (u1) rfl
              have y25 := cellAt hb2 13 (u2) rfl
              clear hb1 hb2 hx1
              rw [eqB_self]
              go_wp2_with (go_at_call 38; fail)
              refine (eqBools_any _ _ _ _ _ HK1.out HK2.out).mono ?_
              rintro e w2 ⟨rfl, hx2⟩
              have HX2 := Lib.hid (HX1.out.trans hx2)
              clear hx2
              rw [hq]
              clear hq
              go_wp2
              go_ret
              exact ⟨(congrArg (fun b => Ending.returned (.bool b)) (eqB_ne (a := (⟨k1, c1, o1, b1, s1, y1⟩ : Ev)) (b := ⟨k1, c1, o1, b1, s1, y2⟩) (fun e => HN.out (congrArg Ev.keep e)))).symm, HX2.out⟩
          · have HN := Lib.hid hn
            have hq := beq_ne' hn
            clear hn
            go_wp2_with (go_at_call 16; fail)
            refine (sameOp_any _ o1 o1 v1 v2 HH1.out HH2.out).mono ?_
            rintro e w1 ⟨rfl, hx1⟩
            have HX1 := Lib.hid (HX.out.trans hx1)
            have HK1 := Lib.hid (HG1.out.ext hx1)
            have HK2 := Lib.hid (HG2.out.ext hx1)
            have hb1 := hx1.at_ HB1.out (fun e => e)
            have hb2 := hx1.at_ HB2.out (fun e => e)
            have y13 := cellAt hb1 11 (.int .u64 b1) rfl
            have y23 := cellAt hb2 11 (.int .u64 b1) rfl
            have y14 := cellAt hb1 12 (.int .i64 s1) rfl
            have y24 := cellAt hb2 12 (.int .i64 s2) rfl
            have y15 := cellAt hb1 13 (u1) rfl
            have y25 := cellAt hb2 13 (u2) rfl
            clear hb1 hb2 hx1
            rw [eqB_self]
            go_wp2
            go_ret
            exact ⟨(congrArg (fun b => Ending.returned (.bool b)) (eqB_ne (a := (⟨k1, c1, o1, b1, s1, y1⟩ : Ev)) (b := ⟨k1, c1, o1, b1, s2, y2⟩) (fun e => HN.out (congrArg Ev.ops e)))).symm, HX1.out⟩
        · have HN := Lib.hid hn
          have hq := beq_ne' hn
          clear hn
          go_wp2_with (go_at_call 16; fail)
          refine (sameOp_any _ o1 o1 v1 v2 HH1.out HH2.out).mono ?_
          rintro e w1 ⟨rfl, hx1⟩
          have HX1 := Lib.hid (HX.out.trans hx1)
          have HK1 := Lib.hid (HG1.out.ext hx1)
          have HK2 := Lib.hid (HG2.out.ext hx1)
          have hb1 := hx1.at_ HB1.out (fun e => e)
          have hb2 := hx1.at_ HB2.out (fun e => e)
          have y13 := cellAt hb1 11 (.int .u64 b1) rfl
          have y23 := cellAt hb2 11 (.int .u64 b2) rfl
          have y14 := cellAt hb1 12 (.int .i64 s1) rfl
          have y24 := cellAt hb2 12 (.int .i64 s2) rfl
          have y15 := cellAt hb1 13 (u1) rfl
          have y25 := cellAt hb2 13 (u2) rfl
          clear hb1 hb2 hx1
          rw [eqB_self]
          go_wp2
          go_ret
          exact ⟨(congrArg (fun b => Ending.returned (.bool b)) (eqB_ne (a := (⟨k1, c1, o1, b1, s1, y1⟩ : Ev)) (b := ⟨k1, c1, o1, b2, s2, y2⟩) (fun e => HN.out (congrArg Ev.by_ e)))).symm, HX1.out⟩
      · have HN := Lib.hid hn
        have hq := eqB_ne hn
        clear hn
        go_wp2_with (go_at_call 16; fail)
        refine (sameOp_any _ o1 o2 v1 v2 HH1.out HH2.out).mono ?_
        rintro e w1 ⟨rfl, hx1⟩
        have HX1 := Lib.hid (HX.out.trans hx1)
        have HK1 := Lib.hid (HG1.out.ext hx1)
        have HK2 := Lib.hid (HG2.out.ext hx1)
        have hb1 := hx1.at_ HB1.out (fun e => e)
        have hb2 := hx1.at_ HB2.out (fun e => e)
        have y13 := cellAt hb1 11 (.int .u64 b1) rfl
        have y23 := cellAt hb2 11 (.int .u64 b2) rfl
        have y14 := cellAt hb1 12 (.int .i64 s1) rfl
        have y24 := cellAt hb2 12 (.int .i64 s2) rfl
        have y15 := cellAt hb1 13 (u1) rfl
        have y25 := cellAt hb2 13 (u2) rfl
        clear hb1 hb2 hx1
        rw [hq]
        clear hq
        go_wp2
        go_ret
        exact ⟨(congrArg (fun b => Ending.returned (.bool b)) (eqB_ne (a := (⟨k1, c1, o1, b1, s1, y1⟩ : Ev)) (b := ⟨k1, c1, o2, b2, s2, y2⟩) (fun e => HN.out (congrArg Ev.op e)))).symm, HX1.out⟩
    · have HN := Lib.hid hn
      have hq := beq_ne' hn
      clear hn
      go_wp2
      go_ret
      exact ⟨(congrArg (fun b => Ending.returned (.bool b)) (eqB_ne (a := (⟨k1, c1, o1, b1, s1, y1⟩ : Ev)) (b := ⟨k1, c2, o2, b2, s2, y2⟩) (fun e => HN.out (congrArg Ev.proc e)))).symm, HX.out⟩
  · have HN := Lib.hid hn
    have hq := beq_ne' hn
    clear hn
    go_wp2
    go_ret
    exact ⟨(congrArg (fun b => Ending.returned (.bool b)) (eqB_ne (a := (⟨k1, c1, o1, b1, s1, y1⟩ : Ev)) (b := ⟨k2, c2, o2, b2, s2, y2⟩) (fun e => HN.out (congrArg Ev.kind e)))).symm, HX.out⟩

end Go.Proofs.Ytlhpcgmbbeihiaa
