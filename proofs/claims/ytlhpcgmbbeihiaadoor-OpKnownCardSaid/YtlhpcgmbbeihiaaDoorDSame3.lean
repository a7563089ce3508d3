/-
  CONTRACT of ref19.SameOp.
-/
import Derived.Test.YtlhpcgmbbeihiaaDoorDSame1
namespace Go.Proofs.YtlhpcgmbbeihiaaDoor
open Go.RowKit

set_option maxHeartbeats 1000000 in
theorem rsameOp_any {S1 S2 : Nat → Prop} (w : World) (x1 x2 : Oper') (v1 v2 : Value) (h1 : Row S1 w v1 x1.edits.length (editCells x1.edits)) (h2 : Row S2 w v2 x2.edits.length (editCells x2.edits)) :
    Calls Tryd.prog 17 #[.agg (opCells x1 v1), .agg (opCells x2 v2)] w fun e w' => e = .returned (.bool (eqB x1 x2)) ∧ Ext w w' := by
  obtain ⟨k1, d1, n1, t1, tt1, e1, p1, q1, r1⟩ := x1
  obtain ⟨k2, d2, n2, t2, tt2, e2, p2, q2, r2⟩ := x2
  obtain ⟨hb1, hb2, hx⟩ := twoBoxes w (.cells #[.int .u8 k1, .int .u64 d1, str n1, str t1, str tt1, v1, .int .u64 p1, .int .u64 q1, .int .u64 r1] 36) (.cells #[.int .u8 k2, .int .u64 d2, str n2, str t2, str tt2, v2, .int .u64 p2, .int .u64 q2, .int .u64 r2] 36)
  obtain ⟨wb, hwb⟩ : ∃ wb, wb = (w.alloc (.cells #[.int .u8 k1, .int .u64 d1, str n1, str t1, str tt1, v1, .int .u64 p1, .int .u64 q1, .int .u64 r1] 36)).alloc (.cells #[.int .u8 k2, .int .u64 d2, str n2, str t2, str tt2, v2, .int .u64 p2, .int .u64 q2, .int .u64 r2] 36) := ⟨_, rfl⟩
  rw [← hwb] at hb1 hb2 hx
  have r1 := h1.ext hx
  have r2 := h2.ext hx
  have g1 := r1.addr
  have g2 := r2.addr
  obtain ⟨a1, z1, rfl, hn1, hm1, -⟩ := r1
  obtain ⟨a2, z2, rfl, hn2, hm2, -⟩ := r2
  dsimp only at hn1 hn2 g1 g2
  unfold maxLen at hm1 hm2
  have HX := Lib.hid hx
  have HB1 := Lib.hid hb1
  have HB2 := Lib.hid hb2
  have HWB := Lib.hid hwb
  have G1 := Lib.hid g1
  have G2 := Lib.hid g2
  clear hb1 hb2 hx hwb g1 g2 h1 h2
  simp only [opCells]
  by_cases hl : e1.length = e2.length
  · have hb : ((e1.length : Int) != (e2.length : Int)) = false := by simp [hl]
    have HL := Lib.hid hl
    clear hl
    go_enter Tryd.func17, Tryd.ntmps17
    go_wp2
    rw [show (w.alloc (.cells #[.int .u8 k1, .int .u64 d1, str n1, str t1, str tt1, .slice a1 e1.length z1, .int .u64 p1, .int .u64 q1, .int .u64 r1] 36)).alloc (.cells #[.int .u8 k2, .int .u64 d2, str n2, str t2, str tt2, .slice a2 e2.length z2, .int .u64 p2, .int .u64 q2, .int .u64 r2] 36) = wb from HWB.out.symm]
    go_loopw [5] (fun i wr => ∃ k : Nat, k ≤ e1.length ∧ i = .int .i64 k ∧ e1.take k = e2.take k ∧ Ext wb wr)
      (fun i _ => e1.length - (intOf i).toNat)
    case atStart => exact ⟨0, Nat.zero_le _, rfl, rfl, Upd.refl _ _⟩
    case round =>
      obtain ⟨k, hk, rfl, ht, hx⟩ := hrel
      have HT := Lib.hid ht
      have hc1 := hx.at_ HB1.out (fun e => e)
      have hc2 := hx.at_ HB2.out (fun e => e)
      clear ht
      have y1r := cellAt hc1 5 (.slice a1 e1.length z1) rfl
      have y2r := cellAt hc2 5 (.slice a2 e2.length z2) rfl
      by_cases hlt : k < e1.length
      · clear hc1 hc2
        have hlt2 : k < e2.length := by rw [← HL.out]; exact hlt
        obtain ⟨b1, o1', c1', e1', -, -, -, hq1⟩ := G1.out (by omega)
        obtain ⟨b2, o2', c2', e2', -, -, -, hq2⟩ := G2.out (by omega)
        cases e1'; cases e2'
        obtain ⟨p1', p2', p3'⟩ := edit_cells hq1 k hlt
        obtain ⟨q1', q2', q3'⟩ := edit_cells hq2 k hlt2
        have p1' := hx.cell p1' id
        have p2' := hx.cell p2' id
        have p3' := hx.cell p3' id
        have q1' := hx.cell q1' id
        have q2' := hx.cell q2' id
        have q3' := hx.cell q3' id
        clear hq1 hq2
        generalize hx1 : e1[k] = x1 at p1' p2' p3'
        generalize hx2 : e2[k] = x2 at q1' q2' q3'
        by_cases he : x1 = x2
        · have HE := Lib.hid (hx1.trans (he.trans hx2.symm))
          have HX1 := Lib.hid hx1
          have HX2 := Lib.hid hx2
          subst he
          clear hx1 hx2
          go_wp2
          go_quiet (fail)
          go_wp2
          go_roundw
          case rel => exact ⟨k + 1, by omega, by go_num, take_extG hlt hlt2 HT.out HE.out, hx.drewN _⟩
          case measure => simp [intOf]; omega
        · have HE := Lib.hid (show ¬ e1[k] = e2[k] from fun e => he (by rw [← hx1, ← hx2, e]))
          have HX1 := Lib.hid hx1
          have HX2 := Lib.hid hx2
          clear hx1 hx2
          by_cases hk : x1.kind = x2.kind
          · by_cases hn : x1.n = x2.n
            · have ht : ((⟨x1.text.toArray⟩ : ByteArray).toList == (⟨x2.text.toArray⟩ : ByteArray).toList) = false := by
                rw [beq_eq_false_iff_ne]; intro e; apply he
                rw [bytes_toList, bytes_toList] at e
                cases x1; cases x2; simp_all
              have ht2 : (x1.text == x2.text) = false := by
                rw [beq_eq_false_iff_ne]; intro e; apply he
                cases x1; cases x2; simp_all
              have hk' : (x1.kind == x2.kind) = true := by simpa using hk
              have hn' : (x1.n == x2.n) = true := by simpa using hn
              clear he hk hn
              go_wp2
              go_quiet (fail)
              go_wp2
              go_ret
              exact ⟨(congrArg (fun b => Ending.returned (.bool b)) (eqB_ne (a := (⟨k1, d1, n1, t1, tt1, e1, p1, q1, r1⟩ : Oper')) (b := ⟨k2, d2, n2, t2, tt2, e2, p2, q2, r2⟩) (fun e => HE.out (by have := congrArg Oper'.edits e; dsimp only at this; subst this; rfl)))).symm, HX.out.trans (hx.drewN _)⟩
            · have hn' : (x1.n == x2.n) = false := by simpa using hn
              have hk' : (x1.kind == x2.kind) = true := by simpa using hk
              clear he hk hn
              go_wp2
              go_quiet (fail)
              go_wp2
              go_ret
              exact ⟨(congrArg (fun b => Ending.returned (.bool b)) (eqB_ne (a := (⟨k1, d1, n1, t1, tt1, e1, p1, q1, r1⟩ : Oper')) (b := ⟨k2, d2, n2, t2, tt2, e2, p2, q2, r2⟩) (fun e => HE.out (by have := congrArg Oper'.edits e; dsimp only at this; subst this; rfl)))).symm, HX.out.trans (hx.drewN _)⟩
          · have hk' : (x1.kind == x2.kind) = false := by simpa using hk
            clear he hk
            go_wp2
            go_quiet (fail)
            go_wp2
            go_ret
            exact ⟨(congrArg (fun b => Ending.returned (.bool b)) (eqB_ne (a := (⟨k1, d1, n1, t1, tt1, e1, p1, q1, r1⟩ : Oper')) (b := ⟨k2, d2, n2, t2, tt2, e2, p2, q2, r2⟩) (fun e => HE.out (by have := congrArg Oper'.edits e; dsimp only at this; subst this; rfl)))).symm, HX.out.trans (hx.drewN _)⟩
      · have hkl : k = e1.length := by omega
        subst hkl
        have hrow : e1 = e2 := by have h := HT.out; have hl := HL.out; rw [List.take_length, hl, List.take_length] at h; exact h
        subst hrow
        clear hlt hk
        have y1k := cellAt hc1 0 (.int .u8 k1) rfl
        have y2k := cellAt hc2 0 (.int .u8 k2) rfl
        have y1d := cellAt hc1 1 (.int .u64 d1) rfl
        have y2d := cellAt hc2 1 (.int .u64 d2) rfl
        have y1n := cellAt hc1 2 (str n1) rfl
        have y2n := cellAt hc2 2 (str n2) rfl
        have y1t := cellAt hc1 3 (str t1) rfl
        have y2t := cellAt hc2 3 (str t2) rfl
        have y1tt := cellAt hc1 4 (str tt1) rfl
        have y2tt := cellAt hc2 4 (str tt2) rfl
        have y1p := cellAt hc1 6 (.int .u64 p1) rfl
        have y2p := cellAt hc2 6 (.int .u64 p2) rfl
        have y1q := cellAt hc1 7 (.int .u64 q1) rfl
        have y2q := cellAt hc2 7 (.int .u64 q2) rfl
        have y1r := cellAt hc1 8 (.int .u64 r1) rfl
        have y2r := cellAt hc2 8 (.int .u64 r2) rfl
        clear hc1 hc2
        by_cases hn : k1 = k2
        · subst hn
          by_cases hn : d1 = d2
          · subst hn
            by_cases hn : n1 = n2
            · subst hn
              by_cases hn : t1 = t2
              · subst hn
                by_cases hn : tt1 = tt2
                · subst hn
                  by_cases hn : p1 = p2
                  · subst hn
                    by_cases hn : q1 = q2
                    · subst hn
                      by_cases hn : r1 = r2
                      · subst hn
                        go_wp2
                        go_ret
                        exact ⟨by rw [eqB_self]; rfl, HX.out.trans hx⟩
                      · have HN := Lib.hid hn
                        have hq := beq_ne' hn
                        clear hn
                        go_wp2
                        go_ret
                        exact ⟨(congrArg (fun b => Ending.returned (.bool b)) (eqB_ne (a := (⟨k1, d1, n1, t1, tt1, e1, p1, q1, r1⟩ : Oper')) (b := ⟨k1, d1, n1, t1, tt1, e1, p1, q1, r2⟩) (fun e => HN.out (congrArg Oper'.dur e)))).symm, HX.out.trans hx⟩
                    · have HN := Lib.hid hn
                      have hq := beq_ne' hn
                      clear hn
                      go_wp2
                      go_ret
                      exact ⟨(congrArg (fun b => Ending.returned (.bool b)) (eqB_ne (a := (⟨k1, d1, n1, t1, tt1, e1, p1, q1, r1⟩ : Oper')) (b := ⟨k1, d1, n1, t1, tt1, e1, p1, q2, r2⟩) (fun e => HN.out (congrArg Oper'.version e)))).symm, HX.out.trans hx⟩
                  · have HN := Lib.hid hn
                    have hq := beq_ne' hn
                    clear hn
                    go_wp2
                    go_ret
                    exact ⟨(congrArg (fun b => Ending.returned (.bool b)) (eqB_ne (a := (⟨k1, d1, n1, t1, tt1, e1, p1, q1, r1⟩ : Oper')) (b := ⟨k1, d1, n1, t1, tt1, e1, p2, q2, r2⟩) (fun e => HN.out (congrArg Oper'.epoch e)))).symm, HX.out.trans hx⟩
                · have HN := Lib.hid hn
                  have hq := str_ne hn
                  have hq2 := beq_ne' hn
                  clear hn
                  go_wp2
                  go_ret
                  exact ⟨(congrArg (fun b => Ending.returned (.bool b)) (eqB_ne (a := (⟨k1, d1, n1, t1, tt1, e1, p1, q1, r1⟩ : Oper')) (b := ⟨k1, d1, n1, t1, tt2, e1, p2, q2, r2⟩) (fun e => HN.out (congrArg Oper'.text e)))).symm, HX.out.trans hx⟩
              · have HN := Lib.hid hn
                have hq := str_ne hn
                have hq2 := beq_ne' hn
                clear hn
                go_wp2
                go_ret
                exact ⟨(congrArg (fun b => Ending.returned (.bool b)) (eqB_ne (a := (⟨k1, d1, n1, t1, tt1, e1, p1, q1, r1⟩ : Oper')) (b := ⟨k1, d1, n1, t2, tt2, e1, p2, q2, r2⟩) (fun e => HN.out (congrArg Oper'.to e)))).symm, HX.out.trans hx⟩
            · have HN := Lib.hid hn
              have hq := str_ne hn
              have hq2 := beq_ne' hn
              clear hn
              go_wp2
              go_ret
              exact ⟨(congrArg (fun b => Ending.returned (.bool b)) (eqB_ne (a := (⟨k1, d1, n1, t1, tt1, e1, p1, q1, r1⟩ : Oper')) (b := ⟨k1, d1, n2, t2, tt2, e1, p2, q2, r2⟩) (fun e => HN.out (congrArg Oper'.name e)))).symm, HX.out.trans hx⟩
          · have HN := Lib.hid hn
            have hq := beq_ne' hn
            clear hn
            go_wp2
            go_ret
            exact ⟨(congrArg (fun b => Ending.returned (.bool b)) (eqB_ne (a := (⟨k1, d1, n1, t1, tt1, e1, p1, q1, r1⟩ : Oper')) (b := ⟨k1, d2, n2, t2, tt2, e1, p2, q2, r2⟩) (fun e => HN.out (congrArg Oper'.doc e)))).symm, HX.out.trans hx⟩
        · have HN := Lib.hid hn
          have hq := beq_ne' hn
          clear hn
          go_wp2
          go_ret
          exact ⟨(congrArg (fun b => Ending.returned (.bool b)) (eqB_ne (a := (⟨k1, d1, n1, t1, tt1, e1, p1, q1, r1⟩ : Oper')) (b := ⟨k2, d2, n2, t2, tt2, e1, p2, q2, r2⟩) (fun e => HN.out (congrArg Oper'.kind e)))).symm, HX.out.trans hx⟩
  · have hb : ((e1.length : Int) != (e2.length : Int)) = true := by simp; omega
    have HL := Lib.hid hl
    clear hl
    go_enter Tryd.func17, Tryd.ntmps17
    go_wp2
    go_ret
    exact ⟨(congrArg (fun b => Ending.returned (.bool b)) (eqB_ne (a := (⟨k1, d1, n1, t1, tt1, e1, p1, q1, r1⟩ : Oper')) (b := ⟨k2, d2, n2, t2, tt2, e2, p2, q2, r2⟩) (fun e => HL.out (congrArg List.length (congrArg Oper'.edits e))))).symm, ((Upd.refl _ _).alloc _).alloc _⟩

end Go.Proofs.YtlhpcgmbbeihiaaDoor
