/-
  CONTRACT of op.SameOp.
-/
import Derived.Test.YtlhpcgmbbeihiaaDoorDBase
namespace Go.Proofs.YtlhpcgmbbeihiaaDoor
open Go.RowKit

theorem str_ne {a b : List UInt8} (h : ¬ a = b) : ((⟨a.toArray⟩ : ByteArray).toList == (⟨b.toArray⟩ : ByteArray).toList) = false := by
  rw [bytes_toList, bytes_toList, beq_eq_false_iff_ne]; exact h
theorem beq_ne' {α : Type} [BEq α] [LawfulBEq α] {a b : α} (h : ¬ a = b) : (a == b) = false := by rw [beq_eq_false_iff_ne]; exact h

theorem twoBoxes (w : World) (A B : Obj) : ((w.alloc A).alloc B).heap[w.heap.size]? = some A ∧ ((w.alloc A).alloc B).heap[w.heap.size + 1]? = some B ∧ Ext w ((w.alloc A).alloc B) :=
  ⟨((Upd.refl Nothing (w.alloc A)).alloc B).at_ (newAt _ _) (fun e => e), by rw [show w.heap.size + 1 = (w.alloc A).heap.size from by simp]; exact newAt _ _, ((Upd.refl _ _).alloc _).alloc _⟩

set_option maxHeartbeats 1000000 in
theorem sameOp_any {S1 S2 : Nat → Prop} (w : World) (o1 o2 : Oper') (v1 v2 : Value) (h1 : Row S1 w v1 o1.edits.length (editCells o1.edits)) (h2 : Row S2 w v2 o2.edits.length (editCells o2.edits)) :
    Calls Tryd.prog 19 #[.agg (opCells o1 v1), .agg (opCells o2 v2)] w fun e w' => e = .returned (.bool (eqB o1 o2)) ∧ Ext w w' := by
  obtain ⟨k1, d1, n1, t1, x1, e1, p1, q1, r1⟩ := o1
  obtain ⟨k2, d2, n2, t2, x2, e2, p2, q2, r2⟩ := o2
  obtain ⟨hb1, hb2, hx⟩ := twoBoxes w (.cells #[.int .u8 k1, .int .u64 d1, str n1, str t1, str x1, v1, .int .u64 p1, .int .u64 q1, .int .u64 r1] 25) (.cells #[.int .u8 k2, .int .u64 d2, str n2, str t2, str x2, v2, .int .u64 p2, .int .u64 q2, .int .u64 r2] 25)
  have h1' := h1.ext hx
  have h2' := h2.ext hx
  have HX := Lib.hid hx
  have HH1 := Lib.hid h1'
  have HH2 := Lib.hid h2'
  have HB1 := Lib.hid hb1
  have HB2 := Lib.hid hb2
  clear h1 h2 h1' h2' hx hb1 hb2
  simp only [opCells]
  go_enter Tryd.func19, Tryd.ntmps19
  by_cases hn : k1 = k2
  · subst hn
    by_cases hn : d1 = d2
    · subst hn
      by_cases hn : n1 = n2
      · subst hn
        by_cases hn : t1 = t2
        · subst hn
          by_cases hn : x1 = x2
          · subst hn
            by_cases hn : e1 = e2
            · subst hn
              by_cases hn : p1 = p2
              · subst hn
                by_cases hn : q1 = q2
                · subst hn
                  by_cases hn : r1 = r2
                  · subst hn
                    go_wp2_with (go_at_call 51; fail)
                    refine (eqEdits_any _ _ _ _ _ HH1.out HH2.out).mono ?_
                    rintro e w1 ⟨rfl, hx1⟩
                    have HX1 := Lib.hid (HX.out.trans hx1)
                    have hb1 := hx1.at_ HB1.out (fun e => e)
                    have hb2 := hx1.at_ HB2.out (fun e => e)
                    have y16 := cellAt hb1 6 (.int .u64 p1) rfl
                    have y26 := cellAt hb2 6 (.int .u64 p1) rfl
                    have y17 := cellAt hb1 7 (.int .u64 q1) rfl
                    have y27 := cellAt hb2 7 (.int .u64 q1) rfl
                    have y18 := cellAt hb1 8 (.int .u64 r1) rfl
                    have y28 := cellAt hb2 8 (.int .u64 r1) rfl
                    clear hb1 hb2 hx1
                    rw [eqB_self]
                    go_wp2
                    go_ret
                    exact ⟨by rw [eqB_self]; rfl, HX1.out⟩
                  · have HN := Lib.hid hn
                    have hq := beq_ne' hn
                    clear hn
                    go_wp2_with (go_at_call 51; fail)
                    refine (eqEdits_any _ _ _ _ _ HH1.out HH2.out).mono ?_
                    rintro e w1 ⟨rfl, hx1⟩
                    have HX1 := Lib.hid (HX.out.trans hx1)
                    have hb1 := hx1.at_ HB1.out (fun e => e)
                    have hb2 := hx1.at_ HB2.out (fun e => e)
                    have y16 := cellAt hb1 6 (.int .u64 p1) rfl
                    have y26 := cellAt hb2 6 (.int .u64 p1) rfl
                    have y17 := cellAt hb1 7 (.int .u64 q1) rfl
                    have y27 := cellAt hb2 7 (.int .u64 q1) rfl
                    have y18 := cellAt hb1 8 (.int .u64 r1) rfl
                    have y28 := cellAt hb2 8 (.int .u64 r2) rfl
                    clear hb1 hb2 hx1
                    rw [eqB_self]
                    go_wp2
                    go_ret
                    exact ⟨(congrArg (fun b => Ending.returned (.bool b)) (eqB_ne (a := (⟨k1, d1, n1, t1, x1, e1, p1, q1, r1⟩ : Oper')) (b := ⟨k1, d1, n1, t1, x1, e1, p1, q1, r2⟩) (fun e => HN.out (congrArg Oper'.dur e)))).symm, HX1.out⟩
                · have HN := Lib.hid hn
                  have hq := beq_ne' hn
                  clear hn
                  go_wp2_with (go_at_call 51; fail)
                  refine (eqEdits_any _ _ _ _ _ HH1.out HH2.out).mono ?_
                  rintro e w1 ⟨rfl, hx1⟩
                  have HX1 := Lib.hid (HX.out.trans hx1)
                  have hb1 := hx1.at_ HB1.out (fun e => e)
                  have hb2 := hx1.at_ HB2.out (fun e => e)
                  have y16 := cellAt hb1 6 (.int .u64 p1) rfl
                  have y26 := cellAt hb2 6 (.int .u64 p1) rfl
                  have y17 := cellAt hb1 7 (.int .u64 q1) rfl
                  have y27 := cellAt hb2 7 (.int .u64 q2) rfl
                  have y18 := cellAt hb1 8 (.int .u64 r1) rfl
                  have y28 := cellAt hb2 8 (.int .u64 r2) rfl
                  clear hb1 hb2 hx1
                  rw [eqB_self]
                  go_wp2
                  go_ret
                  exact ⟨(congrArg (fun b => Ending.returned (.bool b)) (eqB_ne (a := (⟨k1, d1, n1, t1, x1, e1, p1, q1, r1⟩ : Oper')) (b := ⟨k1, d1, n1, t1, x1, e1, p1, q2, r2⟩) (fun e => HN.out (congrArg Oper'.version e)))).symm, HX1.out⟩
              · have HN := Lib.hid hn
                have hq := beq_ne' hn
                clear hn
                go_wp2_with (go_at_call 51; fail)
                refine (eqEdits_any _ _ _ _ _ HH1.out HH2.out).mono ?_
                rintro e w1 ⟨rfl, hx1⟩
                have HX1 := Lib.hid (HX.out.trans hx1)
                have hb1 := hx1.at_ HB1.out (fun e => e)
                have hb2 := hx1.at_ HB2.out (fun e => e)
                have y16 := cellAt hb1 6 (.int .u64 p1) rfl
                have y26 := cellAt hb2 6 (.int .u64 p2) rfl
                have y17 := cellAt hb1 7 (.int .u64 q1) rfl
                have y27 := cellAt hb2 7 (.int .u64 q2) rfl
                have y18 := cellAt hb1 8 (.int .u64 r1) rfl
                have y28 := cellAt hb2 8 (.int .u64 r2) rfl
                clear hb1 hb2 hx1
                rw [eqB_self]
                go_wp2
                go_ret
                exact ⟨(congrArg (fun b => Ending.returned (.bool b)) (eqB_ne (a := (⟨k1, d1, n1, t1, x1, e1, p1, q1, r1⟩ : Oper')) (b := ⟨k1, d1, n1, t1, x1, e1, p2, q2, r2⟩) (fun e => HN.out (congrArg Oper'.epoch e)))).symm, HX1.out⟩
            · have HN := Lib.hid hn
              have hq := eqB_ne hn
              clear hn
              go_wp2_with (go_at_call 51; fail)
              refine (eqEdits_any _ _ _ _ _ HH1.out HH2.out).mono ?_
              rintro e w1 ⟨rfl, hx1⟩
              have HX1 := Lib.hid (HX.out.trans hx1)
              have hb1 := hx1.at_ HB1.out (fun e => e)
              have hb2 := hx1.at_ HB2.out (fun e => e)
              have y16 := cellAt hb1 6 (.int .u64 p1) rfl
              have y26 := cellAt hb2 6 (.int .u64 p2) rfl
              have y17 := cellAt hb1 7 (.int .u64 q1) rfl
              have y27 := cellAt hb2 7 (.int .u64 q2) rfl
              have y18 := cellAt hb1 8 (.int .u64 r1) rfl
              have y28 := cellAt hb2 8 (.int .u64 r2) rfl
              clear hb1 hb2 hx1
              rw [hq]
              clear hq
              go_wp2
              go_ret
              exact ⟨(congrArg (fun b => Ending.returned (.bool b)) (eqB_ne (a := (⟨k1, d1, n1, t1, x1, e1, p1, q1, r1⟩ : Oper')) (b := ⟨k1, d1, n1, t1, x1, e2, p2, q2, r2⟩) (fun e => HN.out (congrArg Oper'.edits e)))).symm, HX1.out⟩
          · have HN := Lib.hid hn
            have hq := str_ne hn
            have hq2 := beq_ne' hn
            clear hn
            go_wp2
            go_ret
            exact ⟨(congrArg (fun b => Ending.returned (.bool b)) (eqB_ne (a := (⟨k1, d1, n1, t1, x1, e1, p1, q1, r1⟩ : Oper')) (b := ⟨k1, d1, n1, t1, x2, e2, p2, q2, r2⟩) (fun e => HN.out (congrArg Oper'.text e)))).symm, HX.out⟩
        · have HN := Lib.hid hn
          have hq := str_ne hn
          have hq2 := beq_ne' hn
          clear hn
          go_wp2
          go_ret
          exact ⟨(congrArg (fun b => Ending.returned (.bool b)) (eqB_ne (a := (⟨k1, d1, n1, t1, x1, e1, p1, q1, r1⟩ : Oper')) (b := ⟨k1, d1, n1, t2, x2, e2, p2, q2, r2⟩) (fun e => HN.out (congrArg Oper'.to e)))).symm, HX.out⟩
      · have HN := Lib.hid hn
        have hq := str_ne hn
        have hq2 := beq_ne' hn
        clear hn
        go_wp2
        go_ret
        exact ⟨(congrArg (fun b => Ending.returned (.bool b)) (eqB_ne (a := (⟨k1, d1, n1, t1, x1, e1, p1, q1, r1⟩ : Oper')) (b := ⟨k1, d1, n2, t2, x2, e2, p2, q2, r2⟩) (fun e => HN.out (congrArg Oper'.name e)))).symm, HX.out⟩
    · have HN := Lib.hid hn
      have hq := beq_ne' hn
      clear hn
      go_wp2
      go_ret
      exact ⟨(congrArg (fun b => Ending.returned (.bool b)) (eqB_ne (a := (⟨k1, d1, n1, t1, x1, e1, p1, q1, r1⟩ : Oper')) (b := ⟨k1, d2, n2, t2, x2, e2, p2, q2, r2⟩) (fun e => HN.out (congrArg Oper'.doc e)))).symm, HX.out⟩
  · have HN := Lib.hid hn
    have hq := beq_ne' hn
    clear hn
    go_wp2
    go_ret
    exact ⟨(congrArg (fun b => Ending.returned (.bool b)) (eqB_ne (a := (⟨k1, d1, n1, t1, x1, e1, p1, q1, r1⟩ : Oper')) (b := ⟨k2, d2, n2, t2, x2, e2, p2, q2, r2⟩) (fun e => HN.out (congrArg Oper'.kind e)))).symm, HX.out⟩

end Go.Proofs.YtlhpcgmbbeihiaaDoor
