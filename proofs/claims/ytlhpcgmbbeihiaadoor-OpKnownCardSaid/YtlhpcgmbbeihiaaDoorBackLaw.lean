/-
  CONTRACT of the law OpBack: it holds of any operation and any bytes. Condition: the library's table of powers of ten lies as it is laid.
-/
import Derived.Test.YtlhpcgmbbeihiaaDoorTells
import Derived.Test.YtlhpcgmbbeihiaaDoorDPlain
import Derived.Test.YtlhpcgmbbeihiaaDoorOParse
import Derived.Deep.CutRange
namespace Go.Proofs.YtlhpcgmbbeihiaaDoor
open Go.RowKit

theorem opP_put_few {o : Oper'} (hr : opRight o = true) (hw : WfOp o) (hf : OpFew o) : opP (opPut o) = (0, o) := by
  have e1 := editsPut_few hf.2.2.2.2 hw.edits
  obtain ⟨h1, h2, h3, h4, h5⟩ := hf
  exact opP_put hr hw (by omega) (by omega) (by omega) (by omega)

set_option maxRecDepth 100000 in
set_option maxHeartbeats 8000000 in
theorem backLaw_any {S1 S2 : Nat → Prop} (w : World) (o : Oper') (vo vb : Value) (l : List UInt8) (ho : Row S1 w vo o.edits.length (editCells o.edits)) (hb : Bytes S2 w vb l) (hwo : WfOp o) (ht : Tab w) :
    Calls Tryd.prog 4 #[.agg (opCells o vo), vb] w fun e w' => e = .returned (.bool true) ∧ Ext w w' := by
  have hx : Ext w (w.alloc (.cells (opCells o vo) 25)) := (Upd.refl _ _).alloc _
  have hb1 := newAt w (.cells (opCells o vo) 25)
  obtain ⟨wb, hwbq⟩ : ∃ wb, wb = w.alloc (.cells (opCells o vo) 25) := ⟨_, rfl⟩
  rw [← hwbq] at hb1 hx
  have ho' := ho.ext hx
  have hb' := hb.ext hx
  have hT := tab_ext ht hx
  obtain ⟨va, vc, rfl, -, -, -⟩ := ho
  obtain ⟨ba, bc, rfl, -, hbm, -⟩ := hb
  obtain ⟨go, hgo⟩ : ∃ g, g = w.heap.size := ⟨_, rfl⟩
  rw [← hgo] at hb1
  have HOR := Lib.hid ho'
  have HLB := Lib.hid hb'
  have HTB := Lib.hid hT
  have HX := Lib.hid hx
  have HBO := Lib.hid hb1
  have HWO := Lib.hid hwo
  have HWBQ := Lib.hid hwbq
  have HGO := Lib.hid hgo
  unfold maxLen at hbm
  clear ho' hb' hT ht hx hb1 hwo hwbq hgo
  go_enter Tryd.func4, Tryd.ntmps4
  go_upto_region 1 with (fail)
  rw [show w.alloc (.cells (opCells o (.slice va o.edits.length vc)) 25) = wb from HWBQ.out.symm, show w.heap.size = go from HGO.out.symm]
  go_wp2_with (first | (refine wpList_load_blk rfl _ _ rfl rfl HBO.out (Tryd.opT o _) ?_) | (go_at_call 8; fail))
  refine (lawFew_any _ o _ HOR.out).mono ?_
  rintro e w1 ⟨b1, rfl, hf1, hx1⟩
  have HX1 := Lib.hid hx1
  clear hx1
  cases b1 with
  | false =>
    clear hf1
    go_wp2_with (go_at_call 9; fail)
    refine (works_any _ (tab_ext HTB.out HX1.out)).mono ?_
    rintro e w2 ⟨rfl, hx2⟩
    have HX2 := Lib.hid ((HX.out.trans HX1.out).trans hx2)
    clear hx2
    go_wp2
    go_ret
    exact ⟨rfl, HX2.out⟩
  | true =>
    have hf1 := hf1 rfl
    by_cases hl : l.length ≤ 1000
    case neg =>
      have hl' : (1000 : Int) < (l.length : Int) := by omega
      clear hf1 hl
      go_wp2_with (go_at_call 9; fail)
      refine (works_any _ (tab_ext HTB.out HX1.out)).mono ?_
      rintro e w2 ⟨rfl, hx2⟩
      have HX2 := Lib.hid ((HX.out.trans HX1.out).trans hx2)
      clear hx2
      go_wp2
      go_ret
      exact ⟨rfl, HX2.out⟩
    have hl' : ¬ (1000 : Int) < (l.length : Int) := by omega
    have hpl := opPut_few hf1 HWO.out
    have HPL := Lib.hid hpl
    have HLL := Lib.hid hl
    have HF1 := Lib.hid hf1
    have HBO2 := Lib.hid (HX1.out.at_ HBO.out id)
    clear hf1 hpl hl
    go_wp2_with (first | (refine wpList_load_blk rfl _ _ rfl rfl HBO2.out (Tryd.opT o _) ?_) | (go_at_call 11; fail))
    refine (oPut_any _ o _ (HOR.out.ext HX1.out) HWO.out (by have := HPL.out; omega)).mono ?_
    rintro e w3 ⟨v3, rfl, hp1, hp2, hx3⟩
    have hput := putOut_of hp1 hp2
    obtain ⟨pa, pn, pc, rfl, hp⟩ := hput
    have HP3 := Lib.hid hp
    have HX3 := Lib.hid (HX1.out.trans hx3)
    have HBO3 := Lib.hid ((HX1.out.trans hx3).at_ HBO.out id)
    clear hp1 hp2 hp hx3 hl'
    obtain ⟨r, hr⟩ : ∃ r, r = opRight o := ⟨_, rfl⟩
    rw [← hr]
    obtain ⟨ec, hec⟩ : ∃ c : Int, c = if r = true then 0 else 2 := ⟨_, rfl⟩
    rw [← hec]
    have hec2 : (ec == 0) = r := by rw [hec]; cases r <;> rfl
    have HEC := Lib.hid hec
    have HR := Lib.hid hr
    clear hec hr
    go_wp2_with (first | (refine wpList_load_blk rfl _ _ rfl rfl HBO3.out (Tryd.opT o _) ?_) | (go_at_call 18; fail))
    refine (right_any _ o _ (HOR.out.ext HX3.out)).mono ?_
    rintro e w4 ⟨rfl, hx4⟩
    rw [← HR.out]
    have HX4 := Lib.hid (HX3.out.trans hx4)
    have HP4 := Lib.hid (HP3.out.ext hx4)
    have HBO4 := Lib.hid ((HX3.out.trans hx4).at_ HBO.out id)
    clear hx4
    go_upto_if 33 with (fail)
    go_cut [7, 8] from 34 to 46 (fun _ _ wx => Ext w4 wx)
    case first =>
      cases r with
      | false =>
        go_wp2_with fail
        go_meet
        case rel => exact Upd.refl _ _
      | true =>
        have hpar := opP_put_few HR.out.symm HWO.out HF1.out
        have HPAR := Lib.hid hpar
        have hec0 : ec = 0 := HEC.out
        subst hec0
        clear hpar
        go_wp2_with (go_at_call 14; fail)
        refine (oParse_any _ _ (opPut o) (by have := HP4.out; rwa [show putL o = opPut o from by rw [putL, if_pos HR.out.symm]] at this) (by have := HPL.out; omega)).mono ?_
        rintro e w6 ⟨v6, rfl, hr6, hx6⟩
        obtain ⟨xa, xn, xc, rfl⟩ := ownsForm hr6
        rw [HPAR.out] at hr6 ⊢
        dsimp only at hr6
        rw [show opCells o (.slice xa xn xc) = #[.int .u8 o.kind, .int .u64 o.doc, str o.name, str o.to, str o.text, .slice xa xn xc, .int .u64 o.epoch, .int .u64 o.version, .int .u64 o.dur] from rfl]
        have hgx := newAt w6 (.cells (opCells o (.slice xa xn xc)) 25)
        have hx7 : Ext w6 (w6.alloc (.cells (opCells o (.slice xa xn xc)) 25)) := (Upd.refl _ _).alloc _
        obtain ⟨w7, hw7⟩ : ∃ u, u = w6.alloc (.cells (opCells o (.slice xa xn xc)) 25) := ⟨_, rfl⟩
        obtain ⟨gx, hgxq⟩ : ∃ g, g = w6.heap.size := ⟨_, rfl⟩
        rw [← hw7] at hgx hx7
        rw [← hgxq] at hgx
        have HGX7 := Lib.hid hgx
        have HGXQ := Lib.hid hgxq
        have HW7 := Lib.hid hw7
        have HRX7 := Lib.hid ((Row.of_owns hr6).ext hx7)
        have HX7 := Lib.hid (hx6.trans hx7)
        have HBO7 := Lib.hid ((hx6.trans hx7).at_ HBO4.out id)
        clear hgx hx7 hw7 hgxq hr6 hx6
        go_upto_region 8 with (fail)
        rw [show w6.alloc (.cells #[.int .u8 o.kind, .int .u64 o.doc, str o.name, str o.to, str o.text, .slice xa xn xc, .int .u64 o.epoch, .int .u64 o.version, .int .u64 o.dur] 25) = w7 from HW7.out.symm, show w6.heap.size = gx from HGXQ.out.symm]
        go_wp2_with (first | (refine wpList_load_blk_g rfl _ _ rfl rfl HGX7.out (Tryd.opT o _) ?_) | (refine wpList_load_blk_g rfl _ _ rfl rfl HBO7.out (Tryd.opT o _) ?_) | (go_at_call 19; fail))
        refine (sameOp_any _ o o _ _ HRX7.out (HOR.out.ext (HX4.out.trans HX7.out))).mono ?_
        rintro e w8 ⟨rfl, hx8⟩
        rw [eqB_self]
        have HX8 := Lib.hid (HX7.out.trans hx8)
        clear hx8
        go_wp2_with fail
        go_meet
        case rel => exact HX8.out
    case rest =>
      have HXC := Lib.hid (HX4.out.trans hcut)
      clear hcut
      go_wp2_with (go_at_call 14; fail)
      refine (oParse_any _ _ l (HLB.out.ext HXC.out) (by have := HLL.out; omega)).mono ?_
      rintro e w6 ⟨v6, rfl, hr6, hx6⟩
      obtain ⟨xa, xn, xc, rfl⟩ := ownsForm hr6
      have hwx := opP_wf l
      have hbad := opP_bad (l := l)
      have hok := opP_ok (l := l)
      obtain ⟨x, hxq⟩ : ∃ x, x = (opP l).2 := ⟨_, rfl⟩
      obtain ⟨gc, hgc⟩ : ∃ c, c = (opP l).1 := ⟨_, rfl⟩
      rw [← hxq] at hr6 hwx hbad hok ⊢
      rw [← hgc] at hbad hok ⊢
      have HWX := Lib.hid hwx
      have HBAD := Lib.hid hbad
      have HOK := Lib.hid hok
      rw [show opCells x (.slice xa xn xc) = #[.int .u8 x.kind, .int .u64 x.doc, str x.name, str x.to, str x.text, .slice xa xn xc, .int .u64 x.epoch, .int .u64 x.version, .int .u64 x.dur] from rfl]
      have hgx := newAt w6 (.cells (opCells x (.slice xa xn xc)) 25)
      have hx7 : Ext w6 (w6.alloc (.cells (opCells x (.slice xa xn xc)) 25)) := (Upd.refl _ _).alloc _
      obtain ⟨w7, hw7⟩ : ∃ u, u = w6.alloc (.cells (opCells x (.slice xa xn xc)) 25) := ⟨_, rfl⟩
      obtain ⟨gx, hgxq⟩ : ∃ g, g = w6.heap.size := ⟨_, rfl⟩
      rw [← hw7] at hgx hx7
      rw [← hgxq] at hgx
      have HGX7 := Lib.hid hgx
      have HGXQ := Lib.hid hgxq
      have HW7 := Lib.hid hw7
      have HRX7 := Lib.hid ((Row.of_owns hr6).ext hx7)
      have HX7 := Lib.hid ((HXC.out.trans hx6).trans hx7)
      clear hgx hx7 hw7 hgxq hr6 hx6 hwx hbad hok hxq hgc
      go_upto_region 11 with (fail)
      rw [show w6.alloc (.cells #[.int .u8 x.kind, .int .u64 x.doc, str x.name, str x.to, str x.text, .slice xa xn xc, .int .u64 x.epoch, .int .u64 x.version, .int .u64 x.dur] 25) = w7 from HW7.out.symm, show w6.heap.size = gx from HGXQ.out.symm]
      by_cases hg0 : gc = 0
      case neg =>
        have hxz := HBAD.out hg0
        have hg1 : (gc == 0) = false := by simpa using hg0
        have HXZ := Lib.hid hxz
        clear hxz
        go_wp2_with (first | (refine wpList_load_blk rfl _ _ rfl rfl HGX7.out (Tryd.opT x _) ?_) | (go_at_call 19; fail))
        refine (sameOp_any _ x (Oper'.zero 0) _ nilS HRX7.out (Row.nil Nothing _)).mono ?_
        rintro e w8 ⟨rfl, hx8⟩
        rw [HXZ.out, eqB_self]
        have HX8 := Lib.hid (HX7.out.trans hx8)
        clear hx8
        go_wp2_with (go_at_call 9; fail)
        refine (works_any _ (tab_ext HTB.out HX8.out)).mono ?_
        rintro e w9 ⟨rfl, hx9⟩
        have HX9 := Lib.hid ((HX.out.trans HX8.out).trans hx9)
        clear hx9
        go_wp2
        go_ret
        exact ⟨rfl, HX9.out⟩
      subst hg0
      obtain ⟨k1, k2, k3⟩ := HOK.out rfl
      have K1 := Lib.hid k1
      have K3 := Lib.hid k3
      clear k1 k2 k3
      go_wp2_with (first | (refine wpList_load_blk rfl _ _ rfl rfl HGX7.out (Tryd.opT x _) ?_) | (go_at_call 11; fail))
      refine (oPut_any _ x _ HRX7.out HWX.out (by have := HLL.out; rw [K3.out]; omega)).mono ?_
      rintro e w8 ⟨v8, rfl, hp1, -, hx8⟩
      have hp1 := hp1 K1.out
      obtain ⟨qa, qn, qc, rfl⟩ := ownsForm hp1
      rw [K3.out] at hp1
      rw [if_pos K1.out]
      have HQ8 := Lib.hid (Row.of_owns hp1)
      have HX8 := Lib.hid (HX7.out.trans hx8)
      have HGX8 := Lib.hid (hx8.at_ HGX7.out id)
      have HRX8 := Lib.hid (HRX7.out.ext hx8)
      clear hp1 hx8
      go_wp2_with (go_at_call 16; fail)
      refine (sameBytes_any _ _ _ l l HQ8.out (HLB.out.ext HX8.out)).mono ?_
      rintro e w9 ⟨rfl, hx9⟩
      rw [beq_self_eq_true]
      have HX9 := Lib.hid (HX8.out.trans hx9)
      have HGX9 := Lib.hid (hx9.at_ HGX8.out id)
      have HRX9 := Lib.hid (HRX8.out.ext hx9)
      clear hx9
      go_wp2_with (first | (refine wpList_load_blk_g rfl _ _ rfl rfl HGX9.out (Tryd.opT x _) ?_) | (go_at_call 18; fail))
      refine (right_any _ x _ HRX9.out).mono ?_
      rintro e wa ⟨rfl, hxa⟩
      rw [K1.out]
      have HXA := Lib.hid (HX9.out.trans hxa)
      clear hxa
      go_wp2_with (go_at_call 9; fail)
      refine (works_any _ (tab_ext HTB.out HXA.out)).mono ?_
      rintro e wd ⟨rfl, hxd⟩
      have HXD := Lib.hid ((HX.out.trans HXA.out).trans hxd)
      clear hxd
      go_wp2
      go_ret
      exact ⟨rfl, HXD.out⟩
end Go.Proofs.YtlhpcgmbbeihiaaDoor
