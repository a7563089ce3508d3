/-
  CONTRACT of the law OpBytes: it holds of any operation and any bytes. Condition: the library's table of powers of ten lies as it is laid.
-/
import Derived.Test.YtlhpcgmbbeihiaaDoorTells
import Derived.Test.YtlhpcgmbbeihiaaDoorDPlain
import Derived.Test.YtlhpcgmbbeihiaaDoorROParse
import Derived.Test.YtlhpcgmbbeihiaaDoorROPut
namespace Go.Proofs.YtlhpcgmbbeihiaaDoor
open Go.RowKit

structure YK where
  (pa qa xa ya ba oa : Option Addr)
  (pn pc qn qc xn xc yn yc bc on oc : Nat)
  (ec gc : Int)
  x : Oper'
  l : List UInt8
def yval (p : YK) : Nat → Value
  | 0 => .slice p.pa p.pn p.pc
  | 1 => .slice p.qa p.qn p.qc
  | 2 => .bool true
  | 3 => .bool true
  | 4 => .int .i64 p.ec
  | 5 => .int .i64 p.ec
  | 6 => .bool true
  | 7 => .bool true
  | 8 => .bool true
  | 9 => .agg (opCells p.x (.slice p.xa p.xn p.xc))
  | 11 => .agg (opCells p.x (.slice p.ya p.yn p.yc))
  | 12 => .bool true
  | 13 => .bool true
  | 14 => .bool true
  | 15 => .int .i64 p.gc
  | 16 => .int .i64 p.gc
  | 17 => .bool true
  | 18 => .bool true
  | 19 => .bool true
  | 20 => .slice p.ba p.l.length p.bc
  | 21 => .slice p.oa p.l.length p.oc
  | 22 => .bool true
  | 23 => .bool true
  | 24 => .bool true
  | 25 => .bool true
  | 26 => .bool true
  | 27 => .bool true
  | _ => undef
def YPhi (p : YK) (i : Nat) (v : Value) (w : World) : Prop := if i = 10 then RefOf p.x v w else v = yval p i
theorem YPhi.ext {p : YK} {i : Nat} {v : Value} {w w' : World} (h : YPhi p i v w) (hu : Ext w w') : YPhi p i v w' := by
  unfold YPhi at h ⊢
  by_cases c : i = 10
  · rw [if_pos c] at h ⊢; exact h.ext hu
  · rw [if_neg c] at h ⊢; exact h
def ydst (i : Nat) : Tmp := if i = 27 then 4 else 46 + i
theorem ydst_ne {j t : Nat} (ht : t ≠ 4 ∧ t < 46) (e : ydst j = t) : False := by
  unfold ydst at e
  have e : (if j = 27 then 4 else 46 + j : Nat) = t := e
  have h1 : (t : Nat) ≠ 4 := ht.1
  have h2 : (t : Nat) < 46 := ht.2
  split at e <;> omega

set_option maxRecDepth 100000 in
set_option maxHeartbeats 8000000 in
theorem bytesLaw_any {S1 S2 : Nat → Prop} (w : World) (o : Oper') (vo vb : Value) (l : List UInt8) (ho : Row S1 w vo o.edits.length (editCells o.edits)) (hb : Bytes S2 w vb l) (hwo : WfOp o) (ht : Tab w) :
    Calls Tryd.prog 3 #[.agg (opCells o vo), vb] w fun e w' => e = .returned (.bool true) ∧ Ext w w' := by
  have hx : Ext w (w.alloc (.cells (opCells o vo) 25)) := (Upd.refl _ _).alloc _
  have hb1 := newAt w (.cells (opCells o vo) 25)
  obtain ⟨wb, hwbq⟩ : ∃ wb, wb = w.alloc (.cells (opCells o vo) 25) := ⟨_, rfl⟩
  rw [← hwbq] at hb1 hx
  have ho' := ho.ext hx
  have hb' := hb.ext hx
  have hT := tab_ext ht hx
  obtain ⟨va, vc, rfl, -, -, -⟩ := ho
  obtain ⟨ba, bc, rfl, -, hbm, -⟩ := hb
  obtain ⟨go, hgo⟩ : ∃ g, g = w.heap.size := ⟨_, rfl⟩
  rw [← hgo] at hb1
  have HOR := Lib.hid ho'
  have HLB := Lib.hid hb'
  have HTB := Lib.hid hT
  have HX := Lib.hid hx
  have HBO := Lib.hid hb1
  have HWO := Lib.hid hwo
  have HWBQ := Lib.hid hwbq
  have HGO := Lib.hid hgo
  unfold maxLen at hbm
  clear ho' hb' hT ht hx hb1 hwo hwbq hgo
  go_enter Tryd.func3, Tryd.ntmps3
  go_upto_region 1 with (fail)
  rw [show w.alloc (.cells (opCells o (.slice va o.edits.length vc)) 25) = wb from HWBQ.out.symm, show w.heap.size = go from HGO.out.symm]
  go_wp2_with (first | (refine wpList_load_blk rfl _ _ rfl rfl HBO.out (Tryd.opT o _) ?_) | (go_at_call 8; fail))
  refine (lawFew_any _ o _ HOR.out).mono ?_
  rintro e w1 ⟨b1, rfl, hf1, hx1⟩
  have HX1 := Lib.hid hx1
  clear hx1
  cases b1 with
  | false =>
    clear hf1
    go_wp2_with (go_at_call 9; fail)
    refine (works_any _ (tab_ext HTB.out HX1.out)).mono ?_
    rintro e w2 ⟨rfl, hx2⟩
    have HX2 := Lib.hid ((HX.out.trans HX1.out).trans hx2)
    clear hx2
    go_wp2
    go_ret
    exact ⟨rfl, HX2.out⟩
  | true =>
    have hf1 := hf1 rfl
    by_cases hl : l.length ≤ 1000
    case neg =>
      have hl' : (1000 : Int) < (l.length : Int) := by omega
      clear hf1 hl
      go_wp2_with (go_at_call 9; fail)
      refine (works_any _ (tab_ext HTB.out HX1.out)).mono ?_
      rintro e w2 ⟨rfl, hx2⟩
      have HX2 := Lib.hid ((HX.out.trans HX1.out).trans hx2)
      clear hx2
      go_wp2
      go_ret
      exact ⟨rfl, HX2.out⟩
    have hl' : ¬ (1000 : Int) < (l.length : Int) := by omega
    have hle : o.edits.length ≤ 1000 := by have := hf1.2.2.2.1; omega
    have hpl := opPut_few hf1 HWO.out
    have HLE := Lib.hid hle
    have HPL := Lib.hid hpl
    have HLL := Lib.hid hl
    clear hf1 hle hpl hl
    go_wp2_with (go_at_call 10; fail)
    refine (own_any _ _ l (HLB.out.ext HX1.out) (by have := HLL.out; omega)).mono ?_
    rintro e w2 ⟨vw, rfl, hown, hx2⟩
    have hown := hown.mono (T := fun _ => True) (fun _ _ => trivial)
    have hown0 := hown
    obtain ⟨oa, oc, rfl, -, -, -⟩ := hown0
    obtain ⟨on, hon⟩ : ∃ n, n = l.length := ⟨_, rfl⟩
    have HON := Lib.hid hon
    have HO2 := Lib.hid hown
    have HX2 := Lib.hid (HX1.out.trans hx2)
    have HBO2 := Lib.hid ((HX1.out.trans hx2).at_ HBO.out id)
    clear hx2 hown hl' hon
    go_wp2_with (first | (refine wpList_load_blk rfl _ _ rfl rfl HBO2.out (Tryd.opT o _) ?_) | (go_at_call 11; fail))
    refine (oPut_any _ o _ (HOR.out.ext HX2.out) HWO.out (by have := HPL.out; omega)).mono ?_
    rintro e w3 ⟨v3, rfl, hp1, hp2, hx3⟩
    have hput := putOut_of hp1 hp2
    obtain ⟨ec, hec⟩ : ∃ c : Int, c = if opRight o then 0 else 2 := ⟨_, rfl⟩
    rw [← hec]
    have HEC := Lib.hid hec
    obtain ⟨pa, pn, pc, rfl, hp⟩ := hput
    have HP3 := Lib.hid hp
    have HX3 := Lib.hid (HX2.out.trans hx3)
    have HO3 := Lib.hid (HO2.out.ext hx3)
    have HBO3 := Lib.hid ((HX2.out.trans hx3).at_ HBO.out id)
    clear hp1 hp2 hp hx3 hec
    go_wp2_with (first | (refine wpList_load_blk rfl _ _ rfl rfl HBO3.out (Tryd.opT o _) ?_) | (go_at_call 13; fail))
    refine (lawRef_any _ o _ (HOR.out.ext HX3.out) HLE.out).mono ?_
    rintro e w4 ⟨v4, rfl, hr4, hx4⟩
    obtain ⟨ra, rn, rc, rfl⟩ := ownsForm hr4
    have HR4 := Lib.hid (Row.of_owns hr4)
    have HX4 := Lib.hid (HX3.out.trans hx4)
    have HO4 := Lib.hid (HO3.out.ext hx4)
    have HP4 := Lib.hid (HP3.out.ext hx4)
    clear hr4 hx4
    go_wp2_with (go_at_call 12; fail)
    refine (roPut_any _ o _ HR4.out HWO.out (by have := HPL.out; omega)).mono ?_
    rintro e w5 ⟨v5, rfl, hp1, hp2, hx5⟩
    have hput := putOut_of hp1 hp2
    rw [← HEC.out]
    obtain ⟨qa, qn, qc, rfl, hp⟩ := hput
    have HQ5 := Lib.hid hp
    have HX5 := Lib.hid (HX4.out.trans hx5)
    have HO5 := Lib.hid (HO4.out.ext hx5)
    have HP5 := Lib.hid (HP4.out.ext hx5)
    clear hp1 hp2 hp hx5
    go_wp2_with (go_at_call 14; fail)
    refine (oParse_any _ _ l (HLB.out.ext HX5.out) (by have := HLL.out; omega)).mono ?_
    rintro e w6 ⟨v6, rfl, hr6, hx6⟩
    obtain ⟨xa, xn, xc, rfl⟩ := ownsForm hr6
    have hle := opP_edits l
    obtain ⟨x, hxq⟩ : ∃ x, x = (opP l).2 := ⟨_, rfl⟩
    obtain ⟨gc, hgc⟩ : ∃ c, c = (opP l).1 := ⟨_, rfl⟩
    rw [← hxq] at hr6 hle ⊢
    rw [← hgc]
    have HXQ := Lib.hid hxq
    have HGC := Lib.hid hgc
    have hlx : x.edits.length ≤ 1000 := by have := HLL.out; omega
    have HLX := Lib.hid hlx
    rw [show opCells x (.slice xa xn xc) = #[.int .u8 x.kind, .int .u64 x.doc, str x.name, str x.to, str x.text, .slice xa xn xc, .int .u64 x.epoch, .int .u64 x.version, .int .u64 x.dur] from rfl]
    have hgx := newAt w6 (.cells (opCells x (.slice xa xn xc)) 25)
    have hx7 : Ext w6 (w6.alloc (.cells (opCells x (.slice xa xn xc)) 25)) := (Upd.refl _ _).alloc _
    obtain ⟨w7, hw7⟩ : ∃ u, u = w6.alloc (.cells (opCells x (.slice xa xn xc)) 25) := ⟨_, rfl⟩
    obtain ⟨gx, hgxq⟩ : ∃ g, g = w6.heap.size := ⟨_, rfl⟩
    rw [← hw7] at hgx hx7
    rw [← hgxq] at hgx
    have HGX7 := Lib.hid hgx
    have HGXQ := Lib.hid hgxq
    have HW7 := Lib.hid hw7
    have HRX7 := Lib.hid ((Row.of_owns hr6).ext hx7)
    have HX7 := Lib.hid ((HX5.out.trans hx6).trans hx7)
    have hx57 := hx6.trans hx7
    have HP7 := Lib.hid (HP5.out.ext hx57)
    have HQ7 := Lib.hid (HQ5.out.ext hx57)
    have HO7 := Lib.hid (HO5.out.ext hx57)
    clear hle hxq hgc hlx hgx hx7 hw7 hgxq hr6 hx6 hx57
    go_upto_region 7 with (fail)
    rw [show w6.alloc (.cells #[.int .u8 x.kind, .int .u64 x.doc, str x.name, str x.to, str x.text, .slice xa xn xc, .int .u64 x.epoch, .int .u64 x.version, .int .u64 x.dur] 25) = w7 from HW7.out.symm, show w6.heap.size = gx from HGXQ.out.symm]
    go_wp2_with (go_at_call 15; fail)
    refine (roParse_any _ _ l HO7.out (by have := HLL.out; omega)).mono ?_
    rintro e w8 ⟨v8, rfl, hr8, hx8⟩
    obtain ⟨ya, yn, yc, rfl⟩ := ownsForm hr8
    rw [← HXQ.out] at hr8 ⊢
    rw [← HGC.out]
    rw [show opCells x (.slice ya yn yc) = #[.int .u8 x.kind, .int .u64 x.doc, str x.name, str x.to, str x.text, .slice ya yn yc, .int .u64 x.epoch, .int .u64 x.version, .int .u64 x.dur] from rfl]
    have hgy := newAt w8 (.cells (opCells x (.slice ya yn yc)) 36)
    have hx9 : Ext w8 (w8.alloc (.cells (opCells x (.slice ya yn yc)) 36)) := (Upd.refl _ _).alloc _
    obtain ⟨wz, hwz⟩ : ∃ u, u = w8.alloc (.cells (opCells x (.slice ya yn yc)) 36) := ⟨_, rfl⟩
    obtain ⟨gy, hgyq⟩ : ∃ g, g = w8.heap.size := ⟨_, rfl⟩
    rw [← hwz] at hgy hx9
    rw [← hgyq] at hgy
    have HGY := Lib.hid hgy
    have HGYQ := Lib.hid hgyq
    have HWZ := Lib.hid hwz
    have hx79 := hx8.trans hx9
    have HRY := Lib.hid ((Row.of_owns hr8).ext hx9)
    have HRX := Lib.hid (HRX7.out.ext hx79)
    have HGX := Lib.hid (hx79.at_ HGX7.out id)
    have HP := Lib.hid (HP7.out.ext hx79)
    have HQ := Lib.hid (HQ7.out.ext hx79)
    have HO := Lib.hid (HO7.out.ext hx79)
    have HXZ := Lib.hid (HX7.out.trans hx79)
    have HL := Lib.hid (HLB.out.ext (HX7.out.trans hx79))
    have HT := Lib.hid (tab_ext HTB.out (HX7.out.trans hx79))
    clear hgy hx9 hwz hgyq hx79 hr8 hx8
    go_upto_region 8 with (fail)
    rw [show w8.alloc (.cells #[.int .u8 x.kind, .int .u64 x.doc, str x.name, str x.to, str x.text, .slice ya yn yc, .int .u64 x.epoch, .int .u64 x.version, .int .u64 x.dur] 36) = wz from HWZ.out.symm, show w8.heap.size = gy from HGYQ.out.symm]
    refine wp_region_invG Nothing (fun _ => Ext) 100 ydst (YPhi ⟨pa, qa, xa, ya, ba, oa, pn, pc, qn, qc, xn, xc, yn, yc, bc, l.length, oc, ec, gc, x, l⟩) 73 (by kernel_rfl) (by decide) (by decide) rfl (by decide) (fun i w w' h => ⟨h, fun _ => h⟩) (fun i j v w w' _ _ _ _ h hu => h.ext hu) ?_ ?_
    · intro i o' b' w1' ho hx1' hd hk hE
      have hi : i < 28 := (Array.getElem?_eq_some_iff.1 ho).1
      have hi28 : i = 0 ∨ i = 1 ∨ i = 2 ∨ i = 3 ∨ i = 4 ∨ i = 5 ∨ i = 6 ∨ i = 7 ∨ i = 8 ∨ i = 9 ∨ i = 10 ∨ i = 11 ∨ i = 12 ∨ i = 13 ∨ i = 14 ∨ i = 15 ∨ i = 16 ∨ i = 17 ∨ i = 18 ∨ i = 19 ∨ i = 20 ∨ i = 21 ∨ i = 22 ∨ i = 23 ∨ i = 24 ∨ i = 25 ∨ i = 26 ∨ i = 27 := by omega
      clear hE
      have HW1 := Lib.hid hx1'
      clear hx1'
      rcases hi28 with rfl | rfl | rfl | rfl | rfl | rfl | rfl | rfl | rfl | rfl | rfl | rfl | rfl | rfl | rfl | rfl | rfl | rfl | rfl | rfl | rfl | rfl | rfl | rfl | rfl | rfl | rfl | rfl
      all_goals (simp at ho; subst ho)
      case inl =>
        refine ⟨by simp [Region.wanted], ?_⟩
        have o6 : b'.tmps[6]?.getD undef = .slice pa pn pc := by
          have := hk 6 (fun j oj _ e => (ydst_ne (by decide) e).elim)
          simpa using this
        clear hd hk
        go_step
        exact ⟨_, rfl, rfl, Upd.refl _ _⟩
      case inr.inl =>
        refine ⟨by simp [Region.wanted], ?_⟩
        have o8 : b'.tmps[8]?.getD undef = .slice qa qn qc := by
          have := hk 8 (fun j oj _ e => (ydst_ne (by decide) e).elim)
          simpa using this
        clear hd hk
        go_step
        exact ⟨_, rfl, rfl, Upd.refl _ _⟩
      case inr.inr.inl =>
        refine ⟨by simp [Region.wanted], ?_⟩
        have e0 : b'.tmps[46]?.getD undef = .slice pa pn pc := by have := (show b'.tmps.getD 46 undef = .slice pa pn pc from hd ⟨0, .data⟩ (by simp) rfl); simpa using this
        have e1 : b'.tmps[47]?.getD undef = .slice qa qn qc := by have := (show b'.tmps.getD 47 undef = .slice qa qn qc from hd ⟨1, .data⟩ (by simp) rfl); simpa using this
        clear hd hk
        go_step
        refine (sameBytes_any w1' _ _ (putL o) (putL o) (HP.out.ext HW1.out) (HQ.out.ext HW1.out)).mono ?_
        rintro e w2 ⟨rfl, hu⟩
        exact ⟨_, rfl, by rw [beq_self_eq_true]; rfl, hu⟩
      case inr.inr.inr.inl =>
        refine ⟨by simp [Region.wanted], ?_⟩
        have e2 : b'.tmps[48]?.getD undef = .bool true := by have := (show b'.tmps.getD 48 undef = .bool true from hd ⟨2, .data⟩ (by simp) rfl); simpa using this
        clear hd hk
        go_step
        exact ⟨_, rfl, rfl, Upd.refl _ _⟩
      case inr.inr.inr.inr.inl =>
        refine ⟨by
          have := tmp_some (show b'.tmps.getD 49 undef = .bool true from hd ⟨3, .guard⟩ (by simp) rfl)
          simp [Region.wanted, yielded, this], ?_⟩
        have o7 : b'.tmps[7]?.getD undef = .int .i64 ec := by
          have := hk 7 (fun j oj _ e => (ydst_ne (by decide) e).elim)
          simpa using this
        clear hd hk
        go_step
        exact ⟨_, rfl, rfl, Upd.refl _ _⟩
      case inr.inr.inr.inr.inr.inl =>
        refine ⟨by
          have := tmp_some (show b'.tmps.getD 49 undef = .bool true from hd ⟨3, .guard⟩ (by simp) rfl)
          simp [Region.wanted, yielded, this], ?_⟩
        have o9 : b'.tmps[9]?.getD undef = .int .i64 ec := by
          have := hk 9 (fun j oj _ e => (ydst_ne (by decide) e).elim)
          simpa using this
        clear hd hk
        go_step
        exact ⟨_, rfl, rfl, Upd.refl _ _⟩
      case inr.inr.inr.inr.inr.inr.inl =>
        refine ⟨by
          have := tmp_some (show b'.tmps.getD 49 undef = .bool true from hd ⟨3, .guard⟩ (by simp) rfl)
          simp [Region.wanted, yielded, this], ?_⟩
        have e4 : b'.tmps[50]?.getD undef = .int .i64 ec := by have := (show b'.tmps.getD 50 undef = .int .i64 ec from hd ⟨4, .data⟩ (by simp) rfl); simpa using this
        have e5 : b'.tmps[51]?.getD undef = .int .i64 ec := by have := (show b'.tmps.getD 51 undef = .int .i64 ec from hd ⟨5, .data⟩ (by simp) rfl); simpa using this
        clear hd hk
        go_step
        exact ⟨_, rfl, rfl, Upd.refl _ _⟩
      case inr.inr.inr.inr.inr.inr.inr.inl =>
        refine ⟨by simp [Region.wanted], ?_⟩
        have e3 : b'.tmps[49]?.getD undef = .bool true := by have := (show b'.tmps.getD 49 undef = .bool true from hd ⟨3, .data⟩ (by simp) rfl); simpa using this
        have e6 : b'.tmps[52]?.getD undef = .bool true := by have := (show b'.tmps.getD 52 undef = .bool true from hd ⟨6, .data⟩ (by simp) rfl); simpa using this
        clear hd hk
        go_step
        exact ⟨_, rfl, rfl, Upd.refl _ _⟩
      case inr.inr.inr.inr.inr.inr.inr.inr.inl =>
        refine ⟨by simp [Region.wanted], ?_⟩
        have e7 : b'.tmps[53]?.getD undef = .bool true := by have := (show b'.tmps.getD 53 undef = .bool true from hd ⟨7, .data⟩ (by simp) rfl); simpa using this
        clear hd hk
        go_step
        exact ⟨_, rfl, rfl, Upd.refl _ _⟩
      case inr.inr.inr.inr.inr.inr.inr.inr.inr.inl =>
        refine ⟨by
          have := tmp_some (show b'.tmps.getD 54 undef = .bool true from hd ⟨8, .guard⟩ (by simp) rfl)
          simp [Region.wanted, yielded, this], ?_⟩
        have o10 : b'.eval (.tmp 10) = .pointer (some ⟨gx, 0, none⟩) := by
          have := hk 10 (fun j oj _ e => (ydst_ne (by decide) e).elim)
          simpa [Act.eval] using this
        have hg1 := HW1.out.at_ HGX.out id
        exact wp_load_mid (w := w1') 25 (.tmp 10) rfl gx 0 o10 (opCells x (.slice xa xn xc)).toList _ (fun j u hj => by have := cellAt hg1 j u (by simpa using hj); simpa using this) Tryd.underlying25 rfl (by kernel_rfl) ⟨_, rfl, rfl, Upd.refl _ _⟩
      case inr.inr.inr.inr.inr.inr.inr.inr.inr.inr.inl =>
        refine ⟨by
          have := tmp_some (show b'.tmps.getD 54 undef = .bool true from hd ⟨8, .guard⟩ (by simp) rfl)
          simp [Region.wanted, yielded, this], ?_⟩
        have e9 : b'.tmps[55]?.getD undef = .agg (opCells x (.slice xa xn xc)) := by have := (show b'.tmps.getD 55 undef = .agg (opCells x (.slice xa xn xc)) from hd ⟨9, .data⟩ (by simp) rfl); simpa using this
        clear hd hk
        go_step
        refine (lawRef_any w1' x _ (HRX.out.ext HW1.out) HLX.out).mono ?_
        rintro e w2 ⟨v2, rfl, ho2, hu⟩
        obtain ⟨a2, n2, c2, rfl⟩ := ownsForm ho2
        exact ⟨_, rfl, ⟨a2, n2, c2, rfl, (Row.of_owns ho2).mono (fun _ _ => trivial)⟩, hu⟩
      case inr.inr.inr.inr.inr.inr.inr.inr.inr.inr.inr.inl =>
        refine ⟨by
          have := tmp_some (show b'.tmps.getD 54 undef = .bool true from hd ⟨8, .guard⟩ (by simp) rfl)
          simp [Region.wanted, yielded, this], ?_⟩
        have o12 : b'.eval (.tmp 12) = .pointer (some ⟨gy, 0, none⟩) := by
          have := hk 12 (fun j oj _ e => (ydst_ne (by decide) e).elim)
          simpa [Act.eval] using this
        have hg1 := HW1.out.at_ HGY.out id
        exact wp_load_mid (w := w1') 36 (.tmp 12) rfl gy 0 o12 (opCells x (.slice ya yn yc)).toList _ (fun j u hj => by have := cellAt hg1 j u (by simpa using hj); simpa using this) Tryd.underlying36 rfl (by kernel_rfl) ⟨_, rfl, rfl, Upd.refl _ _⟩
      case inr.inr.inr.inr.inr.inr.inr.inr.inr.inr.inr.inr.inl =>
        refine ⟨by
          have := tmp_some (show b'.tmps.getD 54 undef = .bool true from hd ⟨8, .guard⟩ (by simp) rfl)
          simp [Region.wanted, yielded, this], ?_⟩
        have h10 := hd ⟨10, .data⟩ (by simp) rfl
        obtain ⟨a10, n10, c10, e10, r10⟩ := (show RefOf x (b'.tmps.getD 56 undef) w1' from h10)
        replace e10 : b'.tmps[56]?.getD undef = .agg (opCells x (.slice a10 n10 c10)) := by simpa using e10
        have e11 : b'.tmps[57]?.getD undef = .agg (opCells x (.slice ya yn yc)) := by have := (show b'.tmps.getD 57 undef = .agg (opCells x (.slice ya yn yc)) from hd ⟨11, .data⟩ (by simp) rfl); simpa using this
        clear hd hk
        go_step
        refine (rsameOp_any w1' x x _ _ r10 (HRY.out.ext HW1.out)).mono ?_
        rintro e w2 ⟨rfl, hu⟩
        exact ⟨_, rfl, by rw [eqB_self]; rfl, hu⟩
      case inr.inr.inr.inr.inr.inr.inr.inr.inr.inr.inr.inr.inr.inl =>
        refine ⟨by simp [Region.wanted], ?_⟩
        have e8 : b'.tmps[54]?.getD undef = .bool true := by have := (show b'.tmps.getD 54 undef = .bool true from hd ⟨8, .data⟩ (by simp) rfl); simpa using this
        have e12 : b'.tmps[58]?.getD undef = .bool true := by have := (show b'.tmps.getD 58 undef = .bool true from hd ⟨12, .data⟩ (by simp) rfl); simpa using this
        clear hd hk
        go_step
        exact ⟨_, rfl, rfl, Upd.refl _ _⟩
      case inr.inr.inr.inr.inr.inr.inr.inr.inr.inr.inr.inr.inr.inr.inl =>
        refine ⟨by simp [Region.wanted], ?_⟩
        have e13 : b'.tmps[59]?.getD undef = .bool true := by have := (show b'.tmps.getD 59 undef = .bool true from hd ⟨13, .data⟩ (by simp) rfl); simpa using this
        clear hd hk
        go_step
        exact ⟨_, rfl, rfl, Upd.refl _ _⟩
      case inr.inr.inr.inr.inr.inr.inr.inr.inr.inr.inr.inr.inr.inr.inr.inl =>
        refine ⟨by
          have := tmp_some (show b'.tmps.getD 60 undef = .bool true from hd ⟨14, .guard⟩ (by simp) rfl)
          simp [Region.wanted, yielded, this], ?_⟩
        have o11 : b'.tmps[11]?.getD undef = .int .i64 gc := by
          have := hk 11 (fun j oj _ e => (ydst_ne (by decide) e).elim)
          simpa using this
        clear hd hk
        go_step
        exact ⟨_, rfl, rfl, Upd.refl _ _⟩
      case inr.inr.inr.inr.inr.inr.inr.inr.inr.inr.inr.inr.inr.inr.inr.inr.inl =>
        refine ⟨by
          have := tmp_some (show b'.tmps.getD 60 undef = .bool true from hd ⟨14, .guard⟩ (by simp) rfl)
          simp [Region.wanted, yielded, this], ?_⟩
        have o13 : b'.tmps[13]?.getD undef = .int .i64 gc := by
          have := hk 13 (fun j oj _ e => (ydst_ne (by decide) e).elim)
          simpa using this
        clear hd hk
        go_step
        exact ⟨_, rfl, rfl, Upd.refl _ _⟩
      case inr.inr.inr.inr.inr.inr.inr.inr.inr.inr.inr.inr.inr.inr.inr.inr.inr.inl =>
        refine ⟨by
          have := tmp_some (show b'.tmps.getD 60 undef = .bool true from hd ⟨14, .guard⟩ (by simp) rfl)
          simp [Region.wanted, yielded, this], ?_⟩
        have e15 : b'.tmps[61]?.getD undef = .int .i64 gc := by have := (show b'.tmps.getD 61 undef = .int .i64 gc from hd ⟨15, .data⟩ (by simp) rfl); simpa using this
        have e16 : b'.tmps[62]?.getD undef = .int .i64 gc := by have := (show b'.tmps.getD 62 undef = .int .i64 gc from hd ⟨16, .data⟩ (by simp) rfl); simpa using this
        clear hd hk
        go_step
        exact ⟨_, rfl, rfl, Upd.refl _ _⟩
      case inr.inr.inr.inr.inr.inr.inr.inr.inr.inr.inr.inr.inr.inr.inr.inr.inr.inr.inl =>
        refine ⟨by simp [Region.wanted], ?_⟩
        have e14 : b'.tmps[60]?.getD undef = .bool true := by have := (show b'.tmps.getD 60 undef = .bool true from hd ⟨14, .data⟩ (by simp) rfl); simpa using this
        have e17 : b'.tmps[63]?.getD undef = .bool true := by have := (show b'.tmps.getD 63 undef = .bool true from hd ⟨17, .data⟩ (by simp) rfl); simpa using this
        clear hd hk
        go_step
        exact ⟨_, rfl, rfl, Upd.refl _ _⟩
      case inr.inr.inr.inr.inr.inr.inr.inr.inr.inr.inr.inr.inr.inr.inr.inr.inr.inr.inr.inl =>
        refine ⟨by simp [Region.wanted], ?_⟩
        have e18 : b'.tmps[64]?.getD undef = .bool true := by have := (show b'.tmps.getD 64 undef = .bool true from hd ⟨18, .data⟩ (by simp) rfl); simpa using this
        clear hd hk
        go_step
        exact ⟨_, rfl, rfl, Upd.refl _ _⟩
      case inr.inr.inr.inr.inr.inr.inr.inr.inr.inr.inr.inr.inr.inr.inr.inr.inr.inr.inr.inr.inl =>
        refine ⟨by
          have := tmp_some (show b'.tmps.getD 65 undef = .bool true from hd ⟨19, .guard⟩ (by simp) rfl)
          simp [Region.wanted, yielded, this], ?_⟩
        have o1 : b'.tmps[1]?.getD undef = .slice ba l.length bc := by
          have := hk 1 (fun j oj _ e => (ydst_ne (by decide) e).elim)
          simpa using this
        clear hd hk
        go_step
        exact ⟨_, rfl, rfl, Upd.refl _ _⟩
      case inr.inr.inr.inr.inr.inr.inr.inr.inr.inr.inr.inr.inr.inr.inr.inr.inr.inr.inr.inr.inr.inl =>
        refine ⟨by
          have := tmp_some (show b'.tmps.getD 65 undef = .bool true from hd ⟨19, .guard⟩ (by simp) rfl)
          simp [Region.wanted, yielded, this], ?_⟩
        have o5 : b'.tmps[5]?.getD undef = .slice oa l.length oc := by
          have := hk 5 (fun j oj _ e => (ydst_ne (by decide) e).elim)
          simpa using this
        clear hd hk
        go_step
        exact ⟨_, rfl, rfl, Upd.refl _ _⟩
      case inr.inr.inr.inr.inr.inr.inr.inr.inr.inr.inr.inr.inr.inr.inr.inr.inr.inr.inr.inr.inr.inr.inl =>
        refine ⟨by
          have := tmp_some (show b'.tmps.getD 65 undef = .bool true from hd ⟨19, .guard⟩ (by simp) rfl)
          simp [Region.wanted, yielded, this], ?_⟩
        have e20 : b'.tmps[66]?.getD undef = .slice ba l.length bc := by have := (show b'.tmps.getD 66 undef = .slice ba l.length bc from hd ⟨20, .data⟩ (by simp) rfl); simpa using this
        have e21 : b'.tmps[67]?.getD undef = .slice oa l.length oc := by have := (show b'.tmps.getD 67 undef = .slice oa l.length oc from hd ⟨21, .data⟩ (by simp) rfl); simpa using this
        clear hd hk
        go_step
        refine (sameBytes_any w1' _ _ l l (HL.out.ext HW1.out) (HO.out.ext HW1.out)).mono ?_
        rintro e w2 ⟨rfl, hu⟩
        exact ⟨_, rfl, by rw [beq_self_eq_true]; rfl, hu⟩
      case inr.inr.inr.inr.inr.inr.inr.inr.inr.inr.inr.inr.inr.inr.inr.inr.inr.inr.inr.inr.inr.inr.inr.inl =>
        refine ⟨by simp [Region.wanted], ?_⟩
        have e19 : b'.tmps[65]?.getD undef = .bool true := by have := (show b'.tmps.getD 65 undef = .bool true from hd ⟨19, .data⟩ (by simp) rfl); simpa using this
        have e22 : b'.tmps[68]?.getD undef = .bool true := by have := (show b'.tmps.getD 68 undef = .bool true from hd ⟨22, .data⟩ (by simp) rfl); simpa using this
        clear hd hk
        go_step
        exact ⟨_, rfl, rfl, Upd.refl _ _⟩
      case inr.inr.inr.inr.inr.inr.inr.inr.inr.inr.inr.inr.inr.inr.inr.inr.inr.inr.inr.inr.inr.inr.inr.inr.inl =>
        refine ⟨by simp [Region.wanted], ?_⟩
        have e23 : b'.tmps[69]?.getD undef = .bool true := by have := (show b'.tmps.getD 69 undef = .bool true from hd ⟨23, .data⟩ (by simp) rfl); simpa using this
        clear hd hk
        go_step
        exact ⟨_, rfl, rfl, Upd.refl _ _⟩
      case inr.inr.inr.inr.inr.inr.inr.inr.inr.inr.inr.inr.inr.inr.inr.inr.inr.inr.inr.inr.inr.inr.inr.inr.inr.inl =>
        refine ⟨by
          have := tmp_some (show b'.tmps.getD 70 undef = .bool true from hd ⟨24, .guard⟩ (by simp) rfl)
          simp [Region.wanted, yielded, this], ?_⟩
        clear hd hk
        go_step
        refine (works_any w1' (tab_ext HT.out HW1.out)).mono ?_
        rintro e w2 ⟨rfl, hu⟩
        exact ⟨_, rfl, rfl, hu⟩
      case inr.inr.inr.inr.inr.inr.inr.inr.inr.inr.inr.inr.inr.inr.inr.inr.inr.inr.inr.inr.inr.inr.inr.inr.inr.inr.inl =>
        refine ⟨by simp [Region.wanted], ?_⟩
        have e24 : b'.tmps[70]?.getD undef = .bool true := by have := (show b'.tmps.getD 70 undef = .bool true from hd ⟨24, .data⟩ (by simp) rfl); simpa using this
        have e25 : b'.tmps[71]?.getD undef = .bool true := by have := (show b'.tmps.getD 71 undef = .bool true from hd ⟨25, .data⟩ (by simp) rfl); simpa using this
        clear hd hk
        go_step
        exact ⟨_, rfl, rfl, Upd.refl _ _⟩
      case inr.inr.inr.inr.inr.inr.inr.inr.inr.inr.inr.inr.inr.inr.inr.inr.inr.inr.inr.inr.inr.inr.inr.inr.inr.inr.inr =>
        refine ⟨by simp [Region.wanted], ?_⟩
        have e26 : b'.tmps[72]?.getD undef = .bool true := by have := (show b'.tmps.getD 72 undef = .bool true from hd ⟨26, .data⟩ (by simp) rfl); simpa using this
        clear hd hk
        go_step
        exact ⟨_, rfl, rfl, Upd.refl _ _⟩
    · intro v w1' hx1' hp
      have h27 : v 27 = .bool true := hp 27 (by decide)
      have HX8 := Lib.hid ((HX.out.trans HXZ.out).trans hx1')
      clear hp hx1'
      simp only [List.size_toArray, List.length_cons, List.length_nil, Nat.reduceAdd, fillAll, ydst]
      go_simp
      go_wp2
      go_ret
      exact ⟨rfl, HX8.out⟩
end Go.Proofs.YtlhpcgmbbeihiaaDoor
