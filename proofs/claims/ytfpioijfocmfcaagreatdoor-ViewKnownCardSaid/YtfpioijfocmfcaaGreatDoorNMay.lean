/-
  CONTRACT of name.May. No condition.
-/
import Derived.Test.YtfpioijfocmfcaaGreatDoorNOf
namespace Go.Proofs.YtfpioijfocmfcaaGreatDoor
open Go.RowKit

theorem of_four (w : World) (x : Nm) : Calls Tryz.prog 43 #[.int .u8 x.kind, .agg (four (numsF x))] w fun e w' => e = .returned (.agg (nmCells (ofF x.kind (numsF x)))) ∧ Ext w w' := by
  have h := of_any w x.kind ((numsF x).getD 0 0) ((numsF x).getD 1 0) ((numsF x).getD 2 0) ((numsF x).getD 3 0)
  have e : ofF x.kind [(numsF x).getD 0 0, (numsF x).getD 1 0, (numsF x).getD 2 0, (numsF x).getD 3 0] = ofF x.kind (numsF x) := by
    unfold ofF; split
    · simp
    · split <;> simp
  rw [e] at h
  exact h
set_option maxRecDepth 100000 in
theorem nm_equal (y x : Nm) (w : World) : (Op.equalIn 10000 58 (.agg (nmCells y)) (.agg (nmCells x))).run Tryz.prog w = .ok (eqB y x) w := by
  have hS : Tryz.prog.underlying 58 = some (.struct (Tryz.prog.fieldsOf 58)) := by kernel_rfl
  have hp : Tryz.prog.stoodInHeld 58 = false := by kernel_rfl
  have u1 := Tryz.underlying5
  have u2 := Tryz.underlying22
  rw [show (10000 : Nat) = 9999 + 1 from rfl, run_equalIn_agg w 9999 58 _ _ hS hp]
  simp only [Program.fieldsOf, Tryz.underlying58, nmCells]
  go_simp
  obtain ⟨a, b, c, d, e, f⟩ := y
  obtain ⟨a', b', c', d', e', f'⟩ := x
  by_cases h1 : a = a' <;> by_cases h2 : b = b' <;> by_cases h3 : c = c' <;> by_cases h4 : d = d' <;> by_cases h5 : e = e' <;> by_cases h6 : f = f' <;> simp [eqB, h1, h2, h3, h4, h5, h6] <;> omega
theorem wp_eql_nm {op : Oper} {a : Act} {w : World} {K : Act → World → Prop} {Q : Exit → Act → World → Prop} (p q : Operand) (ho : op.op = .binOp .eql 58 p q 58) {u v : Nm} (hp : a.eval p = .agg (nmCells u)) (hq : a.eval q = .agg (nmCells v))
    (h : K (a.put op.dst (.bool (eqB u v))) w) : op.wp Tryz.prog a w K Q := by
  have hg := run_eqGuard_agg (P := Tryz.prog) w .eql 58 p q (nmCells u) (nmCells v) (by kernel_rfl)
  unfold Oper.wp execOp
  simp only [ho, hp, hq]
  simp only [Sem.run_bind, Sem.run_pure, Result.andThen_ok, hg, run_eql_struct, nm_equal]
  exact h
theorem mayF_bad {x : Nm} (h : ¬ (1 ≤ x.kind ∧ x.kind ≤ 4)) : mayF x = false := by
  unfold mayF; simp only [Bool.and_eq_false_iff, decide_eq_false_iff_not]; omega
theorem mayF_ok {x : Nm} (h1 : 1 ≤ x.kind) (h2 : x.kind ≤ 4) : mayF x = eqB (ofF x.kind (numsF x)) x := by
  unfold mayF eqB; simp [h1, h2]
def mayOkVal (x : Nm) (g : Nat) : Nat → Value
  | 0 => .pointer (some ⟨g, 0, none⟩)
  | 1 => .int .u8 x.kind
  | 2 => .bool true
  | 3 => .bool true
  | 4 => .pointer (some ⟨g, 0, none⟩)
  | 5 => .int .u8 x.kind
  | 6 => .bool true
  | 7 => .bool true
  | 8 => .bool true
  | 9 => .pointer (some ⟨g, 0, none⟩)
  | 10 => .int .u8 x.kind
  | 11 => .agg (nmCells x)
  | 12 => .agg (four (numsF x))
  | 13 => .agg (nmCells (ofF x.kind (numsF x)))
  | 14 => .agg (nmCells x)
  | 15 => .bool (eqB (ofF x.kind (numsF x)) x)
  | 16 => .bool (eqB (ofF x.kind (numsF x)) x)
  | 17 => .bool (eqB (ofF x.kind (numsF x)) x)
  | _ => undef
def mayOkDst (i : Nat) : Tmp := if i = 17 then 2 else 3 + i
theorem mayOkDst_ne {j t : Nat} (ht : t = 1) (e : mayOkDst j = t) : False := by
  unfold mayOkDst at e
  have e : (if j = 17 then 2 else 3 + j : Nat) = t := e
  rcases ht with rfl <;> (repeat' (split at e)) <;> omega
def mayOkPhi (x : Nm) (g : Nat) (i : Nat) (v : Value) (w : World) : Prop := v = mayOkVal x g i
theorem mayOkPhi.ext {x : Nm} {g : Nat} {i : Nat} {v : Value} {w w' : World} (h : mayOkPhi x g i v w) (hu : Ext w w') : mayOkPhi x g i v w' := by
  unfold mayOkPhi at h ⊢
  exact h
def mayLoVal (x : Nm) (g : Nat) : Nat → Value
  | 0 => .pointer (some ⟨g, 0, none⟩)
  | 1 => .int .u8 x.kind
  | 2 => .bool false
  | 3 => .bool false
  | 7 => .bool false
  | 8 => .bool false
  | 16 => .bool false
  | 17 => .bool false
  | _ => undef
def mayLoDst (i : Nat) : Tmp := if i = 17 then 2 else 3 + i
theorem mayLoDst_ne {j t : Nat} (ht : t = 1) (e : mayLoDst j = t) : False := by
  unfold mayLoDst at e
  have e : (if j = 17 then 2 else 3 + j : Nat) = t := e
  rcases ht with rfl <;> (repeat' (split at e)) <;> omega
def mayLoPhi (x : Nm) (g : Nat) (i : Nat) (v : Value) (w : World) : Prop := v = mayLoVal x g i
theorem mayLoPhi.ext {x : Nm} {g : Nat} {i : Nat} {v : Value} {w w' : World} (h : mayLoPhi x g i v w) (hu : Ext w w') : mayLoPhi x g i v w' := by
  unfold mayLoPhi at h ⊢
  exact h
def mayHiVal (x : Nm) (g : Nat) : Nat → Value
  | 0 => .pointer (some ⟨g, 0, none⟩)
  | 1 => .int .u8 x.kind
  | 2 => .bool true
  | 3 => .bool true
  | 4 => .pointer (some ⟨g, 0, none⟩)
  | 5 => .int .u8 x.kind
  | 6 => .bool false
  | 7 => .bool false
  | 8 => .bool false
  | 16 => .bool false
  | 17 => .bool false
  | _ => undef
def mayHiDst (i : Nat) : Tmp := if i = 17 then 2 else 3 + i
theorem mayHiDst_ne {j t : Nat} (ht : t = 1) (e : mayHiDst j = t) : False := by
  unfold mayHiDst at e
  have e : (if j = 17 then 2 else 3 + j : Nat) = t := e
  rcases ht with rfl <;> (repeat' (split at e)) <;> omega
def mayHiPhi (x : Nm) (g : Nat) (i : Nat) (v : Value) (w : World) : Prop := v = mayHiVal x g i
theorem mayHiPhi.ext {x : Nm} {g : Nat} {i : Nat} {v : Value} {w w' : World} (h : mayHiPhi x g i v w) (hu : Ext w w') : mayHiPhi x g i v w' := by
  unfold mayHiPhi at h ⊢
  exact h
set_option maxRecDepth 100000 in
set_option maxHeartbeats 2000000 in
theorem may_any (w : World) (x : Nm) :
    Calls Tryz.prog 55 #[.agg (nmCells x)] w fun e w' => e = .returned (.bool (mayF x)) ∧ Ext w w' := by
  have hx : Ext w (w.alloc (.cells (nmCells x) 58)) := (Upd.refl _ _).alloc _
  have hb := newAt w (.cells (nmCells x) 58)
  obtain ⟨wb, hwb⟩ : ∃ u, u = w.alloc (.cells (nmCells x) 58) := ⟨_, rfl⟩
  obtain ⟨g, hg⟩ : ∃ g, g = w.heap.size := ⟨_, rfl⟩
  rw [← hwb] at hx hb
  rw [← hg] at hb
  have HX := Lib.hid hx
  have HB := Lib.hid hb
  have HWB := Lib.hid hwb
  have HG := Lib.hid hg
  clear hx hb hwb hg
  go_enter Tryz.func55, Tryz.ntmps55
  go_upto_region 1 with (fail)
  rw [show w.alloc (.cells (nmCells x) 58) = wb from HWB.out.symm, show w.heap.size = g from HG.out.symm]
  by_cases h1 : 1 ≤ x.kind
  · by_cases h2 : x.kind ≤ 4
    · have H1 := Lib.hid h1
      have H2 := Lib.hid h2
      have f1 : decide ((x.kind : Int) ≥ 1) = true := by simp; omega
      have f2 : decide ((x.kind : Int) ≤ 4) = true := by simp; omega
      refine wp_region_invH Nothing (fun _ => Ext) 1000 mayOkDst (mayOkPhi x g) 20 (by kernel_rfl) (by decide) (by decide) rfl (fun i hi => .inl ((by decide : ∀ i, i < 18 → mayOkDst i < 20) i hi)) (fun i w w' h => ⟨h, fun _ => h⟩) (fun i j v w w' _ _ _ _ h hu => h.ext hu) ?_ ?_
      · intro i o b' w1' ho hx1' hd hk hE hSZ
        have hi : i < 18 := (Array.getElem?_eq_some_iff.1 ho).1
        have his : i = 0 ∨ i = 1 ∨ i = 2 ∨ i = 3 ∨ i = 4 ∨ i = 5 ∨ i = 6 ∨ i = 7 ∨ i = 8 ∨ i = 9 ∨ i = 10 ∨ i = 11 ∨ i = 12 ∨ i = 13 ∨ i = 14 ∨ i = 15 ∨ i = 16 ∨ i = 17 := by omega
        clear hE hSZ
        have HW1 := Lib.hid hx1'
        clear hx1'
        rcases his with rfl | rfl | rfl | rfl | rfl | rfl | rfl | rfl | rfl | rfl | rfl | rfl | rfl | rfl | rfl | rfl | rfl | rfl
        all_goals (simp at ho; subst ho)
        case inl =>
          refine .inl ⟨by simp [Region.wanted], ?_⟩
          have o1 : b'.tmps[1]?.getD undef = .pointer (some ⟨g, 0, none⟩) := by
            have := hk 1 (fun j oj _ e => (mayOkDst_ne (by decide) e).elim)
            simpa using this
          clear hd hk
          go_step
          exact ⟨_, rfl, rfl, Upd.refl _ _⟩
        case inr.inl =>
          refine .inl ⟨by simp [Region.wanted], ?_⟩
          have e0 : b'.tmps[3]?.getD undef = .pointer (some ⟨g, 0, none⟩) := by have := (show b'.tmps.getD 3 undef = .pointer (some ⟨g, 0, none⟩) from hd ⟨0, .data⟩ (by simp) rfl); simpa using this
          clear hd hk
          have hc := cellAt (HW1.out.at_ HB.out id) 0 (.int .u8 x.kind) rfl
          go_step
          exact ⟨_, rfl, rfl, Upd.refl _ _⟩
        case inr.inr.inl =>
          refine .inl ⟨by simp [Region.wanted], ?_⟩
          have e1 : b'.tmps[4]?.getD undef = .int .u8 x.kind := by have := (show b'.tmps.getD 4 undef = .int .u8 x.kind from hd ⟨1, .data⟩ (by simp) rfl); simpa using this
          clear hd hk
          go_step
          exact ⟨_, rfl, rfl, Upd.refl _ _⟩
        case inr.inr.inr.inl =>
          refine .inl ⟨by simp [Region.wanted], ?_⟩
          have e2 : b'.tmps[5]?.getD undef = .bool true := by have := (show b'.tmps.getD 5 undef = .bool true from hd ⟨2, .data⟩ (by simp) rfl); simpa using this
          clear hd hk
          go_step
          exact ⟨_, rfl, rfl, Upd.refl _ _⟩
        case inr.inr.inr.inr.inl =>
          refine .inl ⟨by
            have := tmp_some (show b'.tmps.getD 6 undef = .bool true from hd ⟨3, .guard⟩ (by simp) rfl)
            simp [Region.wanted, yielded, this], ?_⟩
          have o1 : b'.tmps[1]?.getD undef = .pointer (some ⟨g, 0, none⟩) := by
            have := hk 1 (fun j oj _ e => (mayOkDst_ne (by decide) e).elim)
            simpa using this
          clear hd hk
          go_step
          exact ⟨_, rfl, rfl, Upd.refl _ _⟩
        case inr.inr.inr.inr.inr.inl =>
          refine .inl ⟨by
            have := tmp_some (show b'.tmps.getD 6 undef = .bool true from hd ⟨3, .guard⟩ (by simp) rfl)
            simp [Region.wanted, yielded, this], ?_⟩
          have e4 : b'.tmps[7]?.getD undef = .pointer (some ⟨g, 0, none⟩) := by have := (show b'.tmps.getD 7 undef = .pointer (some ⟨g, 0, none⟩) from hd ⟨4, .data⟩ (by simp) rfl); simpa using this
          clear hd hk
          have hc := cellAt (HW1.out.at_ HB.out id) 0 (.int .u8 x.kind) rfl
          go_step
          exact ⟨_, rfl, rfl, Upd.refl _ _⟩
        case inr.inr.inr.inr.inr.inr.inl =>
          refine .inl ⟨by
            have := tmp_some (show b'.tmps.getD 6 undef = .bool true from hd ⟨3, .guard⟩ (by simp) rfl)
            simp [Region.wanted, yielded, this], ?_⟩
          have e5 : b'.tmps[8]?.getD undef = .int .u8 x.kind := by have := (show b'.tmps.getD 8 undef = .int .u8 x.kind from hd ⟨5, .data⟩ (by simp) rfl); simpa using this
          clear hd hk
          go_step
          exact ⟨_, rfl, rfl, Upd.refl _ _⟩
        case inr.inr.inr.inr.inr.inr.inr.inl =>
          refine .inl ⟨by simp [Region.wanted], ?_⟩
          have e3 : b'.tmps[6]?.getD undef = .bool true := by have := (show b'.tmps.getD 6 undef = .bool true from hd ⟨3, .data⟩ (by simp) rfl); simpa using this
          have e6 : b'.tmps[9]?.getD undef = .bool true := by have := (show b'.tmps.getD 9 undef = .bool true from hd ⟨6, .data⟩ (by simp) rfl); simpa using this
          clear hd hk
          go_step
          exact ⟨_, rfl, rfl, Upd.refl _ _⟩
        case inr.inr.inr.inr.inr.inr.inr.inr.inl =>
          refine .inl ⟨by simp [Region.wanted], ?_⟩
          have e7 : b'.tmps[10]?.getD undef = .bool true := by have := (show b'.tmps.getD 10 undef = .bool true from hd ⟨7, .data⟩ (by simp) rfl); simpa using this
          clear hd hk
          go_step
          exact ⟨_, rfl, rfl, Upd.refl _ _⟩
        case inr.inr.inr.inr.inr.inr.inr.inr.inr.inl =>
          refine .inl ⟨by
            have := tmp_some (show b'.tmps.getD 11 undef = .bool true from hd ⟨8, .guard⟩ (by simp) rfl)
            simp [Region.wanted, yielded, this], ?_⟩
          have o1 : b'.tmps[1]?.getD undef = .pointer (some ⟨g, 0, none⟩) := by
            have := hk 1 (fun j oj _ e => (mayOkDst_ne (by decide) e).elim)
            simpa using this
          clear hd hk
          go_step
          exact ⟨_, rfl, rfl, Upd.refl _ _⟩
        case inr.inr.inr.inr.inr.inr.inr.inr.inr.inr.inl =>
          refine .inl ⟨by
            have := tmp_some (show b'.tmps.getD 11 undef = .bool true from hd ⟨8, .guard⟩ (by simp) rfl)
            simp [Region.wanted, yielded, this], ?_⟩
          have e9 : b'.tmps[12]?.getD undef = .pointer (some ⟨g, 0, none⟩) := by have := (show b'.tmps.getD 12 undef = .pointer (some ⟨g, 0, none⟩) from hd ⟨9, .data⟩ (by simp) rfl); simpa using this
          clear hd hk
          have hc := cellAt (HW1.out.at_ HB.out id) 0 (.int .u8 x.kind) rfl
          go_step
          exact ⟨_, rfl, rfl, Upd.refl _ _⟩
        case inr.inr.inr.inr.inr.inr.inr.inr.inr.inr.inr.inl =>
          refine .inl ⟨by
            have := tmp_some (show b'.tmps.getD 11 undef = .bool true from hd ⟨8, .guard⟩ (by simp) rfl)
            simp [Region.wanted, yielded, this], ?_⟩
          have o1 : b'.eval (.tmp 1) = .pointer (some ⟨g, 0, none⟩) := by
            have := hk 1 (fun j oj _ e => (mayOkDst_ne (by decide) e).elim)
            simpa [Act.eval] using this
          have hg1 := HW1.out.at_ HB.out id
          exact wp_load_mid (w := w1') 58 (.tmp 1) rfl g 0 o1 (nmCells x).toList _ (fun j u hj => by have := cellAt hg1 j u (by simpa using hj); simpa using this) Tryz.underlying58 rfl (by kernel_rfl) ⟨_, rfl, rfl, Upd.refl _ _⟩
        case inr.inr.inr.inr.inr.inr.inr.inr.inr.inr.inr.inr.inl =>
          refine .inl ⟨by
            have := tmp_some (show b'.tmps.getD 11 undef = .bool true from hd ⟨8, .guard⟩ (by simp) rfl)
            simp [Region.wanted, yielded, this], ?_⟩
          have e11 : b'.tmps[14]?.getD undef = .agg (nmCells x) := by have := (show b'.tmps.getD 14 undef = .agg (nmCells x) from hd ⟨11, .data⟩ (by simp) rfl); simpa using this
          clear hd hk
          go_step
          refine (numbers_any w1' x).mono ?_
          rintro e w2 ⟨rfl, hu⟩
          exact ⟨_, rfl, rfl, hu⟩
        case inr.inr.inr.inr.inr.inr.inr.inr.inr.inr.inr.inr.inr.inl =>
          refine .inl ⟨by
            have := tmp_some (show b'.tmps.getD 11 undef = .bool true from hd ⟨8, .guard⟩ (by simp) rfl)
            simp [Region.wanted, yielded, this], ?_⟩
          have e10 : b'.tmps[13]?.getD undef = .int .u8 x.kind := by have := (show b'.tmps.getD 13 undef = .int .u8 x.kind from hd ⟨10, .data⟩ (by simp) rfl); simpa using this
          have e12 : b'.tmps[15]?.getD undef = .agg (four (numsF x)) := by have := (show b'.tmps.getD 15 undef = .agg (four (numsF x)) from hd ⟨12, .data⟩ (by simp) rfl); simpa using this
          clear hd hk
          go_step
          refine (of_four w1' x).mono ?_
          rintro e w2 ⟨rfl, hu⟩
          exact ⟨_, rfl, rfl, hu⟩
        case inr.inr.inr.inr.inr.inr.inr.inr.inr.inr.inr.inr.inr.inr.inl =>
          refine .inl ⟨by
            have := tmp_some (show b'.tmps.getD 11 undef = .bool true from hd ⟨8, .guard⟩ (by simp) rfl)
            simp [Region.wanted, yielded, this], ?_⟩
          have o1 : b'.eval (.tmp 1) = .pointer (some ⟨g, 0, none⟩) := by
            have := hk 1 (fun j oj _ e => (mayOkDst_ne (by decide) e).elim)
            simpa [Act.eval] using this
          have hg1 := HW1.out.at_ HB.out id
          exact wp_load_mid (w := w1') 58 (.tmp 1) rfl g 0 o1 (nmCells x).toList _ (fun j u hj => by have := cellAt hg1 j u (by simpa using hj); simpa using this) Tryz.underlying58 rfl (by kernel_rfl) ⟨_, rfl, rfl, Upd.refl _ _⟩
        case inr.inr.inr.inr.inr.inr.inr.inr.inr.inr.inr.inr.inr.inr.inr.inl =>
          refine .inl ⟨by
            have := tmp_some (show b'.tmps.getD 11 undef = .bool true from hd ⟨8, .guard⟩ (by simp) rfl)
            simp [Region.wanted, yielded, this], ?_⟩
          have o16 : b'.eval (.tmp 16) = .agg (nmCells (ofF x.kind (numsF x))) := by
            have := (show b'.tmps.getD 16 undef = .agg (nmCells (ofF x.kind (numsF x))) from hd ⟨13, .data⟩ (by simp) rfl)
            simpa [Act.eval] using this
          have o17 : b'.eval (.tmp 17) = .agg (nmCells x) := by
            have := (show b'.tmps.getD 17 undef = .agg (nmCells x) from hd ⟨14, .data⟩ (by simp) rfl)
            simpa [Act.eval] using this
          exact wp_eql_nm (.tmp 16) (.tmp 17) rfl o16 o17 ⟨_, rfl, rfl, Upd.refl _ _⟩
        case inr.inr.inr.inr.inr.inr.inr.inr.inr.inr.inr.inr.inr.inr.inr.inr.inl =>
          refine .inl ⟨by simp [Region.wanted], ?_⟩
          have e8 : b'.tmps[11]?.getD undef = .bool true := by have := (show b'.tmps.getD 11 undef = .bool true from hd ⟨8, .data⟩ (by simp) rfl); simpa using this
          have e15 : b'.tmps[18]?.getD undef = .bool (eqB (ofF x.kind (numsF x)) x) := by have := (show b'.tmps.getD 18 undef = .bool (eqB (ofF x.kind (numsF x)) x) from hd ⟨15, .data⟩ (by simp) rfl); simpa using this
          clear hd hk
          go_step
          exact ⟨_, rfl, rfl, Upd.refl _ _⟩
        case inr.inr.inr.inr.inr.inr.inr.inr.inr.inr.inr.inr.inr.inr.inr.inr.inr =>
          refine .inl ⟨by simp [Region.wanted], ?_⟩
          have e16 : b'.tmps[19]?.getD undef = .bool (eqB (ofF x.kind (numsF x)) x) := by have := (show b'.tmps.getD 19 undef = .bool (eqB (ofF x.kind (numsF x)) x) from hd ⟨16, .data⟩ (by simp) rfl); simpa using this
          clear hd hk
          go_step
          exact ⟨_, rfl, rfl, Upd.refl _ _⟩
      · intro v w1' hx1' hp
        have h17 : v 17 = .bool (eqB (ofF x.kind (numsF x)) x) := hp 17 (by decide)
        have HX8 := Lib.hid (HX.out.trans hx1')
        clear hp hx1'
        simp only [List.size_toArray, List.length_cons, List.length_nil, Nat.reduceAdd, fillAll, mayOkDst]
        go_simp
        go_wp2
        go_ret
        exact ⟨by rw [mayF_ok H1.out H2.out]; rfl, HX8.out⟩
    · have H2 := Lib.hid (mayF_bad (x := x) (by omega))
      have f1 : decide ((x.kind : Int) ≥ 1) = true := by simp; omega
      have f2 : decide ((x.kind : Int) ≤ 4) = false := by simp; omega
      refine wp_region_invH Nothing (fun _ => Ext) 1000 mayHiDst (mayHiPhi x g) 20 (by kernel_rfl) (by decide) (by decide) rfl (fun i hi => .inl ((by decide : ∀ i, i < 18 → mayHiDst i < 20) i hi)) (fun i w w' h => ⟨h, fun _ => h⟩) (fun i j v w w' _ _ _ _ h hu => h.ext hu) ?_ ?_
      · intro i o b' w1' ho hx1' hd hk hE hSZ
        have hi : i < 18 := (Array.getElem?_eq_some_iff.1 ho).1
        have his : i = 0 ∨ i = 1 ∨ i = 2 ∨ i = 3 ∨ i = 4 ∨ i = 5 ∨ i = 6 ∨ i = 7 ∨ i = 8 ∨ i = 9 ∨ i = 10 ∨ i = 11 ∨ i = 12 ∨ i = 13 ∨ i = 14 ∨ i = 15 ∨ i = 16 ∨ i = 17 := by omega
        clear hE hSZ
        have HW1 := Lib.hid hx1'
        clear hx1'
        rcases his with rfl | rfl | rfl | rfl | rfl | rfl | rfl | rfl | rfl | rfl | rfl | rfl | rfl | rfl | rfl | rfl | rfl | rfl
        all_goals (simp at ho; subst ho)
        case inl =>
          refine .inl ⟨by simp [Region.wanted], ?_⟩
          have o1 : b'.tmps[1]?.getD undef = .pointer (some ⟨g, 0, none⟩) := by
            have := hk 1 (fun j oj _ e => (mayHiDst_ne (by decide) e).elim)
            simpa using this
          clear hd hk
          go_step
          exact ⟨_, rfl, rfl, Upd.refl _ _⟩
        case inr.inl =>
          refine .inl ⟨by simp [Region.wanted], ?_⟩
          have e0 : b'.tmps[3]?.getD undef = .pointer (some ⟨g, 0, none⟩) := by have := (show b'.tmps.getD 3 undef = .pointer (some ⟨g, 0, none⟩) from hd ⟨0, .data⟩ (by simp) rfl); simpa using this
          clear hd hk
          have hc := cellAt (HW1.out.at_ HB.out id) 0 (.int .u8 x.kind) rfl
          go_step
          exact ⟨_, rfl, rfl, Upd.refl _ _⟩
        case inr.inr.inl =>
          refine .inl ⟨by simp [Region.wanted], ?_⟩
          have e1 : b'.tmps[4]?.getD undef = .int .u8 x.kind := by have := (show b'.tmps.getD 4 undef = .int .u8 x.kind from hd ⟨1, .data⟩ (by simp) rfl); simpa using this
          clear hd hk
          go_step
          exact ⟨_, rfl, rfl, Upd.refl _ _⟩
        case inr.inr.inr.inl =>
          refine .inl ⟨by simp [Region.wanted], ?_⟩
          have e2 : b'.tmps[5]?.getD undef = .bool true := by have := (show b'.tmps.getD 5 undef = .bool true from hd ⟨2, .data⟩ (by simp) rfl); simpa using this
          clear hd hk
          go_step
          exact ⟨_, rfl, rfl, Upd.refl _ _⟩
        case inr.inr.inr.inr.inl =>
          refine .inl ⟨by
            have := tmp_some (show b'.tmps.getD 6 undef = .bool true from hd ⟨3, .guard⟩ (by simp) rfl)
            simp [Region.wanted, yielded, this], ?_⟩
          have o1 : b'.tmps[1]?.getD undef = .pointer (some ⟨g, 0, none⟩) := by
            have := hk 1 (fun j oj _ e => (mayHiDst_ne (by decide) e).elim)
            simpa using this
          clear hd hk
          go_step
          exact ⟨_, rfl, rfl, Upd.refl _ _⟩
        case inr.inr.inr.inr.inr.inl =>
          refine .inl ⟨by
            have := tmp_some (show b'.tmps.getD 6 undef = .bool true from hd ⟨3, .guard⟩ (by simp) rfl)
            simp [Region.wanted, yielded, this], ?_⟩
          have e4 : b'.tmps[7]?.getD undef = .pointer (some ⟨g, 0, none⟩) := by have := (show b'.tmps.getD 7 undef = .pointer (some ⟨g, 0, none⟩) from hd ⟨4, .data⟩ (by simp) rfl); simpa using this
          clear hd hk
          have hc := cellAt (HW1.out.at_ HB.out id) 0 (.int .u8 x.kind) rfl
          go_step
          exact ⟨_, rfl, rfl, Upd.refl _ _⟩
        case inr.inr.inr.inr.inr.inr.inl =>
          refine .inl ⟨by
            have := tmp_some (show b'.tmps.getD 6 undef = .bool true from hd ⟨3, .guard⟩ (by simp) rfl)
            simp [Region.wanted, yielded, this], ?_⟩
          have e5 : b'.tmps[8]?.getD undef = .int .u8 x.kind := by have := (show b'.tmps.getD 8 undef = .int .u8 x.kind from hd ⟨5, .data⟩ (by simp) rfl); simpa using this
          clear hd hk
          go_step
          exact ⟨_, rfl, rfl, Upd.refl _ _⟩
        case inr.inr.inr.inr.inr.inr.inr.inl =>
          refine .inl ⟨by simp [Region.wanted], ?_⟩
          have e3 : b'.tmps[6]?.getD undef = .bool true := by have := (show b'.tmps.getD 6 undef = .bool true from hd ⟨3, .data⟩ (by simp) rfl); simpa using this
          have e6 : b'.tmps[9]?.getD undef = .bool false := by have := (show b'.tmps.getD 9 undef = .bool false from hd ⟨6, .data⟩ (by simp) rfl); simpa using this
          clear hd hk
          go_step
          exact ⟨_, rfl, rfl, Upd.refl _ _⟩
        case inr.inr.inr.inr.inr.inr.inr.inr.inl =>
          refine .inl ⟨by simp [Region.wanted], ?_⟩
          have e7 : b'.tmps[10]?.getD undef = .bool false := by have := (show b'.tmps.getD 10 undef = .bool false from hd ⟨7, .data⟩ (by simp) rfl); simpa using this
          clear hd hk
          go_step
          exact ⟨_, rfl, rfl, Upd.refl _ _⟩
        case inr.inr.inr.inr.inr.inr.inr.inr.inr.inl =>
          refine .inr ⟨by
            have := tmp_some (show b'.tmps.getD 11 undef = .bool false from hd ⟨8, .guard⟩ (by simp) rfl)
            simp [Region.wanted, yielded, this], rfl, rfl, Upd.refl _ _⟩
        case inr.inr.inr.inr.inr.inr.inr.inr.inr.inr.inl =>
          refine .inr ⟨by
            have := tmp_some (show b'.tmps.getD 11 undef = .bool false from hd ⟨8, .guard⟩ (by simp) rfl)
            simp [Region.wanted, yielded, this], rfl, rfl, Upd.refl _ _⟩
        case inr.inr.inr.inr.inr.inr.inr.inr.inr.inr.inr.inl =>
          refine .inr ⟨by
            have := tmp_some (show b'.tmps.getD 11 undef = .bool false from hd ⟨8, .guard⟩ (by simp) rfl)
            simp [Region.wanted, yielded, this], rfl, rfl, Upd.refl _ _⟩
        case inr.inr.inr.inr.inr.inr.inr.inr.inr.inr.inr.inr.inl =>
          refine .inr ⟨by
            have := tmp_some (show b'.tmps.getD 11 undef = .bool false from hd ⟨8, .guard⟩ (by simp) rfl)
            simp [Region.wanted, yielded, this], rfl, rfl, Upd.refl _ _⟩
        case inr.inr.inr.inr.inr.inr.inr.inr.inr.inr.inr.inr.inr.inl =>
          refine .inr ⟨by
            have := tmp_some (show b'.tmps.getD 11 undef = .bool false from hd ⟨8, .guard⟩ (by simp) rfl)
            simp [Region.wanted, yielded, this], rfl, rfl, Upd.refl _ _⟩
        case inr.inr.inr.inr.inr.inr.inr.inr.inr.inr.inr.inr.inr.inr.inl =>
          refine .inr ⟨by
            have := tmp_some (show b'.tmps.getD 11 undef = .bool false from hd ⟨8, .guard⟩ (by simp) rfl)
            simp [Region.wanted, yielded, this], rfl, rfl, Upd.refl _ _⟩
        case inr.inr.inr.inr.inr.inr.inr.inr.inr.inr.inr.inr.inr.inr.inr.inl =>
          refine .inr ⟨by
            have := tmp_some (show b'.tmps.getD 11 undef = .bool false from hd ⟨8, .guard⟩ (by simp) rfl)
            simp [Region.wanted, yielded, this], rfl, rfl, Upd.refl _ _⟩
        case inr.inr.inr.inr.inr.inr.inr.inr.inr.inr.inr.inr.inr.inr.inr.inr.inl =>
          refine .inl ⟨by simp [Region.wanted], ?_⟩
          have e8 : b'.tmps[11]?.getD undef = .bool false := by have := (show b'.tmps.getD 11 undef = .bool false from hd ⟨8, .data⟩ (by simp) rfl); simpa using this
          have e15 : b'.tmps[18]?.getD undef = undef := by have := (show b'.tmps.getD 18 undef = undef from hd ⟨15, .data⟩ (by simp) rfl); simpa using this
          clear hd hk
          go_step
          exact ⟨_, rfl, rfl, Upd.refl _ _⟩
        case inr.inr.inr.inr.inr.inr.inr.inr.inr.inr.inr.inr.inr.inr.inr.inr.inr =>
          refine .inl ⟨by simp [Region.wanted], ?_⟩
          have e16 : b'.tmps[19]?.getD undef = .bool false := by have := (show b'.tmps.getD 19 undef = .bool false from hd ⟨16, .data⟩ (by simp) rfl); simpa using this
          clear hd hk
          go_step
          exact ⟨_, rfl, rfl, Upd.refl _ _⟩
      · intro v w1' hx1' hp
        have h17 : v 17 = .bool false := hp 17 (by decide)
        have HX8 := Lib.hid (HX.out.trans hx1')
        clear hp hx1'
        simp only [List.size_toArray, List.length_cons, List.length_nil, Nat.reduceAdd, fillAll, mayHiDst]
        go_simp
        go_wp2
        go_ret
        exact ⟨by rw [H2.out]; rfl, HX8.out⟩
  · have H2 := Lib.hid (mayF_bad (x := x) (by omega))
    have f1 : decide ((x.kind : Int) ≥ 1) = false := by simp; omega
    refine wp_region_invH Nothing (fun _ => Ext) 1000 mayLoDst (mayLoPhi x g) 20 (by kernel_rfl) (by decide) (by decide) rfl (fun i hi => .inl ((by decide : ∀ i, i < 18 → mayLoDst i < 20) i hi)) (fun i w w' h => ⟨h, fun _ => h⟩) (fun i j v w w' _ _ _ _ h hu => h.ext hu) ?_ ?_
    · intro i o b' w1' ho hx1' hd hk hE hSZ
      have hi : i < 18 := (Array.getElem?_eq_some_iff.1 ho).1
      have his : i = 0 ∨ i = 1 ∨ i = 2 ∨ i = 3 ∨ i = 4 ∨ i = 5 ∨ i = 6 ∨ i = 7 ∨ i = 8 ∨ i = 9 ∨ i = 10 ∨ i = 11 ∨ i = 12 ∨ i = 13 ∨ i = 14 ∨ i = 15 ∨ i = 16 ∨ i = 17 := by omega
      clear hE hSZ
      have HW1 := Lib.hid hx1'
      clear hx1'
      rcases his with rfl | rfl | rfl | rfl | rfl | rfl | rfl | rfl | rfl | rfl | rfl | rfl | rfl | rfl | rfl | rfl | rfl | rfl
      all_goals (simp at ho; subst ho)
      case inl =>
        refine .inl ⟨by simp [Region.wanted], ?_⟩
        have o1 : b'.tmps[1]?.getD undef = .pointer (some ⟨g, 0, none⟩) := by
          have := hk 1 (fun j oj _ e => (mayLoDst_ne (by decide) e).elim)
          simpa using this
        clear hd hk
        go_step
        exact ⟨_, rfl, rfl, Upd.refl _ _⟩
      case inr.inl =>
        refine .inl ⟨by simp [Region.wanted], ?_⟩
        have e0 : b'.tmps[3]?.getD undef = .pointer (some ⟨g, 0, none⟩) := by have := (show b'.tmps.getD 3 undef = .pointer (some ⟨g, 0, none⟩) from hd ⟨0, .data⟩ (by simp) rfl); simpa using this
        clear hd hk
        have hc := cellAt (HW1.out.at_ HB.out id) 0 (.int .u8 x.kind) rfl
        go_step
        exact ⟨_, rfl, rfl, Upd.refl _ _⟩
      case inr.inr.inl =>
        refine .inl ⟨by simp [Region.wanted], ?_⟩
        have e1 : b'.tmps[4]?.getD undef = .int .u8 x.kind := by have := (show b'.tmps.getD 4 undef = .int .u8 x.kind from hd ⟨1, .data⟩ (by simp) rfl); simpa using this
        clear hd hk
        go_step
        exact ⟨_, rfl, rfl, Upd.refl _ _⟩
      case inr.inr.inr.inl =>
        refine .inl ⟨by simp [Region.wanted], ?_⟩
        have e2 : b'.tmps[5]?.getD undef = .bool false := by have := (show b'.tmps.getD 5 undef = .bool false from hd ⟨2, .data⟩ (by simp) rfl); simpa using this
        clear hd hk
        go_step
        exact ⟨_, rfl, rfl, Upd.refl _ _⟩
      case inr.inr.inr.inr.inl =>
        refine .inr ⟨by
          have := tmp_some (show b'.tmps.getD 6 undef = .bool false from hd ⟨3, .guard⟩ (by simp) rfl)
          simp [Region.wanted, yielded, this], rfl, rfl, Upd.refl _ _⟩
      case inr.inr.inr.inr.inr.inl =>
        refine .inr ⟨by
          have := tmp_some (show b'.tmps.getD 6 undef = .bool false from hd ⟨3, .guard⟩ (by simp) rfl)
          simp [Region.wanted, yielded, this], rfl, rfl, Upd.refl _ _⟩
      case inr.inr.inr.inr.inr.inr.inl =>
        refine .inr ⟨by
          have := tmp_some (show b'.tmps.getD 6 undef = .bool false from hd ⟨3, .guard⟩ (by simp) rfl)
          simp [Region.wanted, yielded, this], rfl, rfl, Upd.refl _ _⟩
      case inr.inr.inr.inr.inr.inr.inr.inl =>
        refine .inl ⟨by simp [Region.wanted], ?_⟩
        have e3 : b'.tmps[6]?.getD undef = .bool false := by have := (show b'.tmps.getD 6 undef = .bool false from hd ⟨3, .data⟩ (by simp) rfl); simpa using this
        have e6 : b'.tmps[9]?.getD undef = undef := by have := (show b'.tmps.getD 9 undef = undef from hd ⟨6, .data⟩ (by simp) rfl); simpa using this
        clear hd hk
        go_step
        exact ⟨_, rfl, rfl, Upd.refl _ _⟩
      case inr.inr.inr.inr.inr.inr.inr.inr.inl =>
        refine .inl ⟨by simp [Region.wanted], ?_⟩
        have e7 : b'.tmps[10]?.getD undef = .bool false := by have := (show b'.tmps.getD 10 undef = .bool false from hd ⟨7, .data⟩ (by simp) rfl); simpa using this
        clear hd hk
        go_step
        exact ⟨_, rfl, rfl, Upd.refl _ _⟩
      case inr.inr.inr.inr.inr.inr.inr.inr.inr.inl =>
        refine .inr ⟨by
          have := tmp_some (show b'.tmps.getD 11 undef = .bool false from hd ⟨8, .guard⟩ (by simp) rfl)
          simp [Region.wanted, yielded, this], rfl, rfl, Upd.refl _ _⟩
      case inr.inr.inr.inr.inr.inr.inr.inr.inr.inr.inl =>
        refine .inr ⟨by
          have := tmp_some (show b'.tmps.getD 11 undef = .bool false from hd ⟨8, .guard⟩ (by simp) rfl)
          simp [Region.wanted, yielded, this], rfl, rfl, Upd.refl _ _⟩
      case inr.inr.inr.inr.inr.inr.inr.inr.inr.inr.inr.inl =>
        refine .inr ⟨by
          have := tmp_some (show b'.tmps.getD 11 undef = .bool false from hd ⟨8, .guard⟩ (by simp) rfl)
          simp [Region.wanted, yielded, this], rfl, rfl, Upd.refl _ _⟩
      case inr.inr.inr.inr.inr.inr.inr.inr.inr.inr.inr.inr.inl =>
        refine .inr ⟨by
          have := tmp_some (show b'.tmps.getD 11 undef = .bool false from hd ⟨8, .guard⟩ (by simp) rfl)
          simp [Region.wanted, yielded, this], rfl, rfl, Upd.refl _ _⟩
      case inr.inr.inr.inr.inr.inr.inr.inr.inr.inr.inr.inr.inr.inl =>
        refine .inr ⟨by
          have := tmp_some (show b'.tmps.getD 11 undef = .bool false from hd ⟨8, .guard⟩ (by simp) rfl)
          simp [Region.wanted, yielded, this], rfl, rfl, Upd.refl _ _⟩
      case inr.inr.inr.inr.inr.inr.inr.inr.inr.inr.inr.inr.inr.inr.inl =>
        refine .inr ⟨by
          have := tmp_some (show b'.tmps.getD 11 undef = .bool false from hd ⟨8, .guard⟩ (by simp) rfl)
          simp [Region.wanted, yielded, this], rfl, rfl, Upd.refl _ _⟩
      case inr.inr.inr.inr.inr.inr.inr.inr.inr.inr.inr.inr.inr.inr.inr.inl =>
        refine .inr ⟨by
          have := tmp_some (show b'.tmps.getD 11 undef = .bool false from hd ⟨8, .guard⟩ (by simp) rfl)
          simp [Region.wanted, yielded, this], rfl, rfl, Upd.refl _ _⟩
      case inr.inr.inr.inr.inr.inr.inr.inr.inr.inr.inr.inr.inr.inr.inr.inr.inl =>
        refine .inl ⟨by simp [Region.wanted], ?_⟩
        have e8 : b'.tmps[11]?.getD undef = .bool false := by have := (show b'.tmps.getD 11 undef = .bool false from hd ⟨8, .data⟩ (by simp) rfl); simpa using this
        have e15 : b'.tmps[18]?.getD undef = undef := by have := (show b'.tmps.getD 18 undef = undef from hd ⟨15, .data⟩ (by simp) rfl); simpa using this
        clear hd hk
        go_step
        exact ⟨_, rfl, rfl, Upd.refl _ _⟩
      case inr.inr.inr.inr.inr.inr.inr.inr.inr.inr.inr.inr.inr.inr.inr.inr.inr =>
        refine .inl ⟨by simp [Region.wanted], ?_⟩
        have e16 : b'.tmps[19]?.getD undef = .bool false := by have := (show b'.tmps.getD 19 undef = .bool false from hd ⟨16, .data⟩ (by simp) rfl); simpa using this
        clear hd hk
        go_step
        exact ⟨_, rfl, rfl, Upd.refl _ _⟩
    · intro v w1' hx1' hp
      have h17 : v 17 = .bool false := hp 17 (by decide)
      have HX8 := Lib.hid (HX.out.trans hx1')
      clear hp hx1'
      simp only [List.size_toArray, List.length_cons, List.length_nil, Nat.reduceAdd, fillAll, mayLoDst]
      go_simp
      go_wp2
      go_ret
      exact ⟨by rw [H2.out]; rfl, HX8.out⟩
end Go.Proofs.YtfpioijfocmfcaaGreatDoor
