/-
  CONTRACT of the law NameOf. Conditions: numbers of 64 bits; the library's variables lie as they are laid.
-/
import Derived.Test.YtfniemagbapeaaaGreatDoorNLaw1
namespace Go.Proofs.YtfniemagbapeaaaGreatDoor
open Go.RowKit

theorem wp_neq_nm {op : Oper} {a : Act} {w : World} {K : Act → World → Prop} {Q : Exit → Act → World → Prop} (p q : Operand) (ho : op.op = .binOp .neq 63 p q 63) {u v : Nm} (hp : a.eval p = .agg (nmCells u)) (hq : a.eval q = .agg (nmCells v))
    (h : K (a.put op.dst (.bool (!(eqB u v)))) w) : op.wp Tryz.prog a w K Q := by
  have hg := run_eqGuard_agg (P := Tryz.prog) w .neq 63 p q (nmCells u) (nmCells v) (by kernel_rfl)
  unfold Oper.wp execOp
  simp only [ho, hp, hq]
  simp only [Sem.run_bind, Sem.run_pure, Result.andThen_ok, hg, run_neq_struct, nm_equal]
  exact h
theorem ofF_rows {w : World} {g : Nat} {l : List Nat} (h : w.heap[g]? = some (.cells (allCells l).toArray 63)) {k : Nat} (hk : k < 4) : w.rangeAt g (k * 6) (nmCells (ofF (k + 1) l)).toList := by
  have hr : AllRow l (.slice (some ⟨g, 0, none⟩) 4 4) w := by
    refine ⟨_, _, rfl, Nat.le_refl _, by unfold maxLen; omega, fun e => (by cases e), fun x e _ => (by cases e; exact ⟨rfl, trivial⟩), fun b o hbo j u hj => ?_⟩
    cases hbo
    rw [Nat.zero_add]
    exact cellAt h j u (by simpa using hj)
  obtain ⟨b, o, c, e, -, -, hq⟩ := all_at hr hk
  cases e
  rw [Nat.zero_add] at hq
  exact hq
def txF (l : List Nat) : List (List UInt8) := [putF (ofF 1 l), putF (ofF 2 l), putF (ofF 3 l), putF (ofF 4 l)]
theorem txF_at (l : List Nat) {k : Nat} (hk : k < 4) : (txF l)[k]'(by show k < 4; exact hk) = putF (ofF (k + 1) l) := by
  have e : k = 0 ∨ k = 1 ∨ k = 2 ∨ k = 3 := by omega
  rcases e with rfl | rfl | rfl | rfl <;> rfl
theorem ofF_may4 {k : Nat} (h1 : 1 ≤ k) (h2 : k ≤ 4) (a b c d : Nat) : mayF (ofF k [a, b, c, d]) = true := by
  have e : k = 1 ∨ k = 2 ∨ k = 3 ∨ k = 4 := by omega
  rcases e with rfl | rfl | rfl | rfl <;> simp [mayF, ofF, numsF]
def nofVal (y : Nm) (D : List UInt8) (gs gl g12 k : Nat) : Nat → Value
  | 0 => .slice (some ⟨gs, 0, none⟩) 4 4
  | 1 => .int .i64 (k : Int)
  | 2 => .pointer (some ⟨gs, k, none⟩)
  | 3 => str D
  | 4 => .slice (some ⟨gl, 0, none⟩) 4 4
  | 5 => .int .i64 (k : Int)
  | 6 => .pointer (some ⟨gl, k * 6, none⟩)
  | 7 => .agg (nmCells y)
  | 8 => .agg (nmCells y)
  | 9 => str D
  | 10 => .bool false
  | 11 => .bool false
  | 12 => .bool true
  | 13 => .bool false
  | 14 => .bool false
  | 15 => .bool false
  | 16 => .agg (nmCells y)
  | 17 => .slice (some ⟨gl, 0, none⟩) 4 4
  | 18 => .int .i64 (k : Int)
  | 19 => .pointer (some ⟨gl, k * 6, none⟩)
  | 20 => .agg (nmCells y)
  | 21 => .bool false
  | 22 => .bool false
  | 23 => .bool false
  | 24 => .agg (nmCells y)
  | 25 => str D
  | 26 => .slice (some ⟨gs, 0, none⟩) 4 4
  | 27 => .int .i64 (k : Int)
  | 28 => .pointer (some ⟨gs, k, none⟩)
  | 29 => str D
  | 30 => .bool false
  | 31 => .bool false
  | _ => undef
def nofDst (i : Nat) : Tmp := 58 + i
theorem nofDst_ne {j t : Nat} (ht : t = 9 ∨ t = 10 ∨ t = 11 ∨ t = 12 ∨ t = 13) (e : nofDst j = t) : False := by
  unfold nofDst at e
  have e : (58 + j : Nat) = t := e
  rcases ht with rfl | rfl | rfl | rfl | rfl <;> (repeat' (split at e)) <;> omega
def nofPhi (y : Nm) (D : List UInt8) (gs gl g12 k : Nat) (i : Nat) (v : Value) (_ : World) : Prop := v = nofVal y D gs gl g12 k i
theorem nofPhi.ext {y : Nm} {D : List UInt8} {gs gl g12 k : Nat} {i : Nat} {v : Value} {w w' : World} (h : nofPhi y D gs gl g12 k i v w) (_ : Ext w w') : nofPhi y D gs gl g12 k i v w' := by
  unfold nofPhi at h ⊢
  exact h
set_option maxRecDepth 100000 in
set_option maxHeartbeats 4000000 in
theorem nameOf_any (w : World) (a b c d : Nat) (ha : a < 18446744073709551616) (hb : b < 18446744073709551616) (hc : c < 18446744073709551616) (hd : d < 18446744073709551616) (hE : Env w) :
    Calls Tryz.prog 29 #[u64 a, u64 b, u64 c, u64 d] w fun e w' => e = .returned (.bool true) ∧ Ext w w' := by
  have HE := Lib.hid hE
  have HA := Lib.hid ha
  have HB := Lib.hid hb
  have HC := Lib.hid hc
  have HD4 := Lib.hid hd
  obtain ⟨l, hl⟩ : ∃ l, l = [a, b, c, d] := ⟨_, rfl⟩
  have HL := Lib.hid hl
  have hblk := newAt w (.cells (allCells l).toArray 63)
  have hx0 : Ext w (w.alloc (.cells (allCells l).toArray 63)) := (Upd.refl _ _).alloc _
  obtain ⟨w0, hw0⟩ : ∃ u, u = w.alloc (.cells (allCells l).toArray 63) := ⟨_, rfl⟩
  obtain ⟨gl, hgl⟩ : ∃ u, u = w.heap.size := ⟨_, rfl⟩
  rw [← hw0] at hblk hx0
  rw [← hgl] at hblk
  have HBK := Lib.hid hblk
  have HX0 := Lib.hid hx0
  have HW0 := Lib.hid hw0
  have HGL := Lib.hid hgl
  clear hE ha hb hc hd hl hblk hx0 hw0 hgl
  go_enter Tryz.func29, Tryz.ntmps29
  go_upto_region 2 with (fail)
  rw [show w.alloc (.cells #[.int .u8 1, .int .u64 a, .int .u64 b, .int .u64 0, .int .u64 0, .int .u64 0, .int .u8 2, .int .u64 a, .int .u64 b, .int .u64 0, .int .u64 0, .int .u64 0, .int .u8 3, .int .u64 0, .int .u64 0, .int .u64 a, .int .u64 b, .int .u64 c, .int .u8 4, .int .u64 a, .int .u64 0, .int .u64 b, .int .u64 c, .int .u64 d] 63) = w0 from by rw [HW0.out, HL.out]; rfl, show w.heap.size = gl from HGL.out.symm]
  go_wp2_with (go_at_call 33; fail)
  refine (ofSlot_any _ a b HA.out HB.out (HE.out.ext HX0.out).tab).mono ?_
  rintro e w1 ⟨rfl, hx⟩
  have HX1 := Lib.hid (HX0.out.trans hx)
  have HBK1 := Lib.hid (hx.at_ HBK.out id)
  clear hx
  go_wp2_with (go_at_call 34; fail)
  refine (ofBase_any _ a b HA.out HB.out (HE.out.ext HX1.out).tab).mono ?_
  rintro e w2 ⟨rfl, hx⟩
  have HX2 := Lib.hid (HX1.out.trans hx)
  have HBK2 := Lib.hid (hx.at_ HBK1.out id)
  clear hx
  go_wp2_with (go_at_call 50; fail)
  refine (ofTemp_any _ a b c HA.out HB.out HC.out (HE.out.ext HX2.out).tab).mono ?_
  rintro e w3 ⟨rfl, hx⟩
  have HX3 := Lib.hid (HX2.out.trans hx)
  have HBK3 := Lib.hid (hx.at_ HBK2.out id)
  clear hx
  go_wp2_with (go_at_call 46; fail)
  refine (ofSeg_any _ a b c d HA.out HB.out HC.out HD4.out (HE.out.ext HX3.out).tab).mono ?_
  rintro e w4 ⟨rfl, hx⟩
  have HX4 := Lib.hid (HX3.out.trans hx)
  have HBK4 := Lib.hid (hx.at_ HBK3.out id)
  clear hx
  obtain ⟨p1, hp1⟩ : ∃ p, p = putF ⟨1, a, b, 0, 0, 0⟩ := ⟨_, rfl⟩
  obtain ⟨p2, hp2⟩ : ∃ p, p = putF ⟨2, a, b, 0, 0, 0⟩ := ⟨_, rfl⟩
  obtain ⟨p3, hp3⟩ : ∃ p, p = putF ⟨3, 0, 0, a, b, c⟩ := ⟨_, rfl⟩
  obtain ⟨p4, hp4⟩ : ∃ p, p = putF ⟨4, a, 0, b, c, d⟩ := ⟨_, rfl⟩
  rw [← hp1, ← hp2, ← hp3, ← hp4]
  have htx : txF l = [p1, p2, p3, p4] := by rw [HL.out, hp1, hp2, hp3, hp4]; rfl
  have hrow := row_words w4 (txF l) w4.heap.size (by show (4 : Nat) ≤ maxLen; unfold maxLen; omega) rfl
  have hx5 : Ext w4 (w4.alloc (.cells (strs (txF l)).toArray 9)) := (Upd.refl _ _).alloc _
  obtain ⟨w5, hw5⟩ : ∃ u, u = w4.alloc (.cells (strs (txF l)).toArray 9) := ⟨_, rfl⟩
  obtain ⟨gs, hgs⟩ : ∃ u, u = w4.heap.size := ⟨_, rfl⟩
  rw [← hw5] at hrow hx5
  rw [← hgs] at hrow
  have HROW := Lib.hid hrow
  have HX5 := Lib.hid (HX4.out.trans hx5)
  have HBK5 := Lib.hid (hx5.at_ HBK4.out id)
  have HW5 := Lib.hid hw5
  have HGS := Lib.hid hgs
  have HTX := Lib.hid htx
  clear hp1 hp2 hp3 hp4 htx hrow hx5 hw5 hgs
  go_upto_region 3 with (fail)
  rw [show w4.alloc (.cells #[str p1, str p2, str p3, str p4] 9) = w5 from by rw [HW5.out, HTX.out]; rfl, show w4.heap.size = gs from HGS.out.symm]
  go_wp2
  go_loopw [11] (fun t wr => ∃ k : Nat, k ≤ 4 ∧ t = .int .i64 k ∧ Ext w5 wr) (fun t _ => 4 - (intOf t).toNat)
  case atStart => exact ⟨0, by decide, rfl, Upd.refl _ _⟩
  case round =>
    obtain ⟨k, hk, rfl, hx⟩ := hrel
    have HXK := Lib.hid hx
    have HXW := Lib.hid (HX5.out.trans hx)
    clear hx
    by_cases hlt : k < 4
    · have hm : mayF (ofF (k + 1) l) = true := by rw [HL.out]; exact ofF_may4 (by omega) (by omega) _ _ _ _
      have hwf := ofF_wf (k := k + 1) (l := l) (by omega) (fun u hu => by
        rw [HL.out] at hu
        simp only [List.mem_cons, List.not_mem_nil, or_false] at hu
        rcases hu with rfl | rfl | rfl | rfl
        · exact HA.out
        · exact HB.out
        · exact HC.out
        · exact HD4.out)
      obtain ⟨b1, o1, c1, e1, -, -, -, hq1⟩ := (HROW.out.ext HXK.out).addr (show 0 < (txF l).length from by show 0 < 4; decide)
      cases e1
      have hcell : wr.cell? ⟨gs, k, none⟩ = some (str (putF (ofF (k + 1) l))) := by
        have h := texts_cell hq1 k (show k < (txF l).length from hlt)
        rw [Nat.zero_add] at h
        rw [h]; exact congrArg (fun t => some (str t)) (txF_at l hlt)
      have hrl := ofF_rows (HXK.out.at_ HBK5.out id) hlt
      obtain ⟨y, hy⟩ : ∃ y, y = ofF (k + 1) l := ⟨_, rfl⟩
      rw [← hy] at hm hwf hcell hrl
      obtain ⟨D, hD⟩ : ∃ D, D = putF y := ⟨_, rfl⟩
      rw [← hD] at hcell
      have hpp := parse_put hm hwf
      rw [← hD] at hpp
      have hDl : D.length ≤ 1000000 := by
        rw [hD, ← accF_all hm]
        have := accF_len hwf (k := (numsF y).length) (by rw [numsF_length]; exact (countF_le _).2)
        have h2 := (countF_le y.kind).2
        rw [numsF_length] at this ⊢; omega
      have HD := Lib.hid hD
      have HPP := Lib.hid hpp
      have HWF := Lib.hid hwf
      have HCL := Lib.hid hcell
      have HRL0 := Lib.hid hrl
      have HDL := Lib.hid hDl
      clear hm hwf hq1 hrl hy hD hpp hDl
      go_wp2_with (go_at_call 35; fail)
      refine (parse_lit _ D y true HDL.out (HE.out.ext HXW.out) HPP.out).mono ?_
      rintro e w6 ⟨rfl, hx6⟩
      obtain ⟨q0, q1, q2, q3, q4, q5, hp⟩ : ∃ a b c d e f, nmCells y = #[.int .u8 a, .int .u64 b, .int .u64 c, .int .u64 d, .int .u64 e, .int .u64 f] := ⟨_, _, _, _, _, _, rfl⟩
      have hb7 := newAt w6 (.cells (nmCells y) 63)
      have hx7 : Ext w6 (w6.alloc (.cells (nmCells y) 63)) := (Upd.refl _ _).alloc _
      obtain ⟨w7, hw7⟩ : ∃ u, u = w6.alloc (.cells (nmCells y) 63) := ⟨_, rfl⟩
      obtain ⟨g12, hg12⟩ : ∃ u, u = w6.heap.size := ⟨_, rfl⟩
      rw [← hw7] at hb7 hx7
      rw [← hg12] at hb7
      have HG := Lib.hid hb7
      have HXK7 := Lib.hid (HXK.out.trans (hx6.trans hx7))
      have HXW7 := Lib.hid (HXW.out.trans (hx6.trans hx7))
      have HEE := Lib.hid (HE.out.ext HXW7.out)
      have HRL := Lib.hid (show w7.rangeAt gl (k * 6) (nmCells y).toList from fun j u hj => (hx6.trans hx7).cell (HRL0.out j u hj) id)
      have HCL7 := Lib.hid ((hx6.trans hx7).cell HCL.out id)
      have HW7 := Lib.hid hw7
      have HG12 := Lib.hid hg12
      have HP := Lib.hid hp
      rw [hp]
      clear hcell hb7 hx7 hw7 hg12 hx6 hp
      go_upto_region 7 with (fail)
      rw [← HP.out, show w6.alloc (.cells (nmCells y) 63) = w7 from HW7.out.symm, show w6.heap.size = g12 from HG12.out.symm]
      refine wp_region_invH Nothing (fun _ => Ext) 1000 nofDst (nofPhi y D gs gl g12 k) 91 (by kernel_rfl) (by decide) (by decide) rfl (fun i hi => .inl ((by decide : ∀ i, i < 32 → nofDst i < 91) i hi)) (fun i w w' h => ⟨h, fun _ => h⟩) (fun i j v w w' _ _ _ _ h hu => h.ext hu) ?_ ?_
      · intro i o b' w1' ho hx1' hd hk hE hSZ
        have hi : i < 32 := (Array.getElem?_eq_some_iff.1 ho).1
        have his : i = 0 ∨ i = 1 ∨ i = 2 ∨ i = 3 ∨ i = 4 ∨ i = 5 ∨ i = 6 ∨ i = 7 ∨ i = 8 ∨ i = 9 ∨ i = 10 ∨ i = 11 ∨ i = 12 ∨ i = 13 ∨ i = 14 ∨ i = 15 ∨ i = 16 ∨ i = 17 ∨ i = 18 ∨ i = 19 ∨ i = 20 ∨ i = 21 ∨ i = 22 ∨ i = 23 ∨ i = 24 ∨ i = 25 ∨ i = 26 ∨ i = 27 ∨ i = 28 ∨ i = 29 ∨ i = 30 ∨ i = 31 := by omega
        clear hE hSZ
        have HW1 := Lib.hid hx1'
        clear hx1'
        rcases his with rfl | rfl | rfl | rfl | rfl | rfl | rfl | rfl | rfl | rfl | rfl | rfl | rfl | rfl | rfl | rfl | rfl | rfl | rfl | rfl | rfl | rfl | rfl | rfl | rfl | rfl | rfl | rfl | rfl | rfl | rfl | rfl
        all_goals (simp at ho; subst ho)
        case inl =>
          refine .inl ⟨by simp [Region.wanted], ?_⟩
          have o10 : b'.tmps[10]?.getD undef = .slice (some ⟨gs, 0, none⟩) 4 4 := by
            have := hk 10 (fun j oj _ e => (nofDst_ne (by decide) e).elim)
            simpa using this
          clear hd hk
          go_step
          exact ⟨_, rfl, rfl, Upd.refl _ _⟩
        case inr.inl =>
          refine .inl ⟨by simp [Region.wanted], ?_⟩
          have o11 : b'.tmps[11]?.getD undef = .int .i64 (k : Int) := by
            have := hk 11 (fun j oj _ e => (nofDst_ne (by decide) e).elim)
            simpa using this
          clear hd hk
          go_step
          exact ⟨_, rfl, rfl, Upd.refl _ _⟩
        case inr.inr.inl =>
          refine .inl ⟨by simp [Region.wanted], ?_⟩
          have e0 : b'.tmps[58]?.getD undef = .slice (some ⟨gs, 0, none⟩) 4 4 := by have := (show b'.tmps.getD 58 undef = .slice (some ⟨gs, 0, none⟩) 4 4 from hd ⟨0, .data⟩ (by simp) rfl); simpa using this
          have e1 : b'.tmps[59]?.getD undef = .int .i64 (k : Int) := by have := (show b'.tmps.getD 59 undef = .int .i64 (k : Int) from hd ⟨1, .data⟩ (by simp) rfl); simpa using this
          clear hd hk
          have hk4 : (k : Int) < 4 := by omega
          go_step
          exact ⟨_, rfl, rfl, Upd.refl _ _⟩
        case inr.inr.inr.inl =>
          refine .inl ⟨by simp [Region.wanted], ?_⟩
          have e2 : b'.tmps[60]?.getD undef = .pointer (some ⟨gs, k, none⟩) := by have := (show b'.tmps.getD 60 undef = .pointer (some ⟨gs, k, none⟩) from hd ⟨2, .data⟩ (by simp) rfl); simpa using this
          clear hd hk
          have hc := HW1.out.cell HCL7.out id
          go_step
          exact ⟨_, rfl, rfl, Upd.refl _ _⟩
        case inr.inr.inr.inr.inl =>
          refine .inl ⟨by simp [Region.wanted], ?_⟩
          have o9 : b'.tmps[9]?.getD undef = .slice (some ⟨gl, 0, none⟩) 4 4 := by
            have := hk 9 (fun j oj _ e => (nofDst_ne (by decide) e).elim)
            simpa using this
          clear hd hk
          go_step
          exact ⟨_, rfl, rfl, Upd.refl _ _⟩
        case inr.inr.inr.inr.inr.inl =>
          refine .inl ⟨by simp [Region.wanted], ?_⟩
          have o11 : b'.tmps[11]?.getD undef = .int .i64 (k : Int) := by
            have := hk 11 (fun j oj _ e => (nofDst_ne (by decide) e).elim)
            simpa using this
          clear hd hk
          go_step
          exact ⟨_, rfl, rfl, Upd.refl _ _⟩
        case inr.inr.inr.inr.inr.inr.inl =>
          refine .inl ⟨by simp [Region.wanted], ?_⟩
          have e4 : b'.tmps[62]?.getD undef = .slice (some ⟨gl, 0, none⟩) 4 4 := by have := (show b'.tmps.getD 62 undef = .slice (some ⟨gl, 0, none⟩) 4 4 from hd ⟨4, .data⟩ (by simp) rfl); simpa using this
          have e5 : b'.tmps[63]?.getD undef = .int .i64 (k : Int) := by have := (show b'.tmps.getD 63 undef = .int .i64 (k : Int) from hd ⟨5, .data⟩ (by simp) rfl); simpa using this
          clear hd hk
          have hk4 : (k : Int) < 4 := by omega
          go_step
          exact ⟨_, rfl, rfl, Upd.refl _ _⟩
        case inr.inr.inr.inr.inr.inr.inr.inl =>
          refine .inl ⟨by simp [Region.wanted], ?_⟩
          have o64 : b'.eval (.tmp 64) = .pointer (some ⟨gl, k * 6, none⟩) := by
            have := (show b'.tmps.getD 64 undef = .pointer (some ⟨gl, k * 6, none⟩) from hd ⟨6, .data⟩ (by simp) rfl)
            simpa [Act.eval] using this
          exact wp_load_mid (w := w1') 63 (.tmp 64) rfl gl (k * 6) o64 (nmCells y).toList _ (fun j u hj => HW1.out.cell (HRL.out j u hj) id) Tryz.underlying63 rfl (by kernel_rfl) ⟨_, rfl, rfl, Upd.refl _ _⟩
        case inr.inr.inr.inr.inr.inr.inr.inr.inl =>
          refine .inl ⟨by simp [Region.wanted], ?_⟩
          have e7 : b'.tmps[65]?.getD undef = .agg (nmCells y) := by have := (show b'.tmps.getD 65 undef = .agg (nmCells y) from hd ⟨7, .data⟩ (by simp) rfl); simpa using this
          clear hd hk
          go_step
          refine (lawRef_any w1' y).mono ?_
          rintro e w2 ⟨rfl, hu⟩
          exact ⟨_, rfl, rfl, hu⟩
        case inr.inr.inr.inr.inr.inr.inr.inr.inr.inl =>
          refine .inl ⟨by simp [Region.wanted], ?_⟩
          have e8 : b'.tmps[66]?.getD undef = .agg (nmCells y) := by have := (show b'.tmps.getD 66 undef = .agg (nmCells y) from hd ⟨8, .data⟩ (by simp) rfl); simpa using this
          clear hd hk
          go_step
          refine (rput_any w1' y HWF.out).mono ?_
          rintro e w2 ⟨rfl, hu⟩
          exact ⟨_, rfl, by rw [HD.out]; rfl, hu⟩
        case inr.inr.inr.inr.inr.inr.inr.inr.inr.inr.inl =>
          refine .inl ⟨by simp [Region.wanted], ?_⟩
          have e3 : b'.tmps[61]?.getD undef = str D := by have := (show b'.tmps.getD 61 undef = str D from hd ⟨3, .data⟩ (by simp) rfl); simpa using this
          have e9 : b'.tmps[67]?.getD undef = str D := by have := (show b'.tmps.getD 67 undef = str D from hd ⟨9, .data⟩ (by simp) rfl); simpa using this
          clear hd hk
          go_step
          exact ⟨_, rfl, rfl, Upd.refl _ _⟩
        case inr.inr.inr.inr.inr.inr.inr.inr.inr.inr.inr.inl =>
          refine .inl ⟨by simp [Region.wanted], ?_⟩
          have e10 : b'.tmps[68]?.getD undef = .bool false := by have := (show b'.tmps.getD 68 undef = .bool false from hd ⟨10, .data⟩ (by simp) rfl); simpa using this
          clear hd hk
          go_step
          exact ⟨_, rfl, rfl, Upd.refl _ _⟩
        case inr.inr.inr.inr.inr.inr.inr.inr.inr.inr.inr.inr.inl =>
          refine .inl ⟨by
            have := tmp_some (show b'.tmps.getD 69 undef = .bool false from hd ⟨11, .guard⟩ (by simp) rfl)
            simp [Region.wanted, yielded, this], ?_⟩
          have o13 : b'.tmps[13]?.getD undef = .bool true := by
            have := hk 13 (fun j oj _ e => (nofDst_ne (by decide) e).elim)
            simpa using this
          clear hd hk
          go_step
          exact ⟨_, rfl, rfl, Upd.refl _ _⟩
        case inr.inr.inr.inr.inr.inr.inr.inr.inr.inr.inr.inr.inr.inl =>
          refine .inl ⟨by
            have := tmp_some (show b'.tmps.getD 69 undef = .bool false from hd ⟨11, .guard⟩ (by simp) rfl)
            simp [Region.wanted, yielded, this], ?_⟩
          have e12 : b'.tmps[70]?.getD undef = .bool true := by have := (show b'.tmps.getD 70 undef = .bool true from hd ⟨12, .data⟩ (by simp) rfl); simpa using this
          clear hd hk
          go_step
          exact ⟨_, rfl, rfl, Upd.refl _ _⟩
        case inr.inr.inr.inr.inr.inr.inr.inr.inr.inr.inr.inr.inr.inr.inl =>
          refine .inl ⟨by simp [Region.wanted], ?_⟩
          have e11 : b'.tmps[69]?.getD undef = .bool false := by have := (show b'.tmps.getD 69 undef = .bool false from hd ⟨11, .data⟩ (by simp) rfl); simpa using this
          have e13 : b'.tmps[71]?.getD undef = .bool false := by have := (show b'.tmps.getD 71 undef = .bool false from hd ⟨13, .data⟩ (by simp) rfl); simpa using this
          clear hd hk
          go_step
          exact ⟨_, rfl, rfl, Upd.refl _ _⟩
        case inr.inr.inr.inr.inr.inr.inr.inr.inr.inr.inr.inr.inr.inr.inr.inl =>
          refine .inl ⟨by simp [Region.wanted], ?_⟩
          have e14 : b'.tmps[72]?.getD undef = .bool false := by have := (show b'.tmps.getD 72 undef = .bool false from hd ⟨14, .data⟩ (by simp) rfl); simpa using this
          clear hd hk
          go_step
          exact ⟨_, rfl, rfl, Upd.refl _ _⟩
        case inr.inr.inr.inr.inr.inr.inr.inr.inr.inr.inr.inr.inr.inr.inr.inr.inl =>
          refine .inl ⟨by
            have := tmp_some (show b'.tmps.getD 73 undef = .bool false from hd ⟨15, .guard⟩ (by simp) rfl)
            simp [Region.wanted, yielded, this], ?_⟩
          have o12 : b'.eval (.tmp 12) = .pointer (some ⟨g12, 0, none⟩) := by
            have := hk 12 (fun j oj _ e => (nofDst_ne (by decide) e).elim)
            simpa [Act.eval] using this
          have hg1 := HW1.out.at_ HG.out id
          exact wp_load_mid (w := w1') 63 (.tmp 12) rfl g12 0 o12 (nmCells y).toList _ (fun j u hj => by have := cellAt hg1 j u (by simpa using hj); simpa using this) Tryz.underlying63 rfl (by kernel_rfl) ⟨_, rfl, rfl, Upd.refl _ _⟩
        case inr.inr.inr.inr.inr.inr.inr.inr.inr.inr.inr.inr.inr.inr.inr.inr.inr.inl =>
          refine .inl ⟨by
            have := tmp_some (show b'.tmps.getD 73 undef = .bool false from hd ⟨15, .guard⟩ (by simp) rfl)
            simp [Region.wanted, yielded, this], ?_⟩
          have o9 : b'.tmps[9]?.getD undef = .slice (some ⟨gl, 0, none⟩) 4 4 := by
            have := hk 9 (fun j oj _ e => (nofDst_ne (by decide) e).elim)
            simpa using this
          clear hd hk
          go_step
          exact ⟨_, rfl, rfl, Upd.refl _ _⟩
        case inr.inr.inr.inr.inr.inr.inr.inr.inr.inr.inr.inr.inr.inr.inr.inr.inr.inr.inl =>
          refine .inl ⟨by
            have := tmp_some (show b'.tmps.getD 73 undef = .bool false from hd ⟨15, .guard⟩ (by simp) rfl)
            simp [Region.wanted, yielded, this], ?_⟩
          have o11 : b'.tmps[11]?.getD undef = .int .i64 (k : Int) := by
            have := hk 11 (fun j oj _ e => (nofDst_ne (by decide) e).elim)
            simpa using this
          clear hd hk
          go_step
          exact ⟨_, rfl, rfl, Upd.refl _ _⟩
        case inr.inr.inr.inr.inr.inr.inr.inr.inr.inr.inr.inr.inr.inr.inr.inr.inr.inr.inr.inl =>
          refine .inl ⟨by
            have := tmp_some (show b'.tmps.getD 73 undef = .bool false from hd ⟨15, .guard⟩ (by simp) rfl)
            simp [Region.wanted, yielded, this], ?_⟩
          have e17 : b'.tmps[75]?.getD undef = .slice (some ⟨gl, 0, none⟩) 4 4 := by have := (show b'.tmps.getD 75 undef = .slice (some ⟨gl, 0, none⟩) 4 4 from hd ⟨17, .data⟩ (by simp) rfl); simpa using this
          have e18 : b'.tmps[76]?.getD undef = .int .i64 (k : Int) := by have := (show b'.tmps.getD 76 undef = .int .i64 (k : Int) from hd ⟨18, .data⟩ (by simp) rfl); simpa using this
          clear hd hk
          have hk4 : (k : Int) < 4 := by omega
          go_step
          exact ⟨_, rfl, rfl, Upd.refl _ _⟩
        case inr.inr.inr.inr.inr.inr.inr.inr.inr.inr.inr.inr.inr.inr.inr.inr.inr.inr.inr.inr.inl =>
          refine .inl ⟨by
            have := tmp_some (show b'.tmps.getD 73 undef = .bool false from hd ⟨15, .guard⟩ (by simp) rfl)
            simp [Region.wanted, yielded, this], ?_⟩
          have o77 : b'.eval (.tmp 77) = .pointer (some ⟨gl, k * 6, none⟩) := by
            have := (show b'.tmps.getD 77 undef = .pointer (some ⟨gl, k * 6, none⟩) from hd ⟨19, .data⟩ (by simp) rfl)
            simpa [Act.eval] using this
          exact wp_load_mid (w := w1') 63 (.tmp 77) rfl gl (k * 6) o77 (nmCells y).toList _ (fun j u hj => HW1.out.cell (HRL.out j u hj) id) Tryz.underlying63 rfl (by kernel_rfl) ⟨_, rfl, rfl, Upd.refl _ _⟩
        case inr.inr.inr.inr.inr.inr.inr.inr.inr.inr.inr.inr.inr.inr.inr.inr.inr.inr.inr.inr.inr.inl =>
          refine .inl ⟨by
            have := tmp_some (show b'.tmps.getD 73 undef = .bool false from hd ⟨15, .guard⟩ (by simp) rfl)
            simp [Region.wanted, yielded, this], ?_⟩
          have o74 : b'.eval (.tmp 74) = .agg (nmCells y) := by
            have := (show b'.tmps.getD 74 undef = .agg (nmCells y) from hd ⟨16, .data⟩ (by simp) rfl)
            simpa [Act.eval] using this
          have o78 : b'.eval (.tmp 78) = .agg (nmCells y) := by
            have := (show b'.tmps.getD 78 undef = .agg (nmCells y) from hd ⟨20, .data⟩ (by simp) rfl)
            simpa [Act.eval] using this
          exact wp_neq_nm (.tmp 74) (.tmp 78) rfl o74 o78 ⟨_, rfl, by rw [eqB_self]; rfl, Upd.refl _ _⟩
        case inr.inr.inr.inr.inr.inr.inr.inr.inr.inr.inr.inr.inr.inr.inr.inr.inr.inr.inr.inr.inr.inr.inl =>
          refine .inl ⟨by simp [Region.wanted], ?_⟩
          have e15 : b'.tmps[73]?.getD undef = .bool false := by have := (show b'.tmps.getD 73 undef = .bool false from hd ⟨15, .data⟩ (by simp) rfl); simpa using this
          have e21 : b'.tmps[79]?.getD undef = .bool false := by have := (show b'.tmps.getD 79 undef = .bool false from hd ⟨21, .data⟩ (by simp) rfl); simpa using this
          clear hd hk
          go_step
          exact ⟨_, rfl, rfl, Upd.refl _ _⟩
        case inr.inr.inr.inr.inr.inr.inr.inr.inr.inr.inr.inr.inr.inr.inr.inr.inr.inr.inr.inr.inr.inr.inr.inl =>
          refine .inl ⟨by simp [Region.wanted], ?_⟩
          have e22 : b'.tmps[80]?.getD undef = .bool false := by have := (show b'.tmps.getD 80 undef = .bool false from hd ⟨22, .data⟩ (by simp) rfl); simpa using this
          clear hd hk
          go_step
          exact ⟨_, rfl, rfl, Upd.refl _ _⟩
        case inr.inr.inr.inr.inr.inr.inr.inr.inr.inr.inr.inr.inr.inr.inr.inr.inr.inr.inr.inr.inr.inr.inr.inr.inl =>
          refine .inl ⟨by
            have := tmp_some (show b'.tmps.getD 81 undef = .bool false from hd ⟨23, .guard⟩ (by simp) rfl)
            simp [Region.wanted, yielded, this], ?_⟩
          have o12 : b'.eval (.tmp 12) = .pointer (some ⟨g12, 0, none⟩) := by
            have := hk 12 (fun j oj _ e => (nofDst_ne (by decide) e).elim)
            simpa [Act.eval] using this
          have hg1 := HW1.out.at_ HG.out id
          exact wp_load_mid (w := w1') 63 (.tmp 12) rfl g12 0 o12 (nmCells y).toList _ (fun j u hj => by have := cellAt hg1 j u (by simpa using hj); simpa using this) Tryz.underlying63 rfl (by kernel_rfl) ⟨_, rfl, rfl, Upd.refl _ _⟩
        case inr.inr.inr.inr.inr.inr.inr.inr.inr.inr.inr.inr.inr.inr.inr.inr.inr.inr.inr.inr.inr.inr.inr.inr.inr.inl =>
          refine .inl ⟨by
            have := tmp_some (show b'.tmps.getD 81 undef = .bool false from hd ⟨23, .guard⟩ (by simp) rfl)
            simp [Region.wanted, yielded, this], ?_⟩
          have e24 : b'.tmps[82]?.getD undef = .agg (nmCells y) := by have := (show b'.tmps.getD 82 undef = .agg (nmCells y) from hd ⟨24, .data⟩ (by simp) rfl); simpa using this
          clear hd hk
          go_step
          refine (put_any w1' y HWF.out (HEE.out.ext HW1.out).tab).mono ?_
          rintro e w2 ⟨rfl, hu⟩
          exact ⟨_, rfl, by rw [HD.out]; rfl, hu⟩
        case inr.inr.inr.inr.inr.inr.inr.inr.inr.inr.inr.inr.inr.inr.inr.inr.inr.inr.inr.inr.inr.inr.inr.inr.inr.inr.inl =>
          refine .inl ⟨by
            have := tmp_some (show b'.tmps.getD 81 undef = .bool false from hd ⟨23, .guard⟩ (by simp) rfl)
            simp [Region.wanted, yielded, this], ?_⟩
          have o10 : b'.tmps[10]?.getD undef = .slice (some ⟨gs, 0, none⟩) 4 4 := by
            have := hk 10 (fun j oj _ e => (nofDst_ne (by decide) e).elim)
            simpa using this
          clear hd hk
          go_step
          exact ⟨_, rfl, rfl, Upd.refl _ _⟩
        case inr.inr.inr.inr.inr.inr.inr.inr.inr.inr.inr.inr.inr.inr.inr.inr.inr.inr.inr.inr.inr.inr.inr.inr.inr.inr.inr.inl =>
          refine .inl ⟨by
            have := tmp_some (show b'.tmps.getD 81 undef = .bool false from hd ⟨23, .guard⟩ (by simp) rfl)
            simp [Region.wanted, yielded, this], ?_⟩
          have o11 : b'.tmps[11]?.getD undef = .int .i64 (k : Int) := by
            have := hk 11 (fun j oj _ e => (nofDst_ne (by decide) e).elim)
            simpa using this
          clear hd hk
          go_step
          exact ⟨_, rfl, rfl, Upd.refl _ _⟩
        case inr.inr.inr.inr.inr.inr.inr.inr.inr.inr.inr.inr.inr.inr.inr.inr.inr.inr.inr.inr.inr.inr.inr.inr.inr.inr.inr.inr.inl =>
          refine .inl ⟨by
            have := tmp_some (show b'.tmps.getD 81 undef = .bool false from hd ⟨23, .guard⟩ (by simp) rfl)
            simp [Region.wanted, yielded, this], ?_⟩
          have e26 : b'.tmps[84]?.getD undef = .slice (some ⟨gs, 0, none⟩) 4 4 := by have := (show b'.tmps.getD 84 undef = .slice (some ⟨gs, 0, none⟩) 4 4 from hd ⟨26, .data⟩ (by simp) rfl); simpa using this
          have e27 : b'.tmps[85]?.getD undef = .int .i64 (k : Int) := by have := (show b'.tmps.getD 85 undef = .int .i64 (k : Int) from hd ⟨27, .data⟩ (by simp) rfl); simpa using this
          clear hd hk
          have hk4 : (k : Int) < 4 := by omega
          go_step
          exact ⟨_, rfl, rfl, Upd.refl _ _⟩
        case inr.inr.inr.inr.inr.inr.inr.inr.inr.inr.inr.inr.inr.inr.inr.inr.inr.inr.inr.inr.inr.inr.inr.inr.inr.inr.inr.inr.inr.inl =>
          refine .inl ⟨by
            have := tmp_some (show b'.tmps.getD 81 undef = .bool false from hd ⟨23, .guard⟩ (by simp) rfl)
            simp [Region.wanted, yielded, this], ?_⟩
          have e28 : b'.tmps[86]?.getD undef = .pointer (some ⟨gs, k, none⟩) := by have := (show b'.tmps.getD 86 undef = .pointer (some ⟨gs, k, none⟩) from hd ⟨28, .data⟩ (by simp) rfl); simpa using this
          clear hd hk
          have hc := HW1.out.cell HCL7.out id
          go_step
          exact ⟨_, rfl, rfl, Upd.refl _ _⟩
        case inr.inr.inr.inr.inr.inr.inr.inr.inr.inr.inr.inr.inr.inr.inr.inr.inr.inr.inr.inr.inr.inr.inr.inr.inr.inr.inr.inr.inr.inr.inl =>
          refine .inl ⟨by
            have := tmp_some (show b'.tmps.getD 81 undef = .bool false from hd ⟨23, .guard⟩ (by simp) rfl)
            simp [Region.wanted, yielded, this], ?_⟩
          have e25 : b'.tmps[83]?.getD undef = str D := by have := (show b'.tmps.getD 83 undef = str D from hd ⟨25, .data⟩ (by simp) rfl); simpa using this
          have e29 : b'.tmps[87]?.getD undef = str D := by have := (show b'.tmps.getD 87 undef = str D from hd ⟨29, .data⟩ (by simp) rfl); simpa using this
          clear hd hk
          go_step
          exact ⟨_, rfl, rfl, Upd.refl _ _⟩
        case inr.inr.inr.inr.inr.inr.inr.inr.inr.inr.inr.inr.inr.inr.inr.inr.inr.inr.inr.inr.inr.inr.inr.inr.inr.inr.inr.inr.inr.inr.inr =>
          refine .inl ⟨by simp [Region.wanted], ?_⟩
          have e23 : b'.tmps[81]?.getD undef = .bool false := by have := (show b'.tmps.getD 81 undef = .bool false from hd ⟨23, .data⟩ (by simp) rfl); simpa using this
          have e30 : b'.tmps[88]?.getD undef = .bool false := by have := (show b'.tmps.getD 88 undef = .bool false from hd ⟨30, .data⟩ (by simp) rfl); simpa using this
          clear hd hk
          go_step
          exact ⟨_, rfl, rfl, Upd.refl _ _⟩
      · intro v w1' hx1' hp
        have h31 : v 31 = .bool false := hp 31 (by decide)
        have HX8 := Lib.hid (HXK7.out.trans hx1')
        clear hp hx1'
        simp only [List.size_toArray, List.length_cons, List.length_nil, Nat.reduceAdd, fillAll, nofDst]
        go_simp
        go_wp2
        go_roundw
        case rel => exact ⟨k + 1, by omega, by go_num, HX8.out⟩
        case measure => simp [intOf]; omega
    · go_wp2_with (go_at_call 25; fail)
      refine (works_any _ (HE.out.ext HXW.out)).mono ?_
      rintro e w6 ⟨rfl, hx6⟩
      have HX6 := Lib.hid (HXW.out.trans hx6)
      clear hx6
      go_wp2
      go_ret
      exact ⟨rfl, HX6.out⟩
end Go.Proofs.YtfniemagbapeaaaGreatDoor
