/-
  CONTRACT of the law OpTells: it holds of any two operations. Condition: the library's table of powers of ten lies as it is laid.
-/
import Derived.Test.YtlhpcgmbbeihiaaDoorDInv
import Derived.Test.YtlhpcgmbbeihiaaDoorDWorks
import Derived.Test.YtlhpcgmbbeihiaaDoorDChain
import Derived.Test.YtlhpcgmbbeihiaaDoorDSame3
import Derived.Test.YtlhpcgmbbeihiaaDoorMB
import Derived.Test.YtlhpcgmbbeihiaaDoorME
import Derived.Deep.MidRow
namespace Go.Proofs.YtlhpcgmbbeihiaaDoor
open Go.RowKit

theorem WfOp.kinds {o : Oper'} (h : WfOp o) : ∀ x ∈ o.edits, 0 ≤ x.kind := fun x hx => (h.edits x hx).1
def tval (a b : Oper') (aa : Option Addr) (ac : Nat) (ba : Option Addr) (bc : Nat) : Nat → Value
  | 0 => .agg (opCells a (.slice aa a.edits.length ac))
  | 1 => .bool (opRight a)
  | 2 => .agg (opCells a (.slice aa a.edits.length ac))
  | 4 => .bool (opRight a)
  | 5 => .bool true
  | 6 => .bool true
  | 7 => .agg (opCells a (.slice aa a.edits.length ac))
  | 8 => .int .u64 (chainF a)
  | 9 => .agg (opCells a (.slice aa a.edits.length ac))
  | 11 => .int .u64 (chainF a)
  | 12 => .bool true
  | 13 => .bool true
  | 14 => .bool true
  | 15 => .agg (opCells a (.slice aa a.edits.length ac))
  | 16 => .agg (opCells b (.slice ba b.edits.length bc))
  | 17 => .bool (eqB a b)
  | 18 => .agg (opCells a (.slice aa a.edits.length ac))
  | 20 => .agg (opCells b (.slice ba b.edits.length bc))
  | 22 => .bool (eqB a b)
  | 23 => .bool true
  | 24 => .bool true
  | 25 => .bool true
  | 26 => .agg (opCells a (.slice aa a.edits.length ac))
  | 27 => .agg (opCells a (.slice aa a.edits.length ac))
  | 28 => .bool true
  | 29 => .bool true
  | 30 => .bool true
  | 31 => .bool true
  | 32 => .bool true
  | 33 => .bool true
  | _ => undef
def TPhi (a b : Oper') (aa : Option Addr) (ac : Nat) (ba : Option Addr) (bc : Nat) (i : Nat) (v : Value) (w : World) : Prop := if i = 3 ∨ i = 10 ∨ i = 19 then RefOf a v w else if i = 21 then RefOf b v w else v = tval a b aa ac ba bc i
theorem TPhi.ext {a b : Oper'} {aa : Option Addr} {ac : Nat} {ba : Option Addr} {bc : Nat} {i : Nat} {v : Value} {w w' : World} (h : TPhi a b aa ac ba bc i v w) (hu : Ext w w') : TPhi a b aa ac ba bc i v w' := by
  unfold TPhi at h ⊢
  by_cases c : i = 3 ∨ i = 10 ∨ i = 19
  · rw [if_pos c] at h ⊢; exact h.ext hu
  · rw [if_neg c] at h ⊢
    by_cases c : i = 21
    · rw [if_pos c] at h ⊢; exact h.ext hu
    · rw [if_neg c] at h ⊢; exact h
def tdst (i : Nat) : Tmp := if i = 33 then 4 else 14 + i
theorem tdst_ne {j t : Nat} (ht : t < 4) (e : tdst j = t) : False := by
  unfold tdst at e
  have e : (if j = 33 then 4 else 14 + j : Nat) = t := e
  have ht : (t : Nat) < 4 := ht
  split at e <;> omega

set_option maxRecDepth 100000 in
set_option maxHeartbeats 8000000 in
theorem tells_any {S1 S2 : Nat → Prop} (w : World) (a b : Oper') (va vb : Value) (ha : Row S1 w va a.edits.length (editCells a.edits)) (hb : Row S2 w vb b.edits.length (editCells b.edits)) (hwa : WfOp a) (ht : Tab w) :
    Calls Tryd.prog 5 #[.agg (opCells a va), .agg (opCells b vb)] w fun e w' => e = .returned (.bool true) ∧ Ext w w' := by
  obtain ⟨hb1, hb2, hx⟩ := twoBoxes w (.cells (opCells a va) 25) (.cells (opCells b vb) 25)
  obtain ⟨wb, hwbq⟩ : ∃ wb, wb = (w.alloc (.cells (opCells a va) 25)).alloc (.cells (opCells b vb) 25) := ⟨_, rfl⟩
  rw [← hwbq] at hb1 hb2 hx
  have ha' := ha.ext hx
  have hb' := hb.ext hx
  have hT := tab_ext ht hx
  obtain ⟨aa, ac, rfl, -, -, -⟩ := ha
  obtain ⟨ba, bc, rfl, -, -, -⟩ := hb
  obtain ⟨ga, hga⟩ : ∃ g, g = w.heap.size := ⟨_, rfl⟩
  obtain ⟨gb, hgb⟩ : ∃ g, g = w.heap.size + 1 := ⟨_, rfl⟩
  rw [← hga] at hb1
  rw [← hgb] at hb2
  have HA := Lib.hid ha'
  have HB := Lib.hid hb'
  have HT := Lib.hid hT
  have HX := Lib.hid hx
  have HBA := Lib.hid hb1
  have HBB := Lib.hid hb2
  have HWA := Lib.hid hwa
  have HWBQ := Lib.hid hwbq
  have HGA := Lib.hid hga
  have HGB := Lib.hid hgb
  clear ha' hb' hT ht hx hb1 hb2 hwa hwbq hga hgb
  go_enter Tryd.func5, Tryd.ntmps5
  go_upto_region 1 with (fail)
  rw [show (w.alloc (.cells (opCells a (.slice aa a.edits.length ac)) 25)).alloc (.cells (opCells b (.slice ba b.edits.length bc)) 25) = wb from HWBQ.out.symm, show w.heap.size + 1 = gb from HGB.out.symm, show w.heap.size = ga from HGA.out.symm]
  go_wp2_with (first | (refine wpList_load_blk rfl _ _ rfl rfl HBA.out (Tryd.opT a _) ?_) | (go_at_call 8; fail))
  refine (lawFew_any _ a _ HA.out).mono ?_
  rintro e w1 ⟨b1, rfl, hf1, hx1⟩
  have HX1 := Lib.hid hx1
  clear hx1
  cases b1 with
  | false =>
    clear hf1
    go_wp2_with (go_at_call 9; fail)
    refine (works_any _ (tab_ext HT.out HX1.out)).mono ?_
    rintro e w2 ⟨rfl, hx2⟩
    have HX2 := Lib.hid ((HX.out.trans HX1.out).trans hx2)
    clear hx2
    go_wp2
    go_ret
    exact ⟨rfl, HX2.out⟩
  | true =>
    have hf1 := hf1 rfl
    have hla : a.edits.length ≤ 1000 := by have := hf1.2.2.2.1; omega
    have HLA := Lib.hid hla
    have HBB1 := Lib.hid (HX1.out.at_ HBB.out id)
    clear hf1 hla
    go_wp2_with (first | (refine wpList_load_blk_g rfl _ _ rfl rfl HBB1.out (Tryd.opT b _) ?_) | (go_at_call 8; fail))
    refine (lawFew_any _ b _ (HB.out.ext HX1.out)).mono ?_
    rintro e w2 ⟨b2, rfl, hf2, hx2⟩
    have HX2 := Lib.hid (HX1.out.trans hx2)
    clear hx2
    cases b2 with
    | false =>
      clear hf2
      go_wp2_with (go_at_call 9; fail)
      refine (works_any _ (tab_ext HT.out HX2.out)).mono ?_
      rintro e w3 ⟨rfl, hx3⟩
      have HX3 := Lib.hid ((HX.out.trans HX2.out).trans hx3)
      clear hx3
      go_wp2
      go_ret
      exact ⟨rfl, HX3.out⟩
    | true =>
      have hf2 := hf2 rfl
      have hlb : b.edits.length ≤ 1000 := by have := hf2.2.2.2.1; omega
      have HLB := Lib.hid hlb
      have HXC := Lib.hid HX2.out
      clear hf2 hlb
      go_upto_region 3 with (fail)
      refine wp_region_invG Nothing (fun _ => Ext) 100 tdst (TPhi a b aa ac ba bc) 47 (by kernel_rfl) (by decide) (by decide) rfl (by decide) (fun i w w' h => ⟨h, fun _ => h⟩) (fun i j v w w' _ _ _ _ h hu => h.ext hu) ?_ ?_
      · intro i o b' w1' ho hx1' hd hk hE
        have hi : i < 34 := (Array.getElem?_eq_some_iff.1 ho).1
        have hi34 : i = 0 ∨ i = 1 ∨ i = 2 ∨ i = 3 ∨ i = 4 ∨ i = 5 ∨ i = 6 ∨ i = 7 ∨ i = 8 ∨ i = 9 ∨ i = 10 ∨ i = 11 ∨ i = 12 ∨ i = 13 ∨ i = 14 ∨ i = 15 ∨ i = 16 ∨ i = 17 ∨ i = 18 ∨ i = 19 ∨ i = 20 ∨ i = 21 ∨ i = 22 ∨ i = 23 ∨ i = 24 ∨ i = 25 ∨ i = 26 ∨ i = 27 ∨ i = 28 ∨ i = 29 ∨ i = 30 ∨ i = 31 ∨ i = 32 ∨ i = 33 := by omega
        clear hE
        have HW1 := Lib.hid (HXC.out.trans hx1')
        clear hx1'
        rcases hi34 with rfl | rfl | rfl | rfl | rfl | rfl | rfl | rfl | rfl | rfl | rfl | rfl | rfl | rfl | rfl | rfl | rfl | rfl | rfl | rfl | rfl | rfl | rfl | rfl | rfl | rfl | rfl | rfl | rfl | rfl | rfl | rfl | rfl | rfl
        all_goals (simp at ho; subst ho)
        case inl =>
          refine ⟨by simp [Region.wanted], ?_⟩
          have o2 : b'.eval (.tmp 2) = .pointer (some ⟨ga, 0, none⟩) := by
            have := hk 2 (fun j oj _ e => (tdst_ne (by decide) e).elim)
            simpa [Act.eval] using this
          have hg1 := HW1.out.at_ HBA.out id
          exact wp_load_mid (w := w1') 25 (.tmp 2) rfl ga 0 o2 (opCells a (.slice aa a.edits.length ac)).toList _ (fun j u hj => by have := cellAt hg1 j u (by simpa using hj); simpa using this) Tryd.underlying25 rfl (by kernel_rfl) ⟨_, rfl, rfl, Upd.refl _ _⟩
        case inr.inl =>
          refine ⟨by simp [Region.wanted], ?_⟩
          have e0 : b'.tmps[14]?.getD undef = .agg (opCells a (.slice aa a.edits.length ac)) := by have := (show b'.tmps.getD 14 undef = .agg (opCells a (.slice aa a.edits.length ac)) from hd ⟨0, .data⟩ (by simp) rfl); simpa using this
          clear hd hk
          go_step
          refine (right_any w1' a _ (HA.out.ext HW1.out)).mono ?_
          rintro e w2 ⟨rfl, hu⟩
          exact ⟨_, rfl, rfl, hu⟩
        case inr.inr.inl =>
          refine ⟨by simp [Region.wanted], ?_⟩
          have o2 : b'.eval (.tmp 2) = .pointer (some ⟨ga, 0, none⟩) := by
            have := hk 2 (fun j oj _ e => (tdst_ne (by decide) e).elim)
            simpa [Act.eval] using this
          have hg1 := HW1.out.at_ HBA.out id
          exact wp_load_mid (w := w1') 25 (.tmp 2) rfl ga 0 o2 (opCells a (.slice aa a.edits.length ac)).toList _ (fun j u hj => by have := cellAt hg1 j u (by simpa using hj); simpa using this) Tryd.underlying25 rfl (by kernel_rfl) ⟨_, rfl, rfl, Upd.refl _ _⟩
        case inr.inr.inr.inl =>
          refine ⟨by simp [Region.wanted], ?_⟩
          have e2 : b'.tmps[16]?.getD undef = .agg (opCells a (.slice aa a.edits.length ac)) := by have := (show b'.tmps.getD 16 undef = .agg (opCells a (.slice aa a.edits.length ac)) from hd ⟨2, .data⟩ (by simp) rfl); simpa using this
          clear hd hk
          go_step
          refine (lawRef_any w1' a _ (HA.out.ext HW1.out) HLA.out).mono ?_
          rintro e w2 ⟨v2, rfl, ho2, hu⟩
          obtain ⟨a2, n2, c2, rfl⟩ := ownsForm ho2
          exact ⟨_, rfl, ⟨a2, n2, c2, rfl, (Row.of_owns ho2).mono (fun _ _ => trivial)⟩, hu⟩
        case inr.inr.inr.inr.inl =>
          refine ⟨by simp [Region.wanted], ?_⟩
          have h3 := hd ⟨3, .data⟩ (by simp) rfl
          obtain ⟨a3, n3, c3, e3, r3⟩ := (show RefOf a (b'.tmps.getD 17 undef) w1' from h3)
          replace e3 : b'.tmps[17]?.getD undef = .agg (opCells a (.slice a3 n3 c3)) := by simpa using e3
          clear hd hk
          go_step
          refine (rright_any w1' a _ r3 HWA.out.kinds HWA.out.k0).mono ?_
          rintro e w2 ⟨rfl, hu⟩
          exact ⟨_, rfl, rfl, hu⟩
        case inr.inr.inr.inr.inr.inl =>
          refine ⟨by simp [Region.wanted], ?_⟩
          have e1 : b'.tmps[15]?.getD undef = .bool (opRight a) := by have := (show b'.tmps.getD 15 undef = .bool (opRight a) from hd ⟨1, .data⟩ (by simp) rfl); simpa using this
          have e4 : b'.tmps[18]?.getD undef = .bool (opRight a) := by have := (show b'.tmps.getD 18 undef = .bool (opRight a) from hd ⟨4, .data⟩ (by simp) rfl); simpa using this
          clear hd hk
          go_step
          exact ⟨_, rfl, rfl, Upd.refl _ _⟩
        case inr.inr.inr.inr.inr.inr.inl =>
          refine ⟨by simp [Region.wanted], ?_⟩
          have e5 : b'.tmps[19]?.getD undef = .bool true := by have := (show b'.tmps.getD 19 undef = .bool true from hd ⟨5, .data⟩ (by simp) rfl); simpa using this
          clear hd hk
          go_step
          exact ⟨_, rfl, rfl, Upd.refl _ _⟩
        case inr.inr.inr.inr.inr.inr.inr.inl =>
          refine ⟨by
            have := tmp_some (show b'.tmps.getD 20 undef = .bool true from hd ⟨6, .guard⟩ (by simp) rfl)
            simp [Region.wanted, yielded, this], ?_⟩
          have o2 : b'.eval (.tmp 2) = .pointer (some ⟨ga, 0, none⟩) := by
            have := hk 2 (fun j oj _ e => (tdst_ne (by decide) e).elim)
            simpa [Act.eval] using this
          have hg1 := HW1.out.at_ HBA.out id
          exact wp_load_mid (w := w1') 25 (.tmp 2) rfl ga 0 o2 (opCells a (.slice aa a.edits.length ac)).toList _ (fun j u hj => by have := cellAt hg1 j u (by simpa using hj); simpa using this) Tryd.underlying25 rfl (by kernel_rfl) ⟨_, rfl, rfl, Upd.refl _ _⟩
        case inr.inr.inr.inr.inr.inr.inr.inr.inl =>
          refine ⟨by
            have := tmp_some (show b'.tmps.getD 20 undef = .bool true from hd ⟨6, .guard⟩ (by simp) rfl)
            simp [Region.wanted, yielded, this], ?_⟩
          have e7 : b'.tmps[21]?.getD undef = .agg (opCells a (.slice aa a.edits.length ac)) := by have := (show b'.tmps.getD 21 undef = .agg (opCells a (.slice aa a.edits.length ac)) from hd ⟨7, .data⟩ (by simp) rfl); simpa using this
          clear hd hk
          go_step
          refine (chain_any w1' a _ ⟨_, _, _, rfl⟩).mono ?_
          rintro e w2 ⟨rfl, hu⟩
          exact ⟨_, rfl, rfl, hu⟩
        case inr.inr.inr.inr.inr.inr.inr.inr.inr.inl =>
          refine ⟨by
            have := tmp_some (show b'.tmps.getD 20 undef = .bool true from hd ⟨6, .guard⟩ (by simp) rfl)
            simp [Region.wanted, yielded, this], ?_⟩
          have o2 : b'.eval (.tmp 2) = .pointer (some ⟨ga, 0, none⟩) := by
            have := hk 2 (fun j oj _ e => (tdst_ne (by decide) e).elim)
            simpa [Act.eval] using this
          have hg1 := HW1.out.at_ HBA.out id
          exact wp_load_mid (w := w1') 25 (.tmp 2) rfl ga 0 o2 (opCells a (.slice aa a.edits.length ac)).toList _ (fun j u hj => by have := cellAt hg1 j u (by simpa using hj); simpa using this) Tryd.underlying25 rfl (by kernel_rfl) ⟨_, rfl, rfl, Upd.refl _ _⟩
        case inr.inr.inr.inr.inr.inr.inr.inr.inr.inr.inl =>
          refine ⟨by
            have := tmp_some (show b'.tmps.getD 20 undef = .bool true from hd ⟨6, .guard⟩ (by simp) rfl)
            simp [Region.wanted, yielded, this], ?_⟩
          have e9 : b'.tmps[23]?.getD undef = .agg (opCells a (.slice aa a.edits.length ac)) := by have := (show b'.tmps.getD 23 undef = .agg (opCells a (.slice aa a.edits.length ac)) from hd ⟨9, .data⟩ (by simp) rfl); simpa using this
          clear hd hk
          go_step
          refine (lawRef_any w1' a _ (HA.out.ext HW1.out) HLA.out).mono ?_
          rintro e w2 ⟨v2, rfl, ho2, hu⟩
          obtain ⟨a2, n2, c2, rfl⟩ := ownsForm ho2
          exact ⟨_, rfl, ⟨a2, n2, c2, rfl, (Row.of_owns ho2).mono (fun _ _ => trivial)⟩, hu⟩
        case inr.inr.inr.inr.inr.inr.inr.inr.inr.inr.inr.inl =>
          refine ⟨by
            have := tmp_some (show b'.tmps.getD 20 undef = .bool true from hd ⟨6, .guard⟩ (by simp) rfl)
            simp [Region.wanted, yielded, this], ?_⟩
          have h10 := hd ⟨10, .data⟩ (by simp) rfl
          obtain ⟨a10, n10, c10, e10, r10⟩ := (show RefOf a (b'.tmps.getD 24 undef) w1' from h10)
          replace e10 : b'.tmps[24]?.getD undef = .agg (opCells a (.slice a10 n10 c10)) := by simpa using e10
          clear hd hk
          go_step
          refine (rchain_any w1' a _ ⟨_, _, _, rfl⟩).mono ?_
          rintro e w2 ⟨rfl, hu⟩
          exact ⟨_, rfl, rfl, hu⟩
        case inr.inr.inr.inr.inr.inr.inr.inr.inr.inr.inr.inr.inl =>
          refine ⟨by
            have := tmp_some (show b'.tmps.getD 20 undef = .bool true from hd ⟨6, .guard⟩ (by simp) rfl)
            simp [Region.wanted, yielded, this], ?_⟩
          have e8 : b'.tmps[22]?.getD undef = .int .u64 (chainF a) := by have := (show b'.tmps.getD 22 undef = .int .u64 (chainF a) from hd ⟨8, .data⟩ (by simp) rfl); simpa using this
          have e11 : b'.tmps[25]?.getD undef = .int .u64 (chainF a) := by have := (show b'.tmps.getD 25 undef = .int .u64 (chainF a) from hd ⟨11, .data⟩ (by simp) rfl); simpa using this
          clear hd hk
          go_step
          exact ⟨_, rfl, rfl, Upd.refl _ _⟩
        case inr.inr.inr.inr.inr.inr.inr.inr.inr.inr.inr.inr.inr.inl =>
          refine ⟨by simp [Region.wanted], ?_⟩
          have e6 : b'.tmps[20]?.getD undef = .bool true := by have := (show b'.tmps.getD 20 undef = .bool true from hd ⟨6, .data⟩ (by simp) rfl); simpa using this
          have e12 : b'.tmps[26]?.getD undef = .bool true := by have := (show b'.tmps.getD 26 undef = .bool true from hd ⟨12, .data⟩ (by simp) rfl); simpa using this
          clear hd hk
          go_step
          exact ⟨_, rfl, rfl, Upd.refl _ _⟩
        case inr.inr.inr.inr.inr.inr.inr.inr.inr.inr.inr.inr.inr.inr.inl =>
          refine ⟨by simp [Region.wanted], ?_⟩
          have e13 : b'.tmps[27]?.getD undef = .bool true := by have := (show b'.tmps.getD 27 undef = .bool true from hd ⟨13, .data⟩ (by simp) rfl); simpa using this
          clear hd hk
          go_step
          exact ⟨_, rfl, rfl, Upd.refl _ _⟩
        case inr.inr.inr.inr.inr.inr.inr.inr.inr.inr.inr.inr.inr.inr.inr.inl =>
          refine ⟨by
            have := tmp_some (show b'.tmps.getD 28 undef = .bool true from hd ⟨14, .guard⟩ (by simp) rfl)
            simp [Region.wanted, yielded, this], ?_⟩
          have o2 : b'.eval (.tmp 2) = .pointer (some ⟨ga, 0, none⟩) := by
            have := hk 2 (fun j oj _ e => (tdst_ne (by decide) e).elim)
            simpa [Act.eval] using this
          have hg1 := HW1.out.at_ HBA.out id
          exact wp_load_mid (w := w1') 25 (.tmp 2) rfl ga 0 o2 (opCells a (.slice aa a.edits.length ac)).toList _ (fun j u hj => by have := cellAt hg1 j u (by simpa using hj); simpa using this) Tryd.underlying25 rfl (by kernel_rfl) ⟨_, rfl, rfl, Upd.refl _ _⟩
        case inr.inr.inr.inr.inr.inr.inr.inr.inr.inr.inr.inr.inr.inr.inr.inr.inl =>
          refine ⟨by
            have := tmp_some (show b'.tmps.getD 28 undef = .bool true from hd ⟨14, .guard⟩ (by simp) rfl)
            simp [Region.wanted, yielded, this], ?_⟩
          have o3 : b'.eval (.tmp 3) = .pointer (some ⟨gb, 0, none⟩) := by
            have := hk 3 (fun j oj _ e => (tdst_ne (by decide) e).elim)
            simpa [Act.eval] using this
          have hg1 := HW1.out.at_ HBB.out id
          exact wp_load_mid (w := w1') 25 (.tmp 3) rfl gb 0 o3 (opCells b (.slice ba b.edits.length bc)).toList _ (fun j u hj => by have := cellAt hg1 j u (by simpa using hj); simpa using this) Tryd.underlying25 rfl (by kernel_rfl) ⟨_, rfl, rfl, Upd.refl _ _⟩
        case inr.inr.inr.inr.inr.inr.inr.inr.inr.inr.inr.inr.inr.inr.inr.inr.inr.inl =>
          refine ⟨by
            have := tmp_some (show b'.tmps.getD 28 undef = .bool true from hd ⟨14, .guard⟩ (by simp) rfl)
            simp [Region.wanted, yielded, this], ?_⟩
          have e15 : b'.tmps[29]?.getD undef = .agg (opCells a (.slice aa a.edits.length ac)) := by have := (show b'.tmps.getD 29 undef = .agg (opCells a (.slice aa a.edits.length ac)) from hd ⟨15, .data⟩ (by simp) rfl); simpa using this
          have e16 : b'.tmps[30]?.getD undef = .agg (opCells b (.slice ba b.edits.length bc)) := by have := (show b'.tmps.getD 30 undef = .agg (opCells b (.slice ba b.edits.length bc)) from hd ⟨16, .data⟩ (by simp) rfl); simpa using this
          clear hd hk
          go_step
          refine (sameOp_any w1' a b _ _ (HA.out.ext HW1.out) (HB.out.ext HW1.out)).mono ?_
          rintro e w2 ⟨rfl, hu⟩
          exact ⟨_, rfl, rfl, hu⟩
        case inr.inr.inr.inr.inr.inr.inr.inr.inr.inr.inr.inr.inr.inr.inr.inr.inr.inr.inl =>
          refine ⟨by
            have := tmp_some (show b'.tmps.getD 28 undef = .bool true from hd ⟨14, .guard⟩ (by simp) rfl)
            simp [Region.wanted, yielded, this], ?_⟩
          have o2 : b'.eval (.tmp 2) = .pointer (some ⟨ga, 0, none⟩) := by
            have := hk 2 (fun j oj _ e => (tdst_ne (by decide) e).elim)
            simpa [Act.eval] using this
          have hg1 := HW1.out.at_ HBA.out id
          exact wp_load_mid (w := w1') 25 (.tmp 2) rfl ga 0 o2 (opCells a (.slice aa a.edits.length ac)).toList _ (fun j u hj => by have := cellAt hg1 j u (by simpa using hj); simpa using this) Tryd.underlying25 rfl (by kernel_rfl) ⟨_, rfl, rfl, Upd.refl _ _⟩
        case inr.inr.inr.inr.inr.inr.inr.inr.inr.inr.inr.inr.inr.inr.inr.inr.inr.inr.inr.inl =>
          refine ⟨by
            have := tmp_some (show b'.tmps.getD 28 undef = .bool true from hd ⟨14, .guard⟩ (by simp) rfl)
            simp [Region.wanted, yielded, this], ?_⟩
          have e18 : b'.tmps[32]?.getD undef = .agg (opCells a (.slice aa a.edits.length ac)) := by have := (show b'.tmps.getD 32 undef = .agg (opCells a (.slice aa a.edits.length ac)) from hd ⟨18, .data⟩ (by simp) rfl); simpa using this
          clear hd hk
          go_step
          refine (lawRef_any w1' a _ (HA.out.ext HW1.out) HLA.out).mono ?_
          rintro e w2 ⟨v2, rfl, ho2, hu⟩
          obtain ⟨a2, n2, c2, rfl⟩ := ownsForm ho2
          exact ⟨_, rfl, ⟨a2, n2, c2, rfl, (Row.of_owns ho2).mono (fun _ _ => trivial)⟩, hu⟩
        case inr.inr.inr.inr.inr.inr.inr.inr.inr.inr.inr.inr.inr.inr.inr.inr.inr.inr.inr.inr.inl =>
          refine ⟨by
            have := tmp_some (show b'.tmps.getD 28 undef = .bool true from hd ⟨14, .guard⟩ (by simp) rfl)
            simp [Region.wanted, yielded, this], ?_⟩
          have o3 : b'.eval (.tmp 3) = .pointer (some ⟨gb, 0, none⟩) := by
            have := hk 3 (fun j oj _ e => (tdst_ne (by decide) e).elim)
            simpa [Act.eval] using this
          have hg1 := HW1.out.at_ HBB.out id
          exact wp_load_mid (w := w1') 25 (.tmp 3) rfl gb 0 o3 (opCells b (.slice ba b.edits.length bc)).toList _ (fun j u hj => by have := cellAt hg1 j u (by simpa using hj); simpa using this) Tryd.underlying25 rfl (by kernel_rfl) ⟨_, rfl, rfl, Upd.refl _ _⟩
        case inr.inr.inr.inr.inr.inr.inr.inr.inr.inr.inr.inr.inr.inr.inr.inr.inr.inr.inr.inr.inr.inl =>
          refine ⟨by
            have := tmp_some (show b'.tmps.getD 28 undef = .bool true from hd ⟨14, .guard⟩ (by simp) rfl)
            simp [Region.wanted, yielded, this], ?_⟩
          have e20 : b'.tmps[34]?.getD undef = .agg (opCells b (.slice ba b.edits.length bc)) := by have := (show b'.tmps.getD 34 undef = .agg (opCells b (.slice ba b.edits.length bc)) from hd ⟨20, .data⟩ (by simp) rfl); simpa using this
          clear hd hk
          go_step
          refine (lawRef_any w1' b _ (HB.out.ext HW1.out) HLB.out).mono ?_
          rintro e w2 ⟨v2, rfl, ho2, hu⟩
          obtain ⟨a2, n2, c2, rfl⟩ := ownsForm ho2
          exact ⟨_, rfl, ⟨a2, n2, c2, rfl, (Row.of_owns ho2).mono (fun _ _ => trivial)⟩, hu⟩
        case inr.inr.inr.inr.inr.inr.inr.inr.inr.inr.inr.inr.inr.inr.inr.inr.inr.inr.inr.inr.inr.inr.inl =>
          refine ⟨by
            have := tmp_some (show b'.tmps.getD 28 undef = .bool true from hd ⟨14, .guard⟩ (by simp) rfl)
            simp [Region.wanted, yielded, this], ?_⟩
          have h19 := hd ⟨19, .data⟩ (by simp) rfl
          obtain ⟨a19, n19, c19, e19, r19⟩ := (show RefOf a (b'.tmps.getD 33 undef) w1' from h19)
          replace e19 : b'.tmps[33]?.getD undef = .agg (opCells a (.slice a19 n19 c19)) := by simpa using e19
          have h21 := hd ⟨21, .data⟩ (by simp) rfl
          obtain ⟨a21, n21, c21, e21, r21⟩ := (show RefOf b (b'.tmps.getD 35 undef) w1' from h21)
          replace e21 : b'.tmps[35]?.getD undef = .agg (opCells b (.slice a21 n21 c21)) := by simpa using e21
          clear hd hk
          go_step
          refine (rsameOp_any w1' a b _ _ r19 r21).mono ?_
          rintro e w2 ⟨rfl, hu⟩
          exact ⟨_, rfl, rfl, hu⟩
        case inr.inr.inr.inr.inr.inr.inr.inr.inr.inr.inr.inr.inr.inr.inr.inr.inr.inr.inr.inr.inr.inr.inr.inl =>
          refine ⟨by
            have := tmp_some (show b'.tmps.getD 28 undef = .bool true from hd ⟨14, .guard⟩ (by simp) rfl)
            simp [Region.wanted, yielded, this], ?_⟩
          have e17 : b'.tmps[31]?.getD undef = .bool (eqB a b) := by have := (show b'.tmps.getD 31 undef = .bool (eqB a b) from hd ⟨17, .data⟩ (by simp) rfl); simpa using this
          have e22 : b'.tmps[36]?.getD undef = .bool (eqB a b) := by have := (show b'.tmps.getD 36 undef = .bool (eqB a b) from hd ⟨22, .data⟩ (by simp) rfl); simpa using this
          clear hd hk
          go_step
          exact ⟨_, rfl, rfl, Upd.refl _ _⟩
        case inr.inr.inr.inr.inr.inr.inr.inr.inr.inr.inr.inr.inr.inr.inr.inr.inr.inr.inr.inr.inr.inr.inr.inr.inl =>
          refine ⟨by simp [Region.wanted], ?_⟩
          have e14 : b'.tmps[28]?.getD undef = .bool true := by have := (show b'.tmps.getD 28 undef = .bool true from hd ⟨14, .data⟩ (by simp) rfl); simpa using this
          have e23 : b'.tmps[37]?.getD undef = .bool true := by have := (show b'.tmps.getD 37 undef = .bool true from hd ⟨23, .data⟩ (by simp) rfl); simpa using this
          clear hd hk
          go_step
          exact ⟨_, rfl, rfl, Upd.refl _ _⟩
        case inr.inr.inr.inr.inr.inr.inr.inr.inr.inr.inr.inr.inr.inr.inr.inr.inr.inr.inr.inr.inr.inr.inr.inr.inr.inl =>
          refine ⟨by simp [Region.wanted], ?_⟩
          have e24 : b'.tmps[38]?.getD undef = .bool true := by have := (show b'.tmps.getD 38 undef = .bool true from hd ⟨24, .data⟩ (by simp) rfl); simpa using this
          clear hd hk
          go_step
          exact ⟨_, rfl, rfl, Upd.refl _ _⟩
        case inr.inr.inr.inr.inr.inr.inr.inr.inr.inr.inr.inr.inr.inr.inr.inr.inr.inr.inr.inr.inr.inr.inr.inr.inr.inr.inl =>
          refine ⟨by
            have := tmp_some (show b'.tmps.getD 39 undef = .bool true from hd ⟨25, .guard⟩ (by simp) rfl)
            simp [Region.wanted, yielded, this], ?_⟩
          have o2 : b'.eval (.tmp 2) = .pointer (some ⟨ga, 0, none⟩) := by
            have := hk 2 (fun j oj _ e => (tdst_ne (by decide) e).elim)
            simpa [Act.eval] using this
          have hg1 := HW1.out.at_ HBA.out id
          exact wp_load_mid (w := w1') 25 (.tmp 2) rfl ga 0 o2 (opCells a (.slice aa a.edits.length ac)).toList _ (fun j u hj => by have := cellAt hg1 j u (by simpa using hj); simpa using this) Tryd.underlying25 rfl (by kernel_rfl) ⟨_, rfl, rfl, Upd.refl _ _⟩
        case inr.inr.inr.inr.inr.inr.inr.inr.inr.inr.inr.inr.inr.inr.inr.inr.inr.inr.inr.inr.inr.inr.inr.inr.inr.inr.inr.inl =>
          refine ⟨by
            have := tmp_some (show b'.tmps.getD 39 undef = .bool true from hd ⟨25, .guard⟩ (by simp) rfl)
            simp [Region.wanted, yielded, this], ?_⟩
          have o2 : b'.eval (.tmp 2) = .pointer (some ⟨ga, 0, none⟩) := by
            have := hk 2 (fun j oj _ e => (tdst_ne (by decide) e).elim)
            simpa [Act.eval] using this
          have hg1 := HW1.out.at_ HBA.out id
          exact wp_load_mid (w := w1') 25 (.tmp 2) rfl ga 0 o2 (opCells a (.slice aa a.edits.length ac)).toList _ (fun j u hj => by have := cellAt hg1 j u (by simpa using hj); simpa using this) Tryd.underlying25 rfl (by kernel_rfl) ⟨_, rfl, rfl, Upd.refl _ _⟩
        case inr.inr.inr.inr.inr.inr.inr.inr.inr.inr.inr.inr.inr.inr.inr.inr.inr.inr.inr.inr.inr.inr.inr.inr.inr.inr.inr.inr.inl =>
          refine ⟨by
            have := tmp_some (show b'.tmps.getD 39 undef = .bool true from hd ⟨25, .guard⟩ (by simp) rfl)
            simp [Region.wanted, yielded, this], ?_⟩
          have e26 : b'.tmps[40]?.getD undef = .agg (opCells a (.slice aa a.edits.length ac)) := by have := (show b'.tmps.getD 40 undef = .agg (opCells a (.slice aa a.edits.length ac)) from hd ⟨26, .data⟩ (by simp) rfl); simpa using this
          have e27 : b'.tmps[41]?.getD undef = .agg (opCells a (.slice aa a.edits.length ac)) := by have := (show b'.tmps.getD 41 undef = .agg (opCells a (.slice aa a.edits.length ac)) from hd ⟨27, .data⟩ (by simp) rfl); simpa using this
          clear hd hk
          go_step
          refine (sameOp_any w1' a a _ _ (HA.out.ext HW1.out) (HA.out.ext HW1.out)).mono ?_
          rintro e w2 ⟨rfl, hu⟩
          exact ⟨_, rfl, by rw [eqB_self]; rfl, hu⟩
        case inr.inr.inr.inr.inr.inr.inr.inr.inr.inr.inr.inr.inr.inr.inr.inr.inr.inr.inr.inr.inr.inr.inr.inr.inr.inr.inr.inr.inr.inl =>
          refine ⟨by simp [Region.wanted], ?_⟩
          have e25 : b'.tmps[39]?.getD undef = .bool true := by have := (show b'.tmps.getD 39 undef = .bool true from hd ⟨25, .data⟩ (by simp) rfl); simpa using this
          have e28 : b'.tmps[42]?.getD undef = .bool true := by have := (show b'.tmps.getD 42 undef = .bool true from hd ⟨28, .data⟩ (by simp) rfl); simpa using this
          clear hd hk
          go_step
          exact ⟨_, rfl, rfl, Upd.refl _ _⟩
        case inr.inr.inr.inr.inr.inr.inr.inr.inr.inr.inr.inr.inr.inr.inr.inr.inr.inr.inr.inr.inr.inr.inr.inr.inr.inr.inr.inr.inr.inr.inl =>
          refine ⟨by simp [Region.wanted], ?_⟩
          have e29 : b'.tmps[43]?.getD undef = .bool true := by have := (show b'.tmps.getD 43 undef = .bool true from hd ⟨29, .data⟩ (by simp) rfl); simpa using this
          clear hd hk
          go_step
          exact ⟨_, rfl, rfl, Upd.refl _ _⟩
        case inr.inr.inr.inr.inr.inr.inr.inr.inr.inr.inr.inr.inr.inr.inr.inr.inr.inr.inr.inr.inr.inr.inr.inr.inr.inr.inr.inr.inr.inr.inr.inl =>
          refine ⟨by
            have := tmp_some (show b'.tmps.getD 44 undef = .bool true from hd ⟨30, .guard⟩ (by simp) rfl)
            simp [Region.wanted, yielded, this], ?_⟩
          clear hd hk
          go_step
          refine (works_any w1' (tab_ext HT.out HW1.out)).mono ?_
          rintro e w2 ⟨rfl, hu⟩
          exact ⟨_, rfl, rfl, hu⟩
        case inr.inr.inr.inr.inr.inr.inr.inr.inr.inr.inr.inr.inr.inr.inr.inr.inr.inr.inr.inr.inr.inr.inr.inr.inr.inr.inr.inr.inr.inr.inr.inr.inl =>
          refine ⟨by simp [Region.wanted], ?_⟩
          have e30 : b'.tmps[44]?.getD undef = .bool true := by have := (show b'.tmps.getD 44 undef = .bool true from hd ⟨30, .data⟩ (by simp) rfl); simpa using this
          have e31 : b'.tmps[45]?.getD undef = .bool true := by have := (show b'.tmps.getD 45 undef = .bool true from hd ⟨31, .data⟩ (by simp) rfl); simpa using this
          clear hd hk
          go_step
          exact ⟨_, rfl, rfl, Upd.refl _ _⟩
        case inr.inr.inr.inr.inr.inr.inr.inr.inr.inr.inr.inr.inr.inr.inr.inr.inr.inr.inr.inr.inr.inr.inr.inr.inr.inr.inr.inr.inr.inr.inr.inr.inr =>
          refine ⟨by simp [Region.wanted], ?_⟩
          have e32 : b'.tmps[46]?.getD undef = .bool true := by have := (show b'.tmps.getD 46 undef = .bool true from hd ⟨32, .data⟩ (by simp) rfl); simpa using this
          clear hd hk
          go_step
          exact ⟨_, rfl, rfl, Upd.refl _ _⟩
      · intro v w1' hx1' hp
        have h33 : v 33 = .bool true := hp 33 (by decide)
        have HX8 := Lib.hid ((HX.out.trans HXC.out).trans hx1')
        clear hp hx1'
        simp only [List.size_toArray, List.length_cons, List.length_nil, Nat.reduceAdd, fillAll, tdst]
        go_simp
        go_wp2
        go_ret
        exact ⟨rfl, HX8.out⟩
end Go.Proofs.YtlhpcgmbbeihiaaDoor
