/-
  CONTRACT of the reference's LeftOver. No condition.
-/
import Derived.Test.YtfpioijfocmfcaaGreatDoorGYR
import Derived.Test.YtfpioijfocmfcaaGreatDoorYLeft
import Derived.Test.YtfpioijfocmfcaaGreatDoorNInvJ
namespace Go.Proofs.YtfpioijfocmfcaaGreatDoor
open Go.RowKit

theorem left_length (v : Vw) (k : Kp) (l : List (List UInt8)) : (leftF v k l).length ≤ l.length := by
  unfold leftF Lib.compact
  exact Nat.le_trans (comp_length _ _) (by rw [List.length_mergeSort]; exact List.length_filter_le _ _)
theorem ownsFormN {w : World} {base e size n : Nat} {v : Value} {xs : List Value} (h : w.ownsRow base e size v n xs) : ∃ a c, v = .slice a n c := by
  rcases h.2 with ⟨rfl, rfl⟩ | ⟨g, cap, cur, rfl, _⟩ <;> exact ⟨_, _, rfl⟩
theorem str_eq (x y : List UInt8) (b : Bool) (h : decide (x = y) = b) : ((⟨x.toArray⟩ : ByteArray).toList == (⟨y.toArray⟩ : ByteArray).toList) = b ∧ (x == y) = b := by
  subst h
  rw [bytes_toList, bytes_toList]
  constructor <;> (rw [Bool.eq_iff_iff]; simp)
theorem str_less (x y : List UInt8) (b : Bool) (h : decide (x < y) = b) : Op.bytesLess (⟨x.toArray⟩ : ByteArray).toList (⟨y.toArray⟩ : ByteArray).toList = b ∧ Op.bytesLess x y = b := by
  subst h
  rw [bytes_toList, bytes_toList, bytesLess_eq]
  exact ⟨rfl, rfl⟩
theorem swap_mid (A D : List (List UInt8)) (x s : List UInt8) (m : Nat) (hm : A.length = m) : ((strs (A ++ [x] ++ s :: D)).set m (str s)).set (m + 1) (str x) = strs (A ++ s :: x :: D) := by
  subst hm
  simp [strs]
theorem swap_mid' (A D : List (List UInt8)) (x s : List UInt8) (m : Nat) (hm : A.length = m) : ((strs (A ++ [x] ++ s :: D)).set (m + 1) (str x)).set m (str s) = strs (A ++ s :: x :: D) := by
  subst hm
  simp [strs]
theorem own_drewN {w : World} {base e size m : Nat} {v : Value} {xs : List Value} (n : Nat) (h : w.ownsRow base e size v m xs) : (w.drewN n).ownsRow base e size v m xs := h
abbrev TL := List (List UInt8)
def yrlVal (V : Vw) (a b : Value) (qp qi : Nat) (told : Bool) (b1 o1 : Nat) (l : TL) (cp n : Nat) (s : List UInt8) (ov : Bool) : Nat → Value
  | 0 => .agg #[.int .u64 V.chain, .int .u64 V.floor, .int .u64 V.tail]
  | 1 => .agg #[a, b, .int .u64 (qp : Int), .int .u64 (qi : Int), .int .u64 0, .bool told]
  | 2 => .slice (some ⟨b1, o1, none⟩) l.length cp
  | 3 => .int .i64 (n : Int)
  | 4 => .pointer (some ⟨b1, o1 + n, none⟩)
  | 5 => str s
  | 6 => .bool ov
  | 7 => .bool (!ov)
  | _ => undef
def yrlDst (i : Nat) : Tmp := 18 + i
theorem yrlDst_ne {j t : Nat} (ht : t = 2 ∨ t = 3 ∨ t = 4 ∨ t = 8) (e : yrlDst j = t) : False := by
  unfold yrlDst at e
  have e : (18 + j : Nat) = t := e
  rcases ht with rfl | rfl | rfl | rfl <;> (repeat' (split at e)) <;> omega
def yrlPhi (V : Vw) (a b : Value) (qp qi : Nat) (told : Bool) (b1 o1 : Nat) (l : TL) (cp n : Nat) (s : List UInt8) (ov : Bool) (ix : Nat) (v : Value) (_ : World) : Prop := v = yrlVal V a b qp qi told b1 o1 l cp n s ov ix
theorem yrlPhi.ext {V : Vw} {a b : Value} {qp qi : Nat} {told : Bool} {b1 o1 : Nat} {l : TL} {cp n : Nat} {s : List UInt8} {ov : Bool} {ix : Nat} {v : Value} {w w' : World} (h : yrlPhi V a b qp qi told b1 o1 l cp n s ov ix v w) (_ : Ext w w') : yrlPhi V a b qp qi told b1 o1 l cp n s ov ix v w' := by
  unfold yrlPhi at h ⊢
  exact h

set_option maxRecDepth 100000 in
set_option maxHeartbeats 8000000 in
theorem rleft_any {S S' : Nat → Prop} (w : World) (a b nv : Value) (qp qi : Nat) (told : Bool) (k : Kp) (V : Vw) (l : List (List UInt8)) (ha : MkRow S w a k.need) (hb : MkRow S w b k.last)
    (hq : ∀ m, earlierF k.own m = (told && decide (m.proc = qp) && decide (m.inc < qi))) (hr : Texts S' w nv l) (hl : l.length ≤ 1000000) (hs : ∀ s ∈ l, s.length ≤ 1000000) :
    Calls Tryz.prog 11 #[.agg (vwCells V), .agg #[a, b, u64 qp, u64 qi, u64 0, .bool told], nv] w fun e w' => ∃ v', e = .returned v' ∧ w'.ownsRow w.heap.size 9 1 v' (leftF V k l).length (strs (leftF V k l)) ∧ Ext w w' := by
  show Calls Tryz.prog 11 #[.agg #[.int .u64 V.chain, .int .u64 V.floor, .int .u64 V.tail], .agg #[a, b, u64 qp, u64 qi, u64 0, .bool told], nv] w _
  obtain ⟨w2, hw2⟩ : ∃ u, u = (w.alloc (.cells #[.int .u64 V.chain, .int .u64 V.floor, .int .u64 V.tail] 35)).alloc (.cells #[a, b, u64 qp, u64 qi, u64 0, .bool told] 41) := ⟨_, rfl⟩
  have hx2 : Ext w w2 := by rw [hw2]; exact ((Upd.refl _ _).alloc _).alloc _
  have hV : w2.heap[w.heap.size]? = some (.cells #[.int .u64 V.chain, .int .u64 V.floor, .int .u64 V.tail] 35 (0, 0)) := by
    rw [hw2]; exact (Below.heap_alloc _ _ _ (by simp)).trans (newAt _ _)
  have hK : w2.heap[w.heap.size + 1]? = some (.cells #[a, b, u64 qp, u64 qi, u64 0, .bool told] 41 (0, 0)) := by
    rw [hw2]; have := newAt (w.alloc (.cells #[.int .u64 V.chain, .int .u64 V.floor, .int .u64 V.tail] 35)) (.cells #[a, b, u64 qp, u64 qi, u64 0, .bool told] 41); simpa using this
  have G := Lib.hid (hr.ext hx2)
  have HA := Lib.hid (ha.ext hx2)
  have HB0 := Lib.hid (hb.ext hx2)
  have HQ := Lib.hid hq
  have HX2 := Lib.hid hx2
  have HV := Lib.hid hV
  have HKB := Lib.hid hK
  have HLB := Lib.hid hs
  obtain ⟨na, cp, rfl, hlc, hm, -⟩ := hr
  unfold maxLen at hm
  obtain ⟨B, hB⟩ : ∃ B, B = w2.heap.size := ⟨_, rfl⟩
  have HB := Lib.hid hB
  have HW2 := Lib.hid hw2
  clear hx2 hV hK ha hb hq hs hB hw2
  go_enter Tryz.func11, Tryz.ntmps11
  go_wp2
  go_loopw [7, 8] (fun u t wr => ∃ n : Nat, n ≤ l.length ∧ t = .int .i64 n ∧ wr.ownsRow B 9 1 u (leftF V k (l.take n)).length (strs (leftF V k (l.take n))) ∧ Ext w2 wr) (fun _ t _ => l.length - (intOf t).toNat)
  case atStart => exact ⟨0, Nat.zero_le _, rfl, by rw [List.take_zero, left_nil]; exact World.ownsRow_nil _ _ _ _, by rw [HW2.out]; exact Upd.refl _ _⟩
  case round =>
    obtain ⟨n, hn, rfl, hown, hx⟩ := hrel
    by_cases hlt : n < l.length
    · obtain ⟨b1, o1, c1, e1, -, -, -, hq1⟩ := (G.out.ext hx).addr (by omega)
      cases e1
      have hc := texts_cell hq1 n hlt
      have hsl := HLB.out (l[n]) (List.getElem_mem hlt)
      have hsn : l.take (n + 1) = l.take n ++ [l[n]] := List.take_succ_eq_append_getElem hlt
      obtain ⟨z, hz⟩ : ∃ z, z = leftF V k (l.take n) := ⟨_, rfl⟩
      have hzl : z.length ≤ 1000000 := by rw [hz]; exact Nat.le_trans (left_length _ _ _) (by simp; omega)
      rw [← hz] at hown
      obtain ⟨s, hs⟩ : ∃ s, s = l[n] := ⟨_, rfl⟩
      rw [← hs] at hc hsl hsn
      obtain ⟨ov, hov⟩ : ∃ o, o = isOver V k s := ⟨_, rfl⟩
      have hcon := fun wq (hq : Ext wr wq) => rover_any wq a b qp qi told k V s (HA.out.ext (hx.trans hq)) (HB0.out.ext (hx.trans hq)) HQ.out hsl
      rw [← hov] at hcon
      unfold vwCells at hcon
      have HCON := Lib.hid hcon
      have HX := Lib.hid hx
      have HSN := Lib.hid hsn
      have HOV := Lib.hid hov
      obtain ⟨a3, c3, rfl⟩ := ownsFormN hown
      have HOWN := Lib.hid hown
      have HC := Lib.hid hc
      have HV3 := Lib.hid (show wr.rangeAt w.heap.size 0 [.int .u64 V.chain, .int .u64 V.floor, .int .u64 V.tail] from fun j u hj => by rw [Nat.zero_add]; exact cellAt (hx.at_ HV.out id) j u (by rw [List.getElem?_toArray]; exact hj))
      have HK3 := Lib.hid (show wr.rangeAt (w.heap.size + 1) 0 [a, b, .int .u64 (qp : Int), .int .u64 (qi : Int), .int .u64 0, .bool told] from fun j u hj => by rw [Nat.zero_add]; exact cellAt (hx.at_ HKB.out id) j u (by rw [List.getElem?_toArray]; exact hj))
      have HZL := Lib.hid hzl
      have HZ := Lib.hid hz
      clear hx hq1 hsn hsl hov hcon hown hc hzl hs hz
      go_upto_region 5 with (fail)
      refine wp_region_invH Nothing (fun _ => Ext) 1000 yrlDst (yrlPhi V a b qp qi told b1 o1 l cp n s ov) 88 (by kernel_rfl) (by decide) (by decide) rfl (fun i hi => .inl ((by decide : ∀ i, i < 8 → yrlDst i < 88) i hi)) (fun i w w' h => ⟨h, fun _ => h⟩) (fun i j v w w' _ _ _ _ h hu => h.ext hu) ?_ ?_
      · intro i o b' w1' ho hx1' hd hk hE hSZ
        have hi : i < 8 := (Array.getElem?_eq_some_iff.1 ho).1
        have his : i = 0 ∨ i = 1 ∨ i = 2 ∨ i = 3 ∨ i = 4 ∨ i = 5 ∨ i = 6 ∨ i = 7 := by omega
        clear hE hSZ
        have HW1 := Lib.hid hx1'
        clear hx1'
        rcases his with rfl | rfl | rfl | rfl | rfl | rfl | rfl | rfl
        all_goals (simp at ho; subst ho)
        case inl =>
          refine .inl ⟨by simp [Region.wanted], ?_⟩
          have o3 : b'.tmps[3]?.getD undef = .pointer (some ⟨w.heap.size, 0, none⟩) := by
            have := hk 3 (fun j oj _ e => (yrlDst_ne (by decide) e).elim)
            simpa using this
          clear hd hk
          have v0 := HW1.out.cell (HV3.out 0 _ rfl) id
          have v1 := HW1.out.cell (HV3.out 1 _ rfl) id
          have v2 := HW1.out.cell (HV3.out 2 _ rfl) id
          go_step
          exact ⟨_, rfl, rfl, Upd.refl _ _⟩
        case inr.inl =>
          refine .inl ⟨by simp [Region.wanted], ?_⟩
          have o4 : b'.tmps[4]?.getD undef = .pointer (some ⟨w.heap.size + 1, 0, none⟩) := by
            have := hk 4 (fun j oj _ e => (yrlDst_ne (by decide) e).elim)
            simpa using this
          clear hd hk
          have k0 := HW1.out.cell (HK3.out 0 _ rfl) id
          have k1 := HW1.out.cell (HK3.out 1 _ rfl) id
          have k2 := HW1.out.cell (HK3.out 2 _ rfl) id
          have k3 := HW1.out.cell (HK3.out 3 _ rfl) id
          have k4 := HW1.out.cell (HK3.out 4 _ rfl) id
          have k5 := HW1.out.cell (HK3.out 5 _ rfl) id
          go_step
          exact ⟨_, rfl, rfl, Upd.refl _ _⟩
        case inr.inr.inl =>
          refine .inl ⟨by simp [Region.wanted], ?_⟩
          have o2 : b'.tmps[2]?.getD undef = .slice (some ⟨b1, o1, none⟩) l.length cp := by
            have := hk 2 (fun j oj _ e => (yrlDst_ne (by decide) e).elim)
            simpa using this
          clear hd hk
          go_step
          exact ⟨_, rfl, rfl, Upd.refl _ _⟩
        case inr.inr.inr.inl =>
          refine .inl ⟨by simp [Region.wanted], ?_⟩
          have o8 : b'.tmps[8]?.getD undef = .int .i64 (n : Int) := by
            have := hk 8 (fun j oj _ e => (yrlDst_ne (by decide) e).elim)
            simpa using this
          clear hd hk
          go_step
          exact ⟨_, rfl, rfl, Upd.refl _ _⟩
        case inr.inr.inr.inr.inl =>
          refine .inl ⟨by simp [Region.wanted], ?_⟩
          have e2 : b'.tmps[20]?.getD undef = .slice (some ⟨b1, o1, none⟩) l.length cp := by have := (show b'.tmps.getD 20 undef = .slice (some ⟨b1, o1, none⟩) l.length cp from hd ⟨2, .data⟩ (by simp) rfl); simpa using this
          have e3 : b'.tmps[21]?.getD undef = .int .i64 (n : Int) := by have := (show b'.tmps.getD 21 undef = .int .i64 (n : Int) from hd ⟨3, .data⟩ (by simp) rfl); simpa using this
          clear hd hk
          go_step
          exact ⟨_, rfl, rfl, Upd.refl _ _⟩
        case inr.inr.inr.inr.inr.inl =>
          refine .inl ⟨by simp [Region.wanted], ?_⟩
          have e4 : b'.tmps[22]?.getD undef = .pointer (some ⟨b1, o1 + n, none⟩) := by have := (show b'.tmps.getD 22 undef = .pointer (some ⟨b1, o1 + n, none⟩) from hd ⟨4, .data⟩ (by simp) rfl); simpa using this
          clear hd hk
          have hc5 := HW1.out.cell HC.out id
          go_step
          exact ⟨_, rfl, rfl, Upd.refl _ _⟩
        case inr.inr.inr.inr.inr.inr.inl =>
          refine .inl ⟨by simp [Region.wanted], ?_⟩
          have e0 : b'.tmps[18]?.getD undef = .agg #[.int .u64 V.chain, .int .u64 V.floor, .int .u64 V.tail] := by have := (show b'.tmps.getD 18 undef = .agg #[.int .u64 V.chain, .int .u64 V.floor, .int .u64 V.tail] from hd ⟨0, .data⟩ (by simp) rfl); simpa using this
          have e1 : b'.tmps[19]?.getD undef = .agg #[a, b, .int .u64 (qp : Int), .int .u64 (qi : Int), .int .u64 0, .bool told] := by have := (show b'.tmps.getD 19 undef = .agg #[a, b, .int .u64 (qp : Int), .int .u64 (qi : Int), .int .u64 0, .bool told] from hd ⟨1, .data⟩ (by simp) rfl); simpa using this
          have e5 : b'.tmps[23]?.getD undef = str s := by have := (show b'.tmps.getD 23 undef = str s from hd ⟨5, .data⟩ (by simp) rfl); simpa using this
          clear hd hk
          go_step
          refine (HCON.out _ HW1.out).mono ?_
          rintro e w2' ⟨rfl, hu⟩
          exact ⟨_, rfl, rfl, hu⟩
        case inr.inr.inr.inr.inr.inr.inr =>
          refine .inl ⟨by simp [Region.wanted], ?_⟩
          have e6 : b'.tmps[24]?.getD undef = .bool ov := by have := (show b'.tmps.getD 24 undef = .bool ov from hd ⟨6, .data⟩ (by simp) rfl); simpa using this
          clear hd hk
          go_step
          exact ⟨_, rfl, rfl, Upd.refl _ _⟩
      · intro v w1' hx1' hp
        have h7 : v 7 = .bool (!ov) := hp 7 (by decide)
        have HX1 := Lib.hid (HX.out.trans hx1')
        have HO1 := Lib.hid (hx1'.ownsRow HOWN.out (fun _ _ e => e))
        have HC1 := Lib.hid (hx1'.cell HC.out id)
        have hc := HC1.out
        clear hp hx1'
        simp only [List.size_toArray, List.length_cons, List.length_nil, Nat.reduceAdd, fillAll, yrlDst]
        go_simp
        clear h7
        cases ov with
        | false =>
          go_wp2
          go_roundw
          case rel =>
            refine ⟨n + 1, by omega, by go_num, ?_, HX1.out⟩
            rw [HSN.out, left_skip HOV.out.symm, ← HZ.out]
            exact HO1.out
          case measure => simp [intOf]; omega
        | true =>
          have HROW := Lib.hid (Row.of_owns HO1.out)
          go_wp2
          go_loopw [9, 10] (fun tw t wr => ∃ j : Nat, j ≤ z.length ∧ t = .int .i64 j ∧ tw = .bool (decide (s ∈ z.take j)) ∧ Ext w1' wr) (fun _ t _ => z.length - (intOf t).toNat)
          case atStart => exact ⟨0, Nat.zero_le _, rfl, by simp, Upd.refl _ _⟩
          case round =>
            obtain ⟨j, hj, rfl, rfl, hx⟩ := hrel
            obtain ⟨wj, hwj⟩ : ∃ x, x = wr := ⟨_, rfl⟩
            subst hwj
            have HXJ := Lib.hid hx
            have hzl := HZL.out
            have hc := hx.cell HC1.out id
            by_cases hjz : j < z.length
            · obtain ⟨b2, o2, c2, e2, -, -, -, hq2⟩ := (HROW.out.ext hx).addr (by omega)
              cases e2
              have hd := texts_cell hq2 j hjz
              have hsn2 : z.take (j + 1) = z.take j ++ [z[j]] := List.take_succ_eq_append_getElem hjz
              generalize z[j] = y at hd hsn2
              have HS2 := Lib.hid hsn2
              obtain ⟨tb, htb⟩ : ∃ x, x = decide (s ∈ z.take j) := ⟨_, rfl⟩
              have HTB := Lib.hid htb
              rw [← htb]
              clear hq2 hsn2 htb hx
              cases tb with
              | true =>
                go_wp2
                go_quiet (fail)
                go_wp2
                go_roundw
                case rel =>
                  refine ⟨j + 1, by omega, by go_num, ?_, HXJ.out.drewN _⟩
                  have := HTB.out
                  rw [HS2.out]
                  simp only [List.mem_append]
                  rw [show decide (s ∈ z.take j ∨ s ∈ [y]) = true by simp [of_decide_eq_true this.symm]]
                case measure => simp [intOf]; omega
              | false =>
                obtain ⟨eb, heb⟩ : ∃ x, x = decide (y = s) := ⟨_, rfl⟩
                obtain ⟨q1, q2⟩ := str_eq y s eb heb.symm
                have HEB := Lib.hid heb
                clear heb
                go_wp2
                go_quiet (fail)
                go_wp2
                go_roundw
                case rel =>
                  refine ⟨j + 1, by omega, by go_num, ?_, HXJ.out.drewN _⟩
                  have h1 := of_decide_eq_false HTB.out.symm
                  rw [HS2.out, HEB.out]
                  simp only [List.mem_append, List.mem_singleton]
                  congr 1
                  rw [Bool.eq_iff_iff]
                  simp [h1, eq_comm]
                case measure => simp [intOf]; omega
            · have hjl : j = z.length := by omega
              obtain ⟨tb, htb⟩ : ∃ x, x = decide (s ∈ z) := ⟨_, rfl⟩
              have HTB := Lib.hid htb
              rw [show decide (s ∈ z.take j) = tb by rw [hjl, List.take_length, htb]]
              have HO2 := Lib.hid (hx.ownsRow HO1.out (fun _ _ e => e))
              have HX2' := Lib.hid (HX1.out.trans hx)
              have hnj : ¬ j < z.length := by omega
              clear hx htb hjl hjz
              cases tb with
              | true =>
                go_wp2
                go_roundw
                case rel =>
                  refine ⟨n + 1, by omega, by go_num, ?_, HX2'.out⟩
                  rw [HSN.out, left_twice (show s ∈ leftF V k (l.take n) by rw [← HZ.out]; exact of_decide_eq_true HTB.out.symm), ← HZ.out]
                  exact HO2.out
                case measure => simp [intOf]; omega
              | false =>
                have hown2 := HO2.out
                go_wp2_with (at_builtin; go_must (refine wpList_append_row rfl _ _ _ rfl Tryz.textsT rfl (hown2.alloc _) rfl (row_new _ _ _ 1 _ (by decide) (by simp)) rfl (strs_one [s]) ?c3 ?c4 ?c5 ?_))
                case c3 => have := HZL.out; unfold maxLen; omega
                case c4 => have := HZL.out; omega
                case c5 => have := HX2'.out.size; have := HB.out; first | omega | (simp; omega)
                intro v' w8 hown8 hg _
                have hx8 := ((HX2'.out.alloc _)).grown hg (fun j hj h => by have := (hown2.lt j hj).1; have := HB.out; omega)
                have HX8 := Lib.hid hx8
                have HO8 := Lib.hid hown8
                clear hx8 hg hown8 hown2
                rcases HO8.out.2 with ⟨-, h0⟩ | ⟨g8, cap8, cur8, rfl, hb8, -, hn8, hm8, -⟩
                · omega
                have HB8 := Lib.hid hb8
                clear hb8
                unfold maxLen at hm8
                go_wp2
                go_loopw [11] (fun t wr => ∃ (A D : List (List UInt8)), z = A ++ D ∧ t = .int .i64 (A.length : Int) ∧ wr.ownsRow B 9 1 (.slice (some ⟨g8, 0, none⟩) (z.length + 1) cap8) (z.length + 1) (strs (A ++ s :: D)) ∧ (∀ d ∈ D, s < d) ∧ Ext w2 wr) (fun t _ => (intOf t).toNat)
                case atStart => exact ⟨z, [], by simp, by go_num, by simpa using HO8.out, by simp, HX8.out⟩
                case round =>
                  obtain ⟨A, D, hAD, rfl, hown9, hD, hx9⟩ := hrel
                  have HAD := Lib.hid hAD
                  have HO9 := Lib.hid hown9
                  have HD := Lib.hid hD
                  have HX9 := Lib.hid hx9
                  have hz1 : A.length ≤ z.length := by rw [hAD]; simp
                  have hzl := HZL.out
                  have hgl := (HO9.out.lt g8 rfl).2
                  clear hAD hown9 hD hx9
                  have hup : Up z := by rw [HZ.out]; exact left_up _ _ _
                  have hns : s ∉ z := of_decide_eq_false HTB.out.symm
                  rcases List.eq_nil_or_concat A with rfl | ⟨A', x, rfl⟩
                  · clear hup hns
                    have HF := Lib.hid (show leftF V k (l.take (n + 1)) = ([] : List (List UInt8)) ++ s :: D from by
                      rw [HSN.out]
                      exact left_ins HOV.out.symm (HZ.out.symm.trans HAD.out) (fun a ha => by simp at ha) HD.out)
                    go_wp2
                    go_quiet (fail)
                    go_wp2
                    go_roundw
                    case rel =>
                      refine ⟨n + 1, by omega, by go_num, ?_, HX9.out.drewN _⟩
                      rw [HF.out]
                      have := HO9.out
                      rw [show (([] : List (List UInt8)) ++ s :: D).length = z.length + 1 by rw [HAD.out]; simp <;> omega]
                      exact this
                    case measure => simp [intOf]; omega
                  · have hlen : (A'.concat x).length = A'.length + 1 := by simp
                    rw [List.concat_eq_append] at HAD HO9 hlen hz1 ⊢
                    rw [hlen] at hz1 ⊢
                    obtain ⟨m, hm⟩ : ∃ m, m = A'.length := ⟨_, rfl⟩
                    rw [← hm] at hz1 ⊢
                    have hxz : x ∈ z := by rw [HAD.out]; simp
                    have hxs : x ≠ s := fun e => hns (by rw [← e]; exact hxz)
                    have hA' : ∀ a ∈ A', a < x := by
                      rw [HAD.out] at hup
                      have h1 := (List.pairwise_append.1 hup).1
                      have h2 := (List.pairwise_append.1 h1).2.2
                      exact fun a ha => h2 a ha x (by simp)
                    have hc1 : wr.cell? ⟨g8, m, none⟩ = some (str x) := by
                      rw [HO9.out.cellAt m (by omega), hm]; simp [strs]
                    have hc2 : wr.cell? ⟨g8, m + 1, none⟩ = some (str s) := by
                      rw [HO9.out.cellAt (m + 1) (by omega), hm]; simp [strs]
                    have hf1 := HO9.out.frozenAt m
                    have hf2 := HO9.out.frozenAt (m + 1)
                    have HM := Lib.hid hm
                    have HAX := Lib.hid hA'
                    obtain ⟨e1, e2⟩ := str_eq x s false (by simp [hxs])
                    obtain ⟨lb, hlb⟩ : ∃ u, u = decide (x < s) := ⟨_, rfl⟩
                    obtain ⟨l1, l2⟩ := str_less x s lb hlb.symm
                    have HLB2 := Lib.hid hlb
                    have HXS := Lib.hid hxs
                    clear hup hns hxz hxs hA' hm hlb hlen
                    cases lb with
                    | true =>
                      have HF := Lib.hid (show leftF V k (l.take (n + 1)) = (A' ++ [x]) ++ s :: D from by
                        rw [HSN.out]
                        exact left_ins HOV.out.symm (HZ.out.symm.trans HAD.out) (fun a ha => by
                          have hx := of_decide_eq_true HLB2.out.symm
                          rcases List.mem_append.1 ha with h | h
                          · exact List.lt_trans (HAX.out a h) hx
                          · rw [List.mem_singleton.1 h]; exact hx) HD.out)
                      go_wp2
                      go_quiet (fail)
                      go_wp2
                      go_roundw
                      case rel =>
                        refine ⟨n + 1, by omega, by go_num, ?_, HX9.out.drewN _⟩
                        rw [HF.out]
                        have := HO9.out
                        rw [show ((A' ++ [x]) ++ s :: D).length = z.length + 1 by rw [HAD.out]; simp <;> omega]
                        exact this
                      case measure => simp [intOf]; omega
                    | false =>
                      go_wp2
                      go_quiet (fail)
                      go_wp2
                      go_region
                      go_wp2
                      go_roundw
                      case rel =>
                        refine ⟨A', x :: D, by rw [HAD.out]; simp, by rw [← HM.out], ?_, ?_, ?_⟩
                        · rw [← swap_mid A' D x s m HM.out.symm]
                          exact (((own_drewN _ HO9.out).stored m (str s)).1.stored (m + 1) (str x)).1
                        · intro d hd
                          rcases List.mem_cons.1 hd with rfl | hd
                          · exact lt_of_le_ne (List.not_lt.1 (of_decide_eq_false HLB2.out.symm)) (Ne.symm HXS.out)
                          · exact HD.out d hd
                        · have hq : ¬ g8 < w2.heap.size := by have := HB8.out; have := HB.out; omega
                          exact ((HX9.out.drewN _).setCell (p := ⟨g8, m, none⟩) (fun h => (hq h).elim) _).setCell (p := ⟨g8, m + 1, none⟩) (fun h => (hq h).elim) _
                      case measure => simp [intOf]
    · have hnl : n = l.length := by omega
      rw [hnl, List.take_length] at hown
      obtain ⟨a3, c3, rfl⟩ := ownsFormN hown
      have HOWN := Lib.hid hown
      have HXE := Lib.hid hx
      clear hown hx
      go_wp2
      go_ret
      exact ⟨_, rfl, HOWN.out.mono_base (by have := HB.out; have := HX2.out.size; omega), HX2.out.trans HXE.out⟩
end Go.Proofs.YtfpioijfocmfcaaGreatDoor
