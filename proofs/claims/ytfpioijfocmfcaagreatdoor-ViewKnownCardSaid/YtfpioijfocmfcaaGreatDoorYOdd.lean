/-
  CONTRACT of the law ViewOdd. Conditions: numbers of 64 bits; the library's variables lie as they are laid.
-/
import Derived.Test.YtfpioijfocmfcaaGreatDoorYKeep2
import Derived.Test.YtfpioijfocmfcaaGreatDoorYWorks
namespace Go.Proofs.YtfpioijfocmfcaaGreatDoor
open Go.RowKit

theorem KeepIs.mono {S T : Nat → Prop} {w : World} {a b c : Value} {k : Kp} (h : KeepIs S w a b c k) (hs : ∀ j, S j → T j) : KeepIs T w a b c k :=
  ⟨h.need.mono hs, h.last.mono hs, by
    have := h.own
    cases hq : k.own with
    | none => rw [hq] at this; exact this
    | some q => rw [hq] at this; obtain ⟨b, o, e, h1, h2⟩ := this; exact ⟨b, o, e, hs _ h1, h2⟩⟩
def TxAny (l : List (List UInt8)) (v : Value) (w : World) : Prop := Texts (fun _ => True) w v l
theorem TxAny.ext {l : List (List UInt8)} {v : Value} {w w' : World} (h : TxAny l v w) (hu : Ext w w') : TxAny l v w' := by
  unfold TxAny at h ⊢
  exact Row.ext h hu
def KpAny (k : Kp) (v : Value) (w : World) : Prop := ∃ x y qp qi told, v = .agg #[x, y, u64 qp, u64 qi, u64 0, .bool told] ∧ MkRow (fun _ => True) w x k.need ∧ MkRow (fun _ => True) w y k.last ∧ ∀ m, earlierF k.own m = (told && decide (m.proc = qp) && decide (m.inc < qi))
theorem KpAny.ext {k : Kp} {v : Value} {w w' : World} (h : KpAny k v w) (hu : Ext w w') : KpAny k v w' := by
  obtain ⟨x, y, qp, qi, told, e, h1, h2, h3⟩ := h
  exact ⟨x, y, qp, qi, told, e, h1.ext hu, h2.ext hu, h3⟩
def yodVal (V : Vw) (a b c nv : Value) (k : Kp) (l : TL) (gv gk : Nat) : Nat → Value
  | 0 => .agg (vwCells V)
  | 1 => .agg #[a, b, c]
  | 2 => nv
  | 4 => .agg (vwCells V)
  | 5 => .agg (vwCells V)
  | 6 => .agg #[a, b, c]
  | 8 => nv
  | 10 => .bool true
  | 11 => .bool true
  | 12 => .bool true
  | 13 => .bool true
  | 14 => .bool true
  | _ => undef
def yodDst (i : Nat) : Tmp := if i = 14 then 6 else 12 + i
theorem yodDst_ne {j t : Nat} (ht : t = 2 ∨ t = 3 ∨ t = 4) (e : yodDst j = t) : False := by
  unfold yodDst at e
  have e : (if j = 14 then 6 else 12 + j : Nat) = t := e
  rcases ht with rfl | rfl | rfl <;> (repeat' (split at e)) <;> omega
def yodPhi (V : Vw) (a b c nv : Value) (k : Kp) (l : TL) (gv gk : Nat) (ix : Nat) (v : Value) (w : World) : Prop := if ix = 3 then TxAny (leftF V k l) v w else if ix = 7 then KpAny k v w else if ix = 9 then TxAny (leftF V k l) v w else v = yodVal V a b c nv k l gv gk ix
theorem yodPhi.ext {V : Vw} {a b c nv : Value} {k : Kp} {l : TL} {gv gk : Nat} {ix : Nat} {v : Value} {w w' : World} (h : yodPhi V a b c nv k l gv gk ix v w) (hu : Ext w w') : yodPhi V a b c nv k l gv gk ix v w' := by
  unfold yodPhi at h ⊢
  by_cases c : ix = 3
  · rw [if_pos c] at h ⊢; exact h.ext hu
  · rw [if_neg c] at h ⊢
    by_cases c : ix = 7
    · rw [if_pos c] at h ⊢; exact h.ext hu
    · rw [if_neg c] at h ⊢
      by_cases c : ix = 9
      · rw [if_pos c] at h ⊢; exact h.ext hu
      · rw [if_neg c] at h ⊢
        exact h
set_option maxRecDepth 100000 in
set_option maxHeartbeats 4000000 in
theorem viewOdd_any {S' : Nat → Prop} (w : World) (a b c nv : Value) (k : Kp) (V : Vw) (l : List (List UInt8)) (hk : KeepIs (Till w.heap.size) w a b c k) (hr : Texts S' w nv l) (hE : Env w) :
    Calls Tryz.prog 3 #[.agg (vwCells V), .agg #[a, b, c], nv] w fun e w' => e = .returned (.bool true) ∧ Ext w w' := by
  show Calls Tryz.prog 3 #[.agg #[.int .u64 V.chain, .int .u64 V.floor, .int .u64 V.tail], .agg #[a, b, c], nv] w _
  obtain ⟨w2, hw2⟩ : ∃ u, u = (w.alloc (.cells #[.int .u64 V.chain, .int .u64 V.floor, .int .u64 V.tail] 24)).alloc (.cells #[a, b, c] 28) := ⟨_, rfl⟩
  have hx2 : Ext w w2 := by rw [hw2]; exact ((Upd.refl _ _).alloc _).alloc _
  have hV : w2.heap[w.heap.size]? = some (.cells #[.int .u64 V.chain, .int .u64 V.floor, .int .u64 V.tail] 24 (0, 0)) := by
    rw [hw2]; exact (Below.heap_alloc _ _ _ (by simp)).trans (newAt _ _)
  have hK : w2.heap[w.heap.size + 1]? = some (.cells #[a, b, c] 28 (0, 0)) := by
    rw [hw2]; have := newAt (w.alloc (.cells #[.int .u64 V.chain, .int .u64 V.floor, .int .u64 V.tail] 24)) (.cells #[a, b, c] 28); simpa using this
  have HKI := Lib.hid (hk.ext hx2)
  have HTX := Lib.hid (hr.ext hx2)
  have HEE := Lib.hid (hE.ext hx2)
  have HX2 := Lib.hid hx2
  have HK := Lib.hid hK
  have HV := Lib.hid hV
  have HW2 := Lib.hid hw2
  clear hk hr hE hx2 hV hK hw2
  go_enter Tryz.func3, Tryz.ntmps3
  go_wp2_with (go_at_call 7; fail)
  rw [show (w.alloc (.cells #[.int .u64 V.chain, .int .u64 V.floor, .int .u64 V.tail] 24)).alloc (.cells #[a, b, c] 28) = w2 from HW2.out.symm]
  refine (few_any w2 nv a b c k l HTX.out HKI.out).mono ?_
  rintro e w3 ⟨o, rfl, ho, hx3⟩
  cases o with
  | false =>
    have HX3 := Lib.hid (HX2.out.trans hx3)
    clear hx3
    go_wp2_with (go_at_call 8; fail)
    refine (works_any _).mono ?_
    rintro e w4 ⟨rfl, hx4⟩
    go_wp2
    go_ret
    exact ⟨rfl, HX3.out.trans hx4⟩
  | true =>
    obtain ⟨f1, f2, f3, f4⟩ := ho rfl
    obtain ⟨gv, hgv⟩ : ∃ g, g = w.heap.size := ⟨_, rfl⟩
    obtain ⟨gk, hgk⟩ : ∃ g, g = w.heap.size + 1 := ⟨_, rfl⟩
    have HGV := Lib.hid (show w3.heap[gv]? = some (.cells (vwCells V) 24 (0, 0)) by rw [hgv]; exact hx3.at_ HV.out id)
    have HGK := Lib.hid (show w3.heap[gk]? = some (.cells #[a, b, c] 28 (0, 0)) by rw [hgk]; exact hx3.at_ HK.out id)
    have HLN := Lib.hid (show l.length ≤ 1000000 by omega)
    have HLS := Lib.hid (show ∀ s ∈ l, s.length ≤ 1000000 from fun s hs => Nat.le_trans (f2 s hs) (by decide))
    have HN1 := Lib.hid (show k.need.length ≤ 1000000 by omega)
    have HN2 := Lib.hid (show k.last.length ≤ 1000000 by omega)
    replace HKI := Lib.hid ((HKI.out.mono (T := Till w3.heap.size) (fun j hj => Nat.lt_of_lt_of_le hj (Nat.le_trans HX2.out.size hx3.size))).ext hx3)
    replace HTX := Lib.hid (HTX.out.ext hx3)
    replace HEE := Lib.hid (HEE.out.ext hx3)
    have HX3 := Lib.hid (HX2.out.trans hx3)
    have HGQ := Lib.hid hgv
    have HGR := Lib.hid hgk
    clear ho f1 f2 f3 f4 hx3 hgv hgk HK HV HW2 HX2
    go_upto_region 3 with (fail)
    rw [show w.heap.size + 1 = gk from HGR.out.symm, show w.heap.size = gv from HGQ.out.symm]
    refine wp_region_invH Nothing (fun _ => Ext) 1000 yodDst (yodPhi V a b c nv k l gv gk) 26 (by kernel_rfl) (by decide) (by decide) rfl (fun i hi => .inl ((by decide : ∀ i, i < 15 → yodDst i < 26) i hi)) (fun i w w' h => ⟨h, fun _ => h⟩) (fun i j v w w' _ _ _ _ h hu => h.ext hu) ?_ ?_
    · intro i o b' w1' ho hx1' hd hk hE hSZ
      have hi : i < 15 := (Array.getElem?_eq_some_iff.1 ho).1
      have his : i = 0 ∨ i = 1 ∨ i = 2 ∨ i = 3 ∨ i = 4 ∨ i = 5 ∨ i = 6 ∨ i = 7 ∨ i = 8 ∨ i = 9 ∨ i = 10 ∨ i = 11 ∨ i = 12 ∨ i = 13 ∨ i = 14 := by omega
      clear hE hSZ
      have HW1 := Lib.hid hx1'
      clear hx1'
      rcases his with rfl | rfl | rfl | rfl | rfl | rfl | rfl | rfl | rfl | rfl | rfl | rfl | rfl | rfl | rfl
      all_goals (simp at ho; subst ho)
      case inl =>
        refine .inl ⟨by simp [Region.wanted], ?_⟩
        have o3 : b'.eval (.tmp 3) = .pointer (some ⟨gv, 0, none⟩) := by
          have := hk 3 (fun j oj _ e => (yodDst_ne (by decide) e).elim)
          simpa [Act.eval] using this
        have hg := HW1.out.at_ HGV.out id
        exact wp_load_mid (w := w1') 24 (.tmp 3) rfl gv 0 o3 (vwCells V).toList _ (fun j u hj => by have := cellAt hg j u (by simpa using hj); simpa using this) Tryz.underlying24 rfl (by kernel_rfl) ⟨_, rfl, rfl, Upd.refl _ _⟩
      case inr.inl =>
        refine .inl ⟨by simp [Region.wanted], ?_⟩
        have o4 : b'.eval (.tmp 4) = .pointer (some ⟨gk, 0, none⟩) := by
          have := hk 4 (fun j oj _ e => (yodDst_ne (by decide) e).elim)
          simpa [Act.eval] using this
        have hg := HW1.out.at_ HGK.out id
        exact wp_load_mid (w := w1') 28 (.tmp 4) rfl gk 0 o4 [a, b, c] _ (fun j u hj => by have := cellAt hg j u (by simpa using hj); simpa using this) Tryz.underlying28 rfl (by kernel_rfl) ⟨_, rfl, rfl, Upd.refl _ _⟩
      case inr.inr.inl =>
        refine .inl ⟨by simp [Region.wanted], ?_⟩
        have o2 : b'.tmps[2]?.getD undef = nv := by
          have := hk 2 (fun j oj _ e => (yodDst_ne (by decide) e).elim)
          simpa using this
        clear hd hk
        go_step
        exact ⟨_, rfl, rfl, Upd.refl _ _⟩
      case inr.inr.inr.inl =>
        refine .inl ⟨by simp [Region.wanted], ?_⟩
        have e0 : b'.tmps[12]?.getD undef = .agg (vwCells V) := by have := (show b'.tmps.getD 12 undef = .agg (vwCells V) from hd ⟨0, .data⟩ (by simp) rfl); simpa using this
        have e1 : b'.tmps[13]?.getD undef = .agg #[a, b, c] := by have := (show b'.tmps.getD 13 undef = .agg #[a, b, c] from hd ⟨1, .data⟩ (by simp) rfl); simpa using this
        have e2 : b'.tmps[14]?.getD undef = nv := by have := (show b'.tmps.getD 14 undef = nv from hd ⟨2, .data⟩ (by simp) rfl); simpa using this
        clear hd hk
        go_step
        refine (left_any w1' a b c nv k V l (HKI.out.ext HW1.out) (HTX.out.ext HW1.out) HLN.out HLS.out (HEE.out.ext HW1.out)).mono ?_
        rintro e w2 ⟨v', rfl, ho, hu⟩
        exact ⟨_, rfl, (Row.of_owns ho).mono (fun _ _ => trivial), hu⟩
      case inr.inr.inr.inr.inl =>
        refine .inl ⟨by simp [Region.wanted], ?_⟩
        have o3 : b'.eval (.tmp 3) = .pointer (some ⟨gv, 0, none⟩) := by
          have := hk 3 (fun j oj _ e => (yodDst_ne (by decide) e).elim)
          simpa [Act.eval] using this
        have hg := HW1.out.at_ HGV.out id
        exact wp_load_mid (w := w1') 24 (.tmp 3) rfl gv 0 o3 (vwCells V).toList _ (fun j u hj => by have := cellAt hg j u (by simpa using hj); simpa using this) Tryz.underlying24 rfl (by kernel_rfl) ⟨_, rfl, rfl, Upd.refl _ _⟩
      case inr.inr.inr.inr.inr.inl =>
        refine .inl ⟨by simp [Region.wanted], ?_⟩
        have e4 : b'.tmps[16]?.getD undef = .agg (vwCells V) := by have := (show b'.tmps.getD 16 undef = .agg (vwCells V) from hd ⟨4, .data⟩ (by simp) rfl); simpa using this
        clear hd hk
        go_step
        refine (ref_any w1' V).mono ?_
        rintro e w2 ⟨rfl, hu⟩
        exact ⟨_, rfl, rfl, hu⟩
      case inr.inr.inr.inr.inr.inr.inl =>
        refine .inl ⟨by simp [Region.wanted], ?_⟩
        have o4 : b'.eval (.tmp 4) = .pointer (some ⟨gk, 0, none⟩) := by
          have := hk 4 (fun j oj _ e => (yodDst_ne (by decide) e).elim)
          simpa [Act.eval] using this
        have hg := HW1.out.at_ HGK.out id
        exact wp_load_mid (w := w1') 28 (.tmp 4) rfl gk 0 o4 [a, b, c] _ (fun j u hj => by have := cellAt hg j u (by simpa using hj); simpa using this) Tryz.underlying28 rfl (by kernel_rfl) ⟨_, rfl, rfl, Upd.refl _ _⟩
      case inr.inr.inr.inr.inr.inr.inr.inl =>
        refine .inl ⟨by simp [Region.wanted], ?_⟩
        have e6 : b'.tmps[18]?.getD undef = .agg #[a, b, c] := by have := (show b'.tmps.getD 18 undef = .agg #[a, b, c] from hd ⟨6, .data⟩ (by simp) rfl); simpa using this
        clear hd hk
        go_step
        refine (keep_any w1' a b c k ((HKI.out.ext HW1.out).mono (fun j hj => Nat.lt_of_lt_of_le hj HW1.out.size)) HN1.out HN2.out).mono ?_
        rintro e w2 ⟨x, y, qp, qi, told, rfl, h1, h2, h3, hu⟩
        exact ⟨_, rfl, ⟨x, y, qp, qi, told, rfl, h1.mono (fun _ _ => trivial), h2.mono (fun _ _ => trivial), h3⟩, hu⟩
      case inr.inr.inr.inr.inr.inr.inr.inr.inl =>
        refine .inl ⟨by simp [Region.wanted], ?_⟩
        have o2 : b'.tmps[2]?.getD undef = nv := by
          have := hk 2 (fun j oj _ e => (yodDst_ne (by decide) e).elim)
          simpa using this
        clear hd hk
        go_step
        exact ⟨_, rfl, rfl, Upd.refl _ _⟩
      case inr.inr.inr.inr.inr.inr.inr.inr.inr.inl =>
        refine .inl ⟨by simp [Region.wanted], ?_⟩
        have e5 : b'.tmps[17]?.getD undef = .agg (vwCells V) := by have := (show b'.tmps.getD 17 undef = .agg (vwCells V) from hd ⟨5, .data⟩ (by simp) rfl); simpa using this
        have h7 := hd ⟨7, .data⟩ (by simp) rfl
        have h7 : KpAny k (b'.tmps.getD 19 undef) w1' := h7
        obtain ⟨u19, hu19⟩ : ∃ u, u = b'.tmps[19]?.getD undef := ⟨_, rfl⟩
        rw [show b'.tmps.getD 19 undef = u19 by rw [hu19]; simp] at h7
        have e19 : b'.tmps[19]?.getD undef = u19 := hu19.symm
        clear hu19
        have e8 : b'.tmps[20]?.getD undef = nv := by have := (show b'.tmps.getD 20 undef = nv from hd ⟨8, .data⟩ (by simp) rfl); simpa using this
        clear hd hk
        go_step
        obtain ⟨x, y, qp, qi, told, rfl, k1, k2, k3⟩ := h7
        refine (rleft_any w1' x y nv qp qi told k V l k1 k2 k3 ((HTX.out.ext HW1.out).mono (fun _ _ => trivial)) HLN.out HLS.out).mono ?_
        rintro e w2 ⟨v', rfl, ho, hu⟩
        exact ⟨_, rfl, (Row.of_owns ho).mono (fun _ _ => trivial), hu⟩
      case inr.inr.inr.inr.inr.inr.inr.inr.inr.inr.inl =>
        refine .inl ⟨by simp [Region.wanted], ?_⟩
        have h3 := hd ⟨3, .data⟩ (by simp) rfl
        have h3 : TxAny (leftF V k l) (b'.tmps.getD 15 undef) w1' := h3
        obtain ⟨u15, hu15⟩ : ∃ u, u = b'.tmps[15]?.getD undef := ⟨_, rfl⟩
        rw [show b'.tmps.getD 15 undef = u15 by rw [hu15]; simp] at h3
        have e15 : b'.tmps[15]?.getD undef = u15 := hu15.symm
        clear hu15
        have h9 := hd ⟨9, .data⟩ (by simp) rfl
        have h9 : TxAny (leftF V k l) (b'.tmps.getD 21 undef) w1' := h9
        obtain ⟨u21, hu21⟩ : ∃ u, u = b'.tmps[21]?.getD undef := ⟨_, rfl⟩
        rw [show b'.tmps.getD 21 undef = u21 by rw [hu21]; simp] at h9
        have e21 : b'.tmps[21]?.getD undef = u21 := hu21.symm
        clear hu21
        clear hd hk
        go_step
        refine (sameT_any (S := fun _ => True) (T := fun _ => True) w1' u15 u21 (leftF V k l) (leftF V k l) h3 h9).mono ?_
        rintro e w2 ⟨rfl, hu⟩
        exact ⟨_, rfl, (by show Value.bool _ = .bool true; simp), hu⟩
      case inr.inr.inr.inr.inr.inr.inr.inr.inr.inr.inr.inl =>
        refine .inl ⟨by simp [Region.wanted], ?_⟩
        have e10 : b'.tmps[22]?.getD undef = .bool true := by have := (show b'.tmps.getD 22 undef = .bool true from hd ⟨10, .data⟩ (by simp) rfl); simpa using this
        clear hd hk
        go_step
        exact ⟨_, rfl, rfl, Upd.refl _ _⟩
      case inr.inr.inr.inr.inr.inr.inr.inr.inr.inr.inr.inr.inl =>
        refine .inl ⟨by
          have := tmp_some (show b'.tmps.getD 23 undef = .bool true from hd ⟨11, .guard⟩ (by simp) rfl)
          simp [Region.wanted, yielded, this], ?_⟩
        clear hd hk
        go_step
        refine (works_any w1').mono ?_
        rintro e w2 ⟨rfl, hu⟩
        exact ⟨_, rfl, rfl, hu⟩
      case inr.inr.inr.inr.inr.inr.inr.inr.inr.inr.inr.inr.inr.inl =>
        refine .inl ⟨by simp [Region.wanted], ?_⟩
        have e11 : b'.tmps[23]?.getD undef = .bool true := by have := (show b'.tmps.getD 23 undef = .bool true from hd ⟨11, .data⟩ (by simp) rfl); simpa using this
        have e12 : b'.tmps[24]?.getD undef = .bool true := by have := (show b'.tmps.getD 24 undef = .bool true from hd ⟨12, .data⟩ (by simp) rfl); simpa using this
        clear hd hk
        go_step
        exact ⟨_, rfl, rfl, Upd.refl _ _⟩
      case inr.inr.inr.inr.inr.inr.inr.inr.inr.inr.inr.inr.inr.inr =>
        refine .inl ⟨by simp [Region.wanted], ?_⟩
        have e13 : b'.tmps[25]?.getD undef = .bool true := by have := (show b'.tmps.getD 25 undef = .bool true from hd ⟨13, .data⟩ (by simp) rfl); simpa using this
        clear hd hk
        go_step
        exact ⟨_, rfl, rfl, Upd.refl _ _⟩
    · intro v w1' hx1' hp
      have h14 : v 14 = .bool true := hp 14 (by decide)
      have HX8 := Lib.hid (HX3.out.trans hx1')
      clear hp hx1'
      simp only [List.size_toArray, List.length_cons, List.length_nil, Nat.reduceAdd, fillAll, yodDst]
      go_simp
      go_wp2
      go_ret
      exact ⟨rfl, HX8.out⟩
end Go.Proofs.YtfpioijfocmfcaaGreatDoor
