/-
  CONTRACT of the law ViewStays. Conditions: numbers of 64 bits; the library's variables lie as they are laid.
-/
import Derived.Test.YtfpioijfocmfcaaGreatDoorGYL
import Derived.Test.YtfpioijfocmfcaaGreatDoorYOf
import Derived.Test.YtfpioijfocmfcaaGreatDoorYLeft
import Derived.Test.YtfpioijfocmfcaaGreatDoorYOdd
import Derived.Test.YtfpioijfocmfcaaGreatDoorYWorks
import Derived.Laws.OwnMore
import Derived.Deep.AppendLies
import Derived.BigQuiet
import Derived.Test.YtfpioijfocmfcaaGreatDoorGNR
namespace Go.Proofs.YtfpioijfocmfcaaGreatDoor
open Go.RowKit

theorem put_len {x : Nm} (hm : mayF x = true) (hw : WfNm x) : (putF x).length ≤ 1000000 := by
  rw [← accF_all hm]
  have := accF_len hw (k := (numsF x).length) (by rw [numsF_length]; exact (countF_le _).2)
  have h2 := (countF_le x.kind).2
  rw [numsF_length] at this ⊢; omega
theorem contains_snoc (l : List (List UInt8)) (x s : List UInt8) : (l ++ [x]).contains s = (l.contains s || x == s) := by
  rw [Bool.eq_iff_iff, Bool.or_eq_true]
  simp only [List.contains_iff_mem, List.mem_append, List.mem_singleton, beq_iff_eq]
  exact ⟨fun h => h.imp id Eq.symm, fun h => h.imp id Eq.symm⟩
theorem wf_slot {a b : Nat} (ha : a < 18446744073709551616) (hb : b < 18446744073709551616) : WfNm (slotN a b) := ⟨by simp [slotN], ha, hb, by simp [slotN], by simp [slotN], by simp [slotN]⟩
theorem wf_base {a b : Nat} (ha : a < 18446744073709551616) (hb : b < 18446744073709551616) : WfNm (baseN a b) := ⟨by simp [baseN], ha, hb, by simp [baseN], by simp [baseN], by simp [baseN]⟩
theorem rest_floor' {k : Kp} {l : List (List UInt8)} {chain f t : Nat} (hf : f = floorF chain l) : floorF chain (restF ⟨chain, f, t⟩ k l) = f := by subst hf; exact rest_floor
theorem rest_tail' {k : Kp} {l : List (List UInt8)} {chain f t t' : Nat} (hf : f = floorF chain l) (h : IsTail (hasF l 1 chain) f t) (h' : IsTail (hasF (restF ⟨chain, f, t⟩ k l) 1 chain) f t') : t' = t := by subst hf; exact rest_tail h h'
def RowNil (v : Value) (_ : World) : Prop := ∃ a c, v = .slice a 0 c
theorem RowNil.ext {v : Value} {w w' : World} (h : RowNil v w) (_ : Ext w w') : RowNil v w' := h
theorem RowNil.of {w : World} {base e size : Nat} {v : Value} {xs : List Value} (h : w.ownsRow base e size v ([] : List (List UInt8)).length xs) : RowNil v w := by
  rcases h.2 with ⟨rfl, _⟩ | ⟨g, cap, cur, rfl, _⟩ <;> exact ⟨_, _, rfl⟩
def ystVal (chain f t : Nat) (a b c rv : Value) : Nat → Value
  | 0 => .int .u64 chain
  | 1 => rv
  | 2 => .agg #[.int .u64 chain, .int .u64 f, .int .u64 t]
  | 3 => .agg #[.int .u64 chain, .int .u64 f, .int .u64 t]
  | 4 => .bool true
  | 5 => .bool true
  | 6 => .agg #[.int .u64 chain, .int .u64 f, .int .u64 t]
  | 7 => .agg #[a, b, c]
  | 8 => rv
  | 10 => .int .i64 0
  | 11 => .bool true
  | 12 => .bool true
  | 13 => .bool true
  | 14 => .bool true
  | 15 => .bool true
  | 16 => .bool true
  | _ => undef
def ystDst (i : Nat) : Tmp := if i = 16 then 8 else 240 + i
theorem ystDst_ne {j t : Nat} (ht : t = 0 ∨ t = 6 ∨ t = 9 ∨ t = 15) (e : ystDst j = t) : False := by
  unfold ystDst at e
  have e : (if j = 16 then 8 else 240 + j : Nat) = t := e
  rcases ht with rfl | rfl | rfl | rfl <;> (repeat' (split at e)) <;> omega
def ystPhi (chain f t : Nat) (a b c rv : Value) (ix : Nat) (v : Value) (w : World) : Prop := if ix = 9 then RowNil v w else v = ystVal chain f t a b c rv ix
theorem ystPhi.ext {chain f t : Nat} {a b c rv : Value} {ix : Nat} {v : Value} {w w' : World} (h : ystPhi chain f t a b c rv ix v w) (hu : Ext w w') : ystPhi chain f t a b c rv ix v w' := by
  unfold ystPhi at h ⊢
  by_cases c : ix = 9
  · rw [if_pos c] at h ⊢; exact h.ext hu
  · rw [if_neg c] at h ⊢
    exact h
set_option maxRecDepth 100000 in
set_option maxHeartbeats 4000000 in
theorem viewStays_any {S' : Nat → Prop} (w : World) (chain n : Nat) (a b c nv : Value) (k : Kp) (l : List (List UInt8)) (hch : chain < 18446744073709551616) (hnn : n < 18446744073709551616) (hk : KeepIs (Till w.heap.size) w a b c k) (hr : Texts S' w nv l) (hE : Env w) :
    Calls Tryz.prog 5 #[.int .u64 chain, .int .u64 n, .agg #[a, b, c], nv] w fun e w' => e = .returned (.bool true) ∧ Ext w w' := by
  obtain ⟨w2, hw2⟩ : ∃ u, u = w.alloc (.cells #[a, b, c] 28) := ⟨_, rfl⟩
  have hx2 : Ext w w2 := by rw [hw2]; exact (Upd.refl _ _).alloc _
  obtain ⟨gk, hgk⟩ : ∃ g, g = w.heap.size := ⟨_, rfl⟩
  have hK : w2.heap[gk]? = some (.cells #[a, b, c] 28 (0, 0)) := by rw [hw2, hgk]; exact newAt _ _
  have HKI := Lib.hid (hk.ext hx2)
  have HTX := Lib.hid (hr.ext hx2)
  have HEE := Lib.hid (hE.ext hx2)
  have HX2 := Lib.hid hx2
  have HK := Lib.hid hK
  have HW2 := Lib.hid hw2
  have HGK := Lib.hid hgk
  clear hk hr hE hx2 hK hw2 hgk
  go_enter Tryz.func5, Tryz.ntmps5
  go_wp2_with (go_at_call 7; fail)
  rw [show w.alloc (.cells #[a, b, c] 28) = w2 from HW2.out.symm, show w.heap.size = gk from HGK.out.symm]
  refine (few_any w2 nv a b c k l HTX.out HKI.out).mono ?_
  rintro e w3 ⟨o, rfl, ho, hx3⟩
  cases o with
  | false =>
    have HX3 := Lib.hid (HX2.out.trans hx3)
    clear hx3
    go_wp2_with (go_at_call 8; fail)
    refine (works_any _).mono ?_
    rintro e w4 ⟨rfl, hx4⟩
    go_wp2
    go_ret
    exact ⟨rfl, HX3.out.trans hx4⟩
  | true =>
    obtain ⟨f1, f2, f3, f4⟩ := ho rfl
    have HLN := Lib.hid (show l.length ≤ 60 by omega)
    have HLS := Lib.hid (show ∀ s ∈ l, s.length ≤ 100 from f2)
    have HLS' := Lib.hid (show ∀ s ∈ l, s.length ≤ 1000000 from fun s hs => Nat.le_trans (f2 s hs) (by decide))
    have HN1 := Lib.hid (show k.need.length ≤ 20 by omega)
    replace HKI := Lib.hid ((HKI.out.mono (T := fun _ => True) (fun _ _ => trivial)).ext hx3)
    replace HTX := Lib.hid ((HTX.out.mono (T := fun _ => True) (fun _ _ => trivial)).ext hx3)
    replace HEE := Lib.hid (HEE.out.ext hx3)
    replace HK := Lib.hid (hx3.at_ HK.out id)
    have HX3 := Lib.hid (HX2.out.trans hx3)
    clear ho f1 f2 f3 f4 hx3 HW2 HX2
    go_wp2_with (go_at_call 14; fail)
    refine (viewOf_any w3 chain nv l HTX.out (by have := HLN.out; omega) HLS'.out HEE.out).mono ?_
    rintro e w4 ⟨t, rfl, ht, hx4⟩
    obtain ⟨f, hf⟩ : ∃ f, f = floorF chain l := ⟨_, rfl⟩
    rw [← hf] at ht ⊢
    have htl := ht.lt
    obtain ⟨w5, hw5⟩ : ∃ u, u = w4.alloc (.cells (vwCells ⟨chain, f, t⟩) 24) := ⟨_, rfl⟩
    have hx5 : Ext w4 w5 := by rw [hw5]; exact (Upd.refl _ _).alloc _
    obtain ⟨gv, hgv⟩ : ∃ g, g = w4.heap.size := ⟨_, rfl⟩
    have HV := Lib.hid (show w5.heap[gv]? = some (.cells (vwCells ⟨chain, f, t⟩) 24 (0, 0)) by rw [hw5, hgv]; exact newAt _ _)
    have HF := Lib.hid hf
    have HT := Lib.hid ht
    have hx35 := hx4.trans hx5
    replace HKI := Lib.hid (HKI.out.ext hx35)
    replace HTX := Lib.hid (HTX.out.ext hx35)
    replace HEE := Lib.hid (HEE.out.ext hx35)
    replace HK := Lib.hid (hx35.at_ HK.out id)
    replace HX3 := Lib.hid (HX3.out.trans hx35)
    have HW5 := Lib.hid hw5
    have HGV := Lib.hid hgv
    clear hf ht hx4 hx5 hw5 hgv hx35
    rw [show vwCells ⟨chain, f, t⟩ = #[.int .u64 chain, .int .u64 f, .int .u64 t] from rfl] at *
    have b0 := cellAt HV.out 0 _ rfl
    have b1 := cellAt HV.out 1 _ rfl
    have b2 := cellAt HV.out 2 _ rfl
    go_wp2_with (go_at_call 16; fail)
    rw [← HW5.out]
    have HNX := Lib.hid (next_any w5 ⟨chain, f, t⟩ htl)
    refine HNX.out.mono ?_
    rintro e w6 ⟨rfl, hx6⟩
    rw [← HGV.out]
    obtain ⟨m, hm⟩ : ∃ m, m = (if (⟨chain, f, t⟩ : Vw).tail = 18446744073709551615 then 0 else (⟨chain, f, t⟩ : Vw).tail + 1) := ⟨_, rfl⟩
    obtain ⟨ok, hok⟩ : ∃ o, o = decide ((⟨chain, f, t⟩ : Vw).tail ≠ 18446744073709551615) := ⟨_, rfl⟩
    rw [← hm, ← hok, show u64 m = .int .u64 m from rfl]
    have HM := Lib.hid (show ok = true → m = t + 1 ∧ t < 18446744073709551615 from fun h => by
      rw [hok] at h; simp only [decide_eq_true_eq] at h
      rw [hm, if_neg h]; exact ⟨rfl, by show t < _; have : t ≠ 18446744073709551615 := h; omega⟩)
    replace HKI := Lib.hid (HKI.out.ext hx6)
    replace HTX := Lib.hid (HTX.out.ext hx6)
    replace HEE := Lib.hid (HEE.out.ext hx6)
    replace HK := Lib.hid (hx6.at_ HK.out id)
    replace HV := Lib.hid (hx6.at_ HV.out id)
    replace HX3 := Lib.hid (HX3.out.trans hx6)
    clear hm hok hx6 b0 b1 b2 HNX HW5 HGV
    go_upto_if 35 with (fail)
    go_cut [12, 13] from 36 to 107 (fun _ _ wx => Ext w6 wx)
    case first =>
      as_aux_lemma =>
        cases ok with
        | false =>
          go_wp2_with fail
          go_meet
          case rel => exact Upd.refl _ _
        | true =>
          obtain ⟨hm, htm⟩ := HM.out rfl
          obtain ⟨B, hB⟩ : ∃ B, B = w6.heap.size := ⟨_, rfl⟩
          have HB := Lib.hid hB
          have HMM := Lib.hid hm
          have HTM := Lib.hid htm
          have hmm : m < 18446744073709551616 := by omega
          clear hB hm htm
          have hsl : (strs l).length = l.length * 1 := by simp [strs]
          go_wp2_with (at_builtin; go_must (refine wpList_append_row rfl _ _ _ rfl Tryz.textsT rfl (World.ownsRow_nil w6 B _ _) rfl HTX.out hsl (strs_one l) ?c3 ?c4 ?c5 ?_))
          case c3 => have := HLN.out; unfold maxLen; omega
          case c4 => have := HLN.out; omega
          case c5 => have := HB.out; omega
          intro v7 w7 hown7 hg7 _
          have hx7 : Ext w6 w7 := (Upd.refl _ _).grown hg7 (fun j hj h => by simp [Value.ownBlock] at hj)
          have HX7 := Lib.hid hx7
          have HO7 := Lib.hid hown7
          clear hx7 hown7 hg7
          go_wp2_with (go_at_call 23; fail)
          refine (ofSlot_any w7 chain m hch hmm (HEE.out.ext HX7.out).tab).mono ?_
          rintro e w8 ⟨rfl, hx8⟩
          have HX8 := Lib.hid (HX7.out.trans hx8)
          have HO8 := Lib.hid (hx8.ownsRow HO7.out (fun _ _ e => e))
          obtain ⟨z, hz⟩ : ∃ z, z = putF ⟨1, chain, m, 0, 0, 0⟩ := ⟨_, rfl⟩
          rw [← hz]
          have HZ := Lib.hid hz
          clear hx8 hz HO7 HX7
          go_wp2_with (at_builtin; go_must (refine wpList_append_row rfl _ _ _ rfl Tryz.textsT rfl (HO8.out.alloc _) rfl (row_new _ _ _ 1 _ (by decide) (by simp)) rfl (strs_one [z]) ?c3 ?c4 ?c5 ?_))
          case c3 => have := HLN.out; unfold maxLen; omega
          case c4 => have := HLN.out; omega
          case c5 => have := HX8.out.size; have := HB.out; first | omega | (simp; omega)
          intro v9 w9 hown9 hg9 _
          have hx9 : Ext w6 w9 := (HX8.out.alloc _).grown hg9 (fun j hj h => by have := (HO8.out.lt j hj).1; have := HB.out; omega)
          have HX9 := Lib.hid hx9
          have hown9' : w9.ownsRow B 9 1 v9 (l.length + 1) (strs (l ++ [z])) := by
            rw [show strs (l ++ [z]) = strs l ++ [str z] by simp [strs]]; exact hown9
          have HO9 := Lib.hid hown9'
          clear hx9 hown9 hown9' hg9 HO8 HX8
          have hzl : z.length ≤ 1000000 := by rw [HZ.out]; exact put_len (slotN_may chain m) (wf_slot hch hmm)
          have HZL := Lib.hid (show ∀ s ∈ l ++ [z], s.length ≤ 1000000 from fun s hs => by
            rcases List.mem_append.1 hs with h | h
            · exact HLS'.out s h
            · rw [List.mem_singleton.1 h]; exact hzl)
          have HTX9 := Lib.hid (show Texts (From B) w9 v9 (l ++ [z]) from by
            have h := Row.of_owns HO9.out
            unfold Texts
            rw [List.length_append]; exact h)
          go_wp2_with (go_at_call 14; fail)
          refine (viewOf_any w9 chain v9 (l ++ [z]) HTX9.out (by have := HLN.out; simp; omega) HZL.out (HEE.out.ext HX9.out)).mono ?_
          rintro e w10 ⟨t1, rfl, ht1, hx10⟩
          have hfz : floorF chain (l ++ [z]) = f := by rw [HZ.out, HF.out]; exact floor_slot hch hmm
          rw [hfz] at ht1 ⊢
          have hge : m ≤ t1 := by
            have h1 := HMM.out
            rw [h1]
            refine tail_more (l := l) (f := f) hch HT.out HTM.out ?_
            rw [← h1]
            have h2 := ht1
            rw [HZ.out] at h2
            exact h2
          have htl1 := ht1.lt
          obtain ⟨w11, hw11⟩ : ∃ u, u = w10.alloc (.cells #[.int .u64 chain, .int .u64 f, .int .u64 t1] 24) := ⟨_, rfl⟩
          have hx11 : Ext w10 w11 := by rw [hw11]; exact (Upd.refl _ _).alloc _
          obtain ⟨gw, hgw⟩ : ∃ g, g = w10.heap.size := ⟨_, rfl⟩
          have HGW := Lib.hid (show w11.heap[gw]? = some (.cells #[.int .u64 chain, .int .u64 f, .int .u64 t1] 24 (0, 0)) by rw [hw11, hgw]; exact newAt _ _)
          have HX10 := Lib.hid (HX9.out.trans hx10)
          have HX11 := Lib.hid (HX10.out.trans hx11)
          have HV10 := Lib.hid (HX10.out.at_ HV.out id)
          have HO11 := Lib.hid ((hx10.trans hx11).ownsRow HO9.out (fun _ _ e => e))
          have HW11 := Lib.hid hw11
          have HGWQ := Lib.hid hgw
          have HGE := Lib.hid hge
          have HGWL := Lib.hid (show B ≤ gw by have := HX10.out.size; have := HB.out; omega)
          have HNE := Lib.hid (show v9.ownBlock ≠ some gw from fun e => by have := (HO9.out.lt _ e).2; have := hx10.size; omega)
          rw [show vwCells ⟨chain, f, t1⟩ = #[.int .u64 chain, .int .u64 f, .int .u64 t1] from rfl]
          have c0 := cellAt HV10.out 0 _ rfl
          have c1 := cellAt HV10.out 1 _ rfl
          have c2 := cellAt HV10.out 2 _ rfl
          have cl := lt_of_heap HV10.out
          have g1 : ¬ ((t1 : Int) < (m : Int)) := by omega
          clear hw11 hgw hx10 hx11 hge ht1 hfz hzl
          go_upto_region 12 with (fail)
          rw [← HW11.out, ← HGWQ.out]
          obtain ⟨g9, c9, rfl, hg9b, hg9l⟩ := HO11.out.form (by omega)
          have HG9B := Lib.hid hg9b
          have HG9L := Lib.hid hg9l
          have HGW9 := Lib.hid (show g9 ≠ gw from fun e => HNE.out (by rw [← e]; rfl))
          have i9 : (l.length : Int) ≤ 60 := by have := HLN.out; omega
          have i8 : wrap64 (l.length : Int) = (l.length : Int) := by unfold wrap64; omega
          clear hg9b hg9l c0 c1 c2 cl g1 HO9 HX9 HTX9 HZL
          go_wp2_with (go_at_call 23; fail)
          refine (ofSlot_any w11 chain n hch hnn (HEE.out.ext HX11.out).tab).mono ?_
          rintro e w12 ⟨rfl, hx12⟩
          obtain ⟨y, hy⟩ : ∃ y, y = putF ⟨1, chain, n, 0, 0, 0⟩ := ⟨_, rfl⟩
          rw [← hy]
          have HY := Lib.hid hy
          have HX12 := Lib.hid (HX11.out.trans hx12)
          have HO12 := Lib.hid (hx12.ownsRow HO11.out (fun _ _ e => e))
          have HGW12 := Lib.hid (hx12.at_ HGW.out id)
          have z9 := HO12.out.frozenAt l.length
          have y9 := HO12.out.cellAt l.length (by omega)
          have x9 := HG9L.out
          clear hx12 hy HO11 HX11 HGW
          go_upto_region 13 with (fail)
          obtain ⟨w13, hw13⟩ : ∃ u, u = w12.setCell ⟨g9, l.length, none⟩ (str y) := ⟨_, rfl⟩
          rw [← hw13]
          have hs13 := HO12.out.stored l.length (str y)
          rw [← hw13] at hs13
          have hset : (strs (l ++ [z])).set l.length (str y) = strs (l ++ [y]) := by simp [strs]
          rw [hset] at hs13
          have hx13 : Ext w6 w13 := HX12.out.grown hs13.2 (fun j hj h => by cases hj; have := HG9B.out; have := HB.out; omega)
          have HO13 := Lib.hid hs13.1
          have HX13 := Lib.hid hx13
          have HGW13 := Lib.hid ((grownUpd hs13.2).at_ HGW12.out (fun e => HGW9.out (by injection e)))
          clear hw13 hs13 hset hx13 z9 y9 x9 HO12 HGW12 i8 i9
          have hyl : y.length ≤ 1000000 := by rw [HY.out]; exact put_len (slotN_may chain n) (wf_slot hch hnn)
          have HYL := Lib.hid (show ∀ s ∈ l ++ [y], s.length ≤ 1000000 from fun s hs => by
            rcases List.mem_append.1 hs with h | h
            · exact HLS'.out s h
            · rw [List.mem_singleton.1 h]; exact hyl)
          have HTX13 := Lib.hid (show Texts (From B) w13 (.slice (some ⟨g9, 0, none⟩) (l.length + 1) c9) (l ++ [y]) from by
            have h := Row.of_owns HO13.out
            unfold Texts
            rw [List.length_append]; exact h)
          clear hyl
          go_wp2_with (go_at_call 14; fail)
          refine (viewOf_any w13 chain _ (l ++ [y]) HTX13.out (by have := HLN.out; simp; omega) HYL.out (HEE.out.ext HX13.out)).mono ?_
          rintro e w14 ⟨t2, rfl, ht2, hx14⟩
          have hfy : floorF chain (l ++ [y]) = f := by rw [HY.out, HF.out]; exact floor_slot hch hnn
          rw [hfy] at ht2 ⊢
          have htl2 := ht2.lt
          have HT2 := Lib.hid (show n ≠ m → t2 = t from fun h => by
            have h1 := ht2
            rw [HY.out] at h1
            exact tail_other (l := l) (f := f) hch hnn HT.out (by rw [← HMM.out]; exact h) h1)
          have HX14 := Lib.hid (HX13.out.trans hx14)
          have HGW14 := Lib.hid (hx14.at_ HGW13.out id)
          have HO14 := Lib.hid (hx14.ownsRow HO13.out (fun _ _ e => e))
          clear ht2 hx14 hfy HX13 HO13 HGW13 HTX13 HYL
          rw [show vwCells ⟨chain, f, t2⟩ = #[.int .u64 chain, .int .u64 f, .int .u64 t2] from rfl]
          have c0 := cellAt HGW14.out 0 _ rfl
          have c1 := cellAt HGW14.out 1 _ rfl
          have c2 := cellAt HGW14.out 2 _ rfl
          have d0 := freeAt HGW14.out 0
          have d1 := freeAt HGW14.out 1
          have d2 := freeAt HGW14.out 2
          have cl := lt_of_heap HGW14.out
          go_upto_region 14 with (fail)
          obtain ⟨w15, hw15⟩ : ∃ u, u = ((w14.setCell ⟨gw, 0, none⟩ (.int .u64 chain)).setCell ⟨gw, 1, none⟩ (.int .u64 f)).setCell ⟨gw, 2, none⟩ (.int .u64 t2) := ⟨_, rfl⟩
          rw [← hw15]
          have hu15 : Upd (At gw) w14 w15 := by rw [hw15]; exact ((Upd.own _ _ _ _).trans (Upd.own _ _ _ _)).trans (Upd.own _ _ _ _)
          have HGW15 := Lib.hid (show w15.heap[gw]? = some (.cells #[.int .u64 chain, .int .u64 f, .int .u64 t2] 24 (0, 0)) by
            rw [hw15]; exact setAt (setAt (setAt HGW14.out)))
          have HO15 := Lib.hid (hu15.ownsRow HO14.out (fun k hk e => HGW9.out (by cases hk; exact e)))
          have HX15 := Lib.hid (HX14.out.step hu15 (fun i hi e => by unfold At at e; have := HGWL.out; have := HB.out; omega))
          have HV15 := Lib.hid (HX15.out.at_ HV.out id)
          clear hw15 hu15 c0 c1 c2 d0 d1 d2 cl HGW14 HO14 HX14
          go_cut [77] from 70 to 76 (fun s77 wx => s77 = .bool false ∧ wx = w15)
          case first =>
            by_cases hnm : n = m
            · have g0 : ((n : Int) != (m : Int)) = false := by simp [hnm]
              go_wp2_with fail
              go_meet
              case rel => exact ⟨rfl, rfl⟩
            · have g0 : ((n : Int) != (m : Int)) = true := by simp; omega
              have c0 := cellAt HGW15.out 0 _ rfl
              have c1 := cellAt HGW15.out 1 _ rfl
              have c2 := cellAt HGW15.out 2 _ rfl
              have e0 := cellAt HV15.out 0 _ rfl
              have e1 := cellAt HV15.out 1 _ rfl
              have e2 := cellAt HV15.out 2 _ rfl
              have ht2 := HT2.out hnm
              subst ht2
              go_wp2_with fail
              go_meet
              case rel => exact ⟨rfl, rfl⟩
          case rest =>
            obtain ⟨rfl, rfl⟩ := hcut
            have i9 : (l.length : Int) ≤ 60 := by have := HLN.out; omega
            have i8 : wrap64 (l.length : Int) = (l.length : Int) := by unfold wrap64; omega
            have c2 := cellAt HV15.out 2 _ rfl
            clear HTM HT2
            go_wp2_with (go_at_call 24; fail)
            refine (ofBase_any wc chain t hch htl (HEE.out.ext HX15.out).tab).mono ?_
            rintro e w16 ⟨rfl, hx16⟩
            obtain ⟨x, hx⟩ : ∃ x, x = putF ⟨2, chain, t, 0, 0, 0⟩ := ⟨_, rfl⟩
            rw [← hx]
            have HXX := Lib.hid hx
            have HX16 := Lib.hid (HX15.out.trans hx16)
            have HO16 := Lib.hid (hx16.ownsRow HO15.out (fun _ _ e => e))
            have HGW16 := Lib.hid (hx16.at_ HGW15.out id)
            have z9 := HO16.out.frozenAt l.length
            have y9 := HO16.out.cellAt l.length (by omega)
            have x9 : g9 < w16.heap.size := (HO16.out.lt g9 rfl).2
            clear hx16 hx HO15 HX15 HGW15 c2
            go_upto_region 17 with (fail)
            obtain ⟨w17, hw17⟩ : ∃ u, u = w16.setCell ⟨g9, l.length, none⟩ (str x) := ⟨_, rfl⟩
            rw [← hw17]
            have hs17 := HO16.out.stored l.length (str x)
            rw [← hw17] at hs17
            have hset : (strs (l ++ [y])).set l.length (str x) = strs (l ++ [x]) := by simp [strs]
            rw [hset] at hs17
            have HX17 := Lib.hid (show Ext w6 w17 from HX16.out.grown hs17.2 (fun j hj h => by cases hj; have := HG9B.out; have := HB.out; omega))
            have HGW17 := Lib.hid ((grownUpd hs17.2).at_ HGW16.out (fun e => HGW9.out (by injection e)))
            have hxl : x.length ≤ 1000000 := by rw [HXX.out]; exact put_len (baseN_may chain t) (wf_base hch htl)
            have HXL := Lib.hid (show ∀ s ∈ l ++ [x], s.length ≤ 1000000 from fun s hs => by
              rcases List.mem_append.1 hs with h | h
              · exact HLS'.out s h
              · rw [List.mem_singleton.1 h]; exact hxl)
            have HTX17 := Lib.hid (show Texts (From B) w17 (.slice (some ⟨g9, 0, none⟩) (l.length + 1) c9) (l ++ [x]) from by
              have h := Row.of_owns hs17.1
              unfold Texts
              rw [List.length_append]; exact h)
            clear hw17 hs17 hset hxl z9 y9 x9 HO16 HGW16 HX16 i8 i9
            go_wp2_with (go_at_call 14; fail)
            refine (viewOf_any w17 chain _ (l ++ [x]) HTX17.out (by have := HLN.out; simp; omega) HXL.out (HEE.out.ext HX17.out)).mono ?_
            rintro e w18 ⟨t3, rfl, ht3, hx18⟩
            have hfx : floorF chain (l ++ [x]) = t := by
              rw [HXX.out]
              refine (floor_base hch htl).trans ?_
              rw [← HF.out]; exact Nat.max_eq_right HT.out.le
            rw [hfx] at ht3 ⊢
            have ht3' : t3 = t := by
              rw [HXX.out] at ht3
              exact tail_base (l := l) (f := f) hch htl HT.out ht3
            subst ht3'
            have HX18 := Lib.hid (HX17.out.trans hx18)
            have HGW18 := Lib.hid (hx18.at_ HGW17.out id)
            have HV18 := Lib.hid (HX18.out.at_ HV.out id)
            clear ht3 hx18 hfx HX17 HGW17 HTX17 HXL
            rw [show vwCells ⟨chain, t3, t3⟩ = #[.int .u64 chain, .int .u64 t3, .int .u64 t3] from rfl]
            have c0 := cellAt HGW18.out 0 _ rfl
            have c1 := cellAt HGW18.out 1 _ rfl
            have c2 := cellAt HGW18.out 2 _ rfl
            have d0 := freeAt HGW18.out 0
            have d1 := freeAt HGW18.out 1
            have d2 := freeAt HGW18.out 2
            have cl := lt_of_heap HGW18.out
            go_upto_region 18 with (fail)
            obtain ⟨w19, hw19⟩ : ∃ u, u = ((w18.setCell ⟨gw, 0, none⟩ (.int .u64 chain)).setCell ⟨gw, 1, none⟩ (.int .u64 t3)).setCell ⟨gw, 2, none⟩ (.int .u64 t3) := ⟨_, rfl⟩
            rw [← hw19]
            have hu19 : Upd (At gw) w18 w19 := by rw [hw19]; exact ((Upd.own _ _ _ _).trans (Upd.own _ _ _ _)).trans (Upd.own _ _ _ _)
            have HGW19 := Lib.hid (show w19.heap[gw]? = some (.cells #[.int .u64 chain, .int .u64 t3, .int .u64 t3] 24 (0, 0)) by
              rw [hw19]; exact setAt (setAt (setAt HGW18.out)))
            have HX19 := Lib.hid (HX18.out.step hu19 (fun i hi e => by unfold At at e; have := HGWL.out; have := HB.out; omega))
            have HV19 := Lib.hid (HX19.out.at_ HV.out id)
            clear hw19 hu19 c0 c1 c2 d0 d1 d2 cl HGW18 HX18
            have c0 := cellAt HGW19.out 0 _ rfl
            have c1 := cellAt HGW19.out 1 _ rfl
            have c2 := cellAt HGW19.out 2 _ rfl
            have e0 := cellAt HV19.out 0 _ rfl
            have e1 := cellAt HV19.out 1 _ rfl
            have e2 := cellAt HV19.out 2 _ rfl
            go_wp2_with (go_at_call 18; fail)
            refine (live_nil w19 ⟨chain, t3, t3⟩ (Nat.le_refl _)).mono ?_
            rintro e w20 ⟨rfl, hx20⟩
            have HX20 := Lib.hid (HX19.out.trans hx20)
            clear hx20 c0 c1 c2 e0 e1 e2
            go_wp2_with fail
            go_meet
            case rel => exact HX20.out
    case rest =>
      have HXC := Lib.hid (HX3.out.trans hcut)
      replace HKI := Lib.hid (HKI.out.ext hcut)
      replace HTX := Lib.hid (HTX.out.ext hcut)
      replace HEE := Lib.hid (HEE.out.ext hcut)
      replace HK := Lib.hid (hcut.at_ HK.out id)
      replace HV := Lib.hid (hcut.at_ HV.out id)
      clear HM HX3 hcut
      have b0 := cellAt HV.out 0 _ rfl
      have b1 := cellAt HV.out 1 _ rfl
      have b2 := cellAt HV.out 2 _ rfl
      have k0 := cellAt HK.out 0 _ rfl
      have k1 := cellAt HK.out 1 _ rfl
      have k2 := cellAt HK.out 2 _ rfl
      go_wp2_with (go_at_call 10; fail)
      refine (left_any wc a b c nv k ⟨chain, f, t⟩ l HKI.out HTX.out (by have := HLN.out; omega) HLS'.out HEE.out).mono ?_
      rintro e w7 ⟨lv, rfl, hown7, hx7⟩
      obtain ⟨LL, hLL⟩ : ∃ LL, LL = leftF ⟨chain, f, t⟩ k l := ⟨_, rfl⟩
      rw [← hLL] at hown7
      have HLL := Lib.hid hLL
      have HLX := Lib.hid (Row.of_owns hown7)
      have HXQ := Lib.hid (HXC.out.trans hx7)
      replace HKI := Lib.hid (HKI.out.ext hx7)
      replace HTX := Lib.hid (HTX.out.ext hx7)
      replace HEE := Lib.hid (HEE.out.ext hx7)
      replace HK := Lib.hid (hx7.at_ HK.out id)
      replace HV := Lib.hid (hx7.at_ HV.out id)
      obtain ⟨an, cn, rfl, hlcn, hmn, -⟩ := HTX.out
      obtain ⟨al, cl, rfl, hlcl, hml, -⟩ := HLX.out
      unfold maxLen at hmn hml
      obtain ⟨B2, hB2⟩ : ∃ B, B = w7.heap.size := ⟨_, rfl⟩
      have HB2 := Lib.hid hB2
      clear hLL hown7 hx7 hB2 HXC b0 b1 b2 k0 k1 k2
      go_wp2
      go_loopw [15, 16] (fun r i wr => ∃ p : Nat, p ≤ l.length ∧ i = .int .i64 p ∧ wr.ownsRow B2 9 1 r (restF ⟨chain, f, t⟩ k (l.take p)).length (strs (restF ⟨chain, f, t⟩ k (l.take p))) ∧ Ext w7 wr) (fun _ i _ => l.length - (intOf i).toNat)
      case atStart => exact ⟨0, Nat.zero_le _, rfl, World.ownsRow_nil _ _ _ _, Upd.refl _ _⟩
      case round =>
        obtain ⟨p, hp, rfl, hown, hx⟩ := hrel
        have HX := Lib.hid hx
        have HOWN := Lib.hid hown
        by_cases hlt : p < l.length
        · obtain ⟨bn, on, c1, e1, -, -, -, hq1⟩ := (HTX.out.ext hx).addr (by omega)
          cases e1
          have hc := texts_cell hq1 p hlt
          have hsl := HLS'.out (l[p]) (List.getElem_mem hlt)
          have hsn : l.take (p + 1) = l.take p ++ [l[p]] := List.take_succ_eq_append_getElem hlt
          have hrs := rest_snoc ⟨chain, f, t⟩ k (l.take p) (l[p])
          rw [← hsn] at hrs
          have hmem : l[p] ∈ l := List.getElem_mem hlt
          obtain ⟨s, hs⟩ : ∃ s, s = l[p] := ⟨_, rfl⟩
          rw [← hs] at hc hsl hrs hmem
          have hcnt : (restF ⟨chain, f, t⟩ k (l.take p)).length ≤ 1000000 := Nat.le_trans (List.length_filter_le _ _) (by have := HLN.out; simp; omega)
          obtain ⟨rs, hrsq⟩ : ∃ rs, rs = restF ⟨chain, f, t⟩ k (l.take p) := ⟨_, rfl⟩
          rw [← hrsq] at hrs hcnt hown
          have HOWN := Lib.hid hown
          have HRS := Lib.hid hrs
          have HSL := Lib.hid hsl
          have HC := Lib.hid hc
          have HMEM := Lib.hid hmem
          have HCNT := Lib.hid hcnt
          obtain ⟨a3, n3, c3, rfl⟩ := ownsForm hown
          clear hx hq1 hsl hsn hrs hmem hs hrsq hown hc hcnt
          go_wp2
          obtain ⟨wo, rfl⟩ : ∃ wo : World, wo = wr := ⟨_, rfl⟩
          go_loopw [17, 18] (fun ov j wq => ∃ q : Nat, q ≤ LL.length ∧ j = .int .i64 q ∧ ov = .bool ((LL.take q).contains s) ∧ Ext wo wq) (fun _ j _ => LL.length - (intOf j).toNat)
          case atStart => exact ⟨0, Nat.zero_le _, rfl, rfl, Upd.refl _ _⟩
          case round =>
            obtain ⟨q, hq, rfl, rfl, hx⟩ := hrel
            have HXI := Lib.hid hx
            by_cases hql : q < LL.length
            · as_aux_lemma =>
                obtain ⟨bl, ol, c4, e4, -, -, -, hq2⟩ := ((HLX.out.ext HX.out).ext hx).addr (by omega)
                cases e4
                have d1 := texts_cell hq2 q hql
                have d2 := hx.cell HC.out id
                have s1 : LL.take (q + 1) = LL.take q ++ [LL[q]] := List.take_succ_eq_append_getElem hql
                have s2 : (LL.take (q + 1)).contains s = ((LL.take q).contains s || LL[q] == s) := by rw [s1]; exact contains_snoc _ _ _
                generalize LL[q] = r at d1 s2
                obtain ⟨ov, hov⟩ : ∃ ov, ov = (LL.take q).contains s := ⟨_, rfl⟩
                rw [← hov] at s2 ⊢
                have S2 := Lib.hid s2
                clear hq2 s1 s2 hx hov
                cases ov with
                | true =>
                  go_wp2
                  go_quiet (fail)
                  go_wp2
                  go_roundw
                  case rel => exact ⟨q + 1, by omega, by go_num, by rw [S2.out]; rfl, HXI.out.drewN _⟩
                  case measure => simp [intOf]; omega
                | false =>
                  by_cases hrs : r = s
                  · have q1 : ((⟨r.toArray⟩ : ByteArray).toList == (⟨s.toArray⟩ : ByteArray).toList) = true := by rw [bytes_toList, bytes_toList]; simp [hrs]
                    have q2 : (r == s) = true := by simp [hrs]
                    go_wp2
                    go_quiet (fail)
                    go_wp2
                    go_roundw
                    case rel => exact ⟨q + 1, by omega, by go_num, by rw [S2.out, q2]; rfl, HXI.out.drewN _⟩
                    case measure => simp [intOf]; omega
                  · have q1 : ((⟨r.toArray⟩ : ByteArray).toList == (⟨s.toArray⟩ : ByteArray).toList) = false := by rw [bytes_toList, bytes_toList]; simpa using hrs
                    have q2 : (r == s) = false := by simpa using hrs
                    go_wp2
                    go_quiet (fail)
                    go_wp2
                    go_roundw
                    case rel => exact ⟨q + 1, by omega, by go_num, by rw [S2.out, q2]; rfl, HXI.out.drewN _⟩
                    case measure => simp [intOf]; omega
            · have hqe : q = LL.length := by omega
              have hov : (LL.take q).contains s = isOver ⟨chain, f, t⟩ k s := by
                rw [hqe, List.take_length, HLL.out, Bool.eq_iff_iff]
                simp only [List.contains_iff_mem]
                exact ⟨fun h => (left_mem.1 h).2, fun h => left_mem.2 ⟨HMEM.out, h⟩⟩
              rw [hov]
              obtain ⟨ov, hoq⟩ : ∃ ov, ov = isOver ⟨chain, f, t⟩ k s := ⟨_, rfl⟩
              rw [← hoq]
              rw [← hoq] at HRS
              have HOV := Lib.hid hoq
              obtain ⟨x, hxx⟩ : ∃ x, x = (parseF s).1 := ⟨_, rfl⟩
              obtain ⟨ok, hok⟩ : ∃ o, o = (parseF s).2 := ⟨_, rfl⟩
              have HPP := Lib.hid (show parseF s = (x, ok) by rw [hxx, hok])
              have HFN := Lib.hid (show ov = true → ok = true ∧ (x.kind = 1 → x.doc = chain ∧ x.n ≤ f) ∧ (x.kind = 2 → x.doc = chain ∧ x.n < f) ∧ (x.kind = 4 → k.need.contains (markOf x) = false) from fun h => by
                have := over_fine (hoq.symm.trans h); rw [← hxx, ← hok] at this; exact this)
              have c9 := hx.cell HC.out id
              have HXW := Lib.hid (HX.out.trans hx)
              have hqn : ¬ ((q : Int) < (LL.length : Int)) := by omega
              clear hqe hov hoq hxx hok hx hql
              go_wp2_with (go_at_call 25; fail)
              refine (parse_lit _ s x ok HSL.out (HEE.out.ext HXW.out) HPP.out).mono ?_
              rintro e w8 ⟨rfl, hx8⟩
              obtain ⟨xk, xd, xn, xp, xi, xs⟩ := x
              obtain ⟨gn, hgn⟩ : ∃ g, g = w8.heap.size := ⟨_, rfl⟩
              obtain ⟨w9, hw9⟩ : ∃ u, u = w8.alloc (.cells #[.int .u8 xk, .int .u64 xd, .int .u64 xn, .int .u64 xp, .int .u64 xi, .int .u64 xs] 58) := ⟨_, rfl⟩
              rw [show nmCells ⟨xk, xd, xn, xp, xi, xs⟩ = #[.int .u8 xk, .int .u64 xd, .int .u64 xn, .int .u64 xp, .int .u64 xi, .int .u64 xs] from rfl]
              have HGN := Lib.hid (show w9.heap[gn]? = some (.cells #[.int .u8 xk, .int .u64 xd, .int .u64 xn, .int .u64 xp, .int .u64 xi, .int .u64 xs] 58 (0, 0)) by rw [hw9, hgn]; exact newAt _ _)
              have HX9 := Lib.hid (show Ext w7 w9 from HXW.out.trans (hx8.trans (by rw [hw9]; exact (Upd.refl _ _).alloc _)))
              have HXO := Lib.hid (show Ext wo w9 from HXI.out.trans (hx8.trans (by rw [hw9]; exact (Upd.refl _ _).alloc _)))
              have HW9 := Lib.hid hw9
              have HGNQ := Lib.hid hgn
              clear hx8 hw9 hgn c9
              go_upto_region 31 with (fail)
              rw [← HW9.out, ← HGNQ.out]
              have c0 := cellAt HGN.out 0 _ rfl
              have c1 := cellAt HGN.out 1 _ rfl
              have c2 := cellAt HGN.out 2 _ rfl
              have v1 := cellAt (HX9.out.at_ HV.out id) 1 _ rfl
              go_cut [184] from 112 to 239 (fun s184 wx => s184 = .bool false ∧ wx = w9)
              case first =>
                as_aux_lemma =>
                  cases ov with
                  | false =>
                    go_wp2_with fail
                    go_meet
                    case rel => exact ⟨rfl, rfl⟩
                  | true =>
                    obtain ⟨rfl, q1, q2, -⟩ := HFN.out rfl
                    by_cases e1 : xk = 1
                    · obtain ⟨r1, r2⟩ := q1 e1
                      have g1 : ((xk : Int) == 1) = true := by simp [e1]
                      have g2 : ((xk : Int) == 2) = false := by simp [e1]
                      have g3 : ((xd : Int) != (chain : Int)) = false := by have : xd = chain := r1; simp [this]
                      have g4 : ¬ ((xn : Int) > (f : Int)) := by have : xn ≤ f := r2; omega
                      go_wp2_with fail
                      go_meet
                      case rel => exact ⟨rfl, rfl⟩
                    · have g1 : ((xk : Int) == 1) = false := by simp; omega
                      by_cases e2 : xk = 2
                      · obtain ⟨r1, r2⟩ := q2 e2
                        have g2 : ((xk : Int) == 2) = true := by simp [e2]
                        have g3 : ((xd : Int) != (chain : Int)) = false := by have : xd = chain := r1; simp [this]
                        have g4 : ¬ ((xn : Int) ≥ (f : Int)) := by have : xn < f := r2; omega
                        go_wp2_with fail
                        go_meet
                        case rel => exact ⟨rfl, rfl⟩
                      · have g2 : ((xk : Int) == 2) = false := by simp; omega
                        go_wp2_with fail
                        go_meet
                        case rel => exact ⟨rfl, rfl⟩
              case rest =>
                obtain ⟨rfl, rfl⟩ := hcut
                clear c0 c1 c2 v1 HW9 HGNQ HXW HXI
                have HNR := Lib.hid (HKI.out.need.ext HX9.out)
                obtain ⟨ak, ck, hak, hlk, hmk, -⟩ := HNR.out
                unfold maxLen at hmk
                have HAK := Lib.hid hak
                clear hak
                go_wp2
                obtain ⟨wi, rfl⟩ : ∃ wi : World, wi = wc := ⟨_, rfl⟩
                go_loopw [21] (fun j wq => ∃ r : Nat, r ≤ k.need.length ∧ j = .int .i64 r ∧ Ext wi wq) (fun j _ => k.need.length - (intOf j).toNat)
                case atStart => exact ⟨0, Nat.zero_le _, rfl, Upd.refl _ _⟩
                case round =>
                  obtain ⟨r, hr, rfl, hx⟩ := hrel
                  have HXJ := Lib.hid hx
                  have HK5 := hx.at_ (HX9.out.at_ HK.out id) id
                  have k0 := cellAt HK5 0 _ rfl
                  rw [HAK.out] at k0
                  have HG5 := hx.at_ HGN.out id
                  have n0 := cellAt HG5 0 _ rfl
                  have n3 := cellAt HG5 3 _ rfl
                  have n4 := cellAt HG5 4 _ rfl
                  have n5 := cellAt HG5 5 _ rfl
                  clear HK5 HG5
                  by_cases hrl : r < k.need.length
                  · as_aux_lemma =>
                      obtain ⟨bk, qk, ckk, ek, -, -, -, hqk⟩ := (HNR.out.ext hx).addr (by omega)
                      rw [← HAK.out, ek] at k0
                      clear ek
                      have d0 := mk_cells hqk hrl 0 _ rfl
                      have d1 := mk_cells hqk hrl 1 _ rfl
                      have d2 := mk_cells hqk hrl 2 _ rfl
                      simp only [Nat.add_zero] at d0
                      have hz : ov = true → xk = 4 → ¬ (xp = k.need[r].proc ∧ xi = k.need[r].inc ∧ xs = k.need[r].k) := fun h4 h5 h6 => by
                        have h7 := (HFN.out h4).2.2.2 h5
                        have h8 : k.need.contains (markOf ⟨xk, xd, xn, xp, xi, xs⟩) = true := by
                          rw [List.contains_iff_mem]
                          have : markOf ⟨xk, xd, xn, xp, xi, xs⟩ = k.need[r] := by unfold markOf; rw [h6.1, h6.2.1, h6.2.2]
                          rw [this]; exact List.getElem_mem hrl
                        rw [h7] at h8; cases h8
                      generalize k.need[r] = z at d0 d1 d2 hz
                      clear hqk hx
                      cases ov with
                      | false =>
                        go_wp2
                        go_quiet (fail)
                        go_wp2
                        go_roundw
                        case rel => exact ⟨r + 1, by omega, by go_num, HXJ.out.drewN _⟩
                        case measure => simp [intOf]; omega
                      | true =>
                        by_cases e4 : xk = 4
                        · have g4 : ((xk : Int) == 4) = true := by simp [e4]
                          by_cases e5 : xp = z.proc
                          · have g5 : ((xp : Int) == (z.proc : Int)) = true := by simp [e5]
                            by_cases e6 : xi = z.inc
                            · have g6 : ((xi : Int) == (z.inc : Int)) = true := by simp [e6]
                              have g7 : ((xs : Int) == (z.k : Int)) = false := by
                                have : xs ≠ z.k := fun h => hz rfl e4 ⟨e5, e6, h⟩
                                simp; omega
                              go_wp2
                              go_quiet (fail)
                              go_wp2
                              go_roundw
                              case rel => exact ⟨r + 1, by omega, by go_num, HXJ.out.drewN _⟩
                              case measure => simp [intOf]; omega
                            · have g6 : ((xi : Int) == (z.inc : Int)) = false := by simp; omega
                              go_wp2
                              go_quiet (fail)
                              go_wp2
                              go_roundw
                              case rel => exact ⟨r + 1, by omega, by go_num, HXJ.out.drewN _⟩
                              case measure => simp [intOf]; omega
                          · have g5 : ((xp : Int) == (z.proc : Int)) = false := by simp; omega
                            go_wp2
                            go_quiet (fail)
                            go_wp2
                            go_roundw
                            case rel => exact ⟨r + 1, by omega, by go_num, HXJ.out.drewN _⟩
                            case measure => simp [intOf]; omega
                        · have g4 : ((xk : Int) == 4) = false := by simp; omega
                          go_wp2
                          go_quiet (fail)
                          go_wp2
                          go_roundw
                          case rel => exact ⟨r + 1, by omega, by go_num, HXJ.out.drewN _⟩
                          case measure => simp [intOf]; omega
                  · as_aux_lemma =>
                      have hrn : ¬ ((r : Int) < (k.need.length : Int)) := by omega
                      clear n0 n3 n4 n5 hx
                      cases ov with
                      | true =>
                        go_wp2
                        go_roundw
                        case rel =>
                          refine ⟨p + 1, by omega, by go_num, ?_, HX9.out.trans HXJ.out⟩
                          rw [HRS.out]
                          exact (HXO.out.trans HXJ.out).ownsRow HOWN.out (fun _ _ e => e)
                        case measure => simp [intOf]; omega
                      | false =>
                        have HO5 := Lib.hid ((HXO.out.trans HXJ.out).ownsRow HOWN.out (fun _ _ e => e))
                        have c9 := (HXO.out.trans HXJ.out).cell HC.out id
                        go_wp2_with (at_builtin; go_must (refine wpList_append_row rfl _ _ _ rfl Tryz.textsT rfl (HO5.out.alloc _) rfl (row_new _ _ _ 1 _ (by decide) (by simp)) rfl (strs_one [s]) ?c3 ?c4 ?c5 ?_))
                        case c3 => have := HCNT.out; unfold maxLen; omega
                        case c4 => have := HCNT.out; omega
                        case c5 => have := (HX9.out.trans HXJ.out).size; have := HB2.out; first | omega | (simp; omega)
                        intro v8 w8 hown8 hg8 _
                        have hx8 : Ext w7 w8 := ((HX9.out.trans HXJ.out).alloc _).grown hg8 (fun j hj h => by have := (HO5.out.lt j hj).1; have := HB2.out; omega)
                        have HX8 := Lib.hid hx8
                        have HO8 := Lib.hid hown8
                        clear hx8 hg8 hown8
                        go_wp2
                        go_roundw
                        case rel =>
                          refine ⟨p + 1, by omega, by go_num, ?_, HX8.out⟩
                          rw [HRS.out]
                          simp only [Bool.false_eq_true, if_false, List.length_append, List.map_append, List.length_singleton]
                          exact HO8.out
                        case measure => simp [intOf]; omega
        · as_aux_lemma =>
            have hpe : p = l.length := by omega
            have hqn : ¬ ((p : Int) < (l.length : Int)) := by omega
            rw [hpe, List.take_length] at hown
            obtain ⟨R, hR⟩ : ∃ R, R = restF ⟨chain, f, t⟩ k l := ⟨_, rfl⟩
            obtain ⟨a3, n3, c3, rfl⟩ := ownsForm hown
            have HTR := Lib.hid (show Texts (From B2) wr (.slice a3 n3 c3) (restF ⟨chain, f, t⟩ k l) from Row.of_owns hown)
            have HRL := Lib.hid (show (restF ⟨chain, f, t⟩ k l).length ≤ 1000000 from Nat.le_trans (List.length_filter_le _ _) (by have := HLN.out; omega))
            have HRB := Lib.hid (show ∀ s ∈ restF ⟨chain, f, t⟩ k l, s.length ≤ 1000000 from fun s hs => HLS'.out s (rest_mem.1 hs).1)
            have HE9 := Lib.hid (HEE.out.ext HX.out)
            have HKI9 := Lib.hid (HKI.out.ext HX.out)
            have HV9 := Lib.hid (HX.out.at_ HV.out id)
            have HK9 := Lib.hid (HX.out.at_ HK.out id)
            have HXE := Lib.hid (HXQ.out.trans HX.out)
            clear hown HOWN hx hR R HTX HLX HLL HEE HKI HV HK HX HXQ
            go_upto_region 40 with (fail)
            refine wp_region_invH Nothing (fun _ => Ext) 1000 ystDst (ystPhi chain f t a b c (.slice a3 n3 c3)) 256 (by kernel_rfl) (by decide) (by decide) rfl (fun i hi => .inl ((by decide : ∀ i, i < 17 → ystDst i < 256) i hi)) (fun i w w' h => ⟨h, fun _ => h⟩) (fun i j v w w' _ _ _ _ h hu => h.ext hu) ?_ ?_
            · intro i o b' w1' ho hx1' hd hk hE hSZ
              have hi : i < 17 := (Array.getElem?_eq_some_iff.1 ho).1
              have his : i = 0 ∨ i = 1 ∨ i = 2 ∨ i = 3 ∨ i = 4 ∨ i = 5 ∨ i = 6 ∨ i = 7 ∨ i = 8 ∨ i = 9 ∨ i = 10 ∨ i = 11 ∨ i = 12 ∨ i = 13 ∨ i = 14 ∨ i = 15 ∨ i = 16 := by omega
              clear hE hSZ
              have HW1 := Lib.hid hx1'
              clear hx1'
              rcases his with rfl | rfl | rfl | rfl | rfl | rfl | rfl | rfl | rfl | rfl | rfl | rfl | rfl | rfl | rfl | rfl | rfl
              all_goals (simp at ho; subst ho)
              case inl =>
                refine .inl ⟨by simp [Region.wanted], ?_⟩
                have o0 : b'.tmps[0]?.getD undef = .int .u64 chain := by
                  have := hk 0 (fun j oj _ e => (ystDst_ne (by decide) e).elim)
                  simpa using this
                clear hd hk
                go_step
                exact ⟨_, rfl, rfl, Upd.refl _ _⟩
              case inr.inl =>
                refine .inl ⟨by simp [Region.wanted], ?_⟩
                have o15 : b'.tmps[15]?.getD undef = .slice a3 n3 c3 := by
                  have := hk 15 (fun j oj _ e => (ystDst_ne (by decide) e).elim)
                  simpa using this
                clear hd hk
                go_step
                exact ⟨_, rfl, rfl, Upd.refl _ _⟩
              case inr.inr.inl =>
                refine .inl ⟨by simp [Region.wanted], ?_⟩
                have e0 : b'.tmps[240]?.getD undef = .int .u64 chain := by have := (show b'.tmps.getD 240 undef = .int .u64 chain from hd ⟨0, .data⟩ (by simp) rfl); simpa using this
                have e1 : b'.tmps[241]?.getD undef = .slice a3 n3 c3 := by have := (show b'.tmps.getD 241 undef = .slice a3 n3 c3 from hd ⟨1, .data⟩ (by simp) rfl); simpa using this
                clear hd hk
                go_step
                refine (viewOf_any w1' chain _ _ (HTR.out.ext HW1.out) HRL.out HRB.out (HE9.out.ext HW1.out)).mono ?_
                rintro e w2 ⟨t', rfl, ht', hu⟩
                rw [rest_floor' HF.out] at ht' ⊢
                obtain rfl : t' = t := rest_tail' HF.out HT.out ht'
                exact ⟨_, rfl, rfl, hu⟩
              case inr.inr.inr.inl =>
                refine .inl ⟨by simp [Region.wanted], ?_⟩
                have o9 : b'.eval (.tmp 9) = .pointer (some ⟨gv, 0, none⟩) := by
                  have := hk 9 (fun j oj _ e => (ystDst_ne (by decide) e).elim)
                  simpa [Act.eval] using this
                have hg := HW1.out.at_ HV9.out id
                exact wp_load_mid (w := w1') 24 (.tmp 9) rfl gv 0 o9 [.int .u64 chain, .int .u64 f, .int .u64 t] _ (fun j u hj => by have := cellAt hg j u (by simpa using hj); simpa using this) Tryz.underlying24 rfl (by kernel_rfl) ⟨_, rfl, rfl, Upd.refl _ _⟩
              case inr.inr.inr.inr.inl =>
                refine .inl ⟨by simp [Region.wanted], ?_⟩
                have e2 : b'.tmps[242]?.getD undef = .agg #[.int .u64 chain, .int .u64 f, .int .u64 t] := by have := (show b'.tmps.getD 242 undef = .agg #[.int .u64 chain, .int .u64 f, .int .u64 t] from hd ⟨2, .data⟩ (by simp) rfl); simpa using this
                have e3 : b'.tmps[243]?.getD undef = .agg #[.int .u64 chain, .int .u64 f, .int .u64 t] := by have := (show b'.tmps.getD 243 undef = .agg #[.int .u64 chain, .int .u64 f, .int .u64 t] from hd ⟨3, .data⟩ (by simp) rfl); simpa using this
                clear hd hk
                go_step
                exact ⟨_, rfl, rfl, Upd.refl _ _⟩
              case inr.inr.inr.inr.inr.inl =>
                refine .inl ⟨by simp [Region.wanted], ?_⟩
                have e4 : b'.tmps[244]?.getD undef = .bool true := by have := (show b'.tmps.getD 244 undef = .bool true from hd ⟨4, .data⟩ (by simp) rfl); simpa using this
                clear hd hk
                go_step
                exact ⟨_, rfl, rfl, Upd.refl _ _⟩
              case inr.inr.inr.inr.inr.inr.inl =>
                refine .inl ⟨by
                  have := tmp_some (show b'.tmps.getD 245 undef = .bool true from hd ⟨5, .guard⟩ (by simp) rfl)
                  simp [Region.wanted, yielded, this], ?_⟩
                have o9 : b'.eval (.tmp 9) = .pointer (some ⟨gv, 0, none⟩) := by
                  have := hk 9 (fun j oj _ e => (ystDst_ne (by decide) e).elim)
                  simpa [Act.eval] using this
                have hg := HW1.out.at_ HV9.out id
                exact wp_load_mid (w := w1') 24 (.tmp 9) rfl gv 0 o9 [.int .u64 chain, .int .u64 f, .int .u64 t] _ (fun j u hj => by have := cellAt hg j u (by simpa using hj); simpa using this) Tryz.underlying24 rfl (by kernel_rfl) ⟨_, rfl, rfl, Upd.refl _ _⟩
              case inr.inr.inr.inr.inr.inr.inr.inl =>
                refine .inl ⟨by
                  have := tmp_some (show b'.tmps.getD 245 undef = .bool true from hd ⟨5, .guard⟩ (by simp) rfl)
                  simp [Region.wanted, yielded, this], ?_⟩
                have o6 : b'.eval (.tmp 6) = .pointer (some ⟨gk, 0, none⟩) := by
                  have := hk 6 (fun j oj _ e => (ystDst_ne (by decide) e).elim)
                  simpa [Act.eval] using this
                have hg := HW1.out.at_ HK9.out id
                exact wp_load_mid (w := w1') 28 (.tmp 6) rfl gk 0 o6 [a, b, c] _ (fun j u hj => by have := cellAt hg j u (by simpa using hj); simpa using this) Tryz.underlying28 rfl (by kernel_rfl) ⟨_, rfl, rfl, Upd.refl _ _⟩
              case inr.inr.inr.inr.inr.inr.inr.inr.inl =>
                refine .inl ⟨by
                  have := tmp_some (show b'.tmps.getD 245 undef = .bool true from hd ⟨5, .guard⟩ (by simp) rfl)
                  simp [Region.wanted, yielded, this], ?_⟩
                have o15 : b'.tmps[15]?.getD undef = .slice a3 n3 c3 := by
                  have := hk 15 (fun j oj _ e => (ystDst_ne (by decide) e).elim)
                  simpa using this
                clear hd hk
                go_step
                exact ⟨_, rfl, rfl, Upd.refl _ _⟩
              case inr.inr.inr.inr.inr.inr.inr.inr.inr.inl =>
                refine .inl ⟨by
                  have := tmp_some (show b'.tmps.getD 245 undef = .bool true from hd ⟨5, .guard⟩ (by simp) rfl)
                  simp [Region.wanted, yielded, this], ?_⟩
                have e6 : b'.tmps[246]?.getD undef = .agg #[.int .u64 chain, .int .u64 f, .int .u64 t] := by have := (show b'.tmps.getD 246 undef = .agg #[.int .u64 chain, .int .u64 f, .int .u64 t] from hd ⟨6, .data⟩ (by simp) rfl); simpa using this
                have e7 : b'.tmps[247]?.getD undef = .agg #[a, b, c] := by have := (show b'.tmps.getD 247 undef = .agg #[a, b, c] from hd ⟨7, .data⟩ (by simp) rfl); simpa using this
                have e8 : b'.tmps[248]?.getD undef = .slice a3 n3 c3 := by have := (show b'.tmps.getD 248 undef = .slice a3 n3 c3 from hd ⟨8, .data⟩ (by simp) rfl); simpa using this
                clear hd hk
                go_step
                refine (left_any w1' a b c _ k ⟨chain, f, t⟩ _ (HKI9.out.ext HW1.out) (HTR.out.ext HW1.out) HRL.out HRB.out (HE9.out.ext HW1.out)).mono ?_
                rintro e w2 ⟨v', rfl, ho, hu⟩
                rw [rest_left] at ho
                exact ⟨_, rfl, RowNil.of ho, hu⟩
              case inr.inr.inr.inr.inr.inr.inr.inr.inr.inr.inl =>
                refine .inl ⟨by
                  have := tmp_some (show b'.tmps.getD 245 undef = .bool true from hd ⟨5, .guard⟩ (by simp) rfl)
                  simp [Region.wanted, yielded, this], ?_⟩
                have h9 := hd ⟨9, .data⟩ (by simp) rfl
                have h9 : RowNil (b'.tmps.getD 249 undef) w1' := h9
                obtain ⟨u249, hu249⟩ : ∃ u, u = b'.tmps[249]?.getD undef := ⟨_, rfl⟩
                rw [show b'.tmps.getD 249 undef = u249 by rw [hu249]; simp] at h9
                have e249 : b'.tmps[249]?.getD undef = u249 := hu249.symm
                clear hu249
                obtain ⟨a9, c9, rfl⟩ := h9
                clear hd hk
                go_step
                exact ⟨_, rfl, rfl, Upd.refl _ _⟩
              case inr.inr.inr.inr.inr.inr.inr.inr.inr.inr.inr.inl =>
                refine .inl ⟨by
                  have := tmp_some (show b'.tmps.getD 245 undef = .bool true from hd ⟨5, .guard⟩ (by simp) rfl)
                  simp [Region.wanted, yielded, this], ?_⟩
                have e10 : b'.tmps[250]?.getD undef = .int .i64 0 := by have := (show b'.tmps.getD 250 undef = .int .i64 0 from hd ⟨10, .data⟩ (by simp) rfl); simpa using this
                clear hd hk
                go_step
                exact ⟨_, rfl, rfl, Upd.refl _ _⟩
              case inr.inr.inr.inr.inr.inr.inr.inr.inr.inr.inr.inr.inl =>
                refine .inl ⟨by simp [Region.wanted], ?_⟩
                have e5 : b'.tmps[245]?.getD undef = .bool true := by have := (show b'.tmps.getD 245 undef = .bool true from hd ⟨5, .data⟩ (by simp) rfl); simpa using this
                have e11 : b'.tmps[251]?.getD undef = .bool true := by have := (show b'.tmps.getD 251 undef = .bool true from hd ⟨11, .data⟩ (by simp) rfl); simpa using this
                clear hd hk
                go_step
                exact ⟨_, rfl, rfl, Upd.refl _ _⟩
              case inr.inr.inr.inr.inr.inr.inr.inr.inr.inr.inr.inr.inr.inl =>
                refine .inl ⟨by simp [Region.wanted], ?_⟩
                have e12 : b'.tmps[252]?.getD undef = .bool true := by have := (show b'.tmps.getD 252 undef = .bool true from hd ⟨12, .data⟩ (by simp) rfl); simpa using this
                clear hd hk
                go_step
                exact ⟨_, rfl, rfl, Upd.refl _ _⟩
              case inr.inr.inr.inr.inr.inr.inr.inr.inr.inr.inr.inr.inr.inr.inl =>
                refine .inl ⟨by
                  have := tmp_some (show b'.tmps.getD 253 undef = .bool true from hd ⟨13, .guard⟩ (by simp) rfl)
                  simp [Region.wanted, yielded, this], ?_⟩
                clear hd hk
                go_step
                refine (works_any w1').mono ?_
                rintro e w2 ⟨rfl, hu⟩
                exact ⟨_, rfl, rfl, hu⟩
              case inr.inr.inr.inr.inr.inr.inr.inr.inr.inr.inr.inr.inr.inr.inr.inl =>
                refine .inl ⟨by simp [Region.wanted], ?_⟩
                have e13 : b'.tmps[253]?.getD undef = .bool true := by have := (show b'.tmps.getD 253 undef = .bool true from hd ⟨13, .data⟩ (by simp) rfl); simpa using this
                have e14 : b'.tmps[254]?.getD undef = .bool true := by have := (show b'.tmps.getD 254 undef = .bool true from hd ⟨14, .data⟩ (by simp) rfl); simpa using this
                clear hd hk
                go_step
                exact ⟨_, rfl, rfl, Upd.refl _ _⟩
              case inr.inr.inr.inr.inr.inr.inr.inr.inr.inr.inr.inr.inr.inr.inr.inr =>
                refine .inl ⟨by simp [Region.wanted], ?_⟩
                have e15 : b'.tmps[255]?.getD undef = .bool true := by have := (show b'.tmps.getD 255 undef = .bool true from hd ⟨15, .data⟩ (by simp) rfl); simpa using this
                clear hd hk
                go_step
                exact ⟨_, rfl, rfl, Upd.refl _ _⟩
            · intro v w1' hx1' hp
              have h16 : v 16 = .bool true := hp 16 (by decide)
              have HX8 := Lib.hid (HXE.out.trans hx1')
              clear hp hx1'
              simp only [List.size_toArray, List.length_cons, List.length_nil, Nat.reduceAdd, fillAll, ystDst]
              go_simp
              go_wp2
              go_ret
              exact ⟨rfl, HX8.out⟩
end Go.Proofs.YtfpioijfocmfcaaGreatDoor
