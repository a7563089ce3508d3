/-
  CONTRACT of mend.Needed. No condition.
-/
import Derived.Test.YtcfmohjffnpfpaaGreatDoorQRow
import Derived.Deep.RegionLaw
import Derived.Deep.CutRange
import Derived.WalkMore
namespace Go.Proofs.YtcfmohjffnpfpaaGreatDoor
open Go.RowKit

theorem Tryz.vmarksT : SliceT Tryz.prog 25 34 3 24 := sliceT_of Tryz.underlying25 (by kernel_rfl) (by decide)
set_option maxRecDepth 100000 in
set_option maxHeartbeats 4000000 in
theorem mneed_any {S : Nat → Prop} (w : World) (v : Value) (l : List Vn) (h : VRow S w v l) (hl : l.length ≤ 1000000) :
    Calls Tryz.prog 5 #[v] w fun e w' => ∃ v', e = .returned v' ∧ w'.ownsRow w.heap.size 34 3 v' (needV l).length (flatM (needV l)) ∧ Ext w w' := by
  have HR := Lib.hid h
  obtain ⟨ad, cp, rfl, hlc, hm, -⟩ := h
  unfold maxLen at hm
  obtain ⟨B, hB⟩ : ∃ B, B = w.heap.size := ⟨_, rfl⟩
  have HB := Lib.hid hB
  rw [← hB]
  clear hB
  go_enter Tryz.func5, Tryz.ntmps5
  go_wp2
  go_step3
  go_wp2
  go_step3
  go_wp2
  go_loopw [2, 7] (fun u t wr => ∃ n : Nat, n ≤ l.length ∧ t = .int .i64 n ∧ wr.ownsRow B 34 3 u (needV (l.take n)).length (flatM (needV (l.take n))) ∧ Ext w wr) (fun _ t _ => l.length - (intOf t).toNat)
  case atStart => exact ⟨0, Nat.zero_le _, rfl, by rw [List.take_zero]; exact World.ownsRow_nil _ _ _ _, Upd.refl _ _⟩
  case round =>
    obtain ⟨n, hn, rfl, hown, hx⟩ := hrel
    obtain ⟨a3, c3, rfl⟩ := ownsFormN hown
    by_cases hlt : n < l.length
    · obtain ⟨b1, o1, c1, e1, -, -, -, hq⟩ := (HR.out.ext hx).addr (by omega)
      cases e1
      have hsn : l.take (n + 1) = l.take n ++ [l[n]] := List.take_succ_eq_append_getElem hlt
      have hnd := needV_snoc (l.take n) l[n]
      rw [← hsn] at hnd
      have hnl : (needV (l.take n)).length ≤ 1000000 := Nat.le_trans (needV_length _) (by simp; omega)
      have d0 := v_cells hq hlt 0 _ rfl
      have d1 := v_cells hq hlt 1 _ rfl
      have d2 := v_cells hq hlt 2 _ rfl
      have d3 := v_cells hq hlt 3 _ rfl
      have d4 := v_cells hq hlt 4 _ rfl
      have d5 := v_cells hq hlt 5 _ rfl
      have d6 := v_cells hq hlt 6 _ rfl
      have d7 := v_cells hq hlt 7 _ rfl
      have d8 := v_cells hq hlt 8 _ rfl
      have d9 := v_cells hq hlt 9 _ rfl
      generalize l[n] = z at hnd d0 d1 d2 d3 d4 d5 d6 d7 d8 d9
      obtain ⟨rs, hrs⟩ : ∃ rs, rs = needV (l.take n) := ⟨_, rfl⟩
      rw [← hrs] at hnd hnl hown
      have HND := Lib.hid hnd
      have HNL := Lib.hid hnl
      have HX := Lib.hid hx
      have HOWN := Lib.hid hown
      have HRS := Lib.hid hrs
      simp only [Nat.add_zero] at d0
      clear hq hsn hx hown hnd hnl
      rw [← hrs]
      clear hrs
      go_upto_region 4 with (fail)
      obtain ⟨wb, hwb⟩ : ∃ u, u = wr.alloc (.cells #[.int .u64 z.n, .int .u64 z.base, .int .u64 z.proc, .int .u64 z.inc, .int .u64 z.seq, .int .u64 z.size, .int .u64 z.sum, str z.text, .bool z.inl, .bool z.hid] 59) := ⟨_, rfl⟩
      rw [← hwb]
      have HXB := Lib.hid (show Ext w wb from HX.out.trans (by rw [hwb]; exact (Upd.refl _ _).alloc _))
      have hB5 : wb.heap[wr.heap.size]? = some (.cells #[.int .u64 z.n, .int .u64 z.base, .int .u64 z.proc, .int .u64 z.inc, .int .u64 z.seq, .int .u64 z.size, .int .u64 z.sum, str z.text, .bool z.inl, .bool z.hid] 59 (0, 0)) := by rw [hwb]; exact newAt _ _
      have q2 := cellAt hB5 2 _ rfl
      have q3 := cellAt hB5 3 _ rfl
      have q4 := cellAt hB5 4 _ rfl
      have q8 := cellAt hB5 8 _ rfl
      have HO5 := Lib.hid (show wb.ownsRow B 34 3 (.slice a3 rs.length c3) rs.length (flatM rs) by rw [hwb]; exact HOWN.out.alloc _)
      clear hwb HX HOWN d0 d1 d2 d3 d4 d5 d6 d7 d8 d9 hB5
      cases hi : z.inl with
      | true =>
        rw [hi] at q8
        go_wp2
        go_roundw
        case rel =>
          refine ⟨n + 1, by omega, by go_num, ?_, HXB.out⟩
          rw [HND.out, hi]
          exact HO5.out
        case measure => simp [intOf]; omega
      | false =>
        rw [hi] at q8
        go_wp2_with (at_builtin; go_must (refine wpList_append_row rfl _ _ _ rfl Tryz.vmarksT rfl (HO5.out.alloc _) rfl (row_new _ _ _ 1 _ (by decide) (by simp)) rfl (encM_one ⟨z.proc, z.inc, z.seq⟩) ?c3 ?c4 ?c5 ?_))
        case c3 => have := HNL.out; unfold maxLen; omega
        case c4 => have := HNL.out; omega
        case c5 => have := HXB.out.size; have := HB.out; first | omega | (simp; omega)
        intro v6 w6 hown6 hg6 _
        have hx6 : Ext w w6 := (HXB.out.alloc _).grown hg6 (fun j hj h => by have := (HO5.out.lt j hj).1; have := HB.out; omega)
        have HX6 := Lib.hid hx6
        have HO6 := Lib.hid hown6
        clear hx6 hown6 hg6
        go_wp2
        go_roundw
        case rel =>
          refine ⟨n + 1, by omega, by go_num, ?_, HX6.out⟩
          rw [HND.out, hi]
          simp only [Bool.false_eq_true, if_false, List.length_append, List.length_singleton, flatM_append, flatM_one]
          exact HO6.out
        case measure => simp [intOf]; omega
    · obtain rfl : n = l.length := by omega
      rw [List.take_length] at hown ⊢
      have HOWN := Lib.hid hown
      have HX := Lib.hid hx
      clear hown hx
      go_wp2
      rw [Exit.noGoto_ret]
      go_ret
      exact ⟨_, rfl, HOWN.out, HX.out⟩
end Go.Proofs.YtcfmohjffnpfpaaGreatDoor
