/-
  CONTRACTS of chartroomdocs.Versions, and of the reference's Needed. No condition.
-/
import Derived.Test.YtcfmohjffnpfpaaGreatDoorQRow
import Derived.Deep.RegionLaw
import Derived.Deep.CutRange
namespace Go.Proofs.YtcfmohjffnpfpaaGreatDoor
open Go.RowKit

theorem Tryz.rversT : SliceT Tryz.prog 29 62 10 80 := sliceT_of Tryz.underlying29 (by kernel_rfl) (by decide)
theorem Tryz.rmarksT : SliceT Tryz.prog 27 33 3 24 := sliceT_of Tryz.underlying27 (by kernel_rfl) (by decide)
set_option maxRecDepth 100000 in
set_option maxHeartbeats 4000000 in
theorem cvers_any {S : Nat → Prop} (w : World) (v : Value) (l : List Vn) (h : VRow S w v l) (hl : l.length ≤ 1000000) :
    Calls Tryz.prog 7 #[v] w fun e w' => ∃ v', e = .returned v' ∧ w'.ownsRow w.heap.size 62 10 v' l.length (flatV l) ∧ Ext w w' := by
  have HR := Lib.hid h
  obtain ⟨ad, cp, rfl, hlc, hm, -⟩ := h
  unfold maxLen at hm
  obtain ⟨B, hB⟩ : ∃ B, B = w.heap.size := ⟨_, rfl⟩
  have HB := Lib.hid hB
  rw [← hB]
  clear hB
  go_enter Tryz.func7, Tryz.ntmps7
  go_wp2
  go_loopw [3, 4] (fun u t wr => ∃ n : Nat, n ≤ l.length ∧ t = .int .i64 n ∧ wr.ownsRow B 62 10 u n (flatV (l.take n)) ∧ Ext w wr) (fun _ t _ => l.length - (intOf t).toNat)
  case atStart => exact ⟨0, Nat.zero_le _, rfl, by rw [List.take_zero]; exact World.ownsRow_nil _ _ _ _, Upd.refl _ _⟩
  case round =>
    obtain ⟨n, hn, rfl, hown, hx⟩ := hrel
    obtain ⟨a3, c3, rfl⟩ := ownsFormN hown
    by_cases hlt : n < l.length
    · obtain ⟨b1, o1, c1, e1, -, -, -, hq⟩ := (HR.out.ext hx).addr (by omega)
      cases e1
      have hsn : l.take (n + 1) = l.take n ++ [l[n]] := List.take_succ_eq_append_getElem hlt
      have d0 := v_cells hq hlt 0 _ rfl
      have d1 := v_cells hq hlt 1 _ rfl
      have d2 := v_cells hq hlt 2 _ rfl
      have d3 := v_cells hq hlt 3 _ rfl
      have d4 := v_cells hq hlt 4 _ rfl
      have d5 := v_cells hq hlt 5 _ rfl
      have d6 := v_cells hq hlt 6 _ rfl
      have d7 := v_cells hq hlt 7 _ rfl
      have d8 := v_cells hq hlt 8 _ rfl
      have d9 := v_cells hq hlt 9 _ rfl
      generalize l[n] = z at hsn d0 d1 d2 d3 d4 d5 d6 d7 d8 d9
      have HSN := Lib.hid hsn
      have HX := Lib.hid hx
      have HOWN := Lib.hid hown
      simp only [Nat.add_zero] at d0
      clear hq hsn hx hown
      go_upto_region 6 with (fail)
      obtain ⟨wb, hwb⟩ : ∃ u, u = wr.alloc (.cells #[.int .u64 z.n, .int .u64 z.base, .int .u64 z.proc, .int .u64 z.inc, .int .u64 z.seq, .int .u64 z.size, .int .u64 z.sum, str z.text, .bool z.inl, .bool z.hid] 59) := ⟨_, rfl⟩
      rw [← hwb]
      have HXB := Lib.hid (show Ext w wb from HX.out.trans (by rw [hwb]; exact (Upd.refl _ _).alloc _))
      have hB5 : wb.heap[wr.heap.size]? = some (.cells #[.int .u64 z.n, .int .u64 z.base, .int .u64 z.proc, .int .u64 z.inc, .int .u64 z.seq, .int .u64 z.size, .int .u64 z.sum, str z.text, .bool z.inl, .bool z.hid] 59 (0, 0)) := by rw [hwb]; exact newAt _ _
      have q0 := cellAt hB5 0 _ rfl
      have q1 := cellAt hB5 1 _ rfl
      have q2 := cellAt hB5 2 _ rfl
      have q3 := cellAt hB5 3 _ rfl
      have q4 := cellAt hB5 4 _ rfl
      have q5 := cellAt hB5 5 _ rfl
      have q6 := cellAt hB5 6 _ rfl
      have q7 := cellAt hB5 7 _ rfl
      have q8 := cellAt hB5 8 _ rfl
      have q9 := cellAt hB5 9 _ rfl
      have HO5 := Lib.hid (show wb.ownsRow B 62 10 (.slice a3 n c3) n (flatV (l.take n)) by rw [hwb]; exact HOWN.out.alloc _)
      clear hwb HX HOWN d0 d1 d2 d3 d4 d5 d6 d7 d8 d9 hB5
      go_wp2_with (at_builtin; go_must (refine wpList_append_row rfl _ _ _ rfl Tryz.rversT rfl (HO5.out.alloc _) rfl (row_new _ _ _ 1 _ (by decide) (by simp)) rfl (encV_one z) ?c3 ?c4 ?c5 ?_))
      case c3 => unfold maxLen; omega
      case c4 => omega
      case c5 => have := HXB.out.size; have := HB.out; first | omega | (simp; omega)
      intro v6 w6 hown6 hg6 _
      have hx6 : Ext w w6 := (HXB.out.alloc _).grown hg6 (fun j hj h => by have := (HO5.out.lt j hj).1; have := HB.out; omega)
      have HX6 := Lib.hid hx6
      have HO6 := Lib.hid hown6
      clear hx6 hown6 hg6
      go_wp2
      go_roundw
      case rel =>
        refine ⟨n + 1, by omega, by go_num, ?_, HX6.out⟩
        rw [HSN.out, flatV_append, flatV_one]
        exact HO6.out
      case measure => simp [intOf]; omega
    · obtain rfl : n = l.length := by omega
      rw [List.take_length] at hown
      have HOWN := Lib.hid hown
      have HX := Lib.hid hx
      clear hown hx
      go_wp2
      go_ret
      exact ⟨_, rfl, HOWN.out, HX.out⟩
set_option maxRecDepth 100000 in
set_option maxHeartbeats 4000000 in
theorem rneed_any {S : Nat → Prop} (w : World) (v : Value) (l : List Vn) (h : VRow S w v l) (hl : l.length ≤ 1000000) :
    Calls Tryz.prog 6 #[v] w fun e w' => ∃ v', e = .returned v' ∧ w'.ownsRow w.heap.size 33 3 v' (needV l).length (flatM (needV l)) ∧ Ext w w' := by
  have HR := Lib.hid h
  obtain ⟨ad, cp, rfl, hlc, hm, -⟩ := h
  unfold maxLen at hm
  obtain ⟨B, hB⟩ : ∃ B, B = w.heap.size := ⟨_, rfl⟩
  have HB := Lib.hid hB
  rw [← hB]
  clear hB
  go_enter Tryz.func6, Tryz.ntmps6
  go_wp2
  go_loopw [3, 4] (fun u t wr => ∃ n : Nat, n ≤ l.length ∧ t = .int .i64 n ∧ wr.ownsRow B 33 3 u (needV (l.take n)).length (flatM (needV (l.take n))) ∧ Ext w wr) (fun _ t _ => l.length - (intOf t).toNat)
  case atStart => exact ⟨0, Nat.zero_le _, rfl, by rw [List.take_zero]; exact World.ownsRow_nil _ _ _ _, Upd.refl _ _⟩
  case round =>
    obtain ⟨n, hn, rfl, hown, hx⟩ := hrel
    obtain ⟨a3, c3, rfl⟩ := ownsFormN hown
    by_cases hlt : n < l.length
    · obtain ⟨b1, o1, c1, e1, -, -, -, hq⟩ := (HR.out.ext hx).addr (by omega)
      cases e1
      have hsn : l.take (n + 1) = l.take n ++ [l[n]] := List.take_succ_eq_append_getElem hlt
      have hnd := needV_snoc (l.take n) l[n]
      rw [← hsn] at hnd
      have hnl : (needV (l.take n)).length ≤ 1000000 := Nat.le_trans (needV_length _) (by simp; omega)
      have d2 := v_cells hq hlt 2 _ rfl
      have d3 := v_cells hq hlt 3 _ rfl
      have d4 := v_cells hq hlt 4 _ rfl
      have d8 := v_cells hq hlt 8 _ rfl
      generalize l[n] = z at hnd d2 d3 d4 d8
      obtain ⟨rs, hrs⟩ : ∃ rs, rs = needV (l.take n) := ⟨_, rfl⟩
      rw [← hrs] at hnd hnl hown ⊢
      have HND := Lib.hid hnd
      have HNL := Lib.hid hnl
      have HX := Lib.hid hx
      have HOWN := Lib.hid hown
      clear hq hsn hx hnd hrs
      cases hi : z.inl with
      | true =>
        rw [hi] at d8
        clear hown hnl
        go_wp2
        go_roundw
        case rel =>
          refine ⟨n + 1, by omega, by go_num, ?_, HX.out⟩
          rw [HND.out, hi]
          exact HOWN.out
        case measure => simp [intOf]; omega
      | false =>
        rw [hi] at d8
        have hlit := (hown.alloc (.cells #[.int .u64 z.proc, .int .u64 z.inc, .int .u64 z.seq] 33)).drew
        have hsrc := (row_new wr #[.int .u64 z.proc, .int .u64 z.inc, .int .u64 z.seq] 33 1 wr.heap.size (by decide) rfl).upd (Upd.refl Nothing _).drew (fun _ _ e => e)
        have hbase : B ≤ (wr.alloc (.cells #[.int .u64 z.proc, .int .u64 z.inc, .int .u64 z.seq] 33)).drew.heap.size := Nat.le_trans (by have := HB.out; have := HX.out.size; omega) (le_drew_alloc _ _)
        have hone : OneCells (#[.int .u64 z.proc, .int .u64 z.inc, .int .u64 z.seq] : Array Value).toList := encM_one ⟨z.proc, z.inc, z.seq⟩
        have q4 : rs.length + 1 ≤ maxLen := by unfold maxLen; omega
        have q5 : (rs.length + 1) * 24 ≤ 140737488355328 := by omega
        clear hown hnl
        go_wp2_with fail
        go_region_law (refine step_append_row (by rfl) (.tmp 17) (.tmp 34) 27 (by rfl) Tryz.rmarksT hlit hsrc (by rfl) (by rfl) (by rfl) hone (by decide) q4 q5 hbase ?_; intro v6 w6 hown6 hg6)
        all_goals
          have hx6 := ((HX.out.alloc (.cells #[.int .u64 z.proc, .int .u64 z.inc, .int .u64 z.seq] 33)).drew).grown hg6 (fun j hj h => by have := (HOWN.out.lt j hj).1; have := HB.out; omega)
          have HX6 := Lib.hid hx6
          have HO6 := Lib.hid hown6
          clear hx6 hown6 hg6
          go_wp2
          go_roundw
          case rel =>
            refine ⟨n + 1, by omega, by go_num, ?_, HX6.out⟩
            rw [HND.out, hi]
            simp only [Bool.false_eq_true, if_false, List.length_append, List.length_singleton, flatM_append, flatM_one]
            exact HO6.out
          case measure => simp [intOf]; omega
    · obtain rfl : n = l.length := by omega
      rw [List.take_length] at hown ⊢
      have HOWN := Lib.hid hown
      have HX := Lib.hid hx
      clear hown hx
      go_wp2
      go_ret
      exact ⟨_, rfl, HOWN.out, HX.out⟩
end Go.Proofs.YtcfmohjffnpfpaaGreatDoor
