/-
  CONTRACTS of compact.Marks and of the reference's. No condition.
-/
import Derived.Test.YtkelnieipjgcoaaGreatDoorKRow
import Derived.Deep.RegionLaw
import Derived.Deep.CutRange
namespace Go.Proofs.YtkelnieipjgcoaaGreatDoor
open Go.RowKit

theorem Tryz.rmarksT : SliceT Tryz.prog 46 50 3 24 := sliceT_of Tryz.underlying46 (by kernel_rfl) (by decide)
set_option maxRecDepth 100000 in
set_option maxHeartbeats 4000000 in
theorem rmarks_any {S : Nat → Prop} (w : World) (v : Value) (l : List Mk) (h : MkRow S w v l) (hl : l.length ≤ 1000000) :
    Calls Tryz.prog 13 #[v] w fun e w' => ∃ v', e = .returned v' ∧ w'.ownsRow w.heap.size 50 3 v' l.length (flatM l) ∧ Ext w w' := by
  have HR := Lib.hid h
  obtain ⟨ad, cp, rfl, hlc, hm, -⟩ := h
  unfold maxLen at hm
  obtain ⟨B, hB⟩ : ∃ B, B = w.heap.size := ⟨_, rfl⟩
  have HB := Lib.hid hB
  rw [← hB]
  clear hB
  go_enter Tryz.func13, Tryz.ntmps13
  go_wp2
  go_loopw [3, 4] (fun u t wr => ∃ n : Nat, n ≤ l.length ∧ t = .int .i64 n ∧ wr.ownsRow B 50 3 u n (flatM (l.take n)) ∧ Ext w wr) (fun _ t _ => l.length - (intOf t).toNat)
  case atStart => exact ⟨0, Nat.zero_le _, rfl, by rw [List.take_zero]; exact World.ownsRow_nil _ _ _ _, Upd.refl _ _⟩
  case round =>
    obtain ⟨n, hn, rfl, hown, hx⟩ := hrel
    obtain ⟨a3, c3, rfl⟩ := ownsFormN hown
    by_cases hlt : n < l.length
    · obtain ⟨b1, o1, c1, e1, -, -, -, hq⟩ := (HR.out.ext hx).addr (by omega)
      cases e1
      have hsn : l.take (n + 1) = l.take n ++ [l[n]] := List.take_succ_eq_append_getElem hlt
      have d0 := mk_cells hq hlt 0 _ rfl
      have d1 := mk_cells hq hlt 1 _ rfl
      have d2 := mk_cells hq hlt 2 _ rfl
      generalize l[n] = z at hsn d0 d1 d2
      have HSN := Lib.hid hsn
      have HX := Lib.hid hx
      have HOWN := Lib.hid hown
      simp only [Nat.add_zero] at d0
      have hlit := (hown.alloc (.cells #[.int .u64 z.proc, .int .u64 z.inc, .int .u64 z.k] 50)).drew
      have hsrc := (row_new wr #[.int .u64 z.proc, .int .u64 z.inc, .int .u64 z.k] 50 1 wr.heap.size (by decide) rfl).upd (Upd.refl Nothing _).drew (fun _ _ e => e)
      have hbase : B ≤ (wr.alloc (.cells #[.int .u64 z.proc, .int .u64 z.inc, .int .u64 z.k] 50)).drew.heap.size := Nat.le_trans (by have := HB.out; have := hx.size; omega) (le_drew_alloc _ _)
      have hone : OneCells (#[.int .u64 z.proc, .int .u64 z.inc, .int .u64 z.k] : Array Value).toList := encM_one z
      have q4 : n + 1 ≤ maxLen := by unfold maxLen; omega
      have q5 : (n + 1) * 24 ≤ 140737488355328 := by omega
      clear hq hsn hx hown
      go_wp2_with fail
      go_region_law (refine step_append_row (by rfl) (.tmp 11) (.tmp 28) 46 (by rfl) Tryz.rmarksT hlit hsrc (by rfl) (by rfl) (by rfl) hone (by decide) q4 q5 hbase ?_; intro v6 w6 hown6 hg6)
      all_goals
        have hx6 := ((HX.out.alloc (.cells #[.int .u64 z.proc, .int .u64 z.inc, .int .u64 z.k] 50)).drew).grown hg6 (fun j hj h => by have := (HOWN.out.lt j hj).1; have := HB.out; omega)
        have HX6 := Lib.hid hx6
        have HO6 := Lib.hid hown6
        clear hx6 hown6 hg6
        go_wp2
        go_roundw
        case rel =>
          refine ⟨n + 1, by omega, by go_num, ?_, HX6.out⟩
          rw [HSN.out, flatM_append, flatM_one]
          exact HO6.out
        case measure => simp [intOf]; omega
    · have hnl : n = l.length := by omega
      rw [hnl, List.take_length] at hown
      have HOWN := Lib.hid hown
      have HX := Lib.hid hx
      clear hown hx
      go_wp2
      go_ret
      exact ⟨_, rfl, by simpa [hnl] using HOWN.out, HX.out⟩
theorem Tryz.vmarksT : SliceT Tryz.prog 44 49 3 24 := sliceT_of Tryz.underlying44 (by kernel_rfl) (by decide)
set_option maxRecDepth 100000 in
set_option maxHeartbeats 4000000 in
theorem cmarks_any {S : Nat → Prop} (w : World) (v : Value) (l : List Mk) (h : MkRow S w v l) (hl : l.length ≤ 1000000) :
    Calls Tryz.prog 12 #[v] w fun e w' => ∃ v', e = .returned v' ∧ w'.ownsRow w.heap.size 49 3 v' l.length (flatM l) ∧ Ext w w' := by
  have HR := Lib.hid h
  obtain ⟨ad, cp, rfl, hlc, hm, -⟩ := h
  unfold maxLen at hm
  obtain ⟨B, hB⟩ : ∃ B, B = w.heap.size := ⟨_, rfl⟩
  have HB := Lib.hid hB
  rw [← hB]
  clear hB
  go_enter Tryz.func12, Tryz.ntmps12
  go_wp2
  go_loopw [3, 8] (fun u t wr => ∃ n : Nat, n ≤ l.length ∧ t = .int .i64 n ∧ wr.ownsRow B 49 3 u n (flatM (l.take n)) ∧ Ext w wr) (fun _ t _ => l.length - (intOf t).toNat)
  case atStart => exact ⟨0, Nat.zero_le _, rfl, by rw [List.take_zero]; exact World.ownsRow_nil _ _ _ _, Upd.refl _ _⟩
  case round =>
    obtain ⟨n, hn, rfl, hown, hx⟩ := hrel
    obtain ⟨a3, c3, rfl⟩ := ownsFormN hown
    by_cases hlt : n < l.length
    · obtain ⟨b1, o1, c1, e1, -, -, -, hq⟩ := (HR.out.ext hx).addr (by omega)
      cases e1
      have hsn : l.take (n + 1) = l.take n ++ [l[n]] := List.take_succ_eq_append_getElem hlt
      have d0 := mk_cells hq hlt 0 _ rfl
      have d1 := mk_cells hq hlt 1 _ rfl
      have d2 := mk_cells hq hlt 2 _ rfl
      generalize l[n] = z at hsn d0 d1 d2
      have HSN := Lib.hid hsn
      have HX := Lib.hid hx
      have HOWN := Lib.hid hown
      simp only [Nat.add_zero] at d0
      clear hq hsn hx hown
      go_upto_region 5 with (fail)
      obtain ⟨wb, hwb⟩ : ∃ u, u = wr.alloc (.cells #[.int .u64 z.proc, .int .u64 z.inc, .int .u64 z.k] 42) := ⟨_, rfl⟩
      rw [← hwb]
      have HXB := Lib.hid (show Ext w wb from HX.out.trans (by rw [hwb]; exact (Upd.refl _ _).alloc _))
      have hB5 : wb.heap[wr.heap.size]? = some (.cells #[.int .u64 z.proc, .int .u64 z.inc, .int .u64 z.k] 42 (0, 0)) := by rw [hwb]; exact newAt _ _
      have c0 := cellAt hB5 0 _ rfl
      have c1' := cellAt hB5 1 _ rfl
      have c2 := cellAt hB5 2 _ rfl
      have HO5 := Lib.hid (show wb.ownsRow B 49 3 (.slice a3 n c3) n (flatM (l.take n)) by rw [hwb]; exact HOWN.out.alloc _)
      clear hwb HX HOWN d0 d1 d2 hB5
      go_wp2_with (at_builtin; go_must (refine wpList_append_row rfl _ _ _ rfl Tryz.vmarksT rfl (HO5.out.alloc _) rfl (row_new _ _ _ 1 _ (by decide) (by simp)) rfl (encM_one z) ?c3 ?c4 ?c5 ?_))
      case c3 => unfold maxLen; omega
      case c4 => omega
      case c5 => have := HXB.out.size; have := HB.out; first | omega | (simp; omega)
      intro v6 w6 hown6 hg6 _
      have hx6 : Ext w w6 := (HXB.out.alloc _).grown hg6 (fun j hj h => by have := (HO5.out.lt j hj).1; have := HB.out; omega)
      have HX6 := Lib.hid hx6
      have HO6 := Lib.hid hown6
      clear hx6 hown6 hg6
      go_wp2
      go_roundw
      case rel =>
        refine ⟨n + 1, by omega, by go_num, ?_, HX6.out⟩
        rw [HSN.out, flatM_append, flatM_one]
        exact HO6.out
      case measure => simp [intOf]; omega
    · have hnl : n = l.length := by omega
      rw [hnl, List.take_length] at hown
      have HOWN := Lib.hid hown
      have HX := Lib.hid hx
      clear hown hx
      go_wp2
      go_ret
      exact ⟨_, rfl, by simpa [hnl] using HOWN.out, HX.out⟩
end Go.Proofs.YtkelnieipjgcoaaGreatDoor
