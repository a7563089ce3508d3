/-
  CONTRACT of the law CompactNone: whatever lives and result are handed in, it answers true. No condition.
-/
import Derived.Test.YtkelnieipjgcoaaGreatDoorKMarks
import Derived.Test.YtkelnieipjgcoaaGreatDoorEvRun26
import Derived.Laws.StructEq
import Derived.BigQuiet
namespace Go.Proofs.YtkelnieipjgcoaaGreatDoor
open Go.RowKit

theorem Tryz.rwhoT : SliceT Tryz.prog 39 43 3 24 := sliceT_of Tryz.underlying39 (by kernel_rfl) (by decide)
set_option maxRecDepth 100000 in
set_option maxHeartbeats 4000000 in
theorem compactNone_any {S' : Nat → Prop} (w : World) (nv x0 x1 x2 : Value) (l : List Mk) (hr : MkRow S' w nv l) :
    Calls Tryz.prog 3 #[nv, .agg #[x0, x1, x2]] w fun e w' => e = .returned (.bool true) ∧ Ext w w' := by
  obtain ⟨w2, hw2⟩ : ∃ u, u = w.alloc (.cells #[x0, x1, x2] 27) := ⟨_, rfl⟩
  have hx2 : Ext w w2 := by rw [hw2]; exact (Upd.refl _ _).alloc _
  obtain ⟨gk, hgk⟩ : ∃ g, g = w.heap.size := ⟨_, rfl⟩
  have HK := Lib.hid (show w2.heap[gk]? = some (.cells #[x0, x1, x2] 27 (0, 0)) by rw [hw2, hgk]; exact newAt _ _)
  have HR := Lib.hid ((hr.mono (T := fun _ => True) (fun _ _ => trivial)).ext hx2)
  have HX2 := Lib.hid hx2
  have HW2 := Lib.hid hw2
  have HGK := Lib.hid hgk
  clear hr hx2 hw2 hgk
  obtain ⟨ad, cp, rfl, hlc, hm, -⟩ := HR.out
  unfold maxLen at hm
  have b0 := cellAt HK.out 0 _ rfl
  have b1 := cellAt HK.out 1 _ rfl
  have b2 := cellAt HK.out 2 _ rfl
  go_enter Tryz.func3, Tryz.ntmps3
  by_cases hbig : 50 < l.length
  · have g1 : ((l.length : Int) > 50) := by omega
    go_wp2_with (go_at_call 4; fail)
    rw [show w.alloc (.cells #[x0, x1, x2] 27) = w2 from HW2.out.symm]
    refine (works_any _).mono ?_
    rintro e w4 ⟨rfl, hx4⟩
    go_wp2
    go_ret
    exact ⟨rfl, HX2.out.trans hx4⟩
  · have g1 : ¬ ((l.length : Int) > 50) := by omega
    have HLN := Lib.hid (show l.length ≤ 50 by omega)
    go_upto_region 4 with (fail)
    rw [show w.alloc (.cells #[x0, x1, x2] 27) = w2 from HW2.out.symm, show w.heap.size = gk from HGK.out.symm]
    go_wp2_with (go_at_call 5; fail)
    refine (feed_any _ x0 x1 x2).mono ?_
    rintro e w3 ⟨rfl, hx3⟩
    have HX3 := Lib.hid (HX2.out.trans hx3)
    replace HR := Lib.hid (HR.out.ext hx3)
    clear hx3 b0 b1 b2 HK HW2 HGK HX2
    go_wp2_with (go_at_call 6; fail)
    refine (next_any _).mono ?_
    rintro e w4 ⟨rfl, hx4⟩
    obtain ⟨w5, hw5⟩ : ∃ u, u = w4.alloc (.cells #[.int .u8 0, str [], str [], .slice none 0 0] 32) := ⟨_, rfl⟩
    have hx5 : Ext w4 w5 := by rw [hw5]; exact (Upd.refl _ _).alloc _
    obtain ⟨gc, hgc⟩ : ∃ g, g = w4.heap.size := ⟨_, rfl⟩
    have HC := Lib.hid (show w5.heap[gc]? = some (.cells #[.int .u8 0, str [], str [], .slice none 0 0] 32 (0, 0)) by rw [hw5, hgc]; exact newAt _ _)
    have hx45 := hx4.trans hx5
    have HX5 := Lib.hid (HX3.out.trans hx45)
    replace HR := Lib.hid (HR.out.ext hx45)
    have HW5 := Lib.hid hw5
    have HGC := Lib.hid hgc
    clear hx4 hx5 hw5 hgc hx45 HX3
    go_upto_region 6 with (fail)
    rw [← HW5.out, ← HGC.out]
    have c0 := cellAt HC.out 0 _ rfl
    go_wp2_with (go_at_call 7; fail)
    refine (done_any _).mono ?_
    rintro e w6 ⟨rfl, hx6⟩
    have HX6 := Lib.hid (HX5.out.trans hx6)
    replace HR := Lib.hid (HR.out.ext hx6)
    clear hx6 HX5 c0 HC HW5 HGC
    go_wp2_with (go_at_call 8; fail)
    refine (err_any _).mono ?_
    rintro e w7 ⟨rfl, hx7⟩
    have HX7 := Lib.hid (HX6.out.trans hx7)
    replace HR := Lib.hid (HR.out.ext hx7)
    clear hx7 HX6
    go_wp2_with (go_at_call 9; fail)
    refine (linked_any _).mono ?_
    rintro e w8 ⟨rfl, hx8⟩
    have HX8 := Lib.hid (HX7.out.trans hx8)
    replace HR := Lib.hid (HR.out.ext hx8)
    clear hx8 HX7
    go_wp2_with (go_at_call 11; fail)
    refine (new_any _).mono ?_
    rintro e w9 ⟨fv, rfl, hx9⟩
    have HX9 := Lib.hid (HX8.out.trans hx9)
    replace HR := Lib.hid (HR.out.ext hx9)
    clear hx9 HX8
    go_wp2_with (go_at_call 10; fail)
    refine (solo_any _ fv).mono ?_
    rintro e w10 ⟨rfl, hx10⟩
    have HX10 := Lib.hid (HX9.out.trans hx10)
    replace HR := Lib.hid (HR.out.ext hx10)
    clear hx10 HX9
    obtain ⟨B, hB⟩ : ∃ B, B = w10.heap.size := ⟨_, rfl⟩
    have HB := Lib.hid hB
    clear hB
    go_wp2
    go_loopw [8, 9] (fun u t wr => ∃ n : Nat, n ≤ l.length ∧ t = .int .i64 n ∧ wr.ownsRow B 43 3 u n (flatM (l.take n)) ∧ Ext w10 wr) (fun _ t _ => l.length - (intOf t).toNat)
    case atStart => exact ⟨0, Nat.zero_le _, rfl, by rw [List.take_zero]; exact World.ownsRow_nil _ _ _ _, Upd.refl _ _⟩
    case round =>
      obtain ⟨n, hn, rfl, hown, hx⟩ := hrel
      obtain ⟨a3, c3, rfl⟩ := ownsFormN hown
      by_cases hlt : n < l.length
      · obtain ⟨b1, o1, c1, e1, -, -, -, hq⟩ := (HR.out.ext hx).addr (by omega)
        cases e1
        have hsn : l.take (n + 1) = l.take n ++ [l[n]] := List.take_succ_eq_append_getElem hlt
        have d0 := mk_cells hq hlt 0 _ rfl
        have d1 := mk_cells hq hlt 1 _ rfl
        have d2 := mk_cells hq hlt 2 _ rfl
        generalize l[n] = z at hsn d0 d1 d2
        have HSN := Lib.hid hsn
        have HX := Lib.hid hx
        have HOWN := Lib.hid hown
        simp only [Nat.add_zero] at d0
        have hlit := (hown.alloc (.cells #[.int .u64 z.proc, .int .u64 z.inc, .int .u64 z.k] 43)).drew
        have hsrc := (row_new wr #[.int .u64 z.proc, .int .u64 z.inc, .int .u64 z.k] 43 1 wr.heap.size (by decide) rfl).upd (Upd.refl Nothing _).drew (fun _ _ e => e)
        have hbase : B ≤ (wr.alloc (.cells #[.int .u64 z.proc, .int .u64 z.inc, .int .u64 z.k] 43)).drew.heap.size := Nat.le_trans (by have := HB.out; have := hx.size; omega) (le_drew_alloc _ _)
        have hone : OneCells (#[.int .u64 z.proc, .int .u64 z.inc, .int .u64 z.k] : Array Value).toList := encM_one z
        have q4 : n + 1 ≤ maxLen := by unfold maxLen; omega
        have q5 : (n + 1) * 24 ≤ 140737488355328 := by omega
        clear hq hsn hx hown
        go_wp2_with fail
        go_region_law (refine step_append_row (by rfl) (.tmp 57) (.tmp 74) 39 (by rfl) Tryz.rwhoT hlit hsrc (by rfl) (by rfl) (by rfl) hone (by decide) q4 q5 hbase ?_; intro v6 w6 hown6 hg6)
        all_goals
          have hx6 := ((HX.out.alloc (.cells #[.int .u64 z.proc, .int .u64 z.inc, .int .u64 z.k] 43)).drew).grown hg6 (fun j hj h => by have := (HOWN.out.lt j hj).1; have := HB.out; omega)
          have HX6 := Lib.hid hx6
          have HO6 := Lib.hid hown6
          clear hx6 hown6 hg6
          go_wp2
          go_roundw
          case rel =>
            refine ⟨n + 1, by omega, by go_num, ?_, HX6.out⟩
            rw [HSN.out, flatM_append, flatM_one]
            exact HO6.out
          case measure => simp [intOf]; omega
      · obtain rfl : n = l.length := by omega
        rw [List.take_length] at hown
        have HRW := Lib.hid (show MkRow (From B) wr (.slice a3 l.length c3) l from Row.of_owns hown)
        have HX11 := Lib.hid (HX10.out.trans hx)
        replace HR := Lib.hid (HR.out.ext hx)
        clear hown hx HX10 HB
        go_wp2_with (go_at_call 12; fail)
        refine (cmarks_any _ _ l HR.out (by have := HLN.out; omega)).mono ?_
        rintro e w12 ⟨v12, rfl, ho12, hx12⟩
        have HX12 := Lib.hid (HX11.out.trans hx12)
        replace HRW := Lib.hid (HRW.out.ext hx12)
        have HG := Lib.hid (Row.of_owns ho12)
        obtain ⟨a5, c5, rfl⟩ := ownsFormN ho12
        clear ho12 hx12 HX11 HR
        go_wp2_with (go_at_call 13; fail)
        refine (rmarks_any _ _ l HRW.out (by have := HLN.out; omega)).mono ?_
        rintro e w13 ⟨v13, rfl, ho13, hx13⟩
        have HX13 := Lib.hid (HX12.out.trans hx13)
        replace HG := Lib.hid (HG.out.ext hx13)
        have HW := Lib.hid (Row.of_owns ho13)
        obtain ⟨a6, c6, rfl⟩ := ownsFormN ho13
        clear ho13 hx13 HX12 HRW hn
        go_wp2
        go_loopw [12] (fun t wr => ∃ n : Nat, n ≤ l.length ∧ t = .int .i64 n ∧ Ext w13 wr) (fun t _ => l.length - (intOf t).toNat)
        case atStart => exact ⟨0, Nat.zero_le _, rfl, Upd.refl _ _⟩
        case round =>
          obtain ⟨n, hn, rfl, hx⟩ := hrel
          have HX := Lib.hid hx
          by_cases hlt : n < l.length
          · obtain ⟨b1, o1, c1, e1, -, -, -, hq⟩ := (HG.out.ext hx).addr (by omega)
            cases e1
            obtain ⟨b2, o2, c2, e2, -, -, -, hp⟩ := (HW.out.ext hx).addr (by omega)
            cases e2
            have d0 := mk_cells hq hlt 0 _ rfl
            have d1 := mk_cells hq hlt 1 _ rfl
            have d2 := mk_cells hq hlt 2 _ rfl
            have k0 := mk_cells hp hlt 0 _ rfl
            have k1 := mk_cells hp hlt 1 _ rfl
            have k2 := mk_cells hp hlt 2 _ rfl
            generalize l[n] = z at d0 d1 d2 k0 k1 k2
            simp only [Nat.add_zero] at d0 k0
            clear hq hp hx
            go_wp2
            go_quiet (fail)
            go_wp2
            go_roundw
            case rel => exact ⟨n + 1, by omega, by go_num, HX.out.drewN _⟩
            case measure => simp [intOf]; omega
          · have hqn : ¬ ((n : Int) < (l.length : Int)) := by omega
            have HX14 := Lib.hid (HX13.out.trans hx)
            clear hx HX13
            go_wp2_with (go_at_call 4; fail)
            refine (works_any _).mono ?_
            rintro e w15 ⟨rfl, hx15⟩
            go_wp2
            go_ret
            exact ⟨rfl, HX14.out.trans hx15⟩
end Go.Proofs.YtkelnieipjgcoaaGreatDoor
