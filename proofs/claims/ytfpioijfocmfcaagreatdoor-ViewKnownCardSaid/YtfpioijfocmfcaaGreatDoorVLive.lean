/-
  CONTRACTS of view's Live, Void, of the reference's Live, of the law's same. Conditions: what is live is not too much.
-/
import Derived.Test.YtfpioijfocmfcaaGreatDoorGYL
import Derived.Test.YtfpioijfocmfcaaGreatDoorU11
namespace Go.Proofs.YtfpioijfocmfcaaGreatDoor
open Go.RowKit

theorem Tryz.numsT : SliceT Tryz.prog 49 22 1 8 := sliceT_of Tryz.underlying49 (by kernel_rfl) (by decide)
theorem nv_ones (l : List Nat) : OneCells (l.map nv) := fun u hu => by
  obtain ⟨n, -, rfl⟩ := List.mem_map.1 hu
  rfl
/-- The live slots' numbers. -/
def liveN (v : Vw) : List Nat := List.range' (v.floor + 1) (v.tail - v.floor)
theorem ownsFormV {w : World} {base e size n : Nat} {v : Value} {xs : List Value} (h : w.ownsRow base e size v n xs) : ∃ a c, v = .slice a n c := by
  rcases h.2 with ⟨rfl, rfl⟩ | ⟨g, cap, cur, rfl, _⟩ <;> exact ⟨_, _, rfl⟩

set_option maxRecDepth 100000 in
set_option maxHeartbeats 4000000 in
theorem live_any (w : World) (v : Vw) (hv : v.floor ≤ v.tail) (hn : v.tail - v.floor ≤ 1000000) (ht : v.tail < 18446744073709551616) :
    Calls Tryz.prog 18 #[.agg (vwCells v)] w fun e w' => ∃ v', e = .returned v' ∧ w'.ownsRow w.heap.size 22 1 v' (liveN v).length ((liveN v).map nv) ∧ Ext w w' := by
  show Calls Tryz.prog 18 #[.agg #[.int .u64 v.chain, .int .u64 v.floor, .int .u64 v.tail]] w _
  obtain ⟨w2, hw2⟩ : ∃ u, u = w.alloc (.cells #[.int .u64 v.chain, .int .u64 v.floor, .int .u64 v.tail] 24) := ⟨_, rfl⟩
  have hx2 : Ext w w2 := by rw [hw2]; exact (Upd.refl _ _).alloc _
  have HV := Lib.hid (show w2.heap[w.heap.size]? = some (.cells #[.int .u64 v.chain, .int .u64 v.floor, .int .u64 v.tail] 24 (0, 0)) by rw [hw2]; exact newAt _ _)
  obtain ⟨B, hB⟩ : ∃ B, B = w2.heap.size := ⟨_, rfl⟩
  have HB := Lib.hid hB
  have HX2 := Lib.hid hx2
  have HW2 := Lib.hid hw2
  clear hx2 hw2 hB
  go_enter Tryz.func18, Tryz.ntmps18
  go_wp2
  go_loopw [2, 3] (fun u t wr => ∃ i : Nat, v.floor + i ≤ v.tail ∧ t = .int .u64 (v.floor + i : Nat) ∧ wr.ownsRow B 22 1 u i ((List.range' (v.floor + 1) i).map nv) ∧ Ext w2 wr) (fun _ t _ => v.tail - (intOf t).toNat)
  case atStart => exact ⟨0, by omega, rfl, World.ownsRow_nil _ _ _ _, by rw [HW2.out]; exact Upd.refl _ _⟩
  case round =>
    obtain ⟨i, hi, rfl, hown, hx⟩ := hrel
    obtain ⟨a3, c3, rfl⟩ := ownsFormV hown
    have HX := Lib.hid hx
    have v0 := cellAt (hx.at_ HV.out id) 0 _ rfl
    have v1 := cellAt (hx.at_ HV.out id) 1 _ rfl
    have v2 := cellAt (hx.at_ HV.out id) 2 _ rfl
    clear hx
    by_cases hlt : v.floor + i < v.tail
    · have hltz : ((v.floor + i : Nat) : Int) < (v.tail : Int) := by omega
      have HS := Lib.hid (show (List.range' (v.floor + 1) (i + 1)).map nv = (List.range' (v.floor + 1) i).map nv ++ [Value.int .u64 ((v.floor : Int) + (i : Int) + 1)] by
        rw [List.range'_1_concat, List.map_append]
        congr 1
        simp [nv]
        omega)
      go_wp2_with (at_builtin; go_must (refine wpList_append_row rfl _ _ _ rfl Tryz.numsT rfl (hown.alloc _) rfl (row_new _ _ _ 1 _ (by decide) (by simp)) rfl (fun u hu => by simp at hu; rw [hu]; rfl) ?c3 ?c4 ?c5 ?_))
      case c3 => unfold maxLen; omega
      case c4 => omega
      case c5 => have := HX.out.size; have := HB.out; first | omega | (simp; omega)
      intro v' w8 hown8 hg _
      have hx8 := ((HX.out.alloc _)).grown hg (fun j hj h => by have := (hown.lt j hj).1; have := HB.out; omega)
      have HX8 := Lib.hid hx8
      have HO8 := Lib.hid hown8
      clear hx8 hg hown8 hown
      go_wp2
      go_roundw
      case rel =>
        refine ⟨i + 1, by omega, by first | rfl | (congr 1; omega), ?_, HX8.out⟩
        rw [HS.out]
        exact HO8.out
      case measure => simp [intOf]; omega
    · have hltz : ¬ ((v.floor + i : Nat) : Int) < (v.tail : Int) := by omega
      have HI := Lib.hid (show liveN v = List.range' (v.floor + 1) i by unfold liveN; congr 1; omega)
      go_wp2
      go_ret
      refine ⟨_, rfl, ?_, HX2.out.trans HX.out⟩
      rw [HI.out, List.length_range']
      exact hown.mono_base (by have := HB.out; have := HX2.out.size; omega)

set_option maxRecDepth 100000 in
set_option maxHeartbeats 4000000 in
theorem rlive_any (w : World) (v : Vw) (hv : v.floor ≤ v.tail) (hn : v.tail - v.floor ≤ 1000000) (ht : v.tail < 18446744073709551616) :
    Calls Tryz.prog 19 #[.agg (vwCells v)] w fun e w' => ∃ v', e = .returned v' ∧ w'.ownsRow w.heap.size 22 1 v' (liveN v).length ((liveN v).map nv) ∧ Ext w w' := by
  show Calls Tryz.prog 19 #[.agg #[.int .u64 v.chain, .int .u64 v.floor, .int .u64 v.tail]] w _
  obtain ⟨w2, hw2⟩ : ∃ u, u = w.alloc (.cells #[.int .u64 v.chain, .int .u64 v.floor, .int .u64 v.tail] 35) := ⟨_, rfl⟩
  have hx2 : Ext w w2 := by rw [hw2]; exact (Upd.refl _ _).alloc _
  have HV := Lib.hid (show w2.heap[w.heap.size]? = some (.cells #[.int .u64 v.chain, .int .u64 v.floor, .int .u64 v.tail] 35 (0, 0)) by rw [hw2]; exact newAt _ _)
  obtain ⟨B, hB⟩ : ∃ B, B = w2.heap.size := ⟨_, rfl⟩
  have HB := Lib.hid hB
  have HX2 := Lib.hid hx2
  have HW2 := Lib.hid hw2
  clear hx2 hw2 hB
  go_enter Tryz.func19, Tryz.ntmps19
  go_wp2
  go_loopw [3, 4] (fun u t wr => ∃ i : Nat, v.floor + i ≤ v.tail ∧ t = .int .u64 (v.floor + i : Nat) ∧ wr.ownsRow B 22 1 u i ((List.range' (v.floor + 1) i).map nv) ∧ Ext w2 wr) (fun _ t _ => v.tail - (intOf t).toNat)
  case atStart => exact ⟨0, by omega, rfl, World.ownsRow_nil _ _ _ _, by rw [HW2.out]; exact Upd.refl _ _⟩
  case round =>
    obtain ⟨i, hi, rfl, hown, hx⟩ := hrel
    obtain ⟨a3, c3, rfl⟩ := ownsFormV hown
    have HX := Lib.hid hx
    have v0 := cellAt (hx.at_ HV.out id) 0 _ rfl
    have v1 := cellAt (hx.at_ HV.out id) 1 _ rfl
    have v2 := cellAt (hx.at_ HV.out id) 2 _ rfl
    clear hx
    by_cases hlt : v.floor + i < v.tail
    · have hltz : ((v.floor + i : Nat) : Int) < (v.tail : Int) := by omega
      have HS := Lib.hid (show (List.range' (v.floor + 1) (i + 1)).map nv = (List.range' (v.floor + 1) i).map nv ++ [Value.int .u64 ((v.floor : Int) + (i : Int) + 1)] by
        rw [List.range'_1_concat, List.map_append]
        congr 1
        simp [nv]
        omega)
      go_wp2_with (at_builtin; go_must (refine wpList_append_row rfl _ _ _ rfl Tryz.numsT rfl (hown.alloc _) rfl (row_new _ _ _ 1 _ (by decide) (by simp)) rfl (fun u hu => by simp at hu; rw [hu]; rfl) ?c3 ?c4 ?c5 ?_))
      case c3 => unfold maxLen; omega
      case c4 => omega
      case c5 => have := HX.out.size; have := HB.out; first | omega | (simp; omega)
      intro v' w8 hown8 hg _
      have hx8 := ((HX.out.alloc _)).grown hg (fun j hj h => by have := (hown.lt j hj).1; have := HB.out; omega)
      have HX8 := Lib.hid hx8
      have HO8 := Lib.hid hown8
      clear hx8 hg hown8 hown
      go_wp2
      go_roundw
      case rel =>
        refine ⟨i + 1, by omega, by first | rfl | (congr 1; omega), ?_, HX8.out⟩
        rw [HS.out]
        exact HO8.out
      case measure => simp [intOf]; omega
    · have hltz : ¬ ((v.floor + i : Nat) : Int) < (v.tail : Int) := by omega
      have HI := Lib.hid (show liveN v = List.range' (v.floor + 1) i by unfold liveN; congr 1; omega)
      go_wp2
      go_ret
      refine ⟨_, rfl, ?_, HX2.out.trans HX.out⟩
      rw [HI.out, List.length_range']
      exact hown.mono_base (by have := HB.out; have := HX2.out.size; omega)

/-- A value is a row of numbers. -/
def Nums (S : Nat → Prop) (w : World) (v : Value) (l : List Nat) : Prop := Row S w v l.length (l.map nv)
theorem nums_cell {l : List Nat} {b o : Nat} {w : World} (h : ∀ j u, (l.map nv)[j]? = some u → w.cell? ⟨b, o + j, none⟩ = some u) (n : Nat) (hn : n < l.length) : w.cell? ⟨b, o + n, none⟩ = some (.int .u64 (l[n] : Nat)) := h n _ (by simp [hn, nv])

set_option maxRecDepth 100000 in
set_option maxHeartbeats 2000000 in
theorem same_any {S T : Nat → Prop} (w : World) (x y : Value) (l r : List Nat) (hx : Nums S w x l) (hy : Nums T w y r) :
    Calls Tryz.prog 17 #[x, y] w fun e w' => e = .returned (.bool (decide (l = r))) ∧ Ext w w' := by
  have HL := Lib.hid hx
  have HR := Lib.hid hy
  obtain ⟨a1, cp, rfl, hlc, hm, -⟩ := hx
  obtain ⟨a2, cq, rfl, -⟩ := hy
  unfold maxLen at hm
  by_cases hlen : l.length = r.length
  case neg =>
    have f0 : ((l.length : Int) != (r.length : Int)) = true := by simp; omega
    have HF := Lib.hid (show decide (l = r) = false from decide_eq_false fun e => hlen (by rw [e]))
    clear hlen
    go_enter Tryz.func17, Tryz.ntmps17
    go_wp2
    go_ret
    exact ⟨by rw [HF.out]; rfl, Upd.refl _ _⟩
  have f0 : ((l.length : Int) != (r.length : Int)) = false := by simp; omega
  have HLEN := Lib.hid hlen
  clear hlen
  go_enter Tryz.func17, Tryz.ntmps17
  go_wp2
  go_loopw [5] (fun t wr => ∃ n : Nat, n ≤ l.length ∧ t = .int .i64 n ∧ l.take n = r.take n ∧ Ext w wr) (fun t _ => l.length - (intOf t).toNat)
  case atStart => exact ⟨0, Nat.zero_le _, rfl, rfl, Upd.refl _ _⟩
  case round =>
    obtain ⟨n, hn, rfl, heq, hx⟩ := hrel
    have HX := Lib.hid hx
    have HEQ := Lib.hid heq
    clear heq
    by_cases hlt : n < l.length
    · have hlr : n < r.length := by have := HLEN.out; omega
      obtain ⟨b1, o1, c1, e1, -, -, -, hq1⟩ := (HL.out.ext hx).addr (by omega)
      cases e1
      obtain ⟨b2, o2, c2, e2, -, -, -, hq2⟩ := (HR.out.ext hx).addr (by omega)
      cases e2
      have d1 := nums_cell hq1 n hlt
      have d2 := nums_cell hq2 n hlr
      have s1 : l.take (n + 1) = l.take n ++ [l[n]] := List.take_succ_eq_append_getElem hlt
      have s2 : r.take (n + 1) = r.take n ++ [r[n]] := List.take_succ_eq_append_getElem hlr
      have hne : l[n] ≠ r[n] → l ≠ r := fun h e => h (by subst e; rfl)
      have hri : (n : Int) < (r.length : Int) := by omega
      generalize l[n] = p at d1 s1 hne
      generalize r[n] = q at d2 s2 hne
      have S1 := Lib.hid s1
      have S2 := Lib.hid s2
      have HNE := Lib.hid hne
      clear hq1 hq2 s1 s2 hne hx hlr
      by_cases hpq : p = q
      · have HPQ := Lib.hid hpq
        have q1 : ((p : Int) != (q : Int)) = false := by simp [hpq]
        clear hpq
        go_wp2
        go_quiet (fail)
        go_wp2
        go_roundw
        case rel => exact ⟨n + 1, by omega, by go_num, by rw [S1.out, S2.out, HEQ.out, HPQ.out], HX.out.drewN _⟩
        case measure => simp [intOf]; omega
      · have HF := Lib.hid (show decide (l = r) = false from decide_eq_false (HNE.out hpq))
        have q1 : ((p : Int) != (q : Int)) = true := by simp; omega
        clear hpq
        go_wp2
        go_quiet (fail)
        go_wp2
        go_ret
        exact ⟨by rw [HF.out]; rfl, HX.out.drewN _⟩
    · have hnl : n = l.length := by omega
      have HT := Lib.hid (show decide (l = r) = true by
        have h := HEQ.out
        rw [hnl, List.take_length, HLEN.out, List.take_length] at h
        simp [h])
      clear hx
      go_wp2
      go_ret
      exact ⟨by rw [HT.out]; rfl, HX.out⟩
end Go.Proofs.YtfpioijfocmfcaaGreatDoor
