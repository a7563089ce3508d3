/-
  CONTRACT of view's LeftOver. Condition: the library's variables lie as they are laid.
-/
import Derived.Test.YtfpioijfocmfcaaGreatDoorGYO
import Derived.Test.YtfpioijfocmfcaaGreatDoorYSort
namespace Go.Proofs.YtfpioijfocmfcaaGreatDoor
open Go.RowKit

theorem filter_snoc {α : Type} (p : α → Bool) (l : List α) (s : α) : (l ++ [s]).filter p = if p s then l.filter p ++ [s] else l.filter p := by
  rw [List.filter_append]
  cases h : p s <;> simp [List.filter, h]
set_option maxRecDepth 100000 in
set_option maxHeartbeats 4000000 in
theorem left_any {S S' : Nat → Prop} (w : World) (a b c nv : Value) (k : Kp) (v : Vw) (l : List (List UInt8)) (hk : KeepIs S w a b c k) (hr : Texts S' w nv l) (hl : l.length ≤ 1000000) (hb : ∀ s ∈ l, s.length ≤ 1000000) (hE : Env w) :
    Calls Tryz.prog 10 #[.agg (vwCells v), .agg #[a, b, c], nv] w fun e w' => ∃ v', e = .returned v' ∧ w'.ownsRow w.heap.size 9 1 v' (leftF v k l).length (strs (leftF v k l)) ∧ Ext w w' := by
  show Calls Tryz.prog 10 #[.agg #[.int .u64 v.chain, .int .u64 v.floor, .int .u64 v.tail], .agg #[a, b, c], nv] w _
  obtain ⟨w2, hw2⟩ : ∃ u, u = (w.alloc (.cells #[.int .u64 v.chain, .int .u64 v.floor, .int .u64 v.tail] 24)).alloc (.cells #[a, b, c] 28) := ⟨_, rfl⟩
  have hx2 : Ext w w2 := by rw [hw2]; exact ((Upd.refl _ _).alloc _).alloc _
  have hV : w2.heap[w.heap.size]? = some (.cells #[.int .u64 v.chain, .int .u64 v.floor, .int .u64 v.tail] 24 (0, 0)) := by
    rw [hw2]; exact (Below.heap_alloc _ _ _ (by simp)).trans (newAt _ _)
  have hK : w2.heap[w.heap.size + 1]? = some (.cells #[a, b, c] 28 (0, 0)) := by
    rw [hw2]; have := newAt (w.alloc (.cells #[.int .u64 v.chain, .int .u64 v.floor, .int .u64 v.tail] 24)) (.cells #[a, b, c] 28); simpa using this
  have G := Lib.hid (hr.ext hx2)
  have HK := Lib.hid (hk.ext hx2)
  have HE := Lib.hid (hE.ext hx2)
  have HX2 := Lib.hid hx2
  have HV := Lib.hid hV
  have HKB := Lib.hid hK
  have HLB := Lib.hid hb
  obtain ⟨na, nc, rfl, -, hm, -⟩ := hr
  unfold maxLen at hm
  obtain ⟨B, hB⟩ : ∃ B, B = w2.heap.size := ⟨_, rfl⟩
  have HB := Lib.hid hB
  have HW2 := Lib.hid hw2
  clear hx2 hV hK hk hE hb hB hw2
  go_enter Tryz.func10, Tryz.ntmps10
  go_wp2
  go_loopw [6, 13] (fun u t wr => ∃ n : Nat, n ≤ l.length ∧ t = .int .i64 n ∧ wr.ownsRow B 9 1 u ((l.take n).filter (isOver v k)).length (strs ((l.take n).filter (isOver v k))) ∧ Ext w2 wr) (fun _ t _ => l.length - (intOf t).toNat)
  case atStart => exact ⟨0, Nat.zero_le _, rfl, World.ownsRow_nil _ _ _ _, by rw [HW2.out]; exact Upd.refl _ _⟩
  case round =>
    obtain ⟨n, hn, rfl, hown, hx⟩ := hrel
    have HX := Lib.hid hx
    have HOWN := Lib.hid hown
    by_cases hlt : n < l.length
    · obtain ⟨b1, o1, c1, e1, -, -, -, hq1⟩ := (G.out.ext hx).addr (by omega)
      cases e1
      have hc := texts_cell hq1 n hlt
      have hsl := HLB.out (l[n]) (List.getElem_mem hlt)
      have hsn : l.take (n + 1) = l.take n ++ [l[n]] := List.take_succ_eq_append_getElem hlt
      have hnf := filter_snoc (isOver v k) (l.take n) (l[n])
      rw [← hsn] at hnf
      have hcnt : ((l.take n).filter (isOver v k)).length ≤ 1000000 := Nat.le_trans (List.length_filter_le _ _) (by simp; omega)
      obtain ⟨s, hs⟩ : ∃ s, s = l[n] := ⟨_, rfl⟩
      rw [← hs] at hc hsl hnf
      obtain ⟨x, hxx⟩ : ∃ x, x = (parseF s).1 := ⟨_, rfl⟩
      obtain ⟨ok, hok⟩ : ∃ o, o = (parseF s).2 := ⟨_, rfl⟩
      have hpp : parseF s = (x, ok) := by rw [hxx, hok]
      have hov : isOver v k s = (ok && overF v k x) := by unfold isOver; rw [← hxx, ← hok]
      rw [hov] at hnf
      obtain ⟨fs, hfs⟩ : ∃ fs, fs = (l.take n).filter (isOver v k) := ⟨_, rfl⟩
      rw [← hfs] at hnf hown hcnt
      have HOWN := Lib.hid hown
      have HNF := Lib.hid hnf
      have HPP := Lib.hid hpp
      have HSL := Lib.hid hsl
      obtain ⟨p0, p1, p2, p3, p4, p5, hp⟩ : ∃ a b c d e f, nmCells x = #[.int .u8 a, .int .u64 b, .int .u64 c, .int .u64 d, .int .u64 e, .int .u64 f] := ⟨_, _, _, _, _, _, rfl⟩
      have HP := Lib.hid hp
      obtain ⟨a3, n3, c3, rfl⟩ := ownsForm hown
      clear hx hq1 hsn hsl hs hxx hok hpp hnf hfs hown hp hov
      go_wp2_with (go_at_call 25; fail)
      refine (parse_lit _ s x ok HSL.out (HE.out.ext HX.out) HPP.out).mono ?_
      rintro e w5 ⟨rfl, hx5⟩
      have HX5 := Lib.hid (HX.out.trans hx5)
      have HO5 := Lib.hid (hx5.ownsRow HOWN.out (fun _ _ e => e))
      clear hx5 hc
      obtain ⟨w6, hw6⟩ : ∃ u, u = w5.alloc (.cells (nmCells x) 58) := ⟨_, rfl⟩
      have hx6 : Ext w5 w6 := by rw [hw6]; exact (Upd.refl _ _).alloc _
      have HX6 := Lib.hid (HX5.out.trans hx6)
      have HO6 := Lib.hid (hx6.ownsRow HO5.out (fun _ _ e => e))
      have v0 := cellAt (HX5.out.at_ HV.out id) 0 _ rfl
      have v1 := cellAt (HX5.out.at_ HV.out id) 1 _ rfl
      have v2 := cellAt (HX5.out.at_ HV.out id) 2 _ rfl
      have k0 := cellAt (HX5.out.at_ HKB.out id) 0 _ rfl
      have k1 := cellAt (HX5.out.at_ HKB.out id) 1 _ rfl
      have k2 := cellAt (HX5.out.at_ HKB.out id) 2 _ rfl
      have hvl := lt_of_heap (HX5.out.at_ HV.out id)
      have hkl := lt_of_heap (HX5.out.at_ HKB.out id)
      have hcon := over_any w6 a b c k v x (HK.out.ext HX6.out)
      rw [HP.out] at hcon hw6 ⊢
      have HCON := Lib.hid hcon
      have HW6 := Lib.hid hw6
      clear hcon hx6 hw6
      cases ok with
      | false =>
        go_wp2
        rw [← HW6.out]
        go_roundw
        case rel =>
          refine ⟨n + 1, by omega, by go_num, ?_, HX6.out⟩
          rw [HNF.out]
          exact HO6.out
        case measure => simp [intOf]; omega
      | true =>
        go_wp2_with (go_at_call 26; fail)
        rw [← HW6.out]
        refine HCON.out.mono ?_
        rintro e w7 ⟨rfl, hx7⟩
        have HX7 := Lib.hid (HX6.out.trans hx7)
        have hown7 := hx7.ownsRow HO6.out (fun _ _ e => e)
        clear hx7
        obtain ⟨ov, hov⟩ : ∃ u, u = overF v k x := ⟨_, rfl⟩
        rw [← hov] at HNF ⊢
        clear hov
        cases ov with
        | false =>
          have HO7 := Lib.hid hown7
          clear hown7
          go_wp2
          go_roundw
          case rel =>
            refine ⟨n + 1, by omega, by go_num, ?_, HX7.out⟩
            rw [HNF.out]
            exact HO7.out
          case measure => simp [intOf]; omega
        | true =>
          go_wp2_with (at_builtin; go_must (refine wpList_append_row rfl _ _ _ rfl Tryz.textsT rfl (hown7.alloc _) rfl (row_new _ _ _ 1 _ (by decide) (by simp)) rfl (strs_one [s]) ?c3 ?c4 ?c5 ?_))
          case c3 => unfold maxLen; omega
          case c4 => omega
          case c5 => have := HX7.out.size; have := HB.out; first | omega | (simp; omega)
          intro v' w8 hown8 hg _
          have hx8 := ((HX7.out.alloc _)).grown hg (fun j hj h => by have := (hown7.lt j hj).1; have := HB.out; omega)
          have HX8 := Lib.hid hx8
          have HO8 := Lib.hid hown8
          clear hx8 hg hown8 hown7
          go_wp2
          go_roundw
          case rel =>
            refine ⟨n + 1, by omega, by go_num, ?_, HX8.out⟩
            rw [HNF.out]
            simp only [Bool.and_self, if_true, List.length_append, List.map_append, List.length_singleton]
            exact HO8.out
          case measure => simp [intOf]; omega
    · have hkl : n = l.length := by omega
      rw [hkl, List.take_length] at hown
      obtain ⟨fs, hfs⟩ : ∃ fs, fs = l.filter (isOver v k) := ⟨_, rfl⟩
      have hcnt : fs.length ≤ 1000000 := by rw [hfs]; exact Nat.le_trans (List.length_filter_le _ _) hl
      rw [← hfs] at hown
      have HF := Lib.hid (show leftF v k l = Lib.compact (fs.mergeSort fun x y => decide (x ≤ y)) by rw [hfs]; rfl)
      have HOWN := Lib.hid hown
      have HCNT := Lib.hid hcnt
      have HKL := Lib.hid hkl
      obtain ⟨a3, n3, c3, rfl⟩ := ownsForm hown
      clear hx hkl hown hfs hcnt
      go_wp2_with (go_at_call 27; fail)
      refine (sortS_any _ _ fs HOWN.out HCNT.out).mono ?_
      rintro e w5 ⟨rfl, hown5, hg5⟩
      obtain ⟨zs, hzs⟩ : ∃ zs, zs = fs.mergeSort fun x y => decide (x ≤ y) := ⟨_, rfl⟩
      have hzl : zs.length = fs.length := by rw [hzs]; simp
      rw [← hzs, ← hzl] at hown5
      have HX5 := Lib.hid (HX.out.grown hg5 (fun j hj h => by have := (HOWN.out.lt j hj).1; have := HB.out; omega))
      have HO5 := Lib.hid hown5
      have HZ := Lib.hid (show leftF v k l = Lib.compact zs by rw [HF.out, hzs])
      have HZL := Lib.hid (show zs.length ≤ 1000000 by rw [hzl]; exact HCNT.out)
      clear hown5 hg5 hzs hzl
      go_wp2_with (go_at_call 28; fail)
      refine (compS_any _ _ zs HO5.out HZL.out).mono ?_
      rintro e w6 ⟨v6, rfl, hown6, hg6⟩
      have HX6 := Lib.hid (HX5.out.grown hg6 (fun j hj h => by have := (HO5.out.lt j hj).1; have := HB.out; omega))
      have HO6 := Lib.hid hown6
      clear hown6 hg6
      go_wp2
      go_ret
      refine ⟨_, rfl, ?_, HX2.out.trans HX6.out⟩
      rw [HZ.out]
      exact HO6.out.mono_base (by have := HB.out; have := HX2.out.size; omega)
end Go.Proofs.YtfpioijfocmfcaaGreatDoor
