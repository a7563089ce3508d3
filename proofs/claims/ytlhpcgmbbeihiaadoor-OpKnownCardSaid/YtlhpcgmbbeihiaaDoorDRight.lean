/-
  CONTRACTS of delta: Edit.right, Right (with slices.ContainsFunc, IndexFunc).
-/
import Derived.Test.YtlhpcgmbbeihiaaDoorDBase
namespace Go.Proofs.YtlhpcgmbbeihiaaDoor
open Go.RowKit

set_option maxRecDepth 100000 in
set_option maxHeartbeats 1000000 in
theorem editRight_any (w : World) (x : Edit) :
    Calls Tryd.prog 70 #[.agg #[.int .u8 x.kind, .int .i64 x.n, str x.text]] w fun e w' => e = .returned (.bool (editRight x)) ∧ Ext w w' := by
  obtain ⟨kind, n, text⟩ := x
  have hx : Ext w (w.alloc (.cells #[.int .u8 kind, .int .i64 n, str text] 64)) := (Upd.refl _ _).alloc _
  have HX := Lib.hid hx
  clear hx
  dsimp only
  by_cases h1 : kind = 1
  · have hk : (kind == 1) = true := by simp [h1]
    have HQ := Lib.hid (show editRight ⟨kind, n, text⟩ = (decide (0 < n) && decide (n ≤ 2147483647) && text.isEmpty) from by unfold editRight; rw [if_pos (.inl h1)])
    clear h1
    go_enter Tryd.func70, Tryd.ntmps70
    by_cases a1 : 0 < n
    · have d1 : decide (0 < n) = true := by simpa using a1
      by_cases a2 : n ≤ 2147483647
      · have d2 : decide (n ≤ 2147483647) = true := by simpa using a2
        go_wp2
        go_ret
        exact ⟨by rw [HQ.out, d1, d2]; rfl, HX.out⟩
      · have d2 : decide (n ≤ 2147483647) = false := by simpa using a2
        go_wp2
        go_ret
        exact ⟨by rw [HQ.out, d1, d2]; rfl, HX.out⟩
    · have d1 : decide (0 < n) = false := by simpa using a1
      go_wp2
      go_ret
      exact ⟨by rw [HQ.out, d1]; rfl, HX.out⟩
  · have hk : (kind == 1) = false := by simp [h1]
    by_cases h3 : kind = 3
    · have hk3 : (kind == 3) = true := by simp [h3]
      have HQ := Lib.hid (show editRight ⟨kind, n, text⟩ = (decide (0 < n) && decide (n ≤ 2147483647) && text.isEmpty) from by unfold editRight; rw [if_pos (.inr h3)])
      clear h1 h3
      go_enter Tryd.func70, Tryd.ntmps70
      by_cases a1 : 0 < n
      · have d1 : decide (0 < n) = true := by simpa using a1
        by_cases a2 : n ≤ 2147483647
        · have d2 : decide (n ≤ 2147483647) = true := by simpa using a2
          go_wp2
          go_ret
          exact ⟨by rw [HQ.out, d1, d2]; rfl, HX.out⟩
        · have d2 : decide (n ≤ 2147483647) = false := by simpa using a2
          go_wp2
          go_ret
          exact ⟨by rw [HQ.out, d1, d2]; rfl, HX.out⟩
      · have d1 : decide (0 < n) = false := by simpa using a1
        go_wp2
        go_ret
        exact ⟨by rw [HQ.out, d1]; rfl, HX.out⟩
    · have hk3 : (kind == 3) = false := by simp [h3]
      by_cases h2 : kind = 2
      · have hk2 : (kind == 2) = true := by simp [h2]
        have HQ := Lib.hid (show editRight ⟨kind, n, text⟩ = (decide (n = 0) && !text.isEmpty) from by unfold editRight; simp only; rw [if_neg (by omega), if_pos h2])
        clear h1 h3 h2
        go_enter Tryd.func70, Tryd.ntmps70
        by_cases a1 : n = 0
        · have d1 : (n == 0) = true := by simp [a1]
          have D1 := Lib.hid (show decide (n = 0) = true from by simp [a1])
          clear a1
          go_wp2
          go_ret
          exact ⟨by rw [HQ.out, D1.out]; rfl, HX.out⟩
        · have d1 : (n == 0) = false := by simp [a1]
          have D1 := Lib.hid (show decide (n = 0) = false from by simp [a1])
          clear a1
          go_wp2
          go_ret
          exact ⟨by rw [HQ.out, D1.out]; rfl, HX.out⟩
      · have hk2 : (kind == 2) = false := by simp [h2]
        have HQ := Lib.hid (show editRight ⟨kind, n, text⟩ = false from by unfold editRight; simp only; rw [if_neg (by omega), if_neg h2])
        clear h1 h3 h2
        go_enter Tryd.func70, Tryd.ntmps70
        go_wp2
        go_ret
        exact ⟨by rw [HQ.out]; rfl, HX.out⟩

set_option maxRecDepth 100000 in
theorem editWrong_any (w : World) (x : Edit) :
    Calls Tryd.prog 69 #[.agg #[.int .u8 x.kind, .int .i64 x.n, str x.text]] w fun e w' => e = .returned (.bool (!editRight x)) ∧ Ext w w' := by
  have hx : Ext w (w.alloc (.cells #[.int .u8 x.kind, .int .i64 x.n, str x.text] 64)) := (Upd.refl _ _).alloc _
  go_enter Tryd.func69, Tryd.ntmps69
  go_wp2_with (go_at_call 70; fail)
  refine (editRight_any _ x).mono ?_
  rintro e w2 ⟨rfl, hu⟩
  go_wp2
  go_ret
  exact ⟨rfl, hx.trans hu⟩

/-- Where the first one is that may not be. -/
theorem deltaRight_take {l : List Edit} {k : Nat} (hk : k < l.length) (h : deltaRight (l.take k) = true) : deltaRight (l.take (k + 1)) = editRight l[k] := by
  rw [List.take_succ_eq_append_getElem hk, deltaRight, List.all_append]
  unfold deltaRight at h
  rw [h]; simp
theorem deltaRight_false {l : List Edit} {k : Nat} (hk : k < l.length) (h : editRight l[k] = false) : deltaRight l = false := by
  rw [deltaRight, List.all_eq_false]
  exact ⟨l[k], List.getElem_mem hk, by simp [h]⟩

set_option maxRecDepth 100000 in
set_option maxHeartbeats 1000000 in
theorem indexWrong_any {S : Nat → Prop} (w : World) (v : Value) (l : List Edit) (h : Row S w v l.length (editCells l)) :
    Calls Tryd.prog 77 #[v, .func (.func 69) #[] #[]] w fun e w' => ∃ i : Int, e = .returned (.int .i64 i) ∧ decide (0 ≤ i) = !deltaRight l ∧ Ext w w' := by
  have g := h.addr
  obtain ⟨a, c, rfl, hn, hm, -⟩ := h
  unfold maxLen at hm
  have G := Lib.hid g
  clear g
  go_enter Tryd.func77, Tryd.ntmps77
  go_wp2
  go_loopw [8] (fun i wr => ∃ k : Nat, k ≤ l.length ∧ i = .int .i64 k ∧ deltaRight (l.take k) = true ∧ Ext w wr) (fun i _ => l.length - (intOf i).toNat)
  case atStart => exact ⟨0, Nat.zero_le _, rfl, by simp [deltaRight], Upd.refl _ _⟩
  case round =>
    obtain ⟨k, hk, rfl, hd, hx⟩ := hrel
    have HD := Lib.hid hd
    have HX := Lib.hid hx
    clear hd hx
    by_cases hlt : k < l.length
    · obtain ⟨b1, o1, c1', e1, -, -, -, hc1⟩ := G.out (by omega)
      cases e1
      obtain ⟨p1, p2, p3⟩ := edit_cells hc1 k hlt
      have p1 := HX.out.cell p1 id
      have p2 := HX.out.cell p2 id
      have p3 := HX.out.cell p3 id
      clear hc1
      obtain ⟨x, hxx⟩ : ∃ x, x = l[k] := ⟨_, rfl⟩
      rw [← hxx] at p1 p2 p3
      have HXX := Lib.hid hxx
      clear hxx
      go_wp2_with (go_at_call 69; fail)
      refine (editWrong_any _ x).mono ?_
      rintro e w2 ⟨rfl, hu⟩
      have HU := Lib.hid (HX.out.trans hu)
      clear hu p1 p2 p3
      by_cases hr : editRight x = true
      · have hq : (!editRight x) = false := by rw [hr]; rfl
        have HR := Lib.hid hr
        clear hr
        go_wp2
        go_roundw
        case rel => exact ⟨k + 1, by omega, by go_num, by rw [deltaRight_take hlt HD.out, ← HXX.out]; exact HR.out, HU.out⟩
        case measure => simp [intOf]; omega
      · have hq : (!editRight x) = true := by simpa using hr
        have HR := Lib.hid (show editRight x = false from by simpa using hr)
        clear hr
        go_wp2
        go_ret
        exact ⟨k, rfl, by rw [deltaRight_false hlt (by rw [← HXX.out]; exact HR.out)]; simp, HU.out⟩
    · have hkl : k = l.length := by omega
      go_wp2
      go_ret
      rw [hkl, List.take_length] at HD
      exact ⟨-1, rfl, by rw [HD.out]; rfl, HX.out⟩

set_option maxRecDepth 100000 in
theorem containsWrong_any {S : Nat → Prop} (w : World) (v : Value) (l : List Edit) (h : Row S w v l.length (editCells l)) :
    Calls Tryd.prog 68 #[v, .func (.func 69) #[] #[]] w fun e w' => e = .returned (.bool (!deltaRight l)) ∧ Ext w w' := by
  go_enter Tryd.func68, Tryd.ntmps68
  go_wp2_with (go_at_call 77; fail)
  refine (indexWrong_any w v l h).mono ?_
  rintro e w2 ⟨i, rfl, hi, hu⟩
  have HI := Lib.hid hi
  clear hi
  go_wp2
  go_ret
  exact ⟨by rw [← HI.out]; rfl, hu⟩

set_option maxRecDepth 100000 in
theorem deltaRight_any {S : Nat → Prop} (w : World) (v : Value) (l : List Edit) (h : Row S w v l.length (editCells l)) :
    Calls Tryd.prog 48 #[v] w fun e w' => e = .returned (.bool (deltaRight l)) ∧ Ext w w' := by
  go_enter Tryd.func48, Tryd.ntmps48
  go_wp2_with (go_at_call 68; fail)
  refine (containsWrong_any w v l h).mono ?_
  rintro e w2 ⟨rfl, hu⟩
  go_wp2
  go_ret
  exact ⟨by simp, hu⟩

set_option maxRecDepth 100000 in
theorem known_any (w : World) (k : Int) :
    Calls Tryd.prog 40 #[.int .u8 k] w fun e w' => e = .returned (.bool (decide (1 ≤ k) && decide (k ≤ 17))) ∧ w' = w := by
  by_cases h1 : 1 ≤ k
  · have d1 : decide (1 ≤ k) = true := by simpa using h1
    go_enter Tryd.func40, Tryd.ntmps40
    go_wp2
    go_ret
    exact ⟨by first | rfl | (rw [d1]; rfl), rfl⟩
  · have d1 : decide (1 ≤ k) = false := by simpa using h1
    go_enter Tryd.func40, Tryd.ntmps40
    go_wp2
    go_ret
    exact ⟨by first | rfl | (rw [d1]; rfl), rfl⟩
end Go.Proofs.YtlhpcgmbbeihiaaDoor
