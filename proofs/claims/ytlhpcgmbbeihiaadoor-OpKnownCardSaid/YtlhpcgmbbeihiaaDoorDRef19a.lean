/-
  CONTRACTS of the reference's ref05.right, Right, ref19.has.
-/
import Derived.Test.YtlhpcgmbbeihiaaDoorDRight
namespace Go.Proofs.YtlhpcgmbbeihiaaDoor
open Go.RowKit

theorem isEmpty_len (t : List UInt8) : t.isEmpty = decide (t.length = 0) := by cases t <;> simp

set_option maxRecDepth 100000 in
set_option maxHeartbeats 1000000 in
theorem reditRight_any (w : World) (x : Edit) (hwf : 0 ≤ x.kind) :
    Calls Tryd.prog 67 #[.agg #[.int .u8 x.kind, .int .i64 x.n, str x.text]] w fun e w' => e = .returned (.bool (editRight x)) ∧ Ext w w' := by
  obtain ⟨kind, n, text⟩ := x
  have hx : Ext w (w.alloc (.cells #[.int .u8 kind, .int .i64 n, str text] 72)) := (Upd.refl _ _).alloc _
  have HX := Lib.hid hx
  clear hx
  dsimp only
  by_cases h2 : kind = 2
  · have hk : (kind == 2) = true := by simp [h2]
    have HQ := Lib.hid (show editRight ⟨kind, n, text⟩ = (decide (n = 0) && !text.isEmpty) from by unfold editRight; simp only; rw [if_neg (by omega), if_pos h2])
    clear h2
    go_enter Tryd.func67, Tryd.ntmps67
    by_cases a1 : n = 0
    · have d1 : (n == 0) = true := by simp [a1]
      by_cases a2 : text.length = 0
      · have d2 : decide ((0 : Int) < (text.length : Int)) = false := by simp [a2]
        have A1 := Lib.hid a1
        have A2 := Lib.hid a2
        clear a1 a2
        go_wp2
        go_ret
        exact ⟨by rw [HQ.out, isEmpty_len]; simp [A1.out, A2.out], HX.out⟩
      · have d2 : decide ((0 : Int) < (text.length : Int)) = true := by simp; omega
        have A1 := Lib.hid a1
        have A2 := Lib.hid a2
        clear a1 a2
        go_wp2
        go_ret
        exact ⟨by rw [HQ.out, isEmpty_len]; simp [A1.out, A2.out]; have := A2.out; omega, HX.out⟩
    · have d1 : (n == 0) = false := by simp [a1]
      have A1 := Lib.hid a1
      clear a1
      go_wp2
      go_ret
      exact ⟨by rw [HQ.out]; simp [A1.out], HX.out⟩
  · have hk : (kind == 2) = false := by simp [h2]
    by_cases h1 : kind = 1 ∨ kind = 3
    · have HQ := Lib.hid (show editRight ⟨kind, n, text⟩ = (decide (0 < n) && decide (n ≤ 2147483647) && text.isEmpty) from by unfold editRight; rw [if_pos h1])
      have hkk : (kind == 1) = true ∨ ((kind == 1) = false ∧ (kind == 3) = true) := by
        rcases h1 with h | h
        · exact .inl (by simp [h])
        · exact .inr ⟨by simp [h], by simp [h]⟩
      clear h1 h2
      go_enter Tryd.func67, Tryd.ntmps67
      by_cases a1 : 1 ≤ n
      · have d1 : decide (1 ≤ n) = true := by simpa using a1
        by_cases a2 : n ≤ 2147483647
        · have d2 : decide (n ≤ 2147483647) = true := by simpa using a2
          by_cases a3 : text.length = 0
          · have d3 : ((text.length : Int) == 0) = true := by simp [a3]
            have A := Lib.hid (And.intro a1 (And.intro a2 a3))
            clear a1 a2 a3
            rcases hkk with hk1 | ⟨hk1, hk3⟩
            all_goals
              go_wp2
              go_ret
              exact ⟨by rw [HQ.out, isEmpty_len]; obtain ⟨b1, b2, b3⟩ := A.out; simp [b2, b3]; omega, HX.out⟩
          · have d3 : ((text.length : Int) == 0) = false := by simpa using a3
            have A := Lib.hid a3
            clear a1 a2 a3
            rcases hkk with hk1 | ⟨hk1, hk3⟩
            all_goals
              go_wp2
              go_ret
              exact ⟨by rw [HQ.out, isEmpty_len]; simp [A.out], HX.out⟩
        · have d2 : decide (n ≤ 2147483647) = false := by simpa using a2
          have A := Lib.hid a2
          clear a1 a2
          rcases hkk with hk1 | ⟨hk1, hk3⟩
          all_goals
            go_wp2
            go_ret
            exact ⟨by rw [HQ.out]; have := A.out; simp; intros; omega, HX.out⟩
      · have d1 : decide (1 ≤ n) = false := by simpa using a1
        have A := Lib.hid (show ¬ 0 < n by omega)
        clear a1
        rcases hkk with hk1 | ⟨hk1, hk3⟩
        all_goals
          go_wp2
          go_ret
          exact ⟨by rw [HQ.out]; have := A.out; simp; intros; omega, HX.out⟩
    · have hk1 : (kind == 1) = false := by simp; omega
      have hk3 : (kind == 3) = false := by simp; omega
      have HQ := Lib.hid (show editRight ⟨kind, n, text⟩ = false from by unfold editRight; simp only; rw [if_neg h1, if_neg h2])
      clear h1 h2
      go_enter Tryd.func67, Tryd.ntmps67
      go_wp2
      go_ret
      exact ⟨by rw [HQ.out]; rfl, HX.out⟩

set_option maxRecDepth 100000 in
set_option maxHeartbeats 1000000 in
theorem rdeltaRight_any {S : Nat → Prop} (w : World) (v : Value) (l : List Edit) (h : Row S w v l.length (editCells l)) (hwf : ∀ x ∈ l, 0 ≤ x.kind) :
    Calls Tryd.prog 52 #[v] w fun e w' => e = .returned (.bool (deltaRight l)) ∧ Ext w w' := by
  have g := h.addr
  obtain ⟨a, c, rfl, hn, hm, -⟩ := h
  unfold maxLen at hm
  have G := Lib.hid g
  have HWF := Lib.hid hwf
  clear g hwf
  go_enter Tryd.func52, Tryd.ntmps52
  go_wp2
  go_loopw [3] (fun i wr => ∃ k : Nat, k ≤ l.length ∧ i = .int .i64 k ∧ deltaRight (l.take k) = true ∧ Ext w wr) (fun i _ => l.length - (intOf i).toNat)
  case atStart => exact ⟨0, Nat.zero_le _, rfl, by simp [deltaRight], Upd.refl _ _⟩
  case round =>
    obtain ⟨k, hk, rfl, hd, hx⟩ := hrel
    have HD := Lib.hid hd
    have HX := Lib.hid hx
    clear hd hx
    by_cases hlt : k < l.length
    · obtain ⟨b1, o1, c1', e1, -, -, -, hc1⟩ := G.out (by omega)
      cases e1
      obtain ⟨p1, p2, p3⟩ := edit_cells hc1 k hlt
      have p1 := HX.out.cell p1 id
      have p2 := HX.out.cell p2 id
      have p3 := HX.out.cell p3 id
      clear hc1
      have hwx := HWF.out l[k] (List.getElem_mem hlt)
      obtain ⟨x, hxx⟩ : ∃ x, x = l[k] := ⟨_, rfl⟩
      rw [← hxx] at p1 p2 p3 hwx
      have HXX := Lib.hid hxx
      have HWX := Lib.hid hwx
      clear hxx hwx
      go_wp2_with (go_at_call 67; fail)
      refine (reditRight_any _ x HWX.out).mono ?_
      rintro e w2 ⟨rfl, hu⟩
      have HU := Lib.hid (HX.out.trans hu)
      clear hu p1 p2 p3
      by_cases hr : editRight x = true
      · rw [hr]
        have HR := Lib.hid hr
        clear hr
        go_wp2
        go_roundw
        case rel => exact ⟨k + 1, by omega, by go_num, by rw [deltaRight_take hlt HD.out, ← HXX.out]; exact HR.out, HU.out⟩
        case measure => simp [intOf]; omega
      · have hrf : editRight x = false := by simpa using hr
        rw [hrf]
        have HR := Lib.hid hrf
        clear hr hrf
        go_wp2
        go_ret
        exact ⟨by rw [deltaRight_false hlt (by rw [← HXX.out]; exact HR.out)]; rfl, HU.out⟩
    · have hkl : k = l.length := by omega
      go_wp2
      go_ret
      rw [hkl, List.take_length] at HD
      exact ⟨by rw [HD.out]; rfl, HX.out⟩
end Go.Proofs.YtlhpcgmbbeihiaaDoor
