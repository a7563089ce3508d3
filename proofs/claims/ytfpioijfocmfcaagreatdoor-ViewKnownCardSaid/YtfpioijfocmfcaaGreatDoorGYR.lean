/-
  CONTRACTS of the reference's needed, done. No condition.
  CONTRACT of the reference's over. No condition.
-/
import Derived.Test.YtfpioijfocmfcaaGreatDoorGYO
import Derived.Test.YtfpioijfocmfcaaGreatDoorGNR
namespace Go.Proofs.YtfpioijfocmfcaaGreatDoor
open Go.RowKit

theorem rmk_eql (x y : Mk) (w : World) : (binOp .eql 39 (.agg #[.int .u64 x.proc, .int .u64 x.inc, .int .u64 x.k]) (.agg #[.int .u64 y.proc, .int .u64 y.inc, .int .u64 y.k])).run Tryz.prog w = .ok (.bool (eqB x y)) w := by
  have u3 := Tryz.underlying22
  have hS : Tryz.prog.underlying 39 = some (.struct (Tryz.prog.fieldsOf 39)) := by kernel_rfl
  have hp : Tryz.prog.stoodInHeld 39 = false := by kernel_rfl
  obtain ⟨a, b, c⟩ := x
  obtain ⟨a', b', c'⟩ := y
  rw [run_eql_struct, show (10000 : Nat) = 9999 + 1 from rfl, run_equalIn_agg w 9999 39 _ _ hS hp]
  simp only [Program.fieldsOf, Tryz.underlying39]
  go_simp
  by_cases h1 : a = a' <;> by_cases h2 : b = b' <;> by_cases h3 : c = c' <;> simp [h1, h2, h3, eqB] <;> omega
theorem rmk_guard (p q : Operand) (x y : Array Value) (w : World) : (eqGuard .eql 39 p q (.agg x) (.agg y)).run Tryz.prog w = .ok () w :=
  run_eqGuard_agg (P := Tryz.prog) w .eql 39 p q x y (by kernel_rfl)
set_option maxRecDepth 100000 in
set_option maxHeartbeats 1000000 in
theorem rneeded_any {S : Nat → Prop} (w : World) (a b : Value) (qp qi : Nat) (told : Bool) (l : List Mk) (m : Mk) (h : MkRow S w a l) :
    Calls Tryz.prog 49 #[.agg #[a, b, u64 qp, u64 qi, u64 0, .bool told], .agg #[.int .u64 m.proc, .int .u64 m.inc, .int .u64 m.k]] w fun e w' => e = .returned (.bool (l.contains m)) ∧ Ext w w' := by
  obtain ⟨w2, hw2⟩ : ∃ u, u = (w.alloc (.cells #[a, b, u64 qp, u64 qi, u64 0, .bool told] 41)).alloc (.cells #[.int .u64 m.proc, .int .u64 m.inc, .int .u64 m.k] 39) := ⟨_, rfl⟩
  have hx2 : Ext w w2 := by rw [hw2]; exact ((Upd.refl _ _).alloc _).alloc _
  have hK : w2.heap[w.heap.size]? = some (.cells #[a, b, u64 qp, u64 qi, u64 0, .bool told] 41 (0, 0)) := by
    rw [hw2]; exact (Below.heap_alloc _ _ _ (by simp)).trans (newAt _ _)
  have hM : w2.heap[w.heap.size + 1]? = some (.cells #[.int .u64 m.proc, .int .u64 m.inc, .int .u64 m.k] 39 (0, 0)) := by
    rw [hw2]; have := newAt (w.alloc (.cells #[a, b, u64 qp, u64 qi, u64 0, .bool told] 41)) (.cells #[.int .u64 m.proc, .int .u64 m.inc, .int .u64 m.k] 39); simpa using this
  have hr := h.ext hx2
  have HW2 := Lib.hid hw2
  have HX2 := Lib.hid hx2
  have HK := Lib.hid hK
  have HM := Lib.hid hM
  have HR := Lib.hid hr
  have hgd := rmk_guard
  obtain ⟨ad, cp, rfl, hlc, hm, -⟩ := hr
  unfold maxLen at hm
  clear hw2 hx2 hK hM h
  go_enter Tryz.func49, Tryz.ntmps49
  go_wp2
  go_loopw [5] (fun t wr => ∃ n : Nat, n ≤ l.length ∧ t = .int .i64 n ∧ m ∉ l.take n ∧ Ext w2 wr) (fun t _ => l.length - (intOf t).toNat)
  case atStart => exact ⟨0, Nat.zero_le _, rfl, by simp, by rw [HW2.out]; exact Upd.refl _ _⟩
  case round =>
    obtain ⟨n, hn, rfl, hno, hx⟩ := hrel
    have HX := Lib.hid hx
    have k0 := cellAt (hx.at_ HK.out id) 0 _ rfl
    have m0 := cellAt (hx.at_ HM.out id) 0 _ rfl
    have m1 := cellAt (hx.at_ HM.out id) 1 _ rfl
    have m2 := cellAt (hx.at_ HM.out id) 2 _ rfl
    have HNO := Lib.hid hno
    clear hno
    by_cases hlt : n < l.length
    · obtain ⟨b1, o1, c1, e1, -, -, -, hq⟩ := (HR.out.ext hx).addr (by omega)
      cases e1
      have hsn : l.take (n + 1) = l.take n ++ [l[n]] := List.take_succ_eq_append_getElem hlt
      have d0 := mk_cells hq hlt 0 _ rfl
      have d1 := mk_cells hq hlt 1 _ rfl
      have d2 := mk_cells hq hlt 2 _ rfl
      have hmem : l[n] ∈ l := List.getElem_mem hlt
      generalize l[n] = z at hsn d0 d1 d2 hmem
      have heq := rmk_eql z m
      have HSN := Lib.hid hsn
      have HME := Lib.hid hmem
      simp only [Nat.add_zero] at d0
      obtain ⟨eb, heb⟩ : ∃ u, u = eqB z m := ⟨_, rfl⟩
      rw [← heb] at heq
      have HEB := Lib.hid heb
      clear hq hsn hx heb hmem
      cases eb with
      | true =>
        go_wp2
        go_quiet (fail)
        go_wp2
        go_ret
        have e : z = m := by have := HEB.out; unfold eqB at this; exact of_decide_eq_true this.symm
        exact ⟨by rw [List.contains_iff_mem.2 (show m ∈ l by rw [← e]; exact HME.out)]; rfl, HX2.out.trans (HX.out.drewN _)⟩
      | false =>
        go_wp2
        go_quiet (fail)
        go_wp2
        go_roundw
        case rel =>
          refine ⟨n + 1, by omega, by go_num, ?_, HX.out.drewN _⟩
          rw [HSN.out, List.mem_append, List.mem_singleton]
          rintro (h | h)
          · exact HNO.out h
          · have := HEB.out; rw [h, eqB_self] at this; cases this
        case measure => simp [intOf]; omega
    · have hnl : n = l.length := by omega
      have HF := Lib.hid (show l.contains m = false by
        have h := HNO.out
        rw [hnl, List.take_length] at h
        rw [← Bool.not_eq_true, List.contains_iff_mem]; exact h)
      clear hx
      go_wp2
      go_ret
      exact ⟨by rw [HF.out]; rfl, HX2.out.trans HX.out⟩
set_option maxRecDepth 100000 in
set_option maxHeartbeats 2000000 in
theorem rdone_any {S : Nat → Prop} (w : World) (a b : Value) (qp qi : Nat) (told : Bool) (l : List Mk) (m : Mk) (h : MkRow S w b l) :
    Calls Tryz.prog 50 #[.agg #[a, b, u64 qp, u64 qi, u64 0, .bool told], .agg #[.int .u64 m.proc, .int .u64 m.inc, .int .u64 m.k]] w fun e w' => e = .returned (.bool (doneF l m)) ∧ Ext w w' := by
  obtain ⟨w2, hw2⟩ : ∃ u, u = (w.alloc (.cells #[a, b, u64 qp, u64 qi, u64 0, .bool told] 41)).alloc (.cells #[.int .u64 m.proc, .int .u64 m.inc, .int .u64 m.k] 39) := ⟨_, rfl⟩
  have hx2 : Ext w w2 := by rw [hw2]; exact ((Upd.refl _ _).alloc _).alloc _
  have hK : w2.heap[w.heap.size]? = some (.cells #[a, b, u64 qp, u64 qi, u64 0, .bool told] 41 (0, 0)) := by
    rw [hw2]; exact (Below.heap_alloc _ _ _ (by simp)).trans (newAt _ _)
  have hM : w2.heap[w.heap.size + 1]? = some (.cells #[.int .u64 m.proc, .int .u64 m.inc, .int .u64 m.k] 39 (0, 0)) := by
    rw [hw2]; have := newAt (w.alloc (.cells #[a, b, u64 qp, u64 qi, u64 0, .bool told] 41)) (.cells #[.int .u64 m.proc, .int .u64 m.inc, .int .u64 m.k] 39); simpa using this
  have hr := h.ext hx2
  have HW2 := Lib.hid hw2
  have HX2 := Lib.hid hx2
  have HK := Lib.hid hK
  have HM := Lib.hid hM
  have HR := Lib.hid hr
  obtain ⟨ad, cp, rfl, hlc, hm, -⟩ := hr
  unfold maxLen at hm
  clear hw2 hx2 hK hM h
  go_enter Tryz.func50, Tryz.ntmps50
  go_wp2
  go_loopw [5] (fun t wr => ∃ n : Nat, n ≤ l.length ∧ t = .int .i64 n ∧ (∀ x ∈ l.take n, sameL m x = false) ∧ Ext w2 wr) (fun t _ => l.length - (intOf t).toNat)
  case atStart => exact ⟨0, Nat.zero_le _, rfl, (fun x hx => by simp at hx), by rw [HW2.out]; exact Upd.refl _ _⟩
  case round =>
    obtain ⟨n, hn, rfl, hno, hx⟩ := hrel
    have HX := Lib.hid hx
    have k1 := cellAt (hx.at_ HK.out id) 1 _ rfl
    have m0 := cellAt (hx.at_ HM.out id) 0 _ rfl
    have m1 := cellAt (hx.at_ HM.out id) 1 _ rfl
    have m2 := cellAt (hx.at_ HM.out id) 2 _ rfl
    have HNO := Lib.hid hno
    clear hno
    by_cases hlt : n < l.length
    · obtain ⟨b1, o1, c1, e1, -, -, -, hq⟩ := (HR.out.ext hx).addr (by omega)
      cases e1
      have hsn : l.take (n + 1) = l.take n ++ [l[n]] := List.take_succ_eq_append_getElem hlt
      have d0 := mk_cells hq hlt 0 _ rfl
      have d1 := mk_cells hq hlt 1 _ rfl
      have d2 := mk_cells hq hlt 2 _ rfl
      have hfd : sameL m l[n] = true → l.find? (sameL m) = some l[n] := fun h => find_first hlt HNO.out h
      generalize l[n] = z at hsn d0 d1 d2 hfd
      have HSN := Lib.hid hsn
      have HFD := Lib.hid hfd
      simp only [Nat.add_zero] at d0
      clear hq hsn hx hfd
      by_cases hp : z.proc = m.proc
      · have f0 : ((z.proc : Int) == (m.proc : Int)) = true := by simp [hp]
        by_cases hi : z.inc = m.inc
        · have f1 : ((z.inc : Int) == (m.inc : Int)) = true := by simp [hi]
          have HD := Lib.hid (show doneF l m = decide (m.k ≤ z.k) by unfold doneF; rw [HFD.out (by simp [sameL, hp, hi])])
          clear hp hi
          go_wp2
          go_quiet (fail)
          go_wp2
          go_quiet (fail)
          go_wp2
          go_ret
          exact ⟨by rw [HD.out]; rfl, HX2.out.trans ((HX.out.drewN _).drewN _)⟩
        · have f1 : ((z.inc : Int) == (m.inc : Int)) = false := by simp; omega
          have HS := Lib.hid (show sameL m z = false by simp [sameL, hi])
          clear hp hi
          go_wp2
          go_quiet (fail)
          go_wp2
          go_roundw
          case rel =>
            refine ⟨n + 1, by omega, by go_num, ?_, HX.out.drewN _⟩
            rw [HSN.out]
            intro x hx
            rcases List.mem_append.1 hx with h | h
            · exact HNO.out x h
            · rw [List.mem_singleton.1 h]; exact HS.out
          case measure => simp [intOf]; omega
      · have f0 : ((z.proc : Int) == (m.proc : Int)) = false := by simp; omega
        have HS := Lib.hid (show sameL m z = false by simp [sameL, hp])
        clear hp
        go_wp2
        go_quiet (fail)
        go_wp2
        go_roundw
        case rel =>
          refine ⟨n + 1, by omega, by go_num, ?_, HX.out.drewN _⟩
          rw [HSN.out]
          intro x hx
          rcases List.mem_append.1 hx with h | h
          · exact HNO.out x h
          · rw [List.mem_singleton.1 h]; exact HS.out
        case measure => simp [intOf]; omega
    · have hnl : n = l.length := by omega
      have HF := Lib.hid (show doneF l m = false by
        have h := HNO.out
        rw [hnl, List.take_length] at h
        unfold doneF; rw [find_none h])
      clear hx
      go_wp2
      go_ret
      exact ⟨by rw [HF.out]; rfl, HX2.out.trans HX.out⟩
end Go.Proofs.YtfpioijfocmfcaaGreatDoor
namespace Go.Proofs.YtfpioijfocmfcaaGreatDoor
open Go.RowKit

set_option maxRecDepth 100000 in
set_option maxHeartbeats 8000000 in
theorem rover_any {S : Nat → Prop} (w : World) (a b : Value) (qp qi : Nat) (told : Bool) (k : Kp) (v : Vw) (s : List UInt8) (ha : MkRow S w a k.need) (hb : MkRow S w b k.last)
    (hq : ∀ m, earlierF k.own m = (told && decide (m.proc = qp) && decide (m.inc < qi))) (hs : s.length ≤ 1000000) :
    Calls Tryz.prog 29 #[.agg (vwCells v), .agg #[a, b, u64 qp, u64 qi, u64 0, .bool told], str s] w fun e w' => e = .returned (.bool (isOver v k s)) ∧ Ext w w' := by
  show Calls Tryz.prog 29 #[.agg #[.int .u64 v.chain, .int .u64 v.floor, .int .u64 v.tail], .agg #[a, b, u64 qp, u64 qi, u64 0, .bool told], str s] w _
  obtain ⟨w2, hw2⟩ : ∃ u, u = (w.alloc (.cells #[.int .u64 v.chain, .int .u64 v.floor, .int .u64 v.tail] 35)).alloc (.cells #[a, b, u64 qp, u64 qi, u64 0, .bool told] 41) := ⟨_, rfl⟩
  have hx2 : Ext w w2 := by rw [hw2]; exact ((Upd.refl _ _).alloc _).alloc _
  have hV : w2.heap[w.heap.size]? = some (.cells #[.int .u64 v.chain, .int .u64 v.floor, .int .u64 v.tail] 35 (0, 0)) := by
    rw [hw2]; exact (Below.heap_alloc _ _ _ (by simp)).trans (newAt _ _)
  have hK : w2.heap[w.heap.size + 1]? = some (.cells #[a, b, u64 qp, u64 qi, u64 0, .bool told] 41 (0, 0)) := by
    rw [hw2]; have := newAt (w.alloc (.cells #[.int .u64 v.chain, .int .u64 v.floor, .int .u64 v.tail] 35)) (.cells #[a, b, u64 qp, u64 qi, u64 0, .bool told] 41); simpa using this
  have HW2 := Lib.hid hw2
  have HX2 := Lib.hid hx2
  have HV := Lib.hid hV
  have HK := Lib.hid hK
  have HA := Lib.hid (ha.ext hx2)
  have HB := Lib.hid (hb.ext hx2)
  have HQ := Lib.hid hq
  obtain ⟨x, hxx⟩ : ∃ x, x = (parseF s).1 := ⟨_, rfl⟩
  obtain ⟨ok, hok⟩ : ∃ o, o = (parseF s).2 := ⟨_, rfl⟩
  have HOV := Lib.hid (show isOver v k s = (ok && overF v k x) by unfold isOver; rw [← hxx, ← hok])
  have hpp : parseF s = (x, ok) := by rw [hxx, hok]
  have hcon := rparse_any w2 s hs
  unfold ParsePost at hcon
  rw [hpp] at hcon
  obtain ⟨xk, xd, xn, xp, xi, xs⟩ := x
  change Calls Tryz.prog 31 _ _ (fun e w' => e = .returned (.tuple #[.agg #[.int .u8 xk, .int .u64 xd, .int .u64 xn, .int .u64 xp, .int .u64 xi, .int .u64 xs], .bool ok]) ∧ Ext w2 w') at hcon
  have HCON := Lib.hid hcon
  clear hw2 hx2 hV hK ha hb hq hxx hok hpp hcon hs
  go_enter Tryz.func29, Tryz.ntmps29
  go_wp2_with (go_at_call 31; fail)
  rw [← HW2.out]
  refine HCON.out.mono ?_
  rintro e w5 ⟨rfl, hx5⟩
  have HX5 := Lib.hid (HX2.out.trans hx5)
  have v0 := cellAt (hx5.at_ HV.out id) 0 _ rfl
  have v1 := cellAt (hx5.at_ HV.out id) 1 _ rfl
  have v2 := cellAt (hx5.at_ HV.out id) 2 _ rfl
  have k0 := cellAt (hx5.at_ HK.out id) 0 _ rfl
  have k1 := cellAt (hx5.at_ HK.out id) 1 _ rfl
  have k2 := cellAt (hx5.at_ HK.out id) 2 _ rfl
  have k3 := cellAt (hx5.at_ HK.out id) 3 _ rfl
  have k4 := cellAt (hx5.at_ HK.out id) 4 _ rfl
  have k5 := cellAt (hx5.at_ HK.out id) 5 _ rfl
  have hvl := lt_of_heap (hx5.at_ HV.out id)
  have hkl := lt_of_heap (hx5.at_ HK.out id)
  cases ok with
  | false =>
    go_wp2
    go_ret
    exact ⟨by rw [HOV.out]; rfl, HX5.out.alloc _⟩
  | true =>
    obtain ⟨w7, hw7⟩ : ∃ u, u = (w5.alloc (.cells #[.int .u8 xk, .int .u64 xd, .int .u64 xn, .int .u64 xp, .int .u64 xi, .int .u64 xs] 70)).alloc (.cells #[.int .u64 xp, .int .u64 xi, .int .u64 xs] 39) := ⟨_, rfl⟩
    have hx7 : Ext w5 w7 := by rw [hw7]; exact ((Upd.refl _ _).alloc _).alloc _
    have hM : w7.heap[w5.heap.size + 1]? = some (.cells #[.int .u64 xp, .int .u64 xi, .int .u64 xs] 39 (0, 0)) := by
      rw [hw7]; have := newAt (w5.alloc (.cells #[.int .u8 xk, .int .u64 xd, .int .u64 xn, .int .u64 xp, .int .u64 xi, .int .u64 xs] 70)) (.cells #[.int .u64 xp, .int .u64 xi, .int .u64 xs] 39); simpa using this
    have HX7 := Lib.hid (HX5.out.trans hx7)
    have HM := Lib.hid hM
    have HW7 := Lib.hid hw7
    have HK7 := Lib.hid ((hx5.trans hx7).at_ HK.out id)
    have HA7 := Lib.hid (HA.out.ext (hx5.trans hx7))
    have HB7 := Lib.hid (HB.out.ext (hx5.trans hx7))
    clear hx5 hx7 hM hw7
    have HOV2 := Lib.hid (show isOver v k s = overF v k ⟨xk, xd, xn, xp, xi, xs⟩ by rw [HOV.out]; rfl)
    cases told with
    | false =>
      have HE := Lib.hid (show earlierF k.own ⟨xp, xi, xs⟩ = false by rw [HQ.out]; simp)
      by_cases h3 : xk = 3
      · have g3 : ((xk : Int) == 3) = true := by simp; omega
        have HR := Lib.hid (show overF v k ⟨xk, xd, xn, xp, xi, xs⟩ = false by rw [← HE.out]; simp [overF, h3, markOf])
        clear h3
        go_wp2
        go_ret
        rw [← HW7.out]
        exact ⟨by rw [HOV2.out, HR.out]; rfl, HX7.out⟩
      have g3 : ((xk : Int) == 3) = false := by simp; omega
      by_cases hd : xd = v.chain
      case neg =>
        have gd : ((xd : Int) != (v.chain : Int)) = true := by simp; omega
        have HR := Lib.hid (show overF v k ⟨xk, xd, xn, xp, xi, xs⟩ = false by simp [overF, h3, hd])
        clear hd h3
        go_wp2
        go_ret
        rw [← HW7.out]
        exact ⟨by rw [HOV2.out, HR.out]; rfl, HX7.out⟩
      have gd : ((xd : Int) != (v.chain : Int)) = false := by simp; omega
      by_cases h1 : xk = 1
      · have g1 : ((xk : Int) == 1) = true := by simp; omega
        by_cases hn : xn = 0
        · have gn : decide ((1 : Int) ≤ (xn : Int)) = false := by simp; omega
          have HR := Lib.hid (show overF v k ⟨xk, xd, xn, xp, xi, xs⟩ = false by simp [overF, h1, hd, hn])
          clear hd h3 hn h1
          go_wp2
          go_ret
          rw [← HW7.out]
          exact ⟨by rw [HOV2.out, HR.out]; rfl, HX7.out⟩
        · have gn : decide ((1 : Int) ≤ (xn : Int)) = true := by simp; omega
          have HR := Lib.hid (show overF v k ⟨xk, xd, xn, xp, xi, xs⟩ = decide (xn ≤ v.floor) by simp [overF, h1, hd, hn])
          clear hd h3 hn h1
          go_wp2
          go_ret
          rw [← HW7.out]
          exact ⟨by rw [HOV2.out, HR.out]; rfl, HX7.out⟩
      have g1 : ((xk : Int) == 1) = false := by simp; omega
      by_cases h2 : xk = 2
      · have g2 : ((xk : Int) == 2) = true := by simp; omega
        have HR := Lib.hid (show overF v k ⟨xk, xd, xn, xp, xi, xs⟩ = decide (xn < v.floor) by simp [overF, h2, hd])
        clear hd h3 h1 h2
        go_wp2
        go_ret
        rw [← HW7.out]
        exact ⟨by rw [HOV2.out, HR.out]; rfl, HX7.out⟩
      have g2 : ((xk : Int) == 2) = false := by simp; omega
      have HR := Lib.hid (show overF v k ⟨xk, xd, xn, xp, xi, xs⟩ = (!(k.need.contains ⟨xp, xi, xs⟩) && (doneF k.last ⟨xp, xi, xs⟩ || false)) by rw [← HE.out]; simp [overF, h3, hd, h1, h2, markOf])
      clear hd h3 h1 h2
      go_wp2_with (go_at_call 49; fail)
      rw [← HW7.out]
      refine (rneeded_any w7 a b qp qi _ k.need ⟨xp, xi, xs⟩ HA7.out).mono ?_
      rintro e w8 ⟨rfl, hx8⟩
      have HX8 := Lib.hid (HX7.out.trans hx8)
      have HB8 := Lib.hid (HB7.out.ext hx8)
      have r0 := cellAt (hx8.at_ HK7.out id) 0 _ rfl
      have r1 := cellAt (hx8.at_ HK7.out id) 1 _ rfl
      have r2 := cellAt (hx8.at_ HK7.out id) 2 _ rfl
      have r3 := cellAt (hx8.at_ HK7.out id) 3 _ rfl
      have r4 := cellAt (hx8.at_ HK7.out id) 4 _ rfl
      have r5 := cellAt (hx8.at_ HK7.out id) 5 _ rfl
      have m0 := cellAt (hx8.at_ HM.out id) 0 _ rfl
      have m1 := cellAt (hx8.at_ HM.out id) 1 _ rfl
      have m2 := cellAt (hx8.at_ HM.out id) 2 _ rfl
      clear hx8 v0 v1 v2 k0 k1 k2 k3 k4 k5
      obtain ⟨bc, hbc⟩ : ∃ u, u = k.need.contains ⟨xp, xi, xs⟩ := ⟨_, rfl⟩
      obtain ⟨bd, hbd⟩ : ∃ u, u = doneF k.last ⟨xp, xi, xs⟩ := ⟨_, rfl⟩
      rw [← hbc]
      have HR2 := Lib.hid (show overF v k ⟨xk, xd, xn, xp, xi, xs⟩ = (!bc && (bd || false)) by rw [HR.out, hbc, hbd])
      have HBD := Lib.hid hbd
      clear hbc hbd
      cases bc with
      | true =>
        go_wp2
        go_ret
        exact ⟨by rw [HOV2.out, HR2.out]; rfl, HX8.out⟩
      | false =>
        go_wp2_with (go_at_call 50; fail)
        refine (rdone_any w8 a b qp qi _ k.last ⟨xp, xi, xs⟩ HB8.out).mono ?_
        rintro e w9 ⟨rfl, hx9⟩
        rw [← HBD.out]
        have HX9 := Lib.hid (HX8.out.trans hx9)
        clear hx9 r0 r1 r2 r3 r4 r5 m0 m1 m2
        cases bd with
        | true =>
          go_wp2
          go_ret
          exact ⟨by rw [HOV2.out, HR2.out]; rfl, HX9.out⟩
        | false =>
          go_wp2
          go_ret
          exact ⟨by rw [HOV2.out, HR2.out]; rfl, HX9.out⟩
    | true =>
      by_cases hp : xp = qp
      · have f0 : ((xp : Int) == (qp : Int)) = true := by simp [hp]
        have HP := Lib.hid hp
        clear hp
        have HE := Lib.hid (show earlierF k.own ⟨xp, xi, xs⟩ = decide (xi < qi) by rw [HQ.out]; rw [HP.out]; simp)
        by_cases h3 : xk = 3
        · have g3 : ((xk : Int) == 3) = true := by simp; omega
          have HR := Lib.hid (show overF v k ⟨xk, xd, xn, xp, xi, xs⟩ = decide (xi < qi) by rw [← HE.out]; simp [overF, h3, markOf])
          clear h3
          go_wp2
          go_ret
          rw [← HW7.out]
          exact ⟨by rw [HOV2.out, HR.out]; rfl, HX7.out⟩
        have g3 : ((xk : Int) == 3) = false := by simp; omega
        by_cases hd : xd = v.chain
        case neg =>
          have gd : ((xd : Int) != (v.chain : Int)) = true := by simp; omega
          have HR := Lib.hid (show overF v k ⟨xk, xd, xn, xp, xi, xs⟩ = false by simp [overF, h3, hd])
          clear hd h3
          go_wp2
          go_ret
          rw [← HW7.out]
          exact ⟨by rw [HOV2.out, HR.out]; rfl, HX7.out⟩
        have gd : ((xd : Int) != (v.chain : Int)) = false := by simp; omega
        by_cases h1 : xk = 1
        · have g1 : ((xk : Int) == 1) = true := by simp; omega
          by_cases hn : xn = 0
          · have gn : decide ((1 : Int) ≤ (xn : Int)) = false := by simp; omega
            have HR := Lib.hid (show overF v k ⟨xk, xd, xn, xp, xi, xs⟩ = false by simp [overF, h1, hd, hn])
            clear hd h3 hn h1
            go_wp2
            go_ret
            rw [← HW7.out]
            exact ⟨by rw [HOV2.out, HR.out]; rfl, HX7.out⟩
          · have gn : decide ((1 : Int) ≤ (xn : Int)) = true := by simp; omega
            have HR := Lib.hid (show overF v k ⟨xk, xd, xn, xp, xi, xs⟩ = decide (xn ≤ v.floor) by simp [overF, h1, hd, hn])
            clear hd h3 hn h1
            go_wp2
            go_ret
            rw [← HW7.out]
            exact ⟨by rw [HOV2.out, HR.out]; rfl, HX7.out⟩
        have g1 : ((xk : Int) == 1) = false := by simp; omega
        by_cases h2 : xk = 2
        · have g2 : ((xk : Int) == 2) = true := by simp; omega
          have HR := Lib.hid (show overF v k ⟨xk, xd, xn, xp, xi, xs⟩ = decide (xn < v.floor) by simp [overF, h2, hd])
          clear hd h3 h1 h2
          go_wp2
          go_ret
          rw [← HW7.out]
          exact ⟨by rw [HOV2.out, HR.out]; rfl, HX7.out⟩
        have g2 : ((xk : Int) == 2) = false := by simp; omega
        have HR := Lib.hid (show overF v k ⟨xk, xd, xn, xp, xi, xs⟩ = (!(k.need.contains ⟨xp, xi, xs⟩) && (doneF k.last ⟨xp, xi, xs⟩ || decide (xi < qi))) by rw [← HE.out]; simp [overF, h3, hd, h1, h2, markOf])
        clear hd h3 h1 h2
        go_wp2_with (go_at_call 49; fail)
        rw [← HW7.out]
        refine (rneeded_any w7 a b qp qi _ k.need ⟨xp, xi, xs⟩ HA7.out).mono ?_
        rintro e w8 ⟨rfl, hx8⟩
        have HX8 := Lib.hid (HX7.out.trans hx8)
        have HB8 := Lib.hid (HB7.out.ext hx8)
        have r0 := cellAt (hx8.at_ HK7.out id) 0 _ rfl
        have r1 := cellAt (hx8.at_ HK7.out id) 1 _ rfl
        have r2 := cellAt (hx8.at_ HK7.out id) 2 _ rfl
        have r3 := cellAt (hx8.at_ HK7.out id) 3 _ rfl
        have r4 := cellAt (hx8.at_ HK7.out id) 4 _ rfl
        have r5 := cellAt (hx8.at_ HK7.out id) 5 _ rfl
        have m0 := cellAt (hx8.at_ HM.out id) 0 _ rfl
        have m1 := cellAt (hx8.at_ HM.out id) 1 _ rfl
        have m2 := cellAt (hx8.at_ HM.out id) 2 _ rfl
        clear hx8 v0 v1 v2 k0 k1 k2 k3 k4 k5
        obtain ⟨bc, hbc⟩ : ∃ u, u = k.need.contains ⟨xp, xi, xs⟩ := ⟨_, rfl⟩
        obtain ⟨bd, hbd⟩ : ∃ u, u = doneF k.last ⟨xp, xi, xs⟩ := ⟨_, rfl⟩
        rw [← hbc]
        have HR2 := Lib.hid (show overF v k ⟨xk, xd, xn, xp, xi, xs⟩ = (!bc && (bd || decide (xi < qi))) by rw [HR.out, hbc, hbd])
        have HBD := Lib.hid hbd
        clear hbc hbd
        cases bc with
        | true =>
          go_wp2
          go_ret
          exact ⟨by rw [HOV2.out, HR2.out]; rfl, HX8.out⟩
        | false =>
          go_wp2_with (go_at_call 50; fail)
          refine (rdone_any w8 a b qp qi _ k.last ⟨xp, xi, xs⟩ HB8.out).mono ?_
          rintro e w9 ⟨rfl, hx9⟩
          rw [← HBD.out]
          have HX9 := Lib.hid (HX8.out.trans hx9)
          clear hx9 r0 r1 r2 r3 r4 r5 m0 m1 m2
          cases bd with
          | true =>
            go_wp2
            go_ret
            exact ⟨by rw [HOV2.out, HR2.out]; rfl, HX9.out⟩
          | false =>
            go_wp2
            go_ret
            exact ⟨by rw [HOV2.out, HR2.out]; rfl, HX9.out⟩
      · have f0 : ((xp : Int) == (qp : Int)) = false := by simp; omega
        have HP := Lib.hid hp
        clear hp
        have HE := Lib.hid (show earlierF k.own ⟨xp, xi, xs⟩ = false by rw [HQ.out]; have := HP.out; simp [this])
        by_cases h3 : xk = 3
        · have g3 : ((xk : Int) == 3) = true := by simp; omega
          have HR := Lib.hid (show overF v k ⟨xk, xd, xn, xp, xi, xs⟩ = false by rw [← HE.out]; simp [overF, h3, markOf])
          clear h3
          go_wp2
          go_ret
          rw [← HW7.out]
          exact ⟨by rw [HOV2.out, HR.out]; rfl, HX7.out⟩
        have g3 : ((xk : Int) == 3) = false := by simp; omega
        by_cases hd : xd = v.chain
        case neg =>
          have gd : ((xd : Int) != (v.chain : Int)) = true := by simp; omega
          have HR := Lib.hid (show overF v k ⟨xk, xd, xn, xp, xi, xs⟩ = false by simp [overF, h3, hd])
          clear hd h3
          go_wp2
          go_ret
          rw [← HW7.out]
          exact ⟨by rw [HOV2.out, HR.out]; rfl, HX7.out⟩
        have gd : ((xd : Int) != (v.chain : Int)) = false := by simp; omega
        by_cases h1 : xk = 1
        · have g1 : ((xk : Int) == 1) = true := by simp; omega
          by_cases hn : xn = 0
          · have gn : decide ((1 : Int) ≤ (xn : Int)) = false := by simp; omega
            have HR := Lib.hid (show overF v k ⟨xk, xd, xn, xp, xi, xs⟩ = false by simp [overF, h1, hd, hn])
            clear hd h3 hn h1
            go_wp2
            go_ret
            rw [← HW7.out]
            exact ⟨by rw [HOV2.out, HR.out]; rfl, HX7.out⟩
          · have gn : decide ((1 : Int) ≤ (xn : Int)) = true := by simp; omega
            have HR := Lib.hid (show overF v k ⟨xk, xd, xn, xp, xi, xs⟩ = decide (xn ≤ v.floor) by simp [overF, h1, hd, hn])
            clear hd h3 hn h1
            go_wp2
            go_ret
            rw [← HW7.out]
            exact ⟨by rw [HOV2.out, HR.out]; rfl, HX7.out⟩
        have g1 : ((xk : Int) == 1) = false := by simp; omega
        by_cases h2 : xk = 2
        · have g2 : ((xk : Int) == 2) = true := by simp; omega
          have HR := Lib.hid (show overF v k ⟨xk, xd, xn, xp, xi, xs⟩ = decide (xn < v.floor) by simp [overF, h2, hd])
          clear hd h3 h1 h2
          go_wp2
          go_ret
          rw [← HW7.out]
          exact ⟨by rw [HOV2.out, HR.out]; rfl, HX7.out⟩
        have g2 : ((xk : Int) == 2) = false := by simp; omega
        have HR := Lib.hid (show overF v k ⟨xk, xd, xn, xp, xi, xs⟩ = (!(k.need.contains ⟨xp, xi, xs⟩) && (doneF k.last ⟨xp, xi, xs⟩ || false)) by rw [← HE.out]; simp [overF, h3, hd, h1, h2, markOf])
        clear hd h3 h1 h2
        go_wp2_with (go_at_call 49; fail)
        rw [← HW7.out]
        refine (rneeded_any w7 a b qp qi _ k.need ⟨xp, xi, xs⟩ HA7.out).mono ?_
        rintro e w8 ⟨rfl, hx8⟩
        have HX8 := Lib.hid (HX7.out.trans hx8)
        have HB8 := Lib.hid (HB7.out.ext hx8)
        have r0 := cellAt (hx8.at_ HK7.out id) 0 _ rfl
        have r1 := cellAt (hx8.at_ HK7.out id) 1 _ rfl
        have r2 := cellAt (hx8.at_ HK7.out id) 2 _ rfl
        have r3 := cellAt (hx8.at_ HK7.out id) 3 _ rfl
        have r4 := cellAt (hx8.at_ HK7.out id) 4 _ rfl
        have r5 := cellAt (hx8.at_ HK7.out id) 5 _ rfl
        have m0 := cellAt (hx8.at_ HM.out id) 0 _ rfl
        have m1 := cellAt (hx8.at_ HM.out id) 1 _ rfl
        have m2 := cellAt (hx8.at_ HM.out id) 2 _ rfl
        clear hx8 v0 v1 v2 k0 k1 k2 k3 k4 k5
        obtain ⟨bc, hbc⟩ : ∃ u, u = k.need.contains ⟨xp, xi, xs⟩ := ⟨_, rfl⟩
        obtain ⟨bd, hbd⟩ : ∃ u, u = doneF k.last ⟨xp, xi, xs⟩ := ⟨_, rfl⟩
        rw [← hbc]
        have HR2 := Lib.hid (show overF v k ⟨xk, xd, xn, xp, xi, xs⟩ = (!bc && (bd || false)) by rw [HR.out, hbc, hbd])
        have HBD := Lib.hid hbd
        clear hbc hbd
        cases bc with
        | true =>
          go_wp2
          go_ret
          exact ⟨by rw [HOV2.out, HR2.out]; rfl, HX8.out⟩
        | false =>
          go_wp2_with (go_at_call 50; fail)
          refine (rdone_any w8 a b qp qi _ k.last ⟨xp, xi, xs⟩ HB8.out).mono ?_
          rintro e w9 ⟨rfl, hx9⟩
          rw [← HBD.out]
          have HX9 := Lib.hid (HX8.out.trans hx9)
          clear hx9 r0 r1 r2 r3 r4 r5 m0 m1 m2
          cases bd with
          | true =>
            go_wp2
            go_ret
            exact ⟨by rw [HOV2.out, HR2.out]; rfl, HX9.out⟩
          | false =>
            go_wp2
            go_ret
            exact ⟨by rw [HOV2.out, HR2.out]; rfl, HX9.out⟩
end Go.Proofs.YtfpioijfocmfcaaGreatDoor
