/-
  CONTRACT of the reference's over. No condition.
-/
import Derived.Test.YtfpioijfocmfcaaGreatDoorYRef
import Derived.Test.YtfpioijfocmfcaaGreatDoorGNR
namespace Go.Proofs.YtfpioijfocmfcaaGreatDoor
open Go.RowKit

set_option maxRecDepth 100000 in
set_option maxHeartbeats 8000000 in
theorem rover_any {S : Nat → Prop} (w : World) (a b : Value) (qp qi : Nat) (told : Bool) (k : Kp) (v : Vw) (s : List UInt8) (ha : MkRow S w a k.need) (hb : MkRow S w b k.last)
    (hq : ∀ m, earlierF k.own m = (told && decide (m.proc = qp) && decide (m.inc < qi))) (hs : s.length ≤ 1000000) :
    Calls Tryz.prog 29 #[.agg (vwCells v), .agg #[a, b, u64 qp, u64 qi, u64 0, .bool told], str s] w fun e w' => e = .returned (.bool (isOver v k s)) ∧ Ext w w' := by
  show Calls Tryz.prog 29 #[.agg #[.int .u64 v.chain, .int .u64 v.floor, .int .u64 v.tail], .agg #[a, b, u64 qp, u64 qi, u64 0, .bool told], str s] w _
  obtain ⟨w2, hw2⟩ : ∃ u, u = (w.alloc (.cells #[.int .u64 v.chain, .int .u64 v.floor, .int .u64 v.tail] 35)).alloc (.cells #[a, b, u64 qp, u64 qi, u64 0, .bool told] 41) := ⟨_, rfl⟩
  have hx2 : Ext w w2 := by rw [hw2]; exact ((Upd.refl _ _).alloc _).alloc _
  have hV : w2.heap[w.heap.size]? = some (.cells #[.int .u64 v.chain, .int .u64 v.floor, .int .u64 v.tail] 35 (0, 0)) := by
    rw [hw2]; exact (Below.heap_alloc _ _ _ (by simp)).trans (newAt _ _)
  have hK : w2.heap[w.heap.size + 1]? = some (.cells #[a, b, u64 qp, u64 qi, u64 0, .bool told] 41 (0, 0)) := by
    rw [hw2]; have := newAt (w.alloc (.cells #[.int .u64 v.chain, .int .u64 v.floor, .int .u64 v.tail] 35)) (.cells #[a, b, u64 qp, u64 qi, u64 0, .bool told] 41); simpa using this
  have HW2 := Lib.hid hw2
  have HX2 := Lib.hid hx2
  have HV := Lib.hid hV
  have HK := Lib.hid hK
  have HA := Lib.hid (ha.ext hx2)
  have HB := Lib.hid (hb.ext hx2)
  have HQ := Lib.hid hq
  obtain ⟨x, hxx⟩ : ∃ x, x = (parseF s).1 := ⟨_, rfl⟩
  obtain ⟨ok, hok⟩ : ∃ o, o = (parseF s).2 := ⟨_, rfl⟩
  have HOV := Lib.hid (show isOver v k s = (ok && overF v k x) by unfold isOver; rw [← hxx, ← hok])
  have hpp : parseF s = (x, ok) := by rw [hxx, hok]
  have hcon := rparse_any w2 s hs
  unfold ParsePost at hcon
  rw [hpp] at hcon
  obtain ⟨xk, xd, xn, xp, xi, xs⟩ := x
  change Calls Tryz.prog 31 _ _ (fun e w' => e = .returned (.tuple #[.agg #[.int .u8 xk, .int .u64 xd, .int .u64 xn, .int .u64 xp, .int .u64 xi, .int .u64 xs], .bool ok]) ∧ Ext w2 w') at hcon
  have HCON := Lib.hid hcon
  clear hw2 hx2 hV hK ha hb hq hxx hok hpp hcon hs
  go_enter Tryz.func29, Tryz.ntmps29
  go_wp2_with (go_at_call 31; fail)
  rw [← HW2.out]
  refine HCON.out.mono ?_
  rintro e w5 ⟨rfl, hx5⟩
  have HX5 := Lib.hid (HX2.out.trans hx5)
  have v0 := cellAt (hx5.at_ HV.out id) 0 _ rfl
  have v1 := cellAt (hx5.at_ HV.out id) 1 _ rfl
  have v2 := cellAt (hx5.at_ HV.out id) 2 _ rfl
  have k0 := cellAt (hx5.at_ HK.out id) 0 _ rfl
  have k1 := cellAt (hx5.at_ HK.out id) 1 _ rfl
  have k2 := cellAt (hx5.at_ HK.out id) 2 _ rfl
  have k3 := cellAt (hx5.at_ HK.out id) 3 _ rfl
  have k4 := cellAt (hx5.at_ HK.out id) 4 _ rfl
  have k5 := cellAt (hx5.at_ HK.out id) 5 _ rfl
  have hvl := lt_of_heap (hx5.at_ HV.out id)
  have hkl := lt_of_heap (hx5.at_ HK.out id)
  cases ok with
  | false =>
    go_wp2
    go_ret
    exact ⟨by rw [HOV.out]; rfl, HX5.out.alloc _⟩
  | true =>
    obtain ⟨w7, hw7⟩ : ∃ u, u = (w5.alloc (.cells #[.int .u8 xk, .int .u64 xd, .int .u64 xn, .int .u64 xp, .int .u64 xi, .int .u64 xs] 70)).alloc (.cells #[.int .u64 xp, .int .u64 xi, .int .u64 xs] 39) := ⟨_, rfl⟩
    have hx7 : Ext w5 w7 := by rw [hw7]; exact ((Upd.refl _ _).alloc _).alloc _
    have hM : w7.heap[w5.heap.size + 1]? = some (.cells #[.int .u64 xp, .int .u64 xi, .int .u64 xs] 39 (0, 0)) := by
      rw [hw7]; have := newAt (w5.alloc (.cells #[.int .u8 xk, .int .u64 xd, .int .u64 xn, .int .u64 xp, .int .u64 xi, .int .u64 xs] 70)) (.cells #[.int .u64 xp, .int .u64 xi, .int .u64 xs] 39); simpa using this
    have HX7 := Lib.hid (HX5.out.trans hx7)
    have HM := Lib.hid hM
    have HW7 := Lib.hid hw7
    have HK7 := Lib.hid ((hx5.trans hx7).at_ HK.out id)
    have HA7 := Lib.hid (HA.out.ext (hx5.trans hx7))
    have HB7 := Lib.hid (HB.out.ext (hx5.trans hx7))
    clear hx5 hx7 hM hw7
    have HOV2 := Lib.hid (show isOver v k s = overF v k ⟨xk, xd, xn, xp, xi, xs⟩ by rw [HOV.out]; rfl)
    cases told with
    | false =>
      have HE := Lib.hid (show earlierF k.own ⟨xp, xi, xs⟩ = false by rw [HQ.out]; simp)
      by_cases h3 : xk = 3
      · have g3 : ((xk : Int) == 3) = true := by simp; omega
        have HR := Lib.hid (show overF v k ⟨xk, xd, xn, xp, xi, xs⟩ = false by rw [← HE.out]; simp [overF, h3, markOf])
        clear h3
        go_wp2
        go_ret
        rw [← HW7.out]
        exact ⟨by rw [HOV2.out, HR.out]; rfl, HX7.out⟩
      have g3 : ((xk : Int) == 3) = false := by simp; omega
      by_cases hd : xd = v.chain
      case neg =>
        have gd : ((xd : Int) != (v.chain : Int)) = true := by simp; omega
        have HR := Lib.hid (show overF v k ⟨xk, xd, xn, xp, xi, xs⟩ = false by simp [overF, h3, hd])
        clear hd h3
        go_wp2
        go_ret
        rw [← HW7.out]
        exact ⟨by rw [HOV2.out, HR.out]; rfl, HX7.out⟩
      have gd : ((xd : Int) != (v.chain : Int)) = false := by simp; omega
      by_cases h1 : xk = 1
      · have g1 : ((xk : Int) == 1) = true := by simp; omega
        by_cases hn : xn = 0
        · have gn : decide ((1 : Int) ≤ (xn : Int)) = false := by simp; omega
          have HR := Lib.hid (show overF v k ⟨xk, xd, xn, xp, xi, xs⟩ = false by simp [overF, h1, hd, hn])
          clear hd h3 hn h1
          go_wp2
          go_ret
          rw [← HW7.out]
          exact ⟨by rw [HOV2.out, HR.out]; rfl, HX7.out⟩
        · have gn : decide ((1 : Int) ≤ (xn : Int)) = true := by simp; omega
          have HR := Lib.hid (show overF v k ⟨xk, xd, xn, xp, xi, xs⟩ = decide (xn ≤ v.floor) by simp [overF, h1, hd, hn])
          clear hd h3 hn h1
          go_wp2
          go_ret
          rw [← HW7.out]
          exact ⟨by rw [HOV2.out, HR.out]; rfl, HX7.out⟩
      have g1 : ((xk : Int) == 1) = false := by simp; omega
      by_cases h2 : xk = 2
      · have g2 : ((xk : Int) == 2) = true := by simp; omega
        have HR := Lib.hid (show overF v k ⟨xk, xd, xn, xp, xi, xs⟩ = decide (xn < v.floor) by simp [overF, h2, hd])
        clear hd h3 h1 h2
        go_wp2
        go_ret
        rw [← HW7.out]
        exact ⟨by rw [HOV2.out, HR.out]; rfl, HX7.out⟩
      have g2 : ((xk : Int) == 2) = false := by simp; omega
      have HR := Lib.hid (show overF v k ⟨xk, xd, xn, xp, xi, xs⟩ = (!(k.need.contains ⟨xp, xi, xs⟩) && (doneF k.last ⟨xp, xi, xs⟩ || false)) by rw [← HE.out]; simp [overF, h3, hd, h1, h2, markOf])
      clear hd h3 h1 h2
      go_wp2_with (go_at_call 49; fail)
      rw [← HW7.out]
      refine (rneeded_any w7 a b qp qi _ k.need ⟨xp, xi, xs⟩ HA7.out).mono ?_
      rintro e w8 ⟨rfl, hx8⟩
      have HX8 := Lib.hid (HX7.out.trans hx8)
      have HB8 := Lib.hid (HB7.out.ext hx8)
      have r0 := cellAt (hx8.at_ HK7.out id) 0 _ rfl
      have r1 := cellAt (hx8.at_ HK7.out id) 1 _ rfl
      have r2 := cellAt (hx8.at_ HK7.out id) 2 _ rfl
      have r3 := cellAt (hx8.at_ HK7.out id) 3 _ rfl
      have r4 := cellAt (hx8.at_ HK7.out id) 4 _ rfl
      have r5 := cellAt (hx8.at_ HK7.out id) 5 _ rfl
      have m0 := cellAt (hx8.at_ HM.out id) 0 _ rfl
      have m1 := cellAt (hx8.at_ HM.out id) 1 _ rfl
      have m2 := cellAt (hx8.at_ HM.out id) 2 _ rfl
      clear hx8 v0 v1 v2 k0 k1 k2 k3 k4 k5
      obtain ⟨bc, hbc⟩ : ∃ u, u = k.need.contains ⟨xp, xi, xs⟩ := ⟨_, rfl⟩
      obtain ⟨bd, hbd⟩ : ∃ u, u = doneF k.last ⟨xp, xi, xs⟩ := ⟨_, rfl⟩
      rw [← hbc]
      have HR2 := Lib.hid (show overF v k ⟨xk, xd, xn, xp, xi, xs⟩ = (!bc && (bd || false)) by rw [HR.out, hbc, hbd])
      have HBD := Lib.hid hbd
      clear hbc hbd
      cases bc with
      | true =>
        go_wp2
        go_ret
        exact ⟨by rw [HOV2.out, HR2.out]; rfl, HX8.out⟩
      | false =>
        go_wp2_with (go_at_call 50; fail)
        refine (rdone_any w8 a b qp qi _ k.last ⟨xp, xi, xs⟩ HB8.out).mono ?_
        rintro e w9 ⟨rfl, hx9⟩
        rw [← HBD.out]
        have HX9 := Lib.hid (HX8.out.trans hx9)
        clear hx9 r0 r1 r2 r3 r4 r5 m0 m1 m2
        cases bd with
        | true =>
          go_wp2
          go_ret
          exact ⟨by rw [HOV2.out, HR2.out]; rfl, HX9.out⟩
        | false =>
          go_wp2
          go_ret
          exact ⟨by rw [HOV2.out, HR2.out]; rfl, HX9.out⟩
    | true =>
      by_cases hp : xp = qp
      · have f0 : ((xp : Int) == (qp : Int)) = true := by simp [hp]
        have HP := Lib.hid hp
        clear hp
        have HE := Lib.hid (show earlierF k.own ⟨xp, xi, xs⟩ = decide (xi < qi) by rw [HQ.out]; rw [HP.out]; simp)
        by_cases h3 : xk = 3
        · have g3 : ((xk : Int) == 3) = true := by simp; omega
          have HR := Lib.hid (show overF v k ⟨xk, xd, xn, xp, xi, xs⟩ = decide (xi < qi) by rw [← HE.out]; simp [overF, h3, markOf])
          clear h3
          go_wp2
          go_ret
          rw [← HW7.out]
          exact ⟨by rw [HOV2.out, HR.out]; rfl, HX7.out⟩
        have g3 : ((xk : Int) == 3) = false := by simp; omega
        by_cases hd : xd = v.chain
        case neg =>
          have gd : ((xd : Int) != (v.chain : Int)) = true := by simp; omega
          have HR := Lib.hid (show overF v k ⟨xk, xd, xn, xp, xi, xs⟩ = false by simp [overF, h3, hd])
          clear hd h3
          go_wp2
          go_ret
          rw [← HW7.out]
          exact ⟨by rw [HOV2.out, HR.out]; rfl, HX7.out⟩
        have gd : ((xd : Int) != (v.chain : Int)) = false := by simp; omega
        by_cases h1 : xk = 1
        · have g1 : ((xk : Int) == 1) = true := by simp; omega
          by_cases hn : xn = 0
          · have gn : decide ((1 : Int) ≤ (xn : Int)) = false := by simp; omega
            have HR := Lib.hid (show overF v k ⟨xk, xd, xn, xp, xi, xs⟩ = false by simp [overF, h1, hd, hn])
            clear hd h3 hn h1
            go_wp2
            go_ret
            rw [← HW7.out]
            exact ⟨by rw [HOV2.out, HR.out]; rfl, HX7.out⟩
          · have gn : decide ((1 : Int) ≤ (xn : Int)) = true := by simp; omega
            have HR := Lib.hid (show overF v k ⟨xk, xd, xn, xp, xi, xs⟩ = decide (xn ≤ v.floor) by simp [overF, h1, hd, hn])
            clear hd h3 hn h1
            go_wp2
            go_ret
            rw [← HW7.out]
            exact ⟨by rw [HOV2.out, HR.out]; rfl, HX7.out⟩
        have g1 : ((xk : Int) == 1) = false := by simp; omega
        by_cases h2 : xk = 2
        · have g2 : ((xk : Int) == 2) = true := by simp; omega
          have HR := Lib.hid (show overF v k ⟨xk, xd, xn, xp, xi, xs⟩ = decide (xn < v.floor) by simp [overF, h2, hd])
          clear hd h3 h1 h2
          go_wp2
          go_ret
          rw [← HW7.out]
          exact ⟨by rw [HOV2.out, HR.out]; rfl, HX7.out⟩
        have g2 : ((xk : Int) == 2) = false := by simp; omega
        have HR := Lib.hid (show overF v k ⟨xk, xd, xn, xp, xi, xs⟩ = (!(k.need.contains ⟨xp, xi, xs⟩) && (doneF k.last ⟨xp, xi, xs⟩ || decide (xi < qi))) by rw [← HE.out]; simp [overF, h3, hd, h1, h2, markOf])
        clear hd h3 h1 h2
        go_wp2_with (go_at_call 49; fail)
        rw [← HW7.out]
        refine (rneeded_any w7 a b qp qi _ k.need ⟨xp, xi, xs⟩ HA7.out).mono ?_
        rintro e w8 ⟨rfl, hx8⟩
        have HX8 := Lib.hid (HX7.out.trans hx8)
        have HB8 := Lib.hid (HB7.out.ext hx8)
        have r0 := cellAt (hx8.at_ HK7.out id) 0 _ rfl
        have r1 := cellAt (hx8.at_ HK7.out id) 1 _ rfl
        have r2 := cellAt (hx8.at_ HK7.out id) 2 _ rfl
        have r3 := cellAt (hx8.at_ HK7.out id) 3 _ rfl
        have r4 := cellAt (hx8.at_ HK7.out id) 4 _ rfl
        have r5 := cellAt (hx8.at_ HK7.out id) 5 _ rfl
        have m0 := cellAt (hx8.at_ HM.out id) 0 _ rfl
        have m1 := cellAt (hx8.at_ HM.out id) 1 _ rfl
        have m2 := cellAt (hx8.at_ HM.out id) 2 _ rfl
        clear hx8 v0 v1 v2 k0 k1 k2 k3 k4 k5
        obtain ⟨bc, hbc⟩ : ∃ u, u = k.need.contains ⟨xp, xi, xs⟩ := ⟨_, rfl⟩
        obtain ⟨bd, hbd⟩ : ∃ u, u = doneF k.last ⟨xp, xi, xs⟩ := ⟨_, rfl⟩
        rw [← hbc]
        have HR2 := Lib.hid (show overF v k ⟨xk, xd, xn, xp, xi, xs⟩ = (!bc && (bd || decide (xi < qi))) by rw [HR.out, hbc, hbd])
        have HBD := Lib.hid hbd
        clear hbc hbd
        cases bc with
        | true =>
          go_wp2
          go_ret
          exact ⟨by rw [HOV2.out, HR2.out]; rfl, HX8.out⟩
        | false =>
          go_wp2_with (go_at_call 50; fail)
          refine (rdone_any w8 a b qp qi _ k.last ⟨xp, xi, xs⟩ HB8.out).mono ?_
          rintro e w9 ⟨rfl, hx9⟩
          rw [← HBD.out]
          have HX9 := Lib.hid (HX8.out.trans hx9)
          clear hx9 r0 r1 r2 r3 r4 r5 m0 m1 m2
          cases bd with
          | true =>
            go_wp2
            go_ret
            exact ⟨by rw [HOV2.out, HR2.out]; rfl, HX9.out⟩
          | false =>
            go_wp2
            go_ret
            exact ⟨by rw [HOV2.out, HR2.out]; rfl, HX9.out⟩
      · have f0 : ((xp : Int) == (qp : Int)) = false := by simp; omega
        have HP := Lib.hid hp
        clear hp
        have HE := Lib.hid (show earlierF k.own ⟨xp, xi, xs⟩ = false by rw [HQ.out]; have := HP.out; simp [this])
        by_cases h3 : xk = 3
        · have g3 : ((xk : Int) == 3) = true := by simp; omega
          have HR := Lib.hid (show overF v k ⟨xk, xd, xn, xp, xi, xs⟩ = false by rw [← HE.out]; simp [overF, h3, markOf])
          clear h3
          go_wp2
          go_ret
          rw [← HW7.out]
          exact ⟨by rw [HOV2.out, HR.out]; rfl, HX7.out⟩
        have g3 : ((xk : Int) == 3) = false := by simp; omega
        by_cases hd : xd = v.chain
        case neg =>
          have gd : ((xd : Int) != (v.chain : Int)) = true := by simp; omega
          have HR := Lib.hid (show overF v k ⟨xk, xd, xn, xp, xi, xs⟩ = false by simp [overF, h3, hd])
          clear hd h3
          go_wp2
          go_ret
          rw [← HW7.out]
          exact ⟨by rw [HOV2.out, HR.out]; rfl, HX7.out⟩
        have gd : ((xd : Int) != (v.chain : Int)) = false := by simp; omega
        by_cases h1 : xk = 1
        · have g1 : ((xk : Int) == 1) = true := by simp; omega
          by_cases hn : xn = 0
          · have gn : decide ((1 : Int) ≤ (xn : Int)) = false := by simp; omega
            have HR := Lib.hid (show overF v k ⟨xk, xd, xn, xp, xi, xs⟩ = false by simp [overF, h1, hd, hn])
            clear hd h3 hn h1
            go_wp2
            go_ret
            rw [← HW7.out]
            exact ⟨by rw [HOV2.out, HR.out]; rfl, HX7.out⟩
          · have gn : decide ((1 : Int) ≤ (xn : Int)) = true := by simp; omega
            have HR := Lib.hid (show overF v k ⟨xk, xd, xn, xp, xi, xs⟩ = decide (xn ≤ v.floor) by simp [overF, h1, hd, hn])
            clear hd h3 hn h1
            go_wp2
            go_ret
            rw [← HW7.out]
            exact ⟨by rw [HOV2.out, HR.out]; rfl, HX7.out⟩
        have g1 : ((xk : Int) == 1) = false := by simp; omega
        by_cases h2 : xk = 2
        · have g2 : ((xk : Int) == 2) = true := by simp; omega
          have HR := Lib.hid (show overF v k ⟨xk, xd, xn, xp, xi, xs⟩ = decide (xn < v.floor) by simp [overF, h2, hd])
          clear hd h3 h1 h2
          go_wp2
          go_ret
          rw [← HW7.out]
          exact ⟨by rw [HOV2.out, HR.out]; rfl, HX7.out⟩
        have g2 : ((xk : Int) == 2) = false := by simp; omega
        have HR := Lib.hid (show overF v k ⟨xk, xd, xn, xp, xi, xs⟩ = (!(k.need.contains ⟨xp, xi, xs⟩) && (doneF k.last ⟨xp, xi, xs⟩ || false)) by rw [← HE.out]; simp [overF, h3, hd, h1, h2, markOf])
        clear hd h3 h1 h2
        go_wp2_with (go_at_call 49; fail)
        rw [← HW7.out]
        refine (rneeded_any w7 a b qp qi _ k.need ⟨xp, xi, xs⟩ HA7.out).mono ?_
        rintro e w8 ⟨rfl, hx8⟩
        have HX8 := Lib.hid (HX7.out.trans hx8)
        have HB8 := Lib.hid (HB7.out.ext hx8)
        have r0 := cellAt (hx8.at_ HK7.out id) 0 _ rfl
        have r1 := cellAt (hx8.at_ HK7.out id) 1 _ rfl
        have r2 := cellAt (hx8.at_ HK7.out id) 2 _ rfl
        have r3 := cellAt (hx8.at_ HK7.out id) 3 _ rfl
        have r4 := cellAt (hx8.at_ HK7.out id) 4 _ rfl
        have r5 := cellAt (hx8.at_ HK7.out id) 5 _ rfl
        have m0 := cellAt (hx8.at_ HM.out id) 0 _ rfl
        have m1 := cellAt (hx8.at_ HM.out id) 1 _ rfl
        have m2 := cellAt (hx8.at_ HM.out id) 2 _ rfl
        clear hx8 v0 v1 v2 k0 k1 k2 k3 k4 k5
        obtain ⟨bc, hbc⟩ : ∃ u, u = k.need.contains ⟨xp, xi, xs⟩ := ⟨_, rfl⟩
        obtain ⟨bd, hbd⟩ : ∃ u, u = doneF k.last ⟨xp, xi, xs⟩ := ⟨_, rfl⟩
        rw [← hbc]
        have HR2 := Lib.hid (show overF v k ⟨xk, xd, xn, xp, xi, xs⟩ = (!bc && (bd || false)) by rw [HR.out, hbc, hbd])
        have HBD := Lib.hid hbd
        clear hbc hbd
        cases bc with
        | true =>
          go_wp2
          go_ret
          exact ⟨by rw [HOV2.out, HR2.out]; rfl, HX8.out⟩
        | false =>
          go_wp2_with (go_at_call 50; fail)
          refine (rdone_any w8 a b qp qi _ k.last ⟨xp, xi, xs⟩ HB8.out).mono ?_
          rintro e w9 ⟨rfl, hx9⟩
          rw [← HBD.out]
          have HX9 := Lib.hid (HX8.out.trans hx9)
          clear hx9 r0 r1 r2 r3 r4 r5 m0 m1 m2
          cases bd with
          | true =>
            go_wp2
            go_ret
            exact ⟨by rw [HOV2.out, HR2.out]; rfl, HX9.out⟩
          | false =>
            go_wp2
            go_ret
            exact ⟨by rw [HOV2.out, HR2.out]; rfl, HX9.out⟩
end Go.Proofs.YtfpioijfocmfcaaGreatDoor
