/-
  CONTRACT of the law MendNeeds: whatever versions are handed in, it answers true. No condition.
-/
import Derived.Test.YtcfmohjffnpfpaaGreatDoorQMend
import Derived.Test.YtcfmohjffnpfpaaGreatDoorQRef
import Derived.Test.YtcfmohjffnpfpaaGreatDoorEvRun27N
import Derived.Laws.StructEq
import Derived.BigQuiet
namespace Go.Proofs.YtcfmohjffnpfpaaGreatDoor
open Go.RowKit

set_option maxRecDepth 100000 in
set_option maxHeartbeats 4000000 in
theorem mendNeeds_any {S' : Nat → Prop} (w : World) (nv : Value) (l : List Vn) (hr : VRow S' w nv l) :
    Calls Tryz.prog 3 #[nv] w fun e w' => e = .returned (.bool true) ∧ Ext w w' := by
  have HR := Lib.hid hr
  obtain ⟨ad, cp, rfl, hlc, hm, -⟩ := hr
  unfold maxLen at hm
  go_enter Tryz.func3, Tryz.ntmps3
  by_cases hbig : 30 < l.length
  · have g1 : ((l.length : Int) > 30) := by omega
    go_wp2_with (go_at_call 4; fail)
    refine (works_any _).mono ?_
    rintro e w4 ⟨rfl, hx4⟩
    go_wp2
    go_ret
    exact ⟨rfl, hx4⟩
  · have g1 : ¬ ((l.length : Int) > 30) := by omega
    have HLN := Lib.hid (show l.length ≤ 30 by omega)
    go_wp2_with (go_at_call 5; fail)
    refine (mneed_any _ _ l HR.out (by have := HLN.out; omega)).mono ?_
    rintro e w12 ⟨v12, rfl, ho12, hx12⟩
    have HX12 := Lib.hid hx12
    replace HR := Lib.hid (HR.out.ext hx12)
    have HG := Lib.hid (Row.of_owns ho12)
    obtain ⟨a5, c5, rfl⟩ := ownsFormN ho12
    clear ho12 hx12
    go_wp2_with (go_at_call 7; fail)
    refine (cvers_any _ _ l HR.out (by have := HLN.out; omega)).mono ?_
    rintro e w13 ⟨v13, rfl, ho13, hx13⟩
    have HX13 := Lib.hid (HX12.out.trans hx13)
    replace HG := Lib.hid (HG.out.ext hx13)
    have HV := Lib.hid (Row.of_owns ho13)
    obtain ⟨a6, c6, rfl⟩ := ownsFormN ho13
    clear ho13 hx13 HX12 HR
    go_wp2_with (go_at_call 6; fail)
    refine (rneed_any _ _ l HV.out (by have := HLN.out; omega)).mono ?_
    rintro e w14 ⟨v14, rfl, ho14, hx14⟩
    have HX14 := Lib.hid (HX13.out.trans hx14)
    replace HG := Lib.hid (HG.out.ext hx14)
    have HW := Lib.hid (Row.of_owns ho14)
    obtain ⟨a7, c7, rfl⟩ := ownsFormN ho14
    clear ho14 hx14 HX13 HV
    have hml := needV_length l
    obtain ⟨ms, hms⟩ : ∃ ms, ms = needV l := ⟨_, rfl⟩
    rw [← hms] at hml ⊢
    replace HG := Lib.hid (show MkRow _ w14 (.slice a5 ms.length c5) ms by rw [hms]; exact HG.out)
    replace HW := Lib.hid (show MkRow _ w14 (.slice a7 ms.length c7) ms by rw [hms]; exact HW.out)
    have HML := Lib.hid (show ms.length ≤ 30 by have := HLN.out; omega)
    have i30 : (ms.length : Int) ≤ 30 := by have := HML.out; omega
    clear hms hml hm hlc
    go_wp2
    go_loopw [5] (fun t wr => ∃ n : Nat, n ≤ ms.length ∧ t = .int .i64 n ∧ Ext w14 wr) (fun t _ => ms.length - (intOf t).toNat)
    case atStart => exact ⟨0, Nat.zero_le _, rfl, Upd.refl _ _⟩
    case round =>
      obtain ⟨n, hn, rfl, hx⟩ := hrel
      have HX := Lib.hid hx
      by_cases hlt : n < ms.length
      · obtain ⟨b1, o1, c1, e1, -, -, -, hq⟩ := (HG.out.ext hx).addr (by omega)
        cases e1
        obtain ⟨b2, o2, c2, e2, -, -, -, hp⟩ := (HW.out.ext hx).addr (by omega)
        cases e2
        have d0 := mk_cells hq hlt 0 _ rfl
        have d1 := mk_cells hq hlt 1 _ rfl
        have d2 := mk_cells hq hlt 2 _ rfl
        have k0 := mk_cells hp hlt 0 _ rfl
        have k1 := mk_cells hp hlt 1 _ rfl
        have k2 := mk_cells hp hlt 2 _ rfl
        generalize ms[n] = z at d0 d1 d2 k0 k1 k2
        simp only [Nat.add_zero] at d0 k0
        clear hq hp hx
        go_wp2
        go_quiet (fail)
        go_wp2
        go_roundw
        case rel => exact ⟨n + 1, by omega, by go_num, HX.out.drewN _⟩
        case measure => simp [intOf]; omega
      · have hqn : ¬ ((n : Int) < (ms.length : Int)) := by omega
        have HX15 := Lib.hid (HX14.out.trans hx)
        clear hx HX14
        go_wp2_with (go_at_call 4; fail)
        refine (works_any _).mono ?_
        rintro e w15 ⟨rfl, hx15⟩
        go_wp2
        go_ret
        exact ⟨rfl, HX15.out.trans hx15⟩
end Go.Proofs.YtcfmohjffnpfpaaGreatDoor
