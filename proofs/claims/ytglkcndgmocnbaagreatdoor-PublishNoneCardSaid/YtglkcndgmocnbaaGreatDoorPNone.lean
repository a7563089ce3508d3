/-
  CONTRACT of the law PublishNone: whatever configuration and result are handed in, it answers true. Conditions: numbers of 64 bits; the library's table lies as it is laid.
-/
import Derived.Test.YtglkcndgmocnbaaGreatDoorPNew
import Derived.BigQuiet
namespace Go.Proofs.YtglkcndgmocnbaaGreatDoor
open Go.RowKit

theorem ext_kept {s : Nat} {w w1 w2 : World} (h : Ext w w1) (k : Ev.Kept s w1 w2) (hs : w.heap.size ≤ s) : Ext w w2 :=
  ⟨k.os.trans h.os, k.tape.trans h.tape, k.output.trans h.output, Nat.le_trans h.size k.size, fun j hj hn => (k.block j (by omega)).trans (h.block j hj hn)⟩
def MadeAt (B c n p i s : Nat) (w : World) : Prop := ∃ tx x6 x7, w.heap[B]? = some (.cells (pubC B (.int .u64 c) (.int .u64 n) (.int .u64 p) (.int .u64 i) (.int .u64 s) x6 x7 tx (decide (n = 0)) (if n = 0 then 2 else 0)).toArray 48 (0, 0))
theorem pnew_made {S : Nat → Prop} (w : World) (c n p i s k : Nat) (v : Value) (l : List Int) (hc : c < 18446744073709551616) (hn : n < 18446744073709551616) (hp : p < 18446744073709551616) (hi : i < 18446744073709551616) (hk : k < 18446744073709551616)
    (hr : Row S w v l.length (l.map fun n => .int .u8 n)) (hl : l.length ≤ 300) (ht : Tab w) :
    Calls Tryz.prog 20 #[.int .u64 c, .int .u64 n, .int .u64 p, .int .u64 i, .int .u64 s, .int .u64 k, v] w fun e w' => ∃ B, w.heap.size ≤ B ∧ e = .returned (.pointer (some ⟨B, 0, none⟩)) ∧ Ext w w' ∧ MadeAt B c n p i s w' :=
  (pnew_any w c n p i s k v l hc hn hp hi hk hr hl ht).mono fun _ _ ⟨B, tx, x6, x7, h1, h2, h3, h4⟩ => ⟨B, h1, h2, h3, tx, x6, x7, h4⟩
set_option maxRecDepth 100000 in
set_option maxHeartbeats 4000000 in
theorem machine_any {S : Nat → Prop} (w : World) (c n p i s k : Nat) (v : Value) (l : List Int) (hc : c < 18446744073709551616) (hn : n < 18446744073709551616) (hp : p < 18446744073709551616) (hi : i < 18446744073709551616) (hk : k < 18446744073709551616)
    (hr : Row S w v l.length (l.map fun n => .int .u8 n)) (hl : l.length ≤ 300) (ht : Tab w) :
    Calls Tryz.prog 12 #[.agg #[.int .u64 c, .int .u64 n, .int .u64 p, .int .u64 i, .int .u64 s, .int .u64 k, v]] w fun e w' => ∃ B, w.heap.size ≤ B ∧ e = .returned (.pointer (some ⟨B, 0, none⟩)) ∧ Ext w w' ∧ MadeAt B c n p i s w' := by
  obtain ⟨w1, hw1⟩ : ∃ u, u = w.alloc (.cells #[.int .u64 c, .int .u64 n, .int .u64 p, .int .u64 i, .int .u64 s, .int .u64 k, v] 25) := ⟨_, rfl⟩
  have hx1 : Ext w w1 := by rw [hw1]; exact (Upd.refl _ _).alloc _
  obtain ⟨g, hg⟩ : ∃ g, g = w.heap.size := ⟨_, rfl⟩
  have hK : w1.heap[g]? = some (.cells #[.int .u64 c, .int .u64 n, .int .u64 p, .int .u64 i, .int .u64 s, .int .u64 k, v] 25 (0, 0)) := by rw [hw1, hg]; exact newAt _ _
  have HX1 := Lib.hid hx1
  have HW1 := Lib.hid hw1
  have HG := Lib.hid hg
  have HT := Lib.hid ht
  have HR := Lib.hid hr
  have b0 := cellAt hK 0 _ rfl
  have b1 := cellAt hK 1 _ rfl
  have b2 := cellAt hK 2 _ rfl
  have b3 := cellAt hK 3 _ rfl
  have b4 := cellAt hK 4 _ rfl
  have b5 := cellAt hK 5 _ rfl
  have b6 := cellAt hK 6 _ rfl
  clear hx1 hw1 hg ht hr hK
  go_enter Tryz.func12, Tryz.ntmps12
  go_upto_region 1 with (fail)
  rw [show w.alloc (.cells #[.int .u64 c, .int .u64 n, .int .u64 p, .int .u64 i, .int .u64 s, .int .u64 k, v] 25) = w1 from HW1.out.symm, show w.heap.size = g from HG.out.symm]
  go_wp2_with (go_at_call 20; fail)
  refine (pnew_made w1 c n p i s k v l hc hn hp hi hk (HR.out.ext HX1.out) hl (tab_ext HT.out HX1.out)).mono ?_
  rintro e w2 ⟨B, h1, rfl, h2, h3⟩
  have H3 := Lib.hid h3
  have H2 := Lib.hid (HX1.out.trans h2)
  have H1 := Lib.hid (show g ≤ B from by have := HX1.out.size; have := HG.out; omega)
  clear h1 h2 h3
  go_wp2
  go_ret
  exact ⟨B, by have := HG.out; have := H1.out; omega, rfl, H2.out, H3.out⟩

set_option maxRecDepth 100000 in
set_option maxHeartbeats 4000000 in
theorem publishNone_any {S : Nat → Prop} (w : World) (c n p i s k : Nat) (v x0 x1 x2 : Value) (l : List Int) (hc : c < 18446744073709551616) (hn : n < 18446744073709551616) (hp : p < 18446744073709551616) (hi : i < 18446744073709551616) (hk : k < 18446744073709551616)
    (hr : Row S w v l.length (l.map fun n => .int .u8 n)) (ht : Tab w) :
    Calls Tryz.prog 3 #[.agg #[.int .u64 c, .int .u64 n, .int .u64 p, .int .u64 i, .int .u64 s, .int .u64 k, v], .agg #[x0, x1, x2]] w fun e w' => e = .returned (.bool true) ∧ Ext w w' := by
  have HR0 := Lib.hid hr
  obtain ⟨ad, cp, rfl, -⟩ := hr
  obtain ⟨w1, hw1⟩ : ∃ u, u = w.alloc (.cells #[.int .u64 c, .int .u64 n, .int .u64 p, .int .u64 i, .int .u64 s, .int .u64 k, .slice ad l.length cp] 25) := ⟨_, rfl⟩
  obtain ⟨w2, hw2⟩ : ∃ u, u = w1.alloc (.cells #[x0, x1, x2] 29) := ⟨_, rfl⟩
  have hx1 : Ext w w1 := by rw [hw1]; exact (Upd.refl _ _).alloc _
  have hx2 : Ext w1 w2 := by rw [hw2]; exact (Upd.refl _ _).alloc _
  obtain ⟨g2, hg2⟩ : ∃ g, g = w.heap.size := ⟨_, rfl⟩
  obtain ⟨g3, hg3⟩ : ∃ g, g = w.heap.size + 1 := ⟨_, rfl⟩
  have hK1 : w1.heap[g2]? = some (.cells #[.int .u64 c, .int .u64 n, .int .u64 p, .int .u64 i, .int .u64 s, .int .u64 k, .slice ad l.length cp] 25 (0, 0)) := by rw [hw1, hg2]; exact newAt _ _
  have HC := Lib.hid (hx2.at_ hK1 id)
  have hs1 : w1.heap.size = w.heap.size + 1 := by rw [hw1]; simp
  have hK3 : w2.heap[g3]? = some (.cells #[x0, x1, x2] 29 (0, 0)) := by rw [hw2, hg3, ← hs1]; exact newAt _ _
  have HX2 := Lib.hid (hx1.trans hx2)
  have HW2 := Lib.hid (show w2 = (w.alloc (.cells #[.int .u64 c, .int .u64 n, .int .u64 p, .int .u64 i, .int .u64 s, .int .u64 k, .slice ad l.length cp] 25)).alloc (.cells #[x0, x1, x2] 29) by rw [hw2, hw1])
  have HG2 := Lib.hid hg2
  have HG3 := Lib.hid hg3
  have HLT := Lib.hid (show g2 < w2.heap.size by have := hx2.size; omega)
  have HT := Lib.hid (tab_ext ht (hx1.trans hx2))
  have HR := Lib.hid (HR0.out.ext (hx1.trans hx2))
  have b0 := cellAt hK3 0 _ rfl
  have b1 := cellAt hK3 1 _ rfl
  have b2 := cellAt hK3 2 _ rfl
  clear hw1 hw2 hx1 hx2 hg2 hg3 hK1 hK3 hs1 ht HR0
  go_enter Tryz.func3, Tryz.ntmps3
  go_upto_region 2 with (fail)
  rw [show (w.alloc (.cells #[.int .u64 c, .int .u64 n, .int .u64 p, .int .u64 i, .int .u64 s, .int .u64 k, .slice ad l.length cp] 25)).alloc (.cells #[x0, x1, x2] 29) = w2 from HW2.out.symm, show w.heap.size + 1 = g3 from HG3.out.symm, show w.heap.size = g2 from HG2.out.symm]
  go_wp2_with (go_at_call 4; fail)
  refine (feed_any _ x0 x1 x2).mono ?_
  rintro e w3 ⟨rfl, hx3⟩
  have HX3 := Lib.hid (HX2.out.trans hx3)
  replace HR := Lib.hid (HR.out.ext hx3)
  replace HT := Lib.hid (tab_ext HT.out hx3)
  replace HC := Lib.hid (hx3.at_ HC.out id)
  replace HLT := Lib.hid (Nat.lt_of_lt_of_le HLT.out hx3.size)
  clear hx3 b0 b1 b2 HW2 HG3 HX2
  go_wp2_with (go_at_call 5; fail)
  refine (next_any _).mono ?_
  rintro e w4 ⟨rfl, hx4⟩
  obtain ⟨w5, hw5⟩ : ∃ u, u = w4.alloc (.cells #[.int .u8 0, str [], str [], .slice none 0 0] 33) := ⟨_, rfl⟩
  have hx5 : Ext w4 w5 := by rw [hw5]; exact (Upd.refl _ _).alloc _
  obtain ⟨gc, hgc⟩ : ∃ g, g = w4.heap.size := ⟨_, rfl⟩
  have HCC := Lib.hid (show w5.heap[gc]? = some (.cells #[.int .u8 0, str [], str [], .slice none 0 0] 33 (0, 0)) by rw [hw5, hgc]; exact newAt _ _)
  have hx45 := hx4.trans hx5
  have HX5 := Lib.hid (HX3.out.trans hx45)
  replace HR := Lib.hid (HR.out.ext hx45)
  replace HT := Lib.hid (tab_ext HT.out hx45)
  replace HC := Lib.hid (hx45.at_ HC.out id)
  replace HLT := Lib.hid (Nat.lt_of_lt_of_le HLT.out hx45.size)
  have HW5 := Lib.hid hw5
  have HGC := Lib.hid hgc
  clear hx4 hx5 hw5 hgc hx45 HX3
  go_upto_region 4 with (fail)
  rw [← HW5.out, ← HGC.out]
  have c0 := cellAt HCC.out 0 _ rfl
  have b6 := cellAt HC.out 6 _ rfl
  by_cases hbig : 300 < l.length
  · have g1 : ((l.length : Int) > 300) := by omega
    go_wp2_with (go_at_call 11; fail)
    refine (works_any _).mono ?_
    rintro e w6 ⟨rfl, hx6⟩
    go_wp2
    go_ret
    exact ⟨rfl, HX5.out.trans hx6⟩
  · have g1 : ¬ ((l.length : Int) > 300) := by omega
    have HLN := Lib.hid (show l.length ≤ 300 by omega)
    go_wp2_with (go_at_call 6; fail)
    refine (done_any _).mono ?_
    rintro e w6 ⟨rfl, hx6⟩
    have HX6 := Lib.hid (HX5.out.trans hx6)
    replace HR := Lib.hid (HR.out.ext hx6)
    replace HT := Lib.hid (tab_ext HT.out hx6)
    replace HC := Lib.hid (hx6.at_ HC.out id)
    replace HLT := Lib.hid (Nat.lt_of_lt_of_le HLT.out hx6.size)
    clear hx6 HX5 c0 b6 HCC HW5 HGC
    go_wp2_with (go_at_call 7; fail)
    refine (err_any _).mono ?_
    rintro e w7 ⟨rfl, hx7⟩
    have HX7 := Lib.hid (HX6.out.trans hx7)
    replace HR := Lib.hid (HR.out.ext hx7)
    replace HT := Lib.hid (tab_ext HT.out hx7)
    replace HC := Lib.hid (hx7.at_ HC.out id)
    replace HLT := Lib.hid (Nat.lt_of_lt_of_le HLT.out hx7.size)
    clear hx7 HX6
    go_wp2_with (go_at_call 8; fail)
    refine (linked_any _).mono ?_
    rintro e w8 ⟨rfl, hx8⟩
    have HX8 := Lib.hid (HX7.out.trans hx8)
    replace HR := Lib.hid (HR.out.ext hx8)
    replace HT := Lib.hid (tab_ext HT.out hx8)
    replace HC := Lib.hid (hx8.at_ HC.out id)
    replace HLT := Lib.hid (Nat.lt_of_lt_of_le HLT.out hx8.size)
    clear hx8 HX7
    go_wp2_with (go_at_call 10; fail)
    refine (new_any _).mono ?_
    rintro e w9 ⟨fv, rfl, hx9⟩
    have HX9 := Lib.hid (HX8.out.trans hx9)
    replace HR := Lib.hid (HR.out.ext hx9)
    replace HT := Lib.hid (tab_ext HT.out hx9)
    replace HC := Lib.hid (hx9.at_ HC.out id)
    replace HLT := Lib.hid (Nat.lt_of_lt_of_le HLT.out hx9.size)
    clear hx9 HX8
    go_wp2_with (go_at_call 9; fail)
    refine (solo_any _ fv).mono ?_
    rintro e w10 ⟨rfl, hx10⟩
    have HX10 := Lib.hid (HX9.out.trans hx10)
    replace HR := Lib.hid (HR.out.ext hx10)
    replace HT := Lib.hid (tab_ext HT.out hx10)
    replace HC := Lib.hid (hx10.at_ HC.out id)
    replace HLT := Lib.hid (Nat.lt_of_lt_of_le HLT.out hx10.size)
    clear hx10 HX9
    have b0 := cellAt HC.out 0 _ rfl
    have b1 := cellAt HC.out 1 _ rfl
    have b2 := cellAt HC.out 2 _ rfl
    have b3 := cellAt HC.out 3 _ rfl
    have b4 := cellAt HC.out 4 _ rfl
    have b5 := cellAt HC.out 5 _ rfl
    have b6 := cellAt HC.out 6 _ rfl
    go_wp2_with (go_at_call 12; fail)
    refine (machine_any w10 c n p i s k _ l hc hn hp hi hk HR.out HLN.out HT.out).mono ?_
    rintro e w11 ⟨B, h1, rfl, hx11, hmade⟩
    obtain ⟨tx, x6, x7, hat⟩ := hmade
    have HH1 := Lib.hid h1
    have HX11 := Lib.hid (HX10.out.trans hx11)
    have HSZ := Lib.hid (show w10.heap.size ≤ w11.heap.size from hx11.size)
    have HAT := Lib.hid hat
    replace HC := Lib.hid (hx11.at_ HC.out id)
    have HWS := Lib.hid (show w.heap.size ≤ w10.heap.size from HX10.out.size)
    clear h1 hx11 hat b0 b1 b2 b3 b4 b5 b6 HR HT HX10 HG2
    by_cases hz : n = 0
    · subst hz
      have HGo := Lib.hid (show Gone w10.heap.size B (.int .u64 c) (.int .u64 (0 : Nat)) (.int .u64 p) (.int .u64 i) (.int .u64 s) x6 x7 tx true 2 0 2 w11 from ⟨HH1.out, HSZ.out, HAT.out, Ev.gone0_top _ _ _ _ _ _ _ _⟩)
      go_wp2_with (go_at_call 9; fail)
      refine HGo.out.solo.mono ?_
      rintro e w12 ⟨rfl, k12, s12, hD⟩
      have HK12 := Lib.hid (ext_kept HX11.out k12 HWS.out)
      have HC12 := Lib.hid (show w12.heap[g2]? = _ from (k12.block g2 HLT.out).trans HC.out)
      have b1 := cellAt HC12.out 1 _ rfl
      have HD := Lib.hid hD
      clear k12 s12 hD HAT HGo
      go_wp2_with (go_at_call 6; fail)
      refine HD.out.mono ?_
      rintro e w13 ⟨rfl, k13, s13, hE⟩
      have HK13 := Lib.hid (ext_kept HK12.out k13 HWS.out)
      have HE := Lib.hid hE
      clear k13 s13 hE b1 HD
      go_wp2_with (go_at_call 7; fail)
      refine HE.out.mono ?_
      rintro e w14 ⟨rfl, k14⟩
      have HK14 := Lib.hid (ext_kept HK13.out k14 HWS.out)
      clear k14 HE
      go_wp2_with (go_at_call 11; fail)
      refine (works_any _).mono ?_
      rintro e w15 ⟨rfl, hx15⟩
      go_wp2
      go_ret
      exact ⟨rfl, HK14.out.trans hx15⟩
    · have HGo := Lib.hid (show Gone w10.heap.size B (.int .u64 c) (.int .u64 n) (.int .u64 p) (.int .u64 i) (.int .u64 s) x6 x7 tx false 0 1 1 w11 from ⟨HH1.out, HSZ.out, by have := HAT.out; rw [decide_eq_false hz, if_neg hz] at this; exact this, Ev.gone1_top _ _ _ _ _ _ _ _⟩)
      have gz : ((n : Int) == 0) = false := by simp; omega
      go_wp2_with (go_at_call 9; fail)
      refine HGo.out.solo.mono ?_
      rintro e w12 ⟨rfl, k12, s12, hD⟩
      have HK12 := Lib.hid (ext_kept HX11.out k12 HWS.out)
      have HC12 := Lib.hid (show w12.heap[g2]? = _ from (k12.block g2 HLT.out).trans HC.out)
      have b1 := cellAt HC12.out 1 _ rfl
      have HD := Lib.hid hD
      clear k12 s12 hD HAT HGo
      go_wp2_with (go_at_call 6; fail)
      refine HD.out.mono ?_
      rintro e w13 ⟨rfl, k13, s13, hE⟩
      have HK13 := Lib.hid (ext_kept HK12.out k13 HWS.out)
      have HE := Lib.hid hE
      clear k13 s13 hE b1 HD
      go_wp2_with (go_at_call 7; fail)
      refine HE.out.mono ?_
      rintro e w14 ⟨rfl, k14⟩
      have HK14 := Lib.hid (ext_kept HK13.out k14 HWS.out)
      clear k14 HE
      go_wp2_with (go_at_call 11; fail)
      refine (works_any _).mono ?_
      rintro e w15 ⟨rfl, hx15⟩
      go_wp2
      go_ret
      exact ⟨rfl, HK14.out.trans hx15⟩
end Go.Proofs.YtglkcndgmocnbaaGreatDoor
