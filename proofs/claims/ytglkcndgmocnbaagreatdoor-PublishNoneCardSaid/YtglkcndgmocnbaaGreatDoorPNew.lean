/-
  CONTRACTS of name.OfTemp, name.OfSlot, publish.New. Conditions: numbers of 64 bits; the library's table lies as it is laid.
-/
import Derived.Test.YtglkcndgmocnbaaGreatDoorNPut
import Derived.Test.YtglkcndgmocnbaaGreatDoorEvRun24
import Derived.Deep.CutRange
import Derived.Laws.OwnMore
namespace Go.Proofs.YtglkcndgmocnbaaGreatDoor
open Go.RowKit

theorem z64 : (0 : Nat) < 18446744073709551616 := by decide
theorem ofSlot_any (w : World) (a b : Nat) (ha : a < 18446744073709551616) (hb : b < 18446744073709551616) (ht : Tab w) :
    Calls Tryz.prog 24 #[u64 a, u64 b] w fun e w' => ∃ s, e = .returned (str s) ∧ Ext w w' := by
  have hp := put_any w ⟨1, a, b, 0, 0, 0⟩ ⟨by show (1 : Nat) < 256; decide, ha, hb, z64, z64, z64⟩ ht
  have HP := Lib.hid hp
  clear hp
  go_enter Tryz.func24, Tryz.ntmps24
  go_wp2_with (go_at_call 34; fail)
  refine HP.out.mono ?_
  rintro e w1 ⟨rfl, hx1⟩
  go_wp2
  go_ret
  exact ⟨_, rfl, hx1⟩
theorem ofTemp_any (w : World) (a b c : Nat) (ha : a < 18446744073709551616) (hb : b < 18446744073709551616) (hc : c < 18446744073709551616) (ht : Tab w) :
    Calls Tryz.prog 23 #[u64 a, u64 b, u64 c] w fun e w' => ∃ s, e = .returned (str s) ∧ Ext w w' := by
  have hp := put_any w ⟨3, 0, 0, a, b, c⟩ ⟨by show (3 : Nat) < 256; decide, z64, z64, ha, hb, hc⟩ ht
  have HP := Lib.hid hp
  clear hp
  go_enter Tryz.func23, Tryz.ntmps23
  go_wp2_with (go_at_call 34; fail)
  refine HP.out.mono ?_
  rintro e w1 ⟨rfl, hx1⟩
  go_wp2
  go_ret
  exact ⟨_, rfl, hx1⟩
theorem Tryz.bytesT : SliceT Tryz.prog 23 5 1 1 := sliceT_of Tryz.underlying23 (by kernel_rfl) (by decide)
theorem u8_ones (l : List Int) : OneCells (l.map fun n => Value.int .u8 n) := by
  intro v hv
  obtain ⟨n, -, rfl⟩ := List.mem_map.1 hv
  rfl
set_option maxRecDepth 100000 in
theorem eqNil_t (w : World) (n c : Nat) : (binOp .eql 23 (.slice none n c) (.slice none 0 0)).run Tryz.prog w = .ok (.bool true) w := by kernel_rfl
set_option maxRecDepth 100000 in
theorem eqNil_f (w : World) (a : Addr) (n c : Nat) : (binOp .eql 23 (.slice (some a) n c) (.slice none 0 0)).run Tryz.prog w = .ok (.bool false) w := by kernel_rfl
set_option maxRecDepth 100000 in
set_option maxHeartbeats 2000000 in
theorem clone_any {S : Nat → Prop} (w : World) (v : Value) (l : List Int) (hr : Row S w v l.length (l.map fun n => .int .u8 n)) (hl : l.length ≤ 300) :
    Calls Tryz.prog 13 #[v] w fun e w' => ∃ a n c, e = .returned (.slice a n c) ∧ Ext w w' := by
  have HR := Lib.hid hr
  obtain ⟨ad, cp, rfl, -⟩ := hr
  go_enter Tryz.func13, Tryz.ntmps13
  cases ad with
  | none =>
    have e0 := eqNil_t
    go_wp2
    go_ret
    exact ⟨none, 0, 0, rfl, Upd.refl _ _⟩
  | some a =>
    have e0 := eqNil_f
    have hsl : (l.map fun n => Value.int .u8 n).length = l.length * 1 := by simp
    have h0 : (w.alloc (.cells #[] 5)).ownsRow w.heap.size 5 1 (.slice (some ⟨w.heap.size, 0, none⟩) 0 0) 0 [] := World.ownsRow_lit w #[] 0 (Nat.le_refl _) (by decide) rfl
    have h1 := HR.out.ext ((Upd.refl Nothing w).alloc (.cells #[] 5))
    go_wp2_with (at_builtin; go_must (refine wpList_append_row rfl _ _ _ rfl Tryz.bytesT rfl h0 rfl h1 hsl (u8_ones l) ?c3 ?c4 ?c5 ?_))
    case c3 => unfold maxLen; omega
    case c4 => omega
    case c5 => simp
    intro v7 w7 hown7 hg7 _
    obtain ⟨a3, n3, c3, rfl⟩ := ownsForm hown7
    have hx7 : Ext w w7 := ((Upd.refl Nothing w).alloc (.cells #[] 5)).grown hg7 (fun j hj h => by
      have e : j = w.heap.size := by cases hj; rfl
      omega)
    go_wp2
    go_ret
    exact ⟨a3, n3, c3, rfl, hx7⟩
set_option maxRecDepth 100000 in
set_option maxHeartbeats 4000000 in
theorem pnew_any {S : Nat → Prop} (w : World) (c n p i s k : Nat) (v : Value) (l : List Int) (hc : c < 18446744073709551616) (hn : n < 18446744073709551616) (hp : p < 18446744073709551616) (hi : i < 18446744073709551616) (hk : k < 18446744073709551616)
    (hr : Row S w v l.length (l.map fun n => .int .u8 n)) (hl : l.length ≤ 300) (ht : Tab w) :
    Calls Tryz.prog 20 #[.int .u64 c, .int .u64 n, .int .u64 p, .int .u64 i, .int .u64 s, .int .u64 k, v] w fun e w' => ∃ B tx x6 x7, w.heap.size ≤ B ∧ e = .returned (.pointer (some ⟨B, 0, none⟩)) ∧ Ext w w' ∧
      w'.heap[B]? = some (.cells (pubC B (.int .u64 c) (.int .u64 n) (.int .u64 p) (.int .u64 i) (.int .u64 s) x6 x7 tx (decide (n = 0)) (if n = 0 then 2 else 0)).toArray 48 (0, 0)) := by
  have HT := Lib.hid ht
  have HR := Lib.hid hr
  clear ht
  obtain ⟨ad, cp, rfl, -⟩ := hr
  go_enter Tryz.func20, Tryz.ntmps20
  go_wp2_with (go_at_call 23; fail)
  refine (ofTemp_any w p i k hp hi hk HT.out).mono ?_
  rintro e w1 ⟨tx, rfl, hx1⟩
  have HX1 := Lib.hid hx1
  clear hx1
  go_wp2_with (go_at_call 24; fail)
  refine (ofSlot_any w1 c n hc hn (tab_ext HT.out HX1.out)).mono ?_
  rintro e w2 ⟨sx, rfl, hx2⟩
  have HX2 := Lib.hid (HX1.out.trans hx2)
  clear hx2 HX1
  go_wp2_with (go_at_call 13; fail)
  refine (clone_any w2 _ l (HR.out.ext HX2.out) hl).mono ?_
  rintro e w3 ⟨a3, n3, c3, rfl, hx3⟩
  have HX3 := Lib.hid (HX2.out.trans hx3)
  clear hx3 HX2
  go_upto_region 2 with (fail)
  obtain ⟨w4, hw4⟩ : ∃ u, u = w3.alloc (.cells #[.int .u64 c, .int .u64 n, .int .u64 p, .int .u64 i, .int .u64 s, str tx, str sx, .slice a3 n3 c3, .int .u8 0, .string ⟨#[]⟩, .string ⟨#[]⟩, .slice none 0 0, .nilFunc, .bool false, .int .i64 0, .bool false] 48) := ⟨_, rfl⟩
  obtain ⟨B, hB⟩ : ∃ g, g = w3.heap.size := ⟨_, rfl⟩
  rw [← hw4, ← hB]
  have HA := Lib.hid (show w4.heap[B]? = some (.cells #[.int .u64 c, .int .u64 n, .int .u64 p, .int .u64 i, .int .u64 s, str tx, str sx, .slice a3 n3 c3, .int .u8 0, .string ⟨#[]⟩, .string ⟨#[]⟩, .slice none 0 0, .nilFunc, .bool false, .int .i64 0, .bool false] 48 (0, 0)) by rw [hw4, hB]; exact newAt _ _)
  have HX4 := Lib.hid (show Ext w w4 from HX3.out.trans (by rw [hw4]; exact (Upd.refl _ _).alloc _))
  have HBB := Lib.hid (show w.heap.size ≤ B by have := HX3.out.size; omega)
  clear hw4 hB HX3
  have b5 := cellAt HA.out 5 _ rfl
  have q8 := cellAt HA.out 8 _ rfl
  have q9 := cellAt HA.out 9 _ rfl
  have q10 := cellAt HA.out 10 _ rfl
  have q11 := cellAt HA.out 11 _ rfl
  have q12 := cellAt HA.out 12 _ rfl
  have f8 := freeAt HA.out 8
  have f9 := freeAt HA.out 9
  have f10 := freeAt HA.out 10
  have f11 := freeAt HA.out 11
  have f12 := freeAt HA.out 12
  have lb := lt_of_heap HA.out
  have hsf : ∀ w' : World, (store ⟨B, 12, none⟩ (.func (.func 25) #[.pointer (some ⟨B, 0, none⟩)] #[])).run Tryz.prog w' = stored Tryz.prog w' ⟨B, 12, none⟩ (.func (.func 25) #[.pointer (some ⟨B, 0, none⟩)] #[]) .plain := fun w' => run_store Tryz.prog w' _ _ _ rfl
  go_upto_region 3 with (fail)
  obtain ⟨w5, hw5⟩ : ∃ u, u = ((((w4.setCell ⟨B, 8, none⟩ (.int .u8 1)).setCell ⟨B, 9, none⟩ (str tx)).setCell ⟨B, 10, none⟩ (str [])).setCell ⟨B, 11, none⟩ (.slice none 0 0)).setCell ⟨B, 12, none⟩ (.func (.func 25) #[.pointer (some ⟨B, 0, none⟩)] #[]) := ⟨_, rfl⟩
  rw [show ((((w4.setCell ⟨B, 8, none⟩ (.int .u8 1)).setCell ⟨B, 9, none⟩ (.string ⟨tx.toArray⟩)).setCell ⟨B, 10, none⟩ (.string ⟨#[]⟩)).setCell ⟨B, 11, none⟩ (.slice none 0 0)).setCell ⟨B, 12, none⟩ (.func (.func 25) #[.pointer (some ⟨B, 0, none⟩)] #[]) = w5 from hw5.symm]
  have hu5 : Upd (At B) w4 w5 := by rw [hw5]; exact ((((Upd.own _ _ _ _).trans (Upd.own _ _ _ _)).trans (Upd.own _ _ _ _)).trans (Upd.own _ _ _ _)).trans (Upd.own _ _ _ _)
  have HB5 := Lib.hid (show w5.heap[B]? = some (.cells #[.int .u64 c, .int .u64 n, .int .u64 p, .int .u64 i, .int .u64 s, str tx, str sx, .slice a3 n3 c3, .int .u8 1, str tx, str [], .slice none 0 0, .func (.func 25) #[.pointer (some ⟨B, 0, none⟩)] #[], .bool false, .int .i64 0, .bool false] 48 (0, 0)) by rw [hw5]; exact setAt (setAt (setAt (setAt (setAt HA.out)))))
  have HX5 := Lib.hid (show Ext w w5 from HX4.out.step hu5 (fun i hi e => by unfold At at e; have := HBB.out; omega))
  clear hw5 hu5 b5 q8 q9 q10 q11 q12 f8 f9 f10 f11 f12 lb hsf HA HX4
  by_cases hz : n = 0
  · have gz : ((n : Int) == 0) = true := by simp [hz]
    have HZ := Lib.hid hz
    clear hz
    have q13 := cellAt HB5.out 13 _ rfl
    have q14 := cellAt HB5.out 14 _ rfl
    have f13 := freeAt HB5.out 13
    have f14 := freeAt HB5.out 14
    have lb := lt_of_heap HB5.out
    go_upto_region 5 with (fail)
    obtain ⟨w6, hw6⟩ : ∃ u, u = (w5.setCell ⟨B, 13, none⟩ (.bool true)).setCell ⟨B, 14, none⟩ (.int .i64 2) := ⟨_, rfl⟩
    rw [← hw6]
    have hu6 : Upd (At B) w5 w6 := by rw [hw6]; exact (Upd.own _ _ _ _).trans (Upd.own _ _ _ _)
    have HB6 := Lib.hid (show w6.heap[B]? = some (.cells #[.int .u64 c, .int .u64 n, .int .u64 p, .int .u64 i, .int .u64 s, str tx, str sx, .slice a3 n3 c3, .int .u8 1, str tx, str [], .slice none 0 0, .func (.func 25) #[.pointer (some ⟨B, 0, none⟩)] #[], .bool true, .int .i64 2, .bool false] 48 (0, 0)) by rw [hw6]; exact setAt (setAt HB5.out))
    have HX6 := Lib.hid (show Ext w w6 from HX5.out.step hu6 (fun i hi e => by unfold At at e; have := HBB.out; omega))
    clear hw6 hu6 q13 q14 f13 f14 lb
    go_wp2
    go_ret
    refine ⟨B, HBB.out, rfl, HX6.out, tx, str sx, .slice a3 n3 c3, ?_⟩
    have h := HB6.out
    rw [HZ.out] at h
    first | exact h | simpa [pubC, HZ.out] using h
  · have gz : ((n : Int) == 0) = false := by simp; omega
    have HZ := Lib.hid hz
    clear hz
    go_wp2
    go_ret
    refine ⟨B, HBB.out, rfl, HX5.out, tx, str sx, .slice a3 n3 c3, ?_⟩
    have h := HB5.out
    first | (rw [decide_eq_false HZ.out, if_neg HZ.out]; exact h) | exact h | simpa [pubC, HZ.out] using h
end Go.Proofs.YtglkcndgmocnbaaGreatDoor
