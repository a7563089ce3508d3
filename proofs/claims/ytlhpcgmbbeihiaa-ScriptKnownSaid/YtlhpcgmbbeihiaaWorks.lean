/-
  CONTRACT of the law's own function works: the chapter's examples: it hands back true.
-/
import Derived.Test.YtlhpcgmbbeihiaaLSame
import Derived.Test.YtlhpcgmbbeihiaaGEvs
namespace Go.Proofs.Ytlhpcgmbbeihiaa
open Go.RowKit

def evA : Ev := ⟨1, 1, Oper'.zero 0, 0, 0, []⟩
def evB : Ev := ⟨2, 0, ⟨2, 0, [97], [], [], [], 0, 0, 0⟩, 0, 0, []⟩
def evC : Ev := ⟨3, 1, Oper'.zero 0, 9, 0, []⟩
def evD : Ev := ⟨6, 0, Oper'.zero 0, 0, 194, [true, true, false, false, false, false, false, false]⟩
def evE : Ev := ⟨4, 0, Oper'.zero 0, 0, 0, []⟩
theorem read_nil : readF [] = (⟨1, 0, 16, 1⟩, []) := by decide
theorem read_three : readF [1, 5, 3, 7, 1, 195, 0, 1, 0, 196, 1, 9] = (⟨2, 5, 64, 8⟩, [evA, evB, evC]) := by decide
theorem read_two : readF [0, 0, 0, 0, 194, 194, 3, 192] = (⟨1, 0, 16, 1⟩, [evD, evE]) := by decide

/-- An event at a place, its rows in blocks of S. -/
def EvAt (S : Nat → Prop) (w : World) (b o : Nat) (e : Ev) : Prop :=
  ∃ ve vk, w.rangeAt b o (evCells e ve vk).toList ∧ Row S w ve e.op.edits.length (editCells e.op.edits) ∧ Row S w vk e.keep.length (bools e.keep)
theorem EvAt.ext {S : Nat → Prop} {w w' : World} {b o : Nat} {e : Ev} (h : EvAt S w b o e) (hu : Ext w w') : EvAt S w' b o e := by
  obtain ⟨ve, vk, h1, h2, h3⟩ := h
  exact ⟨ve, vk, fun j u hj => hu.cell (h1 j u hj) id, h2.ext hu, h3.ext hu⟩
theorem evs3 {S : Nat → Prop} {w : World} {v : Value} {x y z : Ev} (h : EvsRow S w v [x, y, z]) : ∃ b o c, v = .slice (some ⟨b, o, none⟩) 3 c ∧ EvAt S w b o x ∧ EvAt S w b (o + 14) y ∧ EvAt S w b (o + 28) z := by
  obtain ⟨-, -, h⟩ := h.at_
  obtain ⟨b, o, c, ve, vk, rfl, -, h1, h2, h3⟩ := h 0 (by simp)
  obtain ⟨b1, o1, c1, ve1, vk1, e1, -, i1, i2, i3⟩ := h 1 (by simp)
  obtain ⟨b2, o2, c2, ve2, vk2, e2, -, j1, j2, j3⟩ := h 2 (by simp)
  cases e1; cases e2
  exact ⟨b, o, c, rfl, ⟨ve, vk, by simpa using h1, h2, h3⟩, ⟨ve1, vk1, by simpa using i1, i2, i3⟩, ⟨ve2, vk2, by simpa using j1, j2, j3⟩⟩
theorem evs2 {S : Nat → Prop} {w : World} {v : Value} {x y : Ev} (h : EvsRow S w v [x, y]) : ∃ b o c, v = .slice (some ⟨b, o, none⟩) 2 c ∧ EvAt S w b o x ∧ EvAt S w b (o + 14) y := by
  obtain ⟨-, -, h⟩ := h.at_
  obtain ⟨b, o, c, ve, vk, rfl, -, h1, h2, h3⟩ := h 0 (by simp)
  obtain ⟨b1, o1, c1, ve1, vk1, e1, -, i1, i2, i3⟩ := h 1 (by simp)
  cases e1
  exact ⟨b, o, c, rfl, ⟨ve, vk, by simpa using h1, h2, h3⟩, ⟨ve1, vk1, by simpa using i1, i2, i3⟩⟩
/-- The cells of an event at a place. -/
theorem ev_cells {w : World} {b o : Nat} {e : Ev} {ve vk : Value} (h : w.rangeAt b o (evCells e ve vk).toList) : w.cell? ⟨b, o, none⟩ = some (.int .u8 e.kind) ∧ w.cell? ⟨b, o + 1, none⟩ = some (.int .i64 e.proc) ∧ w.cell? ⟨b, o + 2, none⟩ = some (.int .u8 e.op.kind) ∧ w.cell? ⟨b, o + 3, none⟩ = some (.int .u64 e.op.doc) ∧ w.cell? ⟨b, o + 4, none⟩ = some (str e.op.name) ∧ w.cell? ⟨b, o + 5, none⟩ = some (str e.op.to) ∧ w.cell? ⟨b, o + 6, none⟩ = some (str e.op.text) ∧ w.cell? ⟨b, o + 7, none⟩ = some (ve) ∧ w.cell? ⟨b, o + 8, none⟩ = some (.int .u64 e.op.epoch) ∧ w.cell? ⟨b, o + 9, none⟩ = some (.int .u64 e.op.version) ∧ w.cell? ⟨b, o + 10, none⟩ = some (.int .u64 e.op.dur) ∧ w.cell? ⟨b, o + 11, none⟩ = some (.int .u64 e.by_) ∧ w.cell? ⟨b, o + 12, none⟩ = some (.int .i64 e.ops) ∧ w.cell? ⟨b, o + 13, none⟩ = some (vk) :=
  ⟨h 0 _ rfl, h 1 _ rfl, h 2 _ rfl, h 3 _ rfl, h 4 _ rfl, h 5 _ rfl, h 6 _ rfl, h 7 _ rfl, h 8 _ rfl, h 9 _ rfl, h 10 _ rfl, h 11 _ rfl, h 12 _ rfl, h 13 _ rfl⟩
theorem cfg_parts {w : World} {b : Nat} {c : Cfg} {T : TypeId} {fr : Nat × Nat} (h : w.heap[b]? = some (.cells (cfgCells c) T fr)) : w.cell? ⟨b, 0, none⟩ = some (.int .i64 c.n) ∧ w.cell? ⟨b, 1, none⟩ = some (.int .u64 c.slack) ∧ w.cell? ⟨b, 2, none⟩ = some (.int .i64 c.bytes) ∧ w.cell? ⟨b, 3, none⟩ = some (.int .i64 c.entries) :=
  ⟨cellAt h 0 _ rfl, cellAt h 1 _ rfl, cellAt h 2 _ rfl, cellAt h 3 _ rfl⟩

theorem lit12 (w : World) (n : Nat) (hn : n = w.heap.size) : Bytes (At n) (w.alloc (.cells #[.int .u8 1, .int .u8 5, .int .u8 3, .int .u8 7, .int .u8 1, .int .u8 195, .int .u8 0, .int .u8 1, .int .u8 0, .int .u8 196, .int .u8 1, .int .u8 9] 5)) (.slice (some ⟨n, 0, none⟩) 12 12) [1, 5, 3, 7, 1, 195, 0, 1, 0, 196, 1, 9] := by
  have h := row_new w #[.int .u8 1, .int .u8 5, .int .u8 3, .int .u8 7, .int .u8 1, .int .u8 195, .int .u8 0, .int .u8 1, .int .u8 0, .int .u8 196, .int .u8 1, .int .u8 9] 5 12 n (by decide) hn
  rw [show (#[.int .u8 1, .int .u8 5, .int .u8 3, .int .u8 7, .int .u8 1, .int .u8 195, .int .u8 0, .int .u8 1, .int .u8 0, .int .u8 196, .int .u8 1, .int .u8 9] : Array Value).toList = ([1, 5, 3, 7, 1, 195, 0, 1, 0, 196, 1, 9] : List UInt8).map u8 from by simp [u8]] at h
  exact h
theorem lit8 (w : World) (n : Nat) (hn : n = w.heap.size) : Bytes (At n) (w.alloc (.cells #[.int .u8 0, .int .u8 0, .int .u8 0, .int .u8 0, .int .u8 194, .int .u8 194, .int .u8 3, .int .u8 192] 5)) (.slice (some ⟨n, 0, none⟩) 8 8) [0, 0, 0, 0, 194, 194, 3, 192] := by
  have h := row_new w #[.int .u8 0, .int .u8 0, .int .u8 0, .int .u8 0, .int .u8 194, .int .u8 194, .int .u8 3, .int .u8 192] 5 8 n (by decide) hn
  rw [show (#[.int .u8 0, .int .u8 0, .int .u8 0, .int .u8 0, .int .u8 194, .int .u8 194, .int .u8 3, .int .u8 192] : Array Value).toList = ([0, 0, 0, 0, 194, 194, 3, 192] : List UInt8).map u8 from by simp [u8]] at h
  exact h

set_option maxRecDepth 100000 in
set_option maxHeartbeats 2000000 in
theorem works_any (w : World) : Calls Try.prog 7 #[] w fun e w' => e = .returned (.bool true) ∧ Ext w w' := by
  go_enter Try.func7, Try.ntmps7
  go_wp2_with (go_at_call 10; fail)
  refine (read_any w _ [] (Row.nil Nothing w) (fun _ e => e.elim) (by decide)).mono ?_
  rintro e w1 ⟨v1, rfl, ho1, hx1⟩
  rw [read_nil] at ho1 ⊢
  obtain ⟨-, ⟨a1, c1, rfl, -, -⟩, -⟩ := (EvsRow.of_owns ho1).at_
  clear ho1
  have HX1 := Lib.hid hx1
  clear hx1
  rw [show cfgCells ⟨1, 0, 16, 1⟩ = #[.int .i64 1, .int .u64 0, .int .i64 16, .int .i64 1] from rfl]
  go_wp2_with (go_at_call 10; fail)
  refine (read_any _ _ [1, 5, 3, 7, 1, 195, 0, 1, 0, 196, 1, 9] (lit12 _ (w1.heap.size + 1) (by simp)) (fun k e => by unfold At at e; subst e; simp) (by decide)).mono ?_
  rintro e w2 ⟨v2, rfl, ho2, hx2⟩
  rw [read_three] at ho2 ⊢
  have hb1 := hx2.at_ (((Upd.refl Nothing _).alloc _).at_ (newAt w1 (.cells #[.int .i64 1, .int .u64 0, .int .i64 16, .int .i64 1] 31)) id) id
  have HX2 := Lib.hid (((HX1.out.alloc _).alloc _).trans hx2)
  obtain ⟨b2, o2, c2, rfl, EA, EB, EC⟩ := evs3 (EvsRow.of_owns ho2)
  have hlt1 := lt_of_heap hb1
  clear ho2 hx2 HX1
  obtain ⟨S2, hS2⟩ : ∃ S, S = From ((w1.alloc (.cells #[.int .i64 1, .int .u64 0, .int .i64 16, .int .i64 1] 31)).alloc (.cells #[.int .u8 1, .int .u8 5, .int .u8 3, .int .u8 7, .int .u8 1, .int .u8 195, .int .u8 0, .int .u8 1, .int .u8 0, .int .u8 196, .int .u8 1, .int .u8 9] 5)).heap.size := ⟨_, rfl⟩
  rw [← hS2] at EA EB EC
  clear hS2
  generalize w1.heap.size = g1 at hb1 hlt1 ⊢
  clear w1
  rw [show cfgCells ⟨2, 5, 64, 8⟩ = #[.int .i64 2, .int .u64 5, .int .i64 64, .int .i64 8] from rfl]
  have HB1 := Lib.hid hb1
  have HA := Lib.hid EA
  have HB := Lib.hid EB
  have HC := Lib.hid EC
  clear hb1 EA EB EC
  go_wp2_with (go_at_call 10; fail)
  refine (read_any _ _ [0, 0, 0, 0, 194, 194, 3, 192] (lit8 _ (w2.heap.size + 1) (by simp)) (fun k e => by unfold At at e; subst e; simp) (by decide)).mono ?_
  rintro e w3 ⟨v3, rfl, ho3, hx3⟩
  rw [read_two] at ho3 ⊢
  have hb2 := hx3.at_ (((Upd.refl Nothing _).alloc _).at_ (newAt w2 (.cells #[.int .i64 2, .int .u64 5, .int .i64 64, .int .i64 8] 31)) id) id
  have HX3 := Lib.hid (((HX2.out.alloc _).alloc _).trans hx3)
  obtain ⟨b3, o3, c3, rfl, ED, EE⟩ := evs2 (EvsRow.of_owns ho3)
  have hlt2 := lt_of_heap hb2
  have hx23 : Ext w2 w3 := (((Upd.refl _ _).alloc _).alloc _).trans hx3
  obtain ⟨S3, hS3⟩ : ∃ S, S = From ((w2.alloc (.cells #[.int .i64 2, .int .u64 5, .int .i64 64, .int .i64 8] 31)).alloc (.cells #[.int .u8 0, .int .u8 0, .int .u8 0, .int .u8 0, .int .u8 194, .int .u8 194, .int .u8 3, .int .u8 192] 5)).heap.size := ⟨_, rfl⟩
  rw [← hS3] at ED EE
  have HB1 := Lib.hid (hx23.at_ HB1.out id)
  have HA := Lib.hid (HA.out.ext hx23)
  have HB := Lib.hid (HB.out.ext hx23)
  have HC := Lib.hid (HC.out.ext hx23)
  have hlt1 : g1 < w3.heap.size := by have := hx23.size; omega
  clear ho3 hx3 HX2 hS3 hx23
  generalize w2.heap.size = g2 at hb2 hlt2 ⊢
  skip
  rw [show cfgCells ⟨1, 0, 16, 1⟩ = #[.int .i64 1, .int .u64 0, .int .i64 16, .int .i64 1] from rfl]
  have HB2 := Lib.hid hb2
  have HD := Lib.hid ED
  have HE := Lib.hid EE
  clear hb2 ED EE
  obtain ⟨w4, hw4⟩ : ∃ w4, w4 = w3.alloc (.cells #[.int .i64 1, .int .u64 0, .int .i64 16, .int .i64 1] 31) := ⟨_, rfl⟩
  have hx34 : Ext w3 w4 := by rw [hw4]; exact (Upd.refl _ _).alloc _
  have HB1 := Lib.hid (hx34.at_ HB1.out id)
  have HB2 := Lib.hid (hx34.at_ HB2.out id)
  have HA := Lib.hid (HA.out.ext hx34)
  have HB := Lib.hid (HB.out.ext hx34)
  have HC := Lib.hid (HC.out.ext hx34)
  have HD := Lib.hid (HD.out.ext hx34)
  have HE := Lib.hid (HE.out.ext hx34)
  have HX4 := Lib.hid (HX3.out.trans hx34)
  obtain ⟨eA1, eA2, rA, fA, kA⟩ := HA.out
  have hA := Lib.hid (show w4.rangeAt b2 o2 (evCells evA eA1 eA2).toList from rA)
  clear rA hx34 HX3 hlt1 hlt2
  subst hw4
  obtain ⟨k0, k1, k2, k3⟩ := cfg_parts (c := ⟨2, 5, 64, 8⟩) HB2.out
  go_wp2_with (first | (refine wpList_load_blk rfl _ _ rfl rfl HB1.out (Try.cfgT ⟨1, 0, 16, 1⟩) ?_) | (refine wpList_load_mid rfl _ _ rfl b2 o2 rfl (evCells evA eA1 eA2).toList _ hA.out Try.underlying44 rfl (by kernel_rfl) ?_) | (go_at_call 22; fail))
  have hx4 : Ext w3 (w3.alloc (.cells #[.int .i64 1, .int .u64 0, .int .i64 16, .int .i64 1] 31)) := (Upd.refl _ _).alloc _
  refine (scriptSame_any _ evA evA eA1 nilS eA2 nilS fA (Row.nil Nothing _) kA (Row.nil Nothing _)).mono ?_
  rintro e w5 ⟨rfl, hx5⟩
  rw [eqB_self]
  have HX5 := Lib.hid (HX4.out.trans hx5)
  have HB := Lib.hid (HB.out.ext hx5)
  have HC := Lib.hid (HC.out.ext hx5)
  have HD := Lib.hid (HD.out.ext hx5)
  have HE := Lib.hid (HE.out.ext hx5)
  clear hx4 hx5 k0 k1 k2 k3 fA kA hA HA HX4
  obtain ⟨eA1, eA2, rA, fA, kA⟩ := HB.out
  obtain ⟨k0, k1, k2, k3, k4, k5, k6, k7, k8, k9, k10, k11, k12, k13⟩ := ev_cells rA
  go_wp2_with (go_at_call 22; fail)
  refine (scriptSame_any _ evB evB eA1 nilS eA2 nilS fA (Row.nil Nothing _) kA (Row.nil Nothing _)).mono ?_
  rintro e w6 ⟨rfl, hx5⟩
  rw [eqB_self]
  have HX5 := Lib.hid (HX5.out.trans hx5)
  have HC := Lib.hid (HC.out.ext hx5)
  have HD := Lib.hid (HD.out.ext hx5)
  have HE := Lib.hid (HE.out.ext hx5)
  clear hx5 k0 k1 k2 k3 k4 k5 k6 k7 k8 k9 k10 k11 k12 k13 fA kA rA
  obtain ⟨eA1, eA2, rA, fA, kA⟩ := HC.out
  obtain ⟨k0, k1, k2, k3, k4, k5, k6, k7, k8, k9, k10, k11, k12, k13⟩ := ev_cells rA
  go_wp2_with (go_at_call 22; fail)
  refine (scriptSame_any _ evC evC eA1 nilS eA2 nilS fA (Row.nil Nothing _) kA (Row.nil Nothing _)).mono ?_
  rintro e w7 ⟨rfl, hx5⟩
  rw [eqB_self]
  have HX5 := Lib.hid (HX5.out.trans hx5)
  have HD := Lib.hid (HD.out.ext hx5)
  have HE := Lib.hid (HE.out.ext hx5)
  clear hx5 k0 k1 k2 k3 k4 k5 k6 k7 k8 k9 k10 k11 k12 k13 fA kA rA
  obtain ⟨eA1, eA2, rA, fA, kA⟩ := HD.out
  obtain ⟨k0, k1, k2, k3, k4, k5, k6, k7, k8, k9, k10, k11, k12, k13⟩ := ev_cells rA
  go_wp2_with (go_at_call 22; fail)
  have hal : Ext w7 (w7.alloc (.cells #[.bool true, .bool true, .bool false, .bool false, .bool false, .bool false, .bool false, .bool false] 4)) := (Upd.refl _ _).alloc _
  refine (scriptSame_any _ evD evD eA1 nilS eA2 (.slice (some ⟨w7.heap.size, 0, none⟩) 8 8) (fA.ext hal) (Row.nil Nothing _) (kA.ext hal) (row_new _ _ _ 8 _ (by decide) rfl)).mono ?_
  rintro e w8 ⟨rfl, hx5⟩
  rw [eqB_self]
  have HX5 := Lib.hid ((HX5.out.trans hal).trans hx5)
  have HE := Lib.hid (HE.out.ext (hal.trans hx5))
  clear hx5 k0 k1 k2 k3 k4 k5 k6 k7 k8 k9 k10 k11 k12 k13 fA kA rA hal
  obtain ⟨eA1, eA2, rA, fA, kA⟩ := HE.out
  obtain ⟨k0, k1, k2, k3, k4, k5, k6, k7, k8, k9, k10, k11, k12, k13⟩ := ev_cells rA
  go_wp2_with (go_at_call 22; fail)
  refine (scriptSame_any _ evE evE eA1 nilS eA2 nilS fA (Row.nil Nothing _) kA (Row.nil Nothing _)).mono ?_
  rintro e w9 ⟨rfl, hx5⟩
  rw [eqB_self]
  have HX5 := Lib.hid (HX5.out.trans hx5)
  clear hx5 k0 k1 k2 k3 k4 k5 k6 k7 k8 k9 k10 k11 k12 k13 fA kA rA
  go_wp2
  go_ret
  exact ⟨rfl, HX5.out⟩
end Go.Proofs.Ytlhpcgmbbeihiaa
