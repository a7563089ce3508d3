/-
  CONTRACT of chartroomref29.event. By program (gen/refevent.py).
-/
import Derived.Test.YtlhpcgmbbeihiaaRef29c
namespace Go.Proofs.Ytlhpcgmbbeihiaa
open Go.RowKit

theorem Try.revT (e : Ev) (ve vk : Value) : StructT Try.prog 61 (evCells e ve vk).size := ⟨_, Try.underlying61, rfl, by kernel_rfl⟩
theorem Try.boolsT : SliceT Try.prog 42 4 1 1 := sliceT_of Try.underlying42 (by kernel_rfl) (by decide)
/-- What the post says of what comes back. -/
def REventPost (i n : Nat) (L : List UInt8) (w : World) (e : Ending) (w' : World) : Prop :=
  ∃ ve vk, e = .returned (.tuple #[.agg (evCells (eventF n L).1 ve vk), .int .i64 ((i + (eventF n L).2 : Nat) : Int)]) ∧ Ext w w' ∧
      w'.ownsRow w.heap.size 100 3 ve (eventF n L).1.op.edits.length (editCells (eventF n L).1.op.edits) ∧ w'.ownsRow w.heap.size 4 1 vk (eventF n L).1.keep.length (bools (eventF n L).1.keep)
theorem reventPost_mk {i n k : Nat} {L : List UInt8} {w w' : World} {ev : Ev} {ve vk : Value} {m : Int} (he : eventF n L = (ev, k)) (hm : m = ((i + k : Nat) : Int)) (hu : Ext w w') (h1 : w'.ownsRow w.heap.size 100 3 ve ev.op.edits.length (editCells ev.op.edits)) (h2 : w'.ownsRow w.heap.size 4 1 vk ev.keep.length (bools ev.keep)) :
    REventPost i n L w (.returned (.tuple #[.agg (evCells ev ve vk), .int .i64 m])) w' := by
  subst hm
  exact ⟨ve, vk, by rw [he], hu, by rw [he]; exact h1, by rw [he]; exact h2⟩
theorem eventF_power6 {n : Nat} {l : List UInt8} {c c1 c2 : Nat} (hc : c = hd l) (h : ¬ c < 192) (h4 : c % 5 = 4) (h1 : c1 = hd (l.drop 1)) (h2 : c2 = hd (l.drop 2)) : eventF n l = ({ Ev.zero 6 0 with ops := c1, keep := bitsF 8 c2 }, 3) := by
  rw [eventF_power hc h h4 h1 h2, show (2 : Int) + (c : Int) % 5 = 6 from by omega]
theorem bitsF_div (k n : Nat) : (n / 2 ^ k) / 2 = n / 2 ^ (k + 1) := by rw [Nat.div_div_eq_div_mul, Nat.pow_succ]

set_option maxRecDepth 100000 in
set_option maxHeartbeats 1000000 in
theorem revent_step {S : Nat → Prop} (w : World) (v : Value) (l L : List UInt8) (h : Bytes S w v l) (i n : Nat) (hL : L = l.drop i) (hn1 : 1 ≤ n) (hn2 : n ≤ 64) (hi : i ≤ 700000) (hcs : hd L < 192) :
    Calls Try.prog 25 #[v, .int .i64 i, .int .i64 n] w (REventPost i n L w) := by
  have HL := Lib.hid hL
  clear hL
  obtain ⟨wa, hwa⟩ : ∃ wa, wa = w.alloc (.cells (evCells (Ev.zero 0 0) nilS nilS) 61) := ⟨_, rfl⟩
  have hsa : wa.heap.size = w.heap.size + 1 := by rw [hwa]; simp
  have hua : Ext w wa := by rw [hwa]; exact (Upd.refl _ _).alloc _
  have hrba : wa.heap[w.heap.size]? = some (.cells (evCells (Ev.zero 0 0) nilS nilS) 61 (0, 0)) := by rw [hwa]; exact newAt _ _
  have HB := Lib.hid (h.ext hua)
  clear h
  go_enter Try.func25, Try.ntmps25
  go_wp2_with (go_at_call 24; fail)
  rw [show w.alloc (Obj.cells #[Value.int IntKind.u8 0, Value.int IntKind.i64 0, Value.int IntKind.u8 0, Value.int IntKind.u64 0, Value.string { data := #[] }, Value.string { data := #[] }, Value.string { data := #[] }, Value.slice none 0 0, Value.int IntKind.u64 0, Value.int IntKind.u64 0, Value.int IntKind.u64 0, Value.int IntKind.u64 0, Value.int IntKind.i64 0, Value.slice none 0 0] 61) = wa from hwa.symm]
  clear hwa
  have HSA := Lib.hid hsa
  clear hsa
  refine (rat_any _ _ _ HB.out _ i rfl).mono ?_
  rintro e w1 ⟨c, rfl, hc, HC0, rfl⟩
  have HC := Lib.hid (show c = hd L by rw [HC0.out, HL.out])
  clear HC0
  have hcs' : c < 192 := by have := HC.out; omega
  have hus := Upd.row wa w.heap.size (evCells (Ev.zero 1 ((c : Int) % n)) nilS nilS)
  go_wp2_with (refine wpList_store_blk rfl _ _ _ rfl rfl (cells := evCells (Ev.zero 1 ((c : Int) % n)) nilS nilS) rfl hrba (Try.revT _ _ _) rfl (evCells_one _ _ _ _ _ _ _) ?_)
  refine bodyPost_blk2 rfl rfl rfl (setRow_heap _ _ _ _ _ _ hrba) (Try.revT _ _ _) ?_
  exact reventPost_mk (eventF_step HC.out hcs') (by simp) (hua.step hus (fun i hi e => by unfold At at e; omega)) (World.ownsRow_nil _ _ _ _) (World.ownsRow_nil _ _ _ _)

set_option maxRecDepth 100000 in
set_option maxHeartbeats 1000000 in
theorem revent_other {S : Nat → Prop} (w : World) (v : Value) (l L : List UInt8) (h : Bytes S w v l) (i n : Nat) (hL : L = l.drop i) (hn1 : 1 ≤ n) (hn2 : n ≤ 64) (hi : i ≤ 700000) (hcs : ¬ hd L < 192) (h4 : hd L % 5 ≠ 0) (h5 : hd L % 5 ≠ 1) (h6 : hd L % 5 ≠ 4) :
    Calls Try.prog 25 #[v, .int .i64 i, .int .i64 n] w (REventPost i n L w) := by
  have HL := Lib.hid hL
  clear hL
  obtain ⟨wa, hwa⟩ : ∃ wa, wa = w.alloc (.cells (evCells (Ev.zero 0 0) nilS nilS) 61) := ⟨_, rfl⟩
  have hsa : wa.heap.size = w.heap.size + 1 := by rw [hwa]; simp
  have hua : Ext w wa := by rw [hwa]; exact (Upd.refl _ _).alloc _
  have hrba : wa.heap[w.heap.size]? = some (.cells (evCells (Ev.zero 0 0) nilS nilS) 61 (0, 0)) := by rw [hwa]; exact newAt _ _
  have HB := Lib.hid (h.ext hua)
  clear h
  go_enter Try.func25, Try.ntmps25
  go_wp2_with (go_at_call 24; fail)
  rw [show w.alloc (Obj.cells #[Value.int IntKind.u8 0, Value.int IntKind.i64 0, Value.int IntKind.u8 0, Value.int IntKind.u64 0, Value.string { data := #[] }, Value.string { data := #[] }, Value.string { data := #[] }, Value.slice none 0 0, Value.int IntKind.u64 0, Value.int IntKind.u64 0, Value.int IntKind.u64 0, Value.int IntKind.u64 0, Value.int IntKind.i64 0, Value.slice none 0 0] 61) = wa from hwa.symm]
  clear hwa
  have HSA := Lib.hid hsa
  clear hsa
  refine (rat_any _ _ _ HB.out _ i rfl).mono ?_
  rintro e w1 ⟨c, rfl, hc, HC0, rfl⟩
  have HC := Lib.hid (show c = hd L by rw [HC0.out, HL.out])
  clear HC0
  have hge : ¬ c < 192 := by have := HC.out; omega
  have k4 : c % 5 ≠ 0 := by have := HC.out; omega
  have k5 : c % 5 ≠ 1 := by have := HC.out; omega
  have k6 : c % 5 ≠ 4 := by have := HC.out; omega
  have q2 : ((2 : Int) + (c : Int) % 5 == 2) = false := by rw [beq_eq_false_iff_ne]; omega
  have q3 : ((2 : Int) + (c : Int) % 5 == 3) = false := by rw [beq_eq_false_iff_ne]; omega
  have q6 : ((2 : Int) + (c : Int) % 5 == 6) = false := by rw [beq_eq_false_iff_ne]; omega
  have K := Lib.hid (And.intro k4 (And.intro k5 k6))
  clear k4 k5 k6 hcs h4 h5 h6
  go_wp2_with (go_at_call 24; fail)
  refine (rat_any _ _ _ HB.out _ (i + 1) (by omega)).mono ?_
  rintro e w2 ⟨c1, rfl, hc1, HC10, rfl⟩
  have HC1 := Lib.hid (show c1 = hd (L.drop 1) by rw [HC10.out, HL.out, List.drop_drop])
  clear HC10
  obtain ⟨wb, hwb⟩ : ∃ wb, wb = wa.alloc (.cells (evCells (Ev.zero (2 + (c : Int) % 5) ((c1 : Int) % n)) nilS nilS) 61) := ⟨_, rfl⟩
  have hbx : wb.heap[wa.heap.size]? = some (.cells (evCells (Ev.zero (2 + (c : Int) % 5) ((c1 : Int) % n)) nilS nilS) 61 (0, 0)) := by rw [hwb]; exact newAt _ _
  have hrbb : wb.heap[w.heap.size]? = some (.cells (evCells (Ev.zero 0 0) nilS nilS) 61 (0, 0)) := by rw [hwb]; exact ((Upd.refl Nothing wa).alloc _).at_ hrba (fun e => e)
  have hub : Ext w wb := by rw [hwb]; exact hua.alloc _
  have HBb : Hid (Bytes S wb v l) := Lib.hid (by rw [hwb]; exact HB.out.ext ((Upd.refl _ _).alloc _))
  have hus := Upd.row wb w.heap.size (evCells (Ev.zero (2 + (c : Int) % 5) ((c1 : Int) % n)) nilS nilS)
  have hbx2 := hbx
  have hrb2 := hrbb
  rw [hwb] at hbx2 hrb2
  go_wp2_with (first | (refine wpList_load_blk rfl _ _ rfl rfl hbx2 (Try.revT _ _ _) ?_) | (refine wpList_store_blk rfl _ _ _ rfl rfl (cells := (evCells (Ev.zero (2 + (c : Int) % 5) ((c1 : Int) % n)) nilS nilS)) rfl hrb2 (Try.revT _ _ _) rfl (evCells_one _ _ _ _ _ _ _) ?_))
  refine bodyPost_blk2 rfl rfl rfl (setRow_heap _ _ _ _ _ _ hrb2) (Try.revT _ _ _) ?_
  rw [hwb] at hub hus
  exact reventPost_mk (eventF_other HC.out hge K.out.1 K.out.2.1 K.out.2.2 HC1.out) (by simp) (hub.step hus (fun i hi e => by unfold At at e; omega)) (World.ownsRow_nil _ _ _ _) (World.ownsRow_nil _ _ _ _)

set_option maxRecDepth 100000 in
set_option maxHeartbeats 1000000 in
theorem revent_tick {S : Nat → Prop} (w : World) (v : Value) (l L : List UInt8) (h : Bytes S w v l) (i n : Nat) (hL : L = l.drop i) (hn1 : 1 ≤ n) (hn2 : n ≤ 64) (hi : i ≤ 700000) (hcs : ¬ hd L < 192) (h4 : hd L % 5 = 1) :
    Calls Try.prog 25 #[v, .int .i64 i, .int .i64 n] w (REventPost i n L w) := by
  have HL := Lib.hid hL
  clear hL
  obtain ⟨wa, hwa⟩ : ∃ wa, wa = w.alloc (.cells (evCells (Ev.zero 0 0) nilS nilS) 61) := ⟨_, rfl⟩
  have hsa : wa.heap.size = w.heap.size + 1 := by rw [hwa]; simp
  have hua : Ext w wa := by rw [hwa]; exact (Upd.refl _ _).alloc _
  have hrba : wa.heap[w.heap.size]? = some (.cells (evCells (Ev.zero 0 0) nilS nilS) 61 (0, 0)) := by rw [hwa]; exact newAt _ _
  have HB := Lib.hid (h.ext hua)
  clear h
  go_enter Try.func25, Try.ntmps25
  go_wp2_with (go_at_call 24; fail)
  rw [show w.alloc (Obj.cells #[Value.int IntKind.u8 0, Value.int IntKind.i64 0, Value.int IntKind.u8 0, Value.int IntKind.u64 0, Value.string { data := #[] }, Value.string { data := #[] }, Value.string { data := #[] }, Value.slice none 0 0, Value.int IntKind.u64 0, Value.int IntKind.u64 0, Value.int IntKind.u64 0, Value.int IntKind.u64 0, Value.int IntKind.i64 0, Value.slice none 0 0] 61) = wa from hwa.symm]
  clear hwa
  have HSA := Lib.hid hsa
  clear hsa
  refine (rat_any _ _ _ HB.out _ i rfl).mono ?_
  rintro e w1 ⟨c, rfl, hc, HC0, rfl⟩
  have HC := Lib.hid (show c = hd L by rw [HC0.out, HL.out])
  clear HC0
  have hge : ¬ c < 192 := by have := HC.out; omega
  have k4 : c % 5 = 1 := by have := HC.out; omega
  have q2 : ((2 : Int) + (c : Int) % 5 == 2) = false := by rw [beq_eq_false_iff_ne]; omega
  have q3 : ((2 : Int) + (c : Int) % 5 == 3) = true := by rw [beq_iff_eq]; omega
  have q6 : ((2 : Int) + (c : Int) % 5 == 6) = false := by rw [beq_eq_false_iff_ne]; omega
  have K := Lib.hid k4
  clear k4 hcs h4
  go_wp2_with (go_at_call 24; fail)
  refine (rat_any _ _ _ HB.out _ (i + 1) (by omega)).mono ?_
  rintro e w2 ⟨c1, rfl, hc1, HC10, rfl⟩
  have HC1 := Lib.hid (show c1 = hd (L.drop 1) by rw [HC10.out, HL.out, List.drop_drop])
  clear HC10
  obtain ⟨wb, hwb⟩ : ∃ wb, wb = wa.alloc (.cells (evCells (Ev.zero (2 + (c : Int) % 5) ((c1 : Int) % n)) nilS nilS) 61) := ⟨_, rfl⟩
  have hbx : wb.heap[wa.heap.size]? = some (.cells (evCells (Ev.zero (2 + (c : Int) % 5) ((c1 : Int) % n)) nilS nilS) 61 (0, 0)) := by rw [hwb]; exact newAt _ _
  have hrbb : wb.heap[w.heap.size]? = some (.cells (evCells (Ev.zero 0 0) nilS nilS) 61 (0, 0)) := by rw [hwb]; exact ((Upd.refl Nothing wa).alloc _).at_ hrba (fun e => e)
  have hub : Ext w wb := by rw [hwb]; exact hua.alloc _
  have HBb : Hid (Bytes S wb v l) := Lib.hid (by rw [hwb]; exact HB.out.ext ((Upd.refl _ _).alloc _))
  go_wp2_with (go_at_call 24; fail)
  rw [show wa.alloc (Obj.cells #[Value.int IntKind.u8 (2 + (c : Int) % 5), Value.int IntKind.i64 ((c1 : Int) % n), Value.int IntKind.u8 0, Value.int IntKind.u64 0, Value.string { data := #[] }, Value.string { data := #[] }, Value.string { data := #[] }, Value.slice none 0 0, Value.int IntKind.u64 0, Value.int IntKind.u64 0, Value.int IntKind.u64 0, Value.int IntKind.u64 0, Value.int IntKind.i64 0, Value.slice none 0 0] 61) = wb from hwb.symm]
  refine (rat_any _ _ _ HBb.out _ (i + 2) (by omega)).mono ?_
  rintro e w3 ⟨c2, rfl, hc2, HC20, rfl⟩
  have HC2 := Lib.hid (show c2 = hd (L.drop 2) by rw [HC20.out, HL.out, List.drop_drop])
  clear HC20 hwb
  have d11 := cellAt hbx 11 (.int .u64 0) rfl
  have df := freeAt hbx
  have hslt : w.heap.size < wa.heap.size := by have := HSA.out; omega
  have hbx9 : (wb.setCell ⟨wa.heap.size, 11, none⟩ (.int .u64 c2)).heap[wa.heap.size]? = some (.cells (evCells { Ev.zero (2 + (c : Int) % 5) ((c1 : Int) % n) with by_ := c2 } nilS nilS) 61 (0, 0)) := setAt hbx
  have hrb9 := (Upd.own wb wa.heap.size 11 (.int .u64 c2)).at_ hrbb (fun e => by unfold At at e; omega)
  have hus := Upd.row (wb.setCell ⟨wa.heap.size, 11, none⟩ (.int .u64 c2)) w.heap.size (evCells { Ev.zero (2 + (c : Int) % 5) ((c1 : Int) % n) with by_ := c2 } nilS nilS)
  go_wp2_with (first | (refine wpList_load_blk rfl _ _ rfl rfl hbx9 (Try.revT _ _ _) ?_) | (refine wpList_store_blk rfl _ _ _ rfl rfl (cells := (evCells { Ev.zero (2 + (c : Int) % 5) ((c1 : Int) % n) with by_ := c2 } nilS nilS)) rfl hrb9 (Try.revT _ _ _) rfl (evCells_one _ _ _ _ _ _ _) ?_))
  refine bodyPost_blk2 rfl rfl rfl (setRow_heap _ _ _ _ _ _ hrb9) (Try.revT _ _ _) ?_
  exact reventPost_mk (eventF_tick HC.out hge K.out HC1.out HC2.out) (by simp) ((hub.setCell (p := ⟨_, _, none⟩) (fun h => by simp only at h; omega) _).step hus (fun i hi e => by unfold At at e; omega)) (World.ownsRow_nil _ _ _ _) (World.ownsRow_nil _ _ _ _)

set_option maxRecDepth 100000 in
set_option maxHeartbeats 1000000 in
theorem revent_invoke {S : Nat → Prop} (w : World) (v : Value) (l L : List UInt8) (h : Bytes S w v l) (i n : Nat) (hL : L = l.drop i) (hn1 : 1 ≤ n) (hn2 : n ≤ 64) (hi : i ≤ 700000) (hcs : ¬ hd L < 192) (h4 : hd L % 5 = 0) :
    Calls Try.prog 25 #[v, .int .i64 i, .int .i64 n] w (REventPost i n L w) := by
  have HL := Lib.hid hL
  clear hL
  obtain ⟨wa, hwa⟩ : ∃ wa, wa = w.alloc (.cells (evCells (Ev.zero 0 0) nilS nilS) 61) := ⟨_, rfl⟩
  have hsa : wa.heap.size = w.heap.size + 1 := by rw [hwa]; simp
  have hua : Ext w wa := by rw [hwa]; exact (Upd.refl _ _).alloc _
  have hrba : wa.heap[w.heap.size]? = some (.cells (evCells (Ev.zero 0 0) nilS nilS) 61 (0, 0)) := by rw [hwa]; exact newAt _ _
  have HB := Lib.hid (h.ext hua)
  clear h
  go_enter Try.func25, Try.ntmps25
  go_wp2_with (go_at_call 24; fail)
  rw [show w.alloc (Obj.cells #[Value.int IntKind.u8 0, Value.int IntKind.i64 0, Value.int IntKind.u8 0, Value.int IntKind.u64 0, Value.string { data := #[] }, Value.string { data := #[] }, Value.string { data := #[] }, Value.slice none 0 0, Value.int IntKind.u64 0, Value.int IntKind.u64 0, Value.int IntKind.u64 0, Value.int IntKind.u64 0, Value.int IntKind.i64 0, Value.slice none 0 0] 61) = wa from hwa.symm]
  clear hwa
  have HSA := Lib.hid hsa
  clear hsa
  refine (rat_any _ _ _ HB.out _ i rfl).mono ?_
  rintro e w1 ⟨c, rfl, hc, HC0, rfl⟩
  have HC := Lib.hid (show c = hd L by rw [HC0.out, HL.out])
  clear HC0
  have hge : ¬ c < 192 := by have := HC.out; omega
  have k4 : c % 5 = 0 := by have := HC.out; omega
  have q2 : ((2 : Int) + (c : Int) % 5 == 2) = true := by rw [beq_iff_eq]; omega
  have q3 : ((2 : Int) + (c : Int) % 5 == 3) = false := by rw [beq_eq_false_iff_ne]; omega
  have q6 : ((2 : Int) + (c : Int) % 5 == 6) = false := by rw [beq_eq_false_iff_ne]; omega
  have K := Lib.hid k4
  clear k4 hcs h4
  go_wp2_with (go_at_call 24; fail)
  refine (rat_any _ _ _ HB.out _ (i + 1) (by omega)).mono ?_
  rintro e w2 ⟨c1, rfl, hc1, HC10, rfl⟩
  have HC1 := Lib.hid (show c1 = hd (L.drop 1) by rw [HC10.out, HL.out, List.drop_drop])
  clear HC10
  obtain ⟨wb, hwb⟩ : ∃ wb, wb = wa.alloc (.cells (evCells (Ev.zero (2 + (c : Int) % 5) ((c1 : Int) % n)) nilS nilS) 61) := ⟨_, rfl⟩
  have hbx : wb.heap[wa.heap.size]? = some (.cells (evCells (Ev.zero (2 + (c : Int) % 5) ((c1 : Int) % n)) nilS nilS) 61 (0, 0)) := by rw [hwb]; exact newAt _ _
  have hrbb : wb.heap[w.heap.size]? = some (.cells (evCells (Ev.zero 0 0) nilS nilS) 61 (0, 0)) := by rw [hwb]; exact ((Upd.refl Nothing wa).alloc _).at_ hrba (fun e => e)
  have hub : Ext w wb := by rw [hwb]; exact hua.alloc _
  have HBb : Hid (Bytes S wb v l) := Lib.hid (by rw [hwb]; exact HB.out.ext ((Upd.refl _ _).alloc _))
  go_wp2_with (go_at_call 40; fail)
  rw [show wa.alloc (Obj.cells #[Value.int IntKind.u8 (2 + (c : Int) % 5), Value.int IntKind.i64 ((c1 : Int) % n), Value.int IntKind.u8 0, Value.int IntKind.u64 0, Value.string { data := #[] }, Value.string { data := #[] }, Value.string { data := #[] }, Value.slice none 0 0, Value.int IntKind.u64 0, Value.int IntKind.u64 0, Value.int IntKind.u64 0, Value.int IntKind.u64 0, Value.int IntKind.i64 0, Value.slice none 0 0] 61) = wb from hwb.symm]
  refine (rop_any _ _ _ HBb.out _ (i + 2) (by omega) (by omega)).mono ?_
  rw [show l.drop (i + 2) = L.drop 2 from by rw [HL.out, List.drop_drop]]
  rintro e w3 ⟨ve, rfl, hu3, hown3⟩
  obtain ⟨va, vn, vc, rfl⟩ := ownsForm hown3
  have hbx3 := hu3.at_ hbx (fun e => e)
  have hrb3 := hu3.at_ hrbb (fun e => e)
  have hu03 := hub.trans hu3
  have hwbs : w.heap.size ≤ wb.heap.size := hub.size
  have hwas : wa.heap.size < wb.heap.size := lt_of_heap hbx
  have hslt : w.heap.size < wa.heap.size := by have := HSA.out; omega
  have hlo : ∀ j, (Value.slice va vn vc).ownBlock = some j → wb.heap.size ≤ j := fun j hj => (hown3.lt j hj).1
  obtain ⟨on, hon⟩ : ∃ on, on = (opF (L.drop 2)).2 := ⟨_, rfl⟩
  have HON := Lib.hid hon
  rw [← hon]
  clear hwb hon hbx hrbb hrba
  have hbo := newAt w3 (.cells (opCells (opF (L.drop 2)).1 (.slice va vn vc)) 59)
  have hbx4 := ((Upd.refl Nothing w3).alloc (.cells (opCells (opF (L.drop 2)).1 (.slice va vn vc)) 59)).at_ hbx3 (fun e => e)
  have hrb4 := ((Upd.refl Nothing w3).alloc (.cells (opCells (opF (L.drop 2)).1 (.slice va vn vc)) 59)).at_ hrb3 (fun e => e)
  have hs3 := hu3.size
  unfold opCells
  go_wp2_with (first | (refine wpList_load_blk rfl _ _ rfl rfl hbo (Try.ropT _ _) ?_) | (refine wpList_store_in rfl _ _ _ rfl rfl (cells := (opCells (opF (L.drop 2)).1 (.slice va vn vc))) rfl hbx4 (Try.ropT _ _) (show 2 + 9 ≤ 14 from by decide) (opCells_one _ _ _ _) ?_; intro w9 hux hbx9; rw [setL_op _ _ nilS] at hbx9; have hrb9 := hux.at_ hrb4 (fun e => by unfold At at e; omega)) | (refine wpList_load_blk rfl _ _ rfl rfl hbx9 (Try.revT _ _ _) ?_) | (refine wpList_store_blk rfl _ _ _ rfl rfl (cells := (evCells { Ev.zero (2 + (c : Int) % 5) ((c1 : Int) % n) with op := (opF (L.drop 2)).1 } (.slice va vn vc) nilS)) rfl hrb9 (Try.revT _ _ _) rfl (evCells_one _ _ _ _ _ _ _) ?_))
  have hus := Upd.row w9 w.heap.size (evCells { Ev.zero (2 + (c : Int) % 5) ((c1 : Int) % n) with op := (opF (L.drop 2)).1 } (.slice va vn vc) nilS)
  refine bodyPost_blk2 rfl rfl rfl (setRow_heap _ _ _ _ _ _ hrb9) (Try.revT _ _ _) ?_
  exact reventPost_mk (eventF_invoke HC.out hge K.out HC1.out rfl) (by rw [← HON.out, ← Nat.add_assoc]; simp) (((hu03.alloc _).step hux (fun i hi e => by unfold At at e; omega)).step hus (fun i hi e => by unfold At at e; omega)) ((hus.ownsRow (hux.ownsRow (hown3.alloc _) (fun j hj e => by have := hlo j hj; unfold At at e; omega)) (fun j hj e => by have := hlo j hj; unfold At at e; omega)).mono_base (by omega)) (World.ownsRow_nil _ _ _ _)

set_option maxRecDepth 100000 in
set_option maxHeartbeats 1000000 in
theorem revent_power {S : Nat → Prop} (w : World) (v : Value) (l L : List UInt8) (h : Bytes S w v l) (i n : Nat) (hL : L = l.drop i) (hi : i ≤ 700000) (hcs : ¬ hd L < 192) (h4 : hd L % 5 = 4) :
    Calls Try.prog 25 #[v, .int .i64 i, .int .i64 n] w (REventPost i n L w) := by
  have HL := Lib.hid hL
  clear hL
  obtain ⟨wa, hwa⟩ : ∃ wa, wa = w.alloc (.cells (evCells (Ev.zero 0 0) nilS nilS) 61) := ⟨_, rfl⟩
  have hsa : wa.heap.size = w.heap.size + 1 := by rw [hwa]; simp
  have hua : Ext w wa := by rw [hwa]; exact (Upd.refl _ _).alloc _
  have hrba : wa.heap[w.heap.size]? = some (.cells (evCells (Ev.zero 0 0) nilS nilS) 61 (0, 0)) := by rw [hwa]; exact newAt _ _
  have HB := Lib.hid (h.ext hua)
  clear h
  go_enter Try.func25, Try.ntmps25
  go_wp2_with (go_at_call 24; fail)
  rw [show w.alloc (Obj.cells #[Value.int IntKind.u8 0, Value.int IntKind.i64 0, Value.int IntKind.u8 0, Value.int IntKind.u64 0, Value.string { data := #[] }, Value.string { data := #[] }, Value.string { data := #[] }, Value.slice none 0 0, Value.int IntKind.u64 0, Value.int IntKind.u64 0, Value.int IntKind.u64 0, Value.int IntKind.u64 0, Value.int IntKind.i64 0, Value.slice none 0 0] 61) = wa from hwa.symm]
  clear hwa
  have HSA := Lib.hid hsa
  clear hsa
  refine (rat_any _ _ _ HB.out _ i rfl).mono ?_
  rintro e w1 ⟨c, rfl, hc, HC0, rfl⟩
  have HC := Lib.hid (show c = hd L by rw [HC0.out, HL.out])
  clear HC0
  have hge : ¬ c < 192 := by have := HC.out; omega
  have k4 : c % 5 = 4 := by have := HC.out; omega
  have q6 : ((2 : Int) + (c : Int) % 5 == 6) = true := by rw [beq_iff_eq]; omega
  have K := Lib.hid k4
  clear k4 hcs h4
  go_wp2_with (go_at_call 24; fail)
  refine (rat_any _ _ _ HB.out _ (i + 1) (by omega)).mono ?_
  rintro e w2 ⟨c1, rfl, hc1, HC10, rfl⟩
  have HC1 := Lib.hid (show c1 = hd (L.drop 1) by rw [HC10.out, HL.out, List.drop_drop])
  clear HC10
  obtain ⟨wb, hwb⟩ : ∃ wb, wb = wa.alloc (.cells (evCells { Ev.zero 6 0 with ops := c1 } nilS nilS) 61) := ⟨_, rfl⟩
  have hbx : wb.heap[wa.heap.size]? = some (.cells (evCells { Ev.zero 6 0 with ops := c1 } nilS nilS) 61 (0, 0)) := by rw [hwb]; exact newAt _ _
  have hrbb : wb.heap[w.heap.size]? = some (.cells (evCells (Ev.zero 0 0) nilS nilS) 61 (0, 0)) := by rw [hwb]; exact ((Upd.refl Nothing wa).alloc _).at_ hrba (fun e => e)
  have hub : Ext w wb := by rw [hwb]; exact hua.alloc _
  have HBb : Hid (Bytes S wb v l) := Lib.hid (by rw [hwb]; exact HB.out.ext ((Upd.refl _ _).alloc _))
  go_wp2_with (go_at_call 24; fail)
  rw [show wa.alloc (Obj.cells #[Value.int IntKind.u8 6, Value.int IntKind.i64 0, Value.int IntKind.u8 0, Value.int IntKind.u64 0, Value.string { data := #[] }, Value.string { data := #[] }, Value.string { data := #[] }, Value.slice none 0 0, Value.int IntKind.u64 0, Value.int IntKind.u64 0, Value.int IntKind.u64 0, Value.int IntKind.u64 0, Value.int IntKind.i64 c1, Value.slice none 0 0] 61) = wb from hwb.symm]
  refine (rat_any _ _ _ HBb.out _ (i + 2) (by omega)).mono ?_
  rintro e w3 ⟨c2, rfl, hc2, HC20, rfl⟩
  have HC2 := Lib.hid (show c2 = hd (L.drop 2) by rw [HC20.out, HL.out, List.drop_drop])
  have hwas : wa.heap.size < wb.heap.size := lt_of_heap hbx
  have hslt : w.heap.size < wa.heap.size := by have := HSA.out; omega
  clear HC20 hwb hrba
  go_wp2_with fail
  go_loopw [11, 12] (fun bt q wr => ∃ (k : Nat) (va : Option Addr) (vn vc : Nat), k ≤ 8 ∧ q = .int .i64 k ∧ bt = .int .i64 ((c2 / 2 ^ k : Nat) : Int) ∧ Ext w wr ∧ wr.heap[wa.heap.size]? = some (.cells (evCells { Ev.zero 6 0 with ops := c1 } nilS (.slice va vn vc)) 61 (0, 0)) ∧ wr.heap[w.heap.size]? = some (.cells (evCells (Ev.zero 0 0) nilS nilS) 61 (0, 0)) ∧ wr.ownsRow (wa.heap.size + 1) 4 1 (.slice va vn vc) k (bools (bitsF k c2)))
    (fun _ q _ => 8 - (intOf q).toNat)
  case atStart => exact ⟨0, none, 0, 0, Nat.zero_le _, rfl, by simp, hub, hbx, hrbb, World.ownsRow_nil _ _ _ _⟩
  case round =>
    obtain ⟨k, va, vn, vc, hk, rfl, rfl, hu, hbxr, hrbr, hown⟩ := hrel
    have hlo : ∀ j, (Value.slice va vn vc).ownBlock = some j → wa.heap.size < j ∧ j < wr.heap.size := fun j hj => by have := hown.lt j hj; omega
    by_cases hlt : k < 8
    · obtain ⟨bb, hbb⟩ : ∃ bb, bb = c2 / 2 ^ k := ⟨_, rfl⟩
      have hb256 : bb < 256 := by rw [hbb]; exact Nat.lt_of_le_of_lt (Nat.div_le_self _ _) hc2
      rw [← hbb]
      have HBB := Lib.hid hbb
      clear hbb
      have f13 := cellAt hbxr 13 (.slice va vn vc) rfl
      have ff := freeAt hbxr
      have hlr := lt_of_heap hbxr
      have HOWN := Lib.hid hown
      go_wp2_with (at_builtin; go_must (refine wpList_append_row rfl _ _ _ rfl Try.boolsT rfl (hown.alloc _) rfl (row_new _ _ _ 1 _ (by decide) (by simp)) rfl (by intro u hu; simp at hu; subst hu; rfl) ?k3 ?k4 ?k5 ?_))
      case k3 => unfold maxLen; omega
      case k4 => omega
      case k5 => first | omega | (simp; omega)
      intro v' w5 hown5 hg _
      obtain ⟨va5, vn5, vc5, rfl⟩ := ownsForm hown5
      have hbx5 := (grownUpd hg).at_ (((Upd.refl Nothing wr).alloc _).at_ hbxr (fun e => e)) (fun e => by have := hlo _ e; omega)
      have hrb5 := (grownUpd hg).at_ (((Upd.refl Nothing wr).alloc _).at_ hrbr (fun e => e)) (fun e => by have := hlo _ e; omega)
      have g13 := cellAt hbx5 13 (.slice va vn vc) rfl
      have gff := freeAt hbx5
      have hlo5 : ∀ j, (Value.slice va5 vn5 vc5).ownBlock = some j → wa.heap.size < j := fun j hj => by have := (hown5.lt j hj).1; omega
      clear f13 ff hown
      go_wp2
      go_roundw
      case rel =>
        refine ⟨k + 1, va5, vn5, vc5, by omega, by go_num, ?_, ?_, setAt hbx5, ?_, ?_⟩
        · rw [← bitsF_div, ← HBB.out]; go_num
        · exact ((hu.alloc _).grown hg (fun j hj h => by have := hlo j hj; omega)).setCell (p := ⟨_, _, none⟩) (fun h => by simp only at h; omega) _
        · exact (Upd.own _ _ _ _).at_ hrb5 (fun e => by unfold At at e; omega)
        · rw [bitsF_snoc, bools, List.map_append, ← HBB.out]
          rw [show [bb % 2 == 1].map Value.bool = [Value.bool ((bb : Int) % 2 == 1)] from by simp only [List.map_cons, List.map_nil, List.cons.injEq, Value.bool.injEq, and_true]; rw [Bool.eq_iff_iff]; simp only [beq_iff_eq]; omega]
          exact (Upd.own _ _ _ _).ownsRow hown5 (fun j hj e => by have := hlo5 j hj; unfold At at e; omega)
      case measure => simp [intOf]; omega
    · have hk8 : k = 8 := by omega
      subst hk8
      have hus := Upd.row wr w.heap.size (evCells { Ev.zero 6 0 with ops := c1, keep := bitsF 8 c2 } nilS (.slice va vn vc))
      go_wp2_with (first | (refine wpList_load_blk rfl _ _ rfl rfl hbxr (Try.revT _ _ _) ?_) | (refine wpList_store_blk rfl _ _ _ rfl rfl (cells := (evCells { Ev.zero 6 0 with ops := c1, keep := bitsF 8 c2 } nilS (.slice va vn vc))) rfl hrbr (Try.revT _ _ _) rfl (evCells_one _ _ _ _ _ _ _) ?_))
      refine bodyPost_blk2 rfl rfl rfl (setRow_heap _ _ _ _ _ _ hrbr) (Try.revT _ _ _) ?_
      exact reventPost_mk (eventF_power6 HC.out hge K.out HC1.out HC2.out) (by simp) (hu.step hus (fun i hi e => by unfold At at e; omega)) (World.ownsRow_nil _ _ _ _) ((hus.ownsRow hown (fun j hj e => by have := hlo j hj; unfold At at e; omega)).mono_base (by omega))

theorem revent_any {S : Nat → Prop} (w : World) (v : Value) (l : List UInt8) (h : Bytes S w v l) (m : Int) (i n : Nat) (hm : m = i) (hn1 : 1 ≤ n) (hn2 : n ≤ 64) (hi : i ≤ 700000) :
    Calls Try.prog 25 #[v, .int .i64 m, .int .i64 n] w (REventPost i n (l.drop i) w) := by
  subst hm
  by_cases h1 : hd (l.drop i) < 192
  · exact revent_step w v l _ h i n rfl hn1 hn2 hi h1
  · by_cases h2 : hd (l.drop i) % 5 = 4
    · exact revent_power w v l _ h i n rfl hi h1 h2
    · by_cases h3 : hd (l.drop i) % 5 = 0
      · exact revent_invoke w v l _ h i n rfl hn1 hn2 hi h1 h3
      · by_cases h4 : hd (l.drop i) % 5 = 1
        · exact revent_tick w v l _ h i n rfl hn1 hn2 hi h1 h4
        · exact revent_other w v l _ h i n rfl hn1 hn2 hi h1 h3 h4 h2

end Go.Proofs.Ytlhpcgmbbeihiaa
