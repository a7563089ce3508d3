/-
  CONTRACT of script's reader: event. By program (gen/scriptevent.py).
-/
import Derived.Test.YtlhpcgmbbeihiaaScriptRd5
namespace Go.Proofs.Ytlhpcgmbbeihiaa
open Go.RowKit
attribute [local go_sem ↓] Go.wp_at_zero Go.wp_at_succ

def evCells (e : Ev) (ve vk : Value) : Array Value := #[.int .u8 e.kind, .int .i64 e.proc, .int .u8 e.op.kind, .int .u64 e.op.doc, str e.op.name, str e.op.to, str e.op.text, ve, .int .u64 e.op.epoch, .int .u64 e.op.version, .int .u64 e.op.dur, .int .u64 e.by_, .int .i64 e.ops, vk]
theorem evCells_one (e : Ev) (a b : Option Addr) (n c m d : Nat) : AllOne (evCells e (.slice a n c) (.slice b m d)) := by simp [AllOne, evCells, Value.oneCell']
theorem Try.evT (e : Ev) (ve vk : Value) : StructT Try.prog 44 (evCells e ve vk).size := ⟨_, Try.underlying44, rfl, by kernel_rfl⟩
theorem Try.opT (o : Oper') (ve : Value) : StructT Try.prog 41 (opCells o ve).size := ⟨_, Try.underlying41, rfl, by kernel_rfl⟩
theorem Try.info4 : (Try.prog.info? 4).map (fun i => (i.zero, i.size, i.bytes)) = some (some (.bool false), 1, 1) := by kernel_rfl

theorem setL_op (e : Ev) (o : Oper') (v ve vk : Value) : setL (evCells e v vk) 2 (opCells o ve).toList = evCells { e with op := o } ve vk := by
  simp [setL, evCells, opCells]
theorem bit_eq (c k : Nat) : (((c : Int) / 2 ^ k).tmod 2 == 1) = (c / 2 ^ k % 2 == 1) := by
  have h : ((c : Int) / 2 ^ k).tmod 2 = ((c / 2 ^ k % 2 : Nat) : Int) := by
    rw [show ((c : Int) / 2 ^ k) = ((c / 2 ^ k : Nat) : Int) from by simp, Int.tmod_eq_emod_of_nonneg (Int.natCast_nonneg _)]; exact (Int.natCast_emod _ _).symm
  rw [h, Bool.eq_iff_iff]; simp only [beq_iff_eq]; omega
abbrev nilS : Value := .slice none 0 0
abbrev bools (l : List Bool) : List Value := l.map Value.bool
theorem bitsF_length (k n : Nat) : (bitsF k n).length = k := by
  induction k generalizing n with
  | zero => rfl
  | succ k ih => simp [bitsF, ih]
theorem bitsF_snoc (k n : Nat) : bitsF (k + 1) n = bitsF k n ++ [n / 2 ^ k % 2 == 1] := by
  induction k generalizing n with
  | zero => simp [bitsF]
  | succ k ih => rw [bitsF, ih, bitsF, Nat.div_div_eq_div_mul, ← Nat.pow_add_one']; rfl

/-- What the post says of what comes back. -/
def EventPost (B r n : Nat) (l : List UInt8) (w : World) (e : Ending) (w' : World) : Prop :=
  ∃ ve vk, e = .returned (.agg (evCells (eventF n l).1 ve vk)) ∧ Upd (At r) w w' ∧ Reader B w' r (l.drop (eventF n l).2) ∧
      w'.ownsRow w.heap.size 46 3 ve (eventF n l).1.op.edits.length (editCells (eventF n l).1.op.edits) ∧ w'.ownsRow w.heap.size 4 1 vk (eventF n l).1.keep.length (bools (eventF n l).1.keep) ∧ (ve.ownBlock = none ∨ ve.ownBlock ≠ vk.ownBlock)
theorem eventPost_mk {B r n : Nat} {l l' : List UInt8} {w w' : World} {ev : Ev} {k : Nat} {ve vk : Value} (he : eventF n l = (ev, k)) (hl : l' = l.drop k) (hu : Upd (At r) w w') (hr : Reader B w' r l') (h1 : w'.ownsRow w.heap.size 46 3 ve ev.op.edits.length (editCells ev.op.edits)) (h2 : w'.ownsRow w.heap.size 4 1 vk ev.keep.length (bools ev.keep)) (h3 : ve.ownBlock = none ∨ ve.ownBlock ≠ vk.ownBlock) :
    EventPost B r n l w (.returned (.agg (evCells ev ve vk))) w' := by
  refine ⟨ve, vk, by rw [he], hu, by rw [he]; subst hl; exact hr, by rw [he]; exact h1, by rw [he]; exact h2, h3⟩

theorem eventF_step {n : Nat} {l : List UInt8} {c : Nat} (hc : c = hd l) (h : c < 192) : eventF n l = (Ev.zero 1 ((c : Int) % n), 1) := by subst hc; simp only [eventF]; rw [if_pos h]
theorem eventF_power {n : Nat} {l : List UInt8} {c c1 c2 : Nat} (hc : c = hd l) (h : ¬ c < 192) (h4 : c % 5 = 4) (h1 : c1 = hd (l.drop 1)) (h2 : c2 = hd (l.drop 2)) : eventF n l = ({ Ev.zero (2 + (c : Int) % 5) 0 with ops := c1, keep := bitsF 8 c2 }, 3) := by
  subst hc h1 h2; simp only [eventF]; rw [if_neg h, if_pos h4]; rw [show (2 : Int) + (hd l : Int) % 5 = 6 from by omega]
theorem eventF_invoke {n : Nat} {l : List UInt8} {c c1 : Nat} {l2 : List UInt8} (hc : c = hd l) (h : ¬ c < 192) (h4 : c % 5 = 0) (h1 : c1 = hd (l.drop 1)) (h2 : l2 = l.drop 2) : eventF n l = ({ Ev.zero (2 + (c : Int) % 5) ((c1 : Int) % n) with op := (opF l2).1 }, 2 + (opF l2).2) := by
  subst hc h1 h2; simp only [eventF]; rw [if_neg h, if_neg (by omega), if_pos h4]; rw [show (2 : Int) + (hd l : Int) % 5 = 2 from by omega]
theorem eventF_tick {n : Nat} {l : List UInt8} {c c1 c2 : Nat} (hc : c = hd l) (h : ¬ c < 192) (h4 : c % 5 = 1) (h1 : c1 = hd (l.drop 1)) (h2 : c2 = hd (l.drop 2)) : eventF n l = ({ Ev.zero (2 + (c : Int) % 5) ((c1 : Int) % n) with by_ := c2 }, 3) := by
  subst hc h1 h2; simp only [eventF]; rw [if_neg h, if_neg (by omega), if_neg (by omega), if_pos h4]; rw [show (2 : Int) + (hd l : Int) % 5 = 3 from by omega]
theorem eventF_other {n : Nat} {l : List UInt8} {c c1 : Nat} (hc : c = hd l) (h : ¬ c < 192) (h4 : c % 5 ≠ 0) (h5 : c % 5 ≠ 1) (h6 : c % 5 ≠ 4) (h1 : c1 = hd (l.drop 1)) : eventF n l = (Ev.zero (2 + (c : Int) % 5) ((c1 : Int) % n), 2) := by
  subst hc h1; simp only [eventF]; rw [if_neg h, if_neg h6, if_neg h4, if_neg h5]

set_option maxRecDepth 100000 in
set_option maxHeartbeats 1000000 in
theorem event_step {B : Nat} (w : World) (r n : Nat) (l : List UInt8) (hn1 : 1 ≤ n) (hn2 : n ≤ 64) (h : Reader B w r l) (hcs : hd l < 192) :
    Calls Try.prog 27 #[.pointer (some ⟨r, 0, none⟩), .int .i64 n] w (EventPost B r n l w) := by
  have hrl := h.lt
  go_enter Try.func27, Try.ntmps27
  go_wp2_with (go_at_call 26; fail)
  have hrb := newAt w (.cells (evCells (Ev.zero 0 0) nilS nilS) 44)
  refine (next_c _ r _ (h.alloc _)).mono ?_
  rintro e w1 ⟨c, l1, rfl, hc, HC, HL1, hu1, hr1, hlt1⟩
  have hrb1 := hu1.at_ hrb (fun e => by unfold At at e; omega)
  have hs1 : w.heap.size < w1.heap.size := by have := hu1.size; simp at this; omega
  have hu01 : Upd (At r) w w1 := ((Upd.refl (At r) w).alloc _).trans hu1
  have hcs' : c < 192 := by have := HC.out; omega
  go_wp2_with (refine wpList_store_blk rfl _ _ _ rfl rfl (cells := evCells (Ev.zero 1 ((c : Int) % n)) nilS nilS) rfl hrb1 (Try.evT _ _ _) rfl (evCells_one _ _ _ _ _ _ _) ?_)
  refine bodyPost_blk rfl rfl rfl (setRow_heap _ _ _ _ _ _ hrb1) (Try.evT _ _ _) ?_
  have hus := Upd.row w1 w.heap.size (evCells (Ev.zero 1 ((c : Int) % n)) nilS nilS)
  exact eventPost_mk (eventF_step HC.out hcs') HL1.out (hu01.step hus (fun i hi e => by unfold At at e; omega)) (hr1.upd hus (fun i e => by unfold At at e; omega)) (World.ownsRow_nil _ _ _ _) (World.ownsRow_nil _ _ _ _) (.inl rfl)

set_option maxRecDepth 100000 in
set_option maxHeartbeats 1000000 in
theorem event_other {B : Nat} (w : World) (r n : Nat) (l : List UInt8) (hn1 : 1 ≤ n) (hn2 : n ≤ 64) (h : Reader B w r l) (hcs : ¬ hd l < 192) (h4 : hd l % 5 ≠ 0) (h5 : hd l % 5 ≠ 1) (h6 : hd l % 5 ≠ 4) :
    Calls Try.prog 27 #[.pointer (some ⟨r, 0, none⟩), .int .i64 n] w (EventPost B r n l w) := by
  have hrl := h.lt
  go_enter Try.func27, Try.ntmps27
  go_wp2_with (go_at_call 26; fail)
  have hrb := newAt w (.cells (evCells (Ev.zero 0 0) nilS nilS) 44)
  refine (next_c _ r _ (h.alloc _)).mono ?_
  rintro e w1 ⟨c, l1, rfl, hc, HC, HL1, hu1, hr1, hlt1⟩
  have hrb1 := hu1.at_ hrb (fun e => by unfold At at e; omega)
  have hs1 : w.heap.size < w1.heap.size := by have := hu1.size; simp at this; omega
  have hu01 : Upd (At r) w w1 := ((Upd.refl (At r) w).alloc _).trans hu1
  have hge : ¬ c < 192 := by have := HC.out; omega
  have hra := hr1.alloc (.cells (evCells (Ev.zero (2 + (c : Int) % 5) 0) nilS nilS) 44)
  have hrba := ((Upd.refl Nothing w1).alloc (.cells (evCells (Ev.zero (2 + (c : Int) % 5) 0) nilS nilS) 44)).at_ hrb1 (fun e => e)
  have hbx := newAt w1 (.cells (evCells (Ev.zero (2 + (c : Int) % 5) 0) nilS nilS) 44)
  have k4 : c % 5 ≠ 0 := by have := HC.out; omega
  have k5 : c % 5 ≠ 1 := by have := HC.out; omega
  have k6 : c % 5 ≠ 4 := by have := HC.out; omega
  have q6 : ((2 : Int) + (c : Int) % 5 != 6) = true := by rw [bne_iff_ne]; omega
  have q2 : ((2 : Int) + (c : Int) % 5 == 2) = false := by rw [beq_eq_false_iff_ne]; omega
  have q3 : ((2 : Int) + (c : Int) % 5 == 3) = false := by rw [beq_eq_false_iff_ne]; omega
  have q7 : ((2 : Int) + (c : Int) % 5 == 6) = false := by rw [beq_eq_false_iff_ne]; omega
  have K := Lib.hid (And.intro k4 (And.intro k5 k6))
  clear k4 k5 k6 hcs h4 h5 h6
  go_wp2_with (go_at_call 26; fail)
  refine (next_c _ r _ hra).mono ?_
  rintro e w2 ⟨c1, l2, rfl, hc1, HC1, HL2, hu2, hr2, hlt2⟩
  have hs2 : w1.heap.size < w2.heap.size := by have := hu2.size; simp at this; omega
  have hrb2 := hu2.at_ hrba (fun e => by unfold At at e; omega)
  have hbx2 := hu2.at_ hbx (fun e => by unfold At at e; omega)
  have hu02 : Upd (At r) w w2 := (hu01.alloc _).trans hu2
  have df2 := freeAt hbx2
  have d0 := cellAt hbx2 0 (.int .u8 (2 + (c : Int) % 5)) rfl
  have d1 := cellAt hbx2 1 _ rfl
  have hbx3 : (w2.setCell ⟨w1.heap.size, 1, none⟩ (.int .i64 ((c1 : Int) % n))).heap[w1.heap.size]? = some (.cells (evCells (Ev.zero (2 + (c : Int) % 5) ((c1 : Int) % n)) nilS nilS) 44 (0, 0)) := setAt hbx2
  have hrb3 := (Upd.own w2 w1.heap.size 1 (.int .i64 ((c1 : Int) % n))).at_ hrb2 (fun e => by unfold At at e; omega)
  have hus := Upd.row (w2.setCell ⟨w1.heap.size, 1, none⟩ (.int .i64 ((c1 : Int) % n))) w.heap.size (evCells (Ev.zero (2 + (c : Int) % 5) ((c1 : Int) % n)) nilS nilS)
  go_wp2_with (first | (refine wpList_load_blk rfl _ _ rfl rfl hbx3 (Try.evT _ _ _) ?_) | (refine wpList_store_blk rfl _ _ _ rfl rfl (cells := evCells (Ev.zero (2 + (c : Int) % 5) ((c1 : Int) % n)) nilS nilS) rfl hrb3 (Try.evT _ _ _) rfl (evCells_one _ _ _ _ _ _ _) ?_))
  refine bodyPost_blk rfl rfl rfl (setRow_heap _ _ _ _ _ _ hrb3) (Try.evT _ _ _) ?_
  refine eventPost_mk (eventF_other HC.out hge K.out.1 K.out.2.1 K.out.2.2 (by rw [HC1.out, HL1.out])) (by rw [HL2.out, HL1.out, List.drop_drop]) ((hu02.setCell (p := ⟨_, _, none⟩) (fun h => by simp only at h; omega) _).step hus (fun i hi e => by unfold At at e; omega)) ((hr2.set (by omega) _ _).upd hus (fun i e => by unfold At at e; omega)) (World.ownsRow_nil _ _ _ _) (World.ownsRow_nil _ _ _ _) (.inl rfl)

set_option maxRecDepth 100000 in
set_option maxHeartbeats 1000000 in
theorem event_tick {B : Nat} (w : World) (r n : Nat) (l : List UInt8) (hn1 : 1 ≤ n) (hn2 : n ≤ 64) (h : Reader B w r l) (hcs : ¬ hd l < 192) (h4 : hd l % 5 = 1) :
    Calls Try.prog 27 #[.pointer (some ⟨r, 0, none⟩), .int .i64 n] w (EventPost B r n l w) := by
  have hrl := h.lt
  go_enter Try.func27, Try.ntmps27
  go_wp2_with (go_at_call 26; fail)
  have hrb := newAt w (.cells (evCells (Ev.zero 0 0) nilS nilS) 44)
  refine (next_c _ r _ (h.alloc _)).mono ?_
  rintro e w1 ⟨c, l1, rfl, hc, HC, HL1, hu1, hr1, hlt1⟩
  have hrb1 := hu1.at_ hrb (fun e => by unfold At at e; omega)
  have hs1 : w.heap.size < w1.heap.size := by have := hu1.size; simp at this; omega
  have hu01 : Upd (At r) w w1 := ((Upd.refl (At r) w).alloc _).trans hu1
  have hge : ¬ c < 192 := by have := HC.out; omega
  have hra := hr1.alloc (.cells (evCells (Ev.zero (2 + (c : Int) % 5) 0) nilS nilS) 44)
  have hrba := ((Upd.refl Nothing w1).alloc (.cells (evCells (Ev.zero (2 + (c : Int) % 5) 0) nilS nilS) 44)).at_ hrb1 (fun e => e)
  have hbx := newAt w1 (.cells (evCells (Ev.zero (2 + (c : Int) % 5) 0) nilS nilS) 44)
  have k4 : c % 5 = 1 := by have := HC.out; omega
  have q6 : ((2 : Int) + (c : Int) % 5 != 6) = true := by rw [bne_iff_ne]; omega
  have q12 : ((2 : Int) + (c : Int) % 5 == 2) = false := by rw [beq_eq_false_iff_ne]; omega
  have q13 : ((2 : Int) + (c : Int) % 5 == 3) = true := by rw [beq_iff_eq]; omega
  have q16 : ((2 : Int) + (c : Int) % 5 == 6) = false := by rw [beq_eq_false_iff_ne]; omega
  have K := Lib.hid k4
  clear k4 hcs h4
  go_wp2_with (go_at_call 26; fail)
  refine (next_c _ r _ hra).mono ?_
  rintro e w2 ⟨c1, l2, rfl, hc1, HC1, HL2, hu2, hr2, hlt2⟩
  have hs2 : w1.heap.size < w2.heap.size := by have := hu2.size; simp at this; omega
  have hrb2 := hu2.at_ hrba (fun e => by unfold At at e; omega)
  have hbx2 := hu2.at_ hbx (fun e => by unfold At at e; omega)
  have hu02 : Upd (At r) w w2 := (hu01.alloc _).trans hu2
  have df2 := freeAt hbx2
  have d0 := cellAt hbx2 0 (.int .u8 (2 + (c : Int) % 5)) rfl
  have d1 := cellAt hbx2 1 _ rfl
  obtain ⟨wx, hwx⟩ : ∃ wx, wx = w2.setCell ⟨w1.heap.size, 1, none⟩ (.int .i64 ((c1 : Int) % n)) := ⟨_, rfl⟩
  have hbx3 : wx.heap[w1.heap.size]? = some (.cells (evCells (Ev.zero (2 + (c : Int) % 5) ((c1 : Int) % n)) nilS nilS) 44 (0, 0)) := by rw [hwx]; exact setAt hbx2
  have hrb3 : wx.heap[w.heap.size]? = some (.cells (evCells (Ev.zero 0 0) nilS nilS) 44 (0, 0)) := by rw [hwx]; exact (Upd.own w2 w1.heap.size 1 (.int .i64 ((c1 : Int) % n))).at_ hrb2 (fun e => by unfold At at e; omega)
  have hrx : Reader B wx r l2 := by rw [hwx]; exact hr2.set (by omega) _ _
  have hu0x : Upd (At r) w wx := by rw [hwx]; exact hu02.setCell (p := ⟨_, _, none⟩) (fun h => by simp only at h; omega) _
  have hsx : wx.heap.size = w2.heap.size := by rw [hwx]; simp
  go_wp2_with (go_at_call 26; fail)
  rw [← hwx]
  refine (next_c _ r _ hrx).mono ?_
  rintro e w3 ⟨c2, l3, rfl, hc2, HC2, HL3, hu3, hr3, hlt3⟩
  have hrb4 := hu3.at_ hrb3 (fun e => by unfold At at e; omega)
  have hbx4 := hu3.at_ hbx3 (fun e => by unfold At at e; omega)
  have hu03 := hu0x.trans hu3
  clear hbx2 hbx3 hrb2 hrb3 hbx hwx hrba hrb1 d0 d1 df2
  have df4 := freeAt hbx4
  have d11 := cellAt hbx4 11 (.int .u64 0) rfl
  have hbx9 : (w3.setCell ⟨w1.heap.size, 11, none⟩ (.int .u64 c2)).heap[w1.heap.size]? = some (.cells (evCells { Ev.zero (2 + (c : Int) % 5) ((c1 : Int) % n) with by_ := c2 } nilS nilS) 44 (0, 0)) := setAt hbx4
  have hrb9 := (Upd.own w3 w1.heap.size 11 (.int .u64 c2)).at_ hrb4 (fun e => by unfold At at e; omega)
  have hus := Upd.row (w3.setCell ⟨w1.heap.size, 11, none⟩ (.int .u64 c2)) w.heap.size (evCells { Ev.zero (2 + (c : Int) % 5) ((c1 : Int) % n) with by_ := c2 } nilS nilS)
  go_wp2_with (first | (refine wpList_load_blk rfl _ _ rfl rfl hbx9 (Try.evT _ _ _) ?_) | (refine wpList_store_blk rfl _ _ _ rfl rfl (cells := (evCells { Ev.zero (2 + (c : Int) % 5) ((c1 : Int) % n) with by_ := c2 } nilS nilS)) rfl hrb9 (Try.evT _ _ _) rfl (evCells_one _ _ _ _ _ _ _) ?_))
  refine bodyPost_blk rfl rfl rfl (setRow_heap _ _ _ _ _ _ hrb9) (Try.evT _ _ _) ?_
  exact eventPost_mk (eventF_tick HC.out hge K.out (by rw [HC1.out, HL1.out]) (by rw [HC2.out, HL2.out, HL1.out, List.drop_drop])) (by rw [HL3.out, HL2.out, HL1.out, List.drop_drop, List.drop_drop]) ((hu03.setCell (p := ⟨_, _, none⟩) (fun h => by simp only at h; omega) _).step hus (fun i hi e => by unfold At at e; omega)) ((hr3.set (by omega) _ _).upd hus (fun i e => by unfold At at e; omega)) (World.ownsRow_nil _ _ _ _) (World.ownsRow_nil _ _ _ _) (.inl rfl)

set_option maxRecDepth 100000 in
set_option maxHeartbeats 1000000 in
theorem event_invoke {B : Nat} (w : World) (r n : Nat) (l : List UInt8) (hn1 : 1 ≤ n) (hn2 : n ≤ 64) (h : Reader B w r l) (hcs : ¬ hd l < 192) (h4 : hd l % 5 = 0) :
    Calls Try.prog 27 #[.pointer (some ⟨r, 0, none⟩), .int .i64 n] w (EventPost B r n l w) := by
  have hrl := h.lt
  go_enter Try.func27, Try.ntmps27
  go_wp2_with (go_at_call 26; fail)
  have hrb := newAt w (.cells (evCells (Ev.zero 0 0) nilS nilS) 44)
  refine (next_c _ r _ (h.alloc _)).mono ?_
  rintro e w1 ⟨c, l1, rfl, hc, HC, HL1, hu1, hr1, hlt1⟩
  have hrb1 := hu1.at_ hrb (fun e => by unfold At at e; omega)
  have hs1 : w.heap.size < w1.heap.size := by have := hu1.size; simp at this; omega
  have hu01 : Upd (At r) w w1 := ((Upd.refl (At r) w).alloc _).trans hu1
  have hge : ¬ c < 192 := by have := HC.out; omega
  have hra := hr1.alloc (.cells (evCells (Ev.zero (2 + (c : Int) % 5) 0) nilS nilS) 44)
  have hrba := ((Upd.refl Nothing w1).alloc (.cells (evCells (Ev.zero (2 + (c : Int) % 5) 0) nilS nilS) 44)).at_ hrb1 (fun e => e)
  have hbx := newAt w1 (.cells (evCells (Ev.zero (2 + (c : Int) % 5) 0) nilS nilS) 44)
  have k4 : c % 5 = 0 := by have := HC.out; omega
  have q6 : ((2 : Int) + (c : Int) % 5 != 6) = true := by rw [bne_iff_ne]; omega
  have q12 : ((2 : Int) + (c : Int) % 5 == 2) = true := by rw [beq_iff_eq]; omega
  have q13 : ((2 : Int) + (c : Int) % 5 == 3) = false := by rw [beq_eq_false_iff_ne]; omega
  have q16 : ((2 : Int) + (c : Int) % 5 == 6) = false := by rw [beq_eq_false_iff_ne]; omega
  have K := Lib.hid k4
  clear k4 hcs h4
  go_wp2_with (go_at_call 26; fail)
  refine (next_c _ r _ hra).mono ?_
  rintro e w2 ⟨c1, l2, rfl, hc1, HC1, HL2, hu2, hr2, hlt2⟩
  have hs2 : w1.heap.size < w2.heap.size := by have := hu2.size; simp at this; omega
  have hrb2 := hu2.at_ hrba (fun e => by unfold At at e; omega)
  have hbx2 := hu2.at_ hbx (fun e => by unfold At at e; omega)
  have hu02 : Upd (At r) w w2 := (hu01.alloc _).trans hu2
  have df2 := freeAt hbx2
  have d0 := cellAt hbx2 0 (.int .u8 (2 + (c : Int) % 5)) rfl
  have d1 := cellAt hbx2 1 _ rfl
  obtain ⟨wx, hwx⟩ : ∃ wx, wx = w2.setCell ⟨w1.heap.size, 1, none⟩ (.int .i64 ((c1 : Int) % n)) := ⟨_, rfl⟩
  have hbx3 : wx.heap[w1.heap.size]? = some (.cells (evCells (Ev.zero (2 + (c : Int) % 5) ((c1 : Int) % n)) nilS nilS) 44 (0, 0)) := by rw [hwx]; exact setAt hbx2
  have hrb3 : wx.heap[w.heap.size]? = some (.cells (evCells (Ev.zero 0 0) nilS nilS) 44 (0, 0)) := by rw [hwx]; exact (Upd.own w2 w1.heap.size 1 (.int .i64 ((c1 : Int) % n))).at_ hrb2 (fun e => by unfold At at e; omega)
  have hrx : Reader B wx r l2 := by rw [hwx]; exact hr2.set (by omega) _ _
  have hu0x : Upd (At r) w wx := by rw [hwx]; exact hu02.setCell (p := ⟨_, _, none⟩) (fun h => by simp only at h; omega) _
  have hsx : wx.heap.size = w2.heap.size := by rw [hwx]; simp
  go_wp2_with (go_at_call 41; fail)
  rw [← hwx]
  refine (op_any _ r _ hrx).mono ?_
  rintro e w3 ⟨ve, rfl, hu3, hr3, hown3⟩
  obtain ⟨va, vn, vc, rfl⟩ := ownsForm hown3
  have hrb4 := hu3.at_ hrb3 (fun e => by unfold At at e; omega)
  have hbx4 := hu3.at_ hbx3 (fun e => by unfold At at e; omega)
  have hu03 := hu0x.trans hu3
  have hown3' : w3.ownsRow w2.heap.size 46 3 (.slice va vn vc) (opF l2).1.edits.length (editCells (opF l2).1.edits) := by rw [← hsx]; exact hown3
  have hlo : ∀ j, (Value.slice va vn vc).ownBlock = some j → w2.heap.size ≤ j := fun j hj => (hown3'.lt j hj).1
  clear hbx2 hbx3 hrb2 hrb3 hbx hwx hrba hrb1 d0 d1 df2 hown3
  go_wp2_with (first | (refine wpList_store_in rfl _ _ _ rfl rfl (cells := opCells (opF l2).1 (.slice va vn vc)) rfl hbx4 (Try.opT _ _) (show 2 + 9 ≤ 14 from by decide) (opCells_one _ _ _ _) ?_; intro w9 hux hbx9; rw [setL_op _ _ nilS] at hbx9; have hrb9 := hux.at_ hrb4 (fun e => by unfold At at e; omega)) | (refine wpList_load_blk rfl _ _ rfl rfl hbx9 (Try.evT _ _ _) ?_) | (refine wpList_store_blk rfl _ _ _ rfl rfl (cells := (evCells { Ev.zero (2 + (c : Int) % 5) ((c1 : Int) % n) with op := (opF l2).1 } (.slice va vn vc) nilS)) rfl hrb9 (Try.evT _ _ _) rfl (evCells_one _ _ _ _ _ _ _) ?_))
  refine bodyPost_blk rfl rfl rfl (setRow_heap _ _ _ _ _ _ hrb9) (Try.evT _ _ _) ?_
  have hus := Upd.row w9 w.heap.size (evCells { Ev.zero (2 + (c : Int) % 5) ((c1 : Int) % n) with op := (opF l2).1 } (.slice va vn vc) nilS)
  exact eventPost_mk (eventF_invoke HC.out hge K.out (by rw [HC1.out, HL1.out]) (by rw [HL2.out, HL1.out, List.drop_drop])) (by rw [HL2.out, HL1.out, List.drop_drop, List.drop_drop]; congr 1; omega) ((hu03.step hux (fun i hi e => by unfold At at e; omega)).step hus (fun i hi e => by unfold At at e; omega)) ((hr3.upd hux (fun i e => by unfold At at e; omega)).upd hus (fun i e => by unfold At at e; omega)) ((hus.ownsRow (hux.ownsRow hown3' (fun j hj e => by have := hlo j hj; unfold At at e; omega)) (fun j hj e => by have := hlo j hj; unfold At at e; omega)).mono_base (by omega)) (World.ownsRow_nil _ _ _ _) (by cases va <;> simp [Value.ownBlock])

set_option maxRecDepth 100000 in
set_option maxHeartbeats 1000000 in
theorem event_power {B : Nat} (w : World) (r n : Nat) (l : List UInt8) (h : Reader B w r l) (hcs : ¬ hd l < 192) (h4 : hd l % 5 = 4) :
    Calls Try.prog 27 #[.pointer (some ⟨r, 0, none⟩), .int .i64 n] w (EventPost B r n l w) := by
  have hrl := h.lt
  go_enter Try.func27, Try.ntmps27
  go_wp2_with (go_at_call 26; fail)
  have hrb := newAt w (.cells (evCells (Ev.zero 0 0) nilS nilS) 44)
  refine (next_c _ r _ (h.alloc _)).mono ?_
  rintro e w1 ⟨c, l1, rfl, hc, HC, HL1, hu1, hr1, hlt1⟩
  have hrb1 := hu1.at_ hrb (fun e => by unfold At at e; omega)
  have hs1 : w.heap.size < w1.heap.size := by have := hu1.size; simp at this; omega
  have hu01 : Upd (At r) w w1 := ((Upd.refl (At r) w).alloc _).trans hu1
  have hge : ¬ c < 192 := by have := HC.out; omega
  have hra := hr1.alloc (.cells (evCells (Ev.zero (2 + (c : Int) % 5) 0) nilS nilS) 44)
  have hrba := ((Upd.refl Nothing w1).alloc (.cells (evCells (Ev.zero (2 + (c : Int) % 5) 0) nilS nilS) 44)).at_ hrb1 (fun e => e)
  have hbx := newAt w1 (.cells (evCells (Ev.zero (2 + (c : Int) % 5) 0) nilS nilS) 44)
  have k4 : c % 5 = 4 := by have := HC.out; omega
  have q6 : ((2 : Int) + (c : Int) % 5 != 6) = false := by rw [bne_eq_false_iff_eq]; omega
  have q12 : ((2 : Int) + (c : Int) % 5 == 2) = false := by rw [beq_eq_false_iff_ne]; omega
  have q13 : ((2 : Int) + (c : Int) % 5 == 3) = false := by rw [beq_eq_false_iff_ne]; omega
  have q16 : ((2 : Int) + (c : Int) % 5 == 6) = true := by rw [beq_iff_eq]; omega
  have K := Lib.hid k4
  clear k4 hcs h4
  have d0 : (w1.alloc (.cells (evCells (Ev.zero (2 + (c : Int) % 5) 0) nilS nilS) 44)).cell? ⟨w1.heap.size, 0, none⟩ = some (.int .u8 (2 + (c : Int) % 5)) := cellAt hbx 0 _ rfl
  go_wp2_with (go_at_call 26; fail)
  refine (next_c _ r _ hra).mono ?_
  rintro e w2 ⟨c1, l2, rfl, hc1, HC1, HL2, hu2, hr2, hlt2⟩
  have hs2 : w1.heap.size < w2.heap.size := by have := hu2.size; simp at this; omega
  have hrb2 := hu2.at_ hrba (fun e => by unfold At at e; omega)
  have hbx2 := hu2.at_ hbx (fun e => by unfold At at e; omega)
  have hu02 : Upd (At r) w w2 := (hu01.alloc _).trans hu2
  have df2 := freeAt hbx2
  obtain ⟨wx, hwx⟩ : ∃ wx, wx = w2.setCell ⟨w1.heap.size, 12, none⟩ (.int .i64 c1) := ⟨_, rfl⟩
  have d12 := cellAt hbx2 12 (.int .i64 0) rfl
  have hbx3 : wx.heap[w1.heap.size]? = some (.cells (evCells { Ev.zero (2 + (c : Int) % 5) 0 with ops := c1 } nilS nilS) 44 (0, 0)) := by rw [hwx]; exact setAt hbx2
  have hrb3 : wx.heap[w.heap.size]? = some (.cells (evCells (Ev.zero 0 0) nilS nilS) 44 (0, 0)) := by rw [hwx]; exact (Upd.own w2 w1.heap.size 12 (.int .i64 c1)).at_ hrb2 (fun e => by unfold At at e; omega)
  have hrx : Reader B wx r l2 := by rw [hwx]; exact hr2.set (by omega) _ _
  have hu0x : Upd (At r) w wx := by rw [hwx]; exact hu02.setCell (p := ⟨_, _, none⟩) (fun h => by simp only at h; omega) _
  have hsx : wx.heap.size = w2.heap.size := by rw [hwx]; simp
  go_wp2_with (go_at_call 26; fail)
  rw [← hwx]
  refine (next_c _ r _ hrx).mono ?_
  rintro e w3 ⟨c2, l3, rfl, hc2, HC2, HL3, hu3, hr3, hlt3⟩
  have hrb4 := hu3.at_ hrb3 (fun e => by unfold At at e; omega)
  have hbx4 := hu3.at_ hbx3 (fun e => by unfold At at e; omega)
  have hu03 := hu0x.trans hu3
  have hs3 : w1.heap.size < w3.heap.size := by have := hu3.size; omega
  clear hbx2 hbx3 hrb2 hrb3 hbx hwx hrba hrb1 d0 d12 df2 hrb hsx
  obtain ⟨i0, hi, hz0, hz1, hz2⟩ := info_parts Try.info4
  go_wp2_with fail
  go_loopw [50] (fun i wr => ∃ (k : Nat) (va : Option Addr) (vn vc : Nat), k ≤ 8 ∧ i = .int .i64 k ∧ Upd (At r) w wr ∧ Reader B wr r l3 ∧ wr.heap[w1.heap.size]? = some (.cells (evCells { Ev.zero (2 + (c : Int) % 5) 0 with ops := c1 } nilS (.slice va vn vc)) 44 (0, 0)) ∧ wr.heap[w.heap.size]? = some (.cells (evCells (Ev.zero 0 0) nilS nilS) 44 (0, 0)) ∧ wr.ownsRow (w1.heap.size + 1) 4 1 (.slice va vn vc) k (bools (bitsF k c2)))
    (fun i _ => 8 - (intOf i).toNat)
  case atStart => exact ⟨0, none, 0, 0, Nat.zero_le _, rfl, hu03, hr3, hbx4, hrb4, World.ownsRow_nil _ _ _ _⟩
  case round =>
    obtain ⟨k, va, vn, vc, hk, rfl, hu, hr, hbxr, hrbr, hown⟩ := hrel
    by_cases hlt : k < 8
    · have f13 := cellAt hbxr 13 (.slice va vn vc) rfl
      have ff := freeAt hbxr
      have hlo : ∀ j, (Value.slice va vn vc).ownBlock = some j → w1.heap.size < j := fun j hj => by have := (hown.lt j hj).1; omega
      have hks : (0 : Int) ≤ (k : Int) := by omega
      go_wp2_with fail
      have hne : ∀ j, (Value.slice va vn vc).ownBlock = some j → ¬ j = w1.heap.size := fun j hj e => by have := hlo j hj; omega
      have HNE := Lib.hid hne
      have HLO := Lib.hid hlo
      have hlr := lt_of_heap hbxr
      have f13f : wr.frozen? ⟨w1.heap.size, 13, none⟩ = false := ff 13
      have ffd : ∀ o, (wr.alloc o).drew.frozen? ⟨w1.heap.size, 13, none⟩ = false := fun o => (World.frozen?_alloc_past o _ 13 hlr).trans f13f
      clear hne hlo ff
      go_region_law ((refine step_append_lies ((wr.alloc (.cells #[.bool (((c2 : Int) / 2 ^ k).tmod 2 == 1)] 4)).drew) (by rfl) (.tmp 54) (.tmp 60) 42 (by rfl) (w1.heap.size + 1) 4 i0 (.bool false) 1 1 Try.underlying42 hi hz0 hz1 hz2 rfl (by omega) (.slice va vn vc) k (bools (bitsF k c2)) (by rfl) ((hown.alloc _).drew) ⟨wr.heap.size, 0, none⟩ 1 1 [.bool (((c2 : Int) / 2 ^ k).tmod 2 == 1)] (by rfl) (by rfl) (World.news_of_block (cs := #[.bool (((c2 : Int) / 2 ^ k).tmod 2 == 1)]) (t := 4) (fr := (0, 0)) (heap_alloc_new wr _)) (by simp [Value.oneCell']) (by omega) (by unfold maxLen; omega) (by omega) (by simp; omega) (wr.heap.size + 1) (by simp) ?_; intro gg cap w5 hown5 hgrow hat hgl; have gbx2 := grownAt hbxr hgrow HNE.out; have g13 := cellAt gbx2 13 (.slice va vn vc) rfl; have gff := freeAt gbx2 13))
      all_goals
        go_wp2
        go_roundw
        case rel =>
          have hbl := hown5.lt gg rfl
          refine ⟨k + 1, some ⟨gg, 0, none⟩, k + 1, cap, by omega, by go_num, ?_, ?_, setAt gbx2, ?_, ?_⟩
          · exact (((hu.alloc _).drew).grown hgrow (fun j hj h => by have := HLO.out j hj; omega)).setCell (p := ⟨_, _, none⟩) (fun h => by simp only at h; omega) _
          · exact (Reader.grown (w := (wr.alloc _).drew) (hr.alloc _) hgrow (fun j hj => by have := HLO.out j hj; omega)).set (by omega) _ _
          · exact (Upd.own _ _ _ _).at_ (grownAt hrbr hgrow (fun j hj => by have := HLO.out j hj; omega)) (fun e => by unfold At at e; omega)
          · rw [bitsF_snoc, ← bit_eq, bools, List.map_append]
            exact (Upd.own _ _ _ _).ownsRow hown5 (fun j hj e => by simp only [Value.ownBlock, Option.some.injEq] at hj; unfold At at e; omega)
        case measure => simp [intOf]; omega
    · have hk8 : k = 8 := by omega
      subst hk8
      have hlo : ∀ j, (Value.slice va vn vc).ownBlock = some j → w1.heap.size < j := fun j hj => by have := (hown.lt j hj).1; omega
      have hus := Upd.row wr w.heap.size (evCells { Ev.zero (2 + (c : Int) % 5) 0 with ops := c1, keep := bitsF 8 c2 } nilS (.slice va vn vc))
      go_wp2_with (first | (refine wpList_load_blk rfl _ _ rfl rfl hbxr (Try.evT _ _ _) ?_) | (refine wpList_store_blk rfl _ _ _ rfl rfl (cells := evCells { Ev.zero (2 + (c : Int) % 5) 0 with ops := c1, keep := bitsF 8 c2 } nilS (.slice va vn vc)) rfl hrbr (Try.evT _ _ _) rfl (evCells_one _ _ _ _ _ _ _) ?_))
      refine bodyPost_blk rfl rfl rfl (setRow_heap _ _ _ _ _ _ hrbr) (Try.evT _ _ _) ?_
      exact eventPost_mk (eventF_power HC.out hge K.out (by rw [HC1.out, HL1.out]) (by rw [HC2.out, HL2.out, HL1.out, List.drop_drop])) (by rw [HL3.out, HL2.out, HL1.out, List.drop_drop, List.drop_drop]) (hu.step hus (fun i hi e => by unfold At at e; omega)) (hr.upd hus (fun i e => by unfold At at e; omega)) (World.ownsRow_nil _ _ _ _) ((hus.ownsRow hown (fun j hj e => by have := hlo j hj; unfold At at e; omega)).mono_base (by omega)) (.inl rfl)

theorem event_any {B : Nat} (w : World) (r n : Nat) (l : List UInt8) (hn1 : 1 ≤ n) (hn2 : n ≤ 64) (h : Reader B w r l) :
    Calls Try.prog 27 #[.pointer (some ⟨r, 0, none⟩), .int .i64 n] w (EventPost B r n l w) := by
  by_cases h1 : hd l < 192
  · exact event_step w r n l hn1 hn2 h h1
  · by_cases h2 : hd l % 5 = 4
    · exact event_power w r n l h h1 h2
    · by_cases h3 : hd l % 5 = 0
      · exact event_invoke w r n l hn1 hn2 h h1 h3
      · by_cases h4 : hd l % 5 = 1
        · exact event_tick w r n l hn1 hn2 h h1 h4
        · exact event_other w r n l hn1 hn2 h h1 h3 h4 h2

end Go.Proofs.Ytlhpcgmbbeihiaa
