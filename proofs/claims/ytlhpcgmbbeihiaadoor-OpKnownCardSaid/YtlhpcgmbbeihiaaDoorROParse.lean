/-
  CONTRACT of the reference's ref19.Parse.
-/
import Derived.Test.YtlhpcgmbbeihiaaDoorOParse
import Derived.Test.YtlhpcgmbbeihiaaDoorRDParse
import Derived.Test.YtlhpcgmbbeihiaaDoorRTakeAll
import Derived.Test.YtlhpcgmbbeihiaaDoorROPut
namespace Go.Proofs.YtlhpcgmbbeihiaaDoor
open Go.RowKit

theorem numS_ok0 {l : List UInt8} {a : Nat} : numS l (0, a) = ((numF (l.drop a)).2.1, (numF (l.drop a)).1, a + (numF (l.drop a)).2.2) := by rw [numS, if_pos rfl]
theorem textS_ok0 {l : List UInt8} {a : Nat} : textS l (0, a) = ((textF (l.drop a)).2.1, (textF (l.drop a)).1, a + (textF (l.drop a)).2.2) := by rw [textS, if_pos rfl]
theorem txS_stuck {l : List UInt8} {s : Int × Nat} {k : Nat} (h : (txS l s k).1 ≠ 0) : ∀ j, txS l s (k + j) = txS l s k
  | 0 => rfl
  | j + 1 => by rw [show k + (j + 1) = (k + j) + 1 from rfl, txS, txS_stuck h j, textS_bad l h]
theorem nmS_stuck {l : List UInt8} {s : Int × Nat} (h : s.1 ≠ 0) : ∀ j, nmS l s j = s
  | 0 => rfl
  | j + 1 => by rw [nmS, nmS_stuck h j, numS_bad l h]
/-- Where a state is bad the whole is. -/
theorem opP_stuck {l : List UInt8} (hne : ¬ l = []) (hk : ¬ (hd l < 1 ∨ 17 < hd l)) {k : Nat} (hk4 : k ≤ 4) {E : Int} (h : (txS l (numS l (0, 1)).2 k).1 = E) (hE : E ≠ 0) : opP l = (E, Oper'.zero 0) := by
  subst h
  have h1 : txS l (numS l (0, 1)).2 4 = txS l (numS l (0, 1)).2 k := by
    have := txS_stuck hE (4 - k)
    rwa [show k + (4 - k) = 4 from by omega] at this
  rw [opP, if_neg hne, if_neg hk, opS_eq, opEnd, h1, nmS_stuck hE, if_pos hE]
theorem numsP3 {l : List UInt8} {a : Nat} : ((numsP l 3 a).1 = 0 → nmS l (0, a) 3 = (0, (numsP l 3 a).2.2) ∧ (numsP l 3 a).2.1 = [nmV l (0, a) 0, nmV l (0, a) 1, nmV l (0, a) 2]) ∧ ((numsP l 3 a).1 ≠ 0 → (nmS l (0, a) 3).1 = (numsP l 3 a).1) := by
  have step : ∀ (k : Nat) (b : Nat), nmS l (0, a) k = (0, b) → ((numF (l.drop b)).1 = 0 → nmS l (0, a) (k + 1) = (0, b + (numF (l.drop b)).2.2) ∧ nmV l (0, a) k = (numF (l.drop b)).2.1) ∧ ((numF (l.drop b)).1 ≠ 0 → ∀ j, (nmS l (0, a) (k + 1 + j)).1 = (numF (l.drop b)).1) := by
    intro k b hb
    have e : nmS l (0, a) (k + 1) = ((numF (l.drop b)).1, b + (numF (l.drop b)).2.2) := by rw [nmS, hb, numS_ok0]
    refine ⟨fun h => ⟨by rw [e, h], by rw [nmV, hb, numS_ok0]⟩, fun h j => ?_⟩
    induction j with
    | zero => rw [Nat.add_zero, e]
    | succ j ih =>
      have hne : (nmS l (0, a) (k + 1 + j)).1 ≠ 0 := by rw [ih]; exact h
      rw [show k + 1 + (j + 1) = (k + 1 + j) + 1 from rfl, nmS, numS_bad l hne]; exact ih
  obtain ⟨s1, t1⟩ := step 0 a rfl
  by_cases h1 : (numF (l.drop a)).1 = 0
  · obtain ⟨e1, v1⟩ := s1 h1
    obtain ⟨s2, t2⟩ := step 1 _ e1
    obtain ⟨b, hb⟩ : ∃ b, b = a + (numF (l.drop a)).2.2 := ⟨_, rfl⟩
    rw [← hb] at s2 t2 e1
    by_cases h2 : (numF (l.drop b)).1 = 0
    · obtain ⟨e2, v2⟩ := s2 h2
      obtain ⟨s3, t3⟩ := step 2 _ e2
      obtain ⟨c, hc⟩ : ∃ c, c = b + (numF (l.drop b)).2.2 := ⟨_, rfl⟩
      rw [← hc] at s3 t3 e2
      by_cases h3 : (numF (l.drop c)).1 = 0
      · obtain ⟨e3, v3⟩ := s3 h3
        have q : numsP l 3 a = (0, [(numF (l.drop a)).2.1, (numF (l.drop b)).2.1, (numF (l.drop c)).2.1], c + (numF (l.drop c)).2.2) := by
          simp [numsP, h1, ← hb, h2, ← hc, h3]
        rw [q]
        exact ⟨fun _ => ⟨e3, by rw [v1, v2, v3]⟩, fun h => absurd rfl h⟩
      · have q : numsP l 3 a = ((numF (l.drop c)).1, [], 0) := by
          simp [numsP, h1, ← hb, h2, ← hc, h3]
        rw [q]
        exact ⟨fun h => absurd h h3, fun _ => t3 h3 0⟩
    · have q : numsP l 3 a = ((numF (l.drop b)).1, [], 0) := by
        simp [numsP, h1, ← hb, h2]
      rw [q]
      exact ⟨fun h => absurd h h2, fun _ => t2 h2 1⟩
  · have q : numsP l 3 a = ((numF (l.drop a)).1, [], 0) := by
      simp [numsP, h1]
    rw [q]
    exact ⟨fun h => absurd h h1, fun _ => t1 h1 2⟩
/-- The row of texts behind k of them. -/
def rowT (l : List UInt8) (s : Int × Nat) (k : Nat) : Array Value := #[str (upto (decide (0 < k)) (txV l s 0) []), str (upto (decide (1 < k)) (txV l s 1) []), str (upto (decide (2 < k)) (txV l s 2) []), str (upto (decide (3 < k)) (txV l s 3) [])]
theorem rowT_set (l : List UInt8) (s : Int × Nat) {k : Nat} (hk : k < 4) : (rowT l s k).setIfInBounds k (str (txV l s k)) = rowT l s (k + 1) := by
  have h : k = 0 ∨ k = 1 ∨ k = 2 ∨ k = 3 := by omega
  rcases h with rfl | rfl | rfl | rfl <;> rfl
theorem rowT_at (l : List UInt8) (s : Int × Nat) {k : Nat} (hk : k < 4) : (rowT l s k)[k]? = some (.string ⟨#[]⟩) := by
  have h : k = 0 ∨ k = 1 ∨ k = 2 ∨ k = 3 := by omega
  rcases h with rfl | rfl | rfl | rfl <;> rfl
def ROParsePost (l : List UInt8) (w : World) (e : Ending) (w' : World) : Prop := ∃ ve, e = .returned (.tuple #[.agg (opCells (opP l).2 ve), .int .i64 (opP l).1]) ∧ w'.ownsRow w.heap.size 72 3 ve (opP l).2.edits.length (editCells (opP l).2.edits) ∧ Ext w w'
theorem roparse_bad {l : List UInt8} {w w' : World} {E : Int} (hq : opP l = (E, Oper'.zero 0)) (hx : Ext w w') : ROParsePost l w (.returned (.tuple #[.agg (opCells (Oper'.zero 0) nilS), .int .i64 E])) w' :=
  ⟨nilS, by rw [hq], by rw [hq]; exact World.ownsRow_nil _ _ _ _, hx⟩
theorem roparse_ok {l : List UInt8} {w w' : World} {o : Oper'} {ve : Value} (hq : opP l = (0, o)) (ho : w'.ownsRow w.heap.size 72 3 ve o.edits.length (editCells o.edits)) (hx : Ext w w') : ROParsePost l w (.returned (.tuple #[.agg (opCells o ve), .int .i64 0])) w' :=
  ⟨ve, by rw [hq], by rw [hq]; exact ho, hx⟩

set_option maxRecDepth 100000 in
set_option maxHeartbeats 4000000 in
theorem roParse_any {S : Nat → Prop} (w : World) (v : Value) (l : List UInt8) (h : Bytes S w v l) (hl : l.length ≤ 1099511627776) :
    Calls Tryd.prog 15 #[v] w (ROParsePost l w) := by
  have H := Lib.hid h
  have g := h.addr
  obtain ⟨a, c, rfl, hn, hm, -⟩ := h
  unfold maxLen at hm
  obtain ⟨wz, hw0⟩ : ∃ w0, w0 = ((w.alloc (.cells #[.int .u8 0, .int .u64 0, .string ⟨#[]⟩, .string ⟨#[]⟩, .string ⟨#[]⟩, .slice none 0 0, .int .u64 0, .int .u64 0, .int .u64 0] 36)).alloc (.cells #[.int .u8 0, .int .u64 0, .string ⟨#[]⟩, .string ⟨#[]⟩, .string ⟨#[]⟩, .slice none 0 0, .int .u64 0, .int .u64 0, .int .u64 0] 36)).alloc (.cells #[.int .u8 0, .int .u64 0, .string ⟨#[]⟩, .string ⟨#[]⟩, .string ⟨#[]⟩, .slice none 0 0, .int .u64 0, .int .u64 0, .int .u64 0] 36) := ⟨_, rfl⟩
  have bR : wz.heap[w.heap.size]? = some (.cells (opCells (Oper'.zero 0) nilS) 36 (0, 0)) := by rw [hw0]; exact (((Upd.refl Nothing _).alloc _).alloc _).at_ (newAt w _) id
  have bN : wz.heap[w.heap.size + 1]? = some (.cells (opCells (Oper'.zero 0) nilS) 36 (0, 0)) := by rw [hw0]; exact ((Upd.refl Nothing _).alloc _).at_ (newAt' _ _ _ (by simp)) id
  have hx0 : Ext w wz := by rw [hw0]; exact (((Upd.refl _ _).alloc _).alloc _).alloc _
  by_cases h0 : l.length = 0
  · have hl0 : l = [] := List.eq_nil_of_length_eq_zero h0
    have HPE := Lib.hid (show opP l = (10, Oper'.zero 0) from by rw [opP, if_pos hl0])
    clear hl0 g
    have hi0 : (l.length : Int) = 0 := by omega
    rw [hw0] at bR bN hx0
    clear hw0
    go_enter Tryd.func15, Tryd.ntmps15
    go_wp2_with (first | (refine wpList_load_blk rfl _ _ rfl rfl bN (Tryd.ropT _ _) ?_) | (refine wpList_store_blk rfl _ _ _ rfl rfl (cells := opCells (Oper'.zero 0) nilS) rfl bR (Tryd.ropT _ _) rfl (opCells_one _ _ _ _) ?_))
    try simp only [Exit.inBlock, Exit.then]
    refine bodyPost_blk2 rfl rfl rfl (setRow_heap _ _ _ _ _ _ bR) (Tryd.ropT _ _) ?_
    exact roparse_bad HPE.out ((hx0).step (Upd.row _ _ _) (fun i hi e => by unfold At at e; omega))
  · obtain ⟨b1, o1, c1', e1, -, -, -, hc1⟩ := g (by omega)
    cases e1
    obtain ⟨m, hm'⟩ : ∃ m : Nat, m = l[0].toNat := ⟨_, rfl⟩
    have hm1 : m < 256 := by have := UInt8.toNat_lt l[0]; omega
    have hhd : hd l = m := by
      cases l with
      | nil => simp at h0
      | cons c l => rw [hd_cons, hm']; rfl
    have hcell := hx0.cell (bytes_cell hc1 0 (by omega)) id
    rw [← hm', Nat.add_zero, hw0] at hcell
    have HHD := Lib.hid hhd
    have HNE := Lib.hid (show ¬ l = [] from fun e => h0 (by rw [e]; rfl))
    clear hc1 hm' hhd
    by_cases hk : 1 ≤ m ∧ m ≤ 17
    case neg =>
      have HPE := Lib.hid (show opP l = (60, Oper'.zero 0) from by rw [opP, if_neg HNE.out, HHD.out, if_pos (by omega)])
      rw [hw0] at bR bN hx0
      clear hw0
      go_enter Tryd.func15, Tryd.ntmps15
      by_cases hm0 : m < 1
      · go_wp2_with (first | (refine wpList_load_blk rfl _ _ rfl rfl bN (Tryd.ropT _ _) ?_) | (refine wpList_store_blk rfl _ _ _ rfl rfl (cells := opCells (Oper'.zero 0) nilS) rfl bR (Tryd.ropT _ _) rfl (opCells_one _ _ _ _) ?_))
        try simp only [Exit.inBlock, Exit.then]
        refine bodyPost_blk2 rfl rfl rfl (setRow_heap _ _ _ _ _ _ bR) (Tryd.ropT _ _) ?_
        exact roparse_bad HPE.out ((hx0).step (Upd.row _ _ _) (fun i hi e => by unfold At at e; omega))
      · have hm17 : 17 < m := by omega
        go_wp2_with (first | (refine wpList_load_blk rfl _ _ rfl rfl bN (Tryd.ropT _ _) ?_) | (refine wpList_store_blk rfl _ _ _ rfl rfl (cells := opCells (Oper'.zero 0) nilS) rfl bR (Tryd.ropT _ _) rfl (opCells_one _ _ _ _) ?_))
        try simp only [Exit.inBlock, Exit.then]
        refine bodyPost_blk2 rfl rfl rfl (setRow_heap _ _ _ _ _ _ bR) (Tryd.ropT _ _) ?_
        exact roparse_bad HPE.out ((hx0).step (Upd.row _ _ _) (fun i hi e => by unfold At at e; omega))
    have HK := Lib.hid (show ¬ (hd l < 1 ∨ 17 < hd l) from by rw [HHD.out]; omega)
    have hk1 : 1 ≤ m := hk.1
    have hk17 : m ≤ 17 := hk.2
    clear hk bR bN hx0 hw0
    obtain ⟨w0, hw0⟩ : ∃ w0, w0 = ((w.alloc (.cells #[.int .u8 0, .int .u64 0, .string ⟨#[]⟩, .string ⟨#[]⟩, .string ⟨#[]⟩, .slice none 0 0, .int .u64 0, .int .u64 0, .int .u64 0] 36)).alloc (.cells #[.int .u8 0, .int .u64 0, .string ⟨#[]⟩, .string ⟨#[]⟩, .string ⟨#[]⟩, .slice none 0 0, .int .u64 0, .int .u64 0, .int .u64 0] 36)).alloc (.cells #[.int .u8 m, .int .u64 0, .string ⟨#[]⟩, .string ⟨#[]⟩, .string ⟨#[]⟩, .slice none 0 0, .int .u64 0, .int .u64 0, .int .u64 0] 36) := ⟨_, rfl⟩
    have bR : w0.heap[w.heap.size]? = some (.cells (opCells (Oper'.zero 0) nilS) 36 (0, 0)) := by rw [hw0]; exact (((Upd.refl Nothing _).alloc _).alloc _).at_ (newAt w _) id
    have bN : w0.heap[w.heap.size + 1]? = some (.cells (opCells (Oper'.zero 0) nilS) 36 (0, 0)) := by rw [hw0]; exact ((Upd.refl Nothing _).alloc _).at_ (newAt' _ _ _ (by simp)) id
    have hx0 : Ext w w0 := by rw [hw0]; exact (((Upd.refl _ _).alloc _).alloc _).alloc _
    have bO : w0.heap[w.heap.size + 1 + 1]? = some (.cells (opCells (Oper'.zero m) nilS) 36 (0, 0)) := by rw [hw0]; exact newAt' _ _ _ (by simp)
    have H0 := Lib.hid (H.out.ext hx0)
    have HW0 := Lib.hid hw0
    have BR := Lib.hid bR
    have BN := Lib.hid bN
    have BO := Lib.hid bO
    have HX0 := Lib.hid hx0
    clear bR bN bO hx0 hw0
    go_enter Tryd.func15, Tryd.ntmps15
    go_wp2_with (go_at_call 44; fail)
    rw [← HW0.out]
    refine (rTake_any w0 _ l H0.out 1 (by omega) (by omega)).mono ?_
    rintro e w1 ⟨rfl, hx1⟩
    have bR := hx1.at_ BR.out id
    have bN := hx1.at_ BN.out id
    have bO := hx1.at_ BO.out id
    have HX1 := Lib.hid (HX0.out.trans hx1)
    have hs1 : numS l (0, 1) = ((numF (l.drop 1)).2.1, (numF (l.drop 1)).1, 1 + (numF (l.drop 1)).2.2) := numS_ok0
    have hlt1 : (numF (l.drop 1)).1 = 0 → 1 + (numF (l.drop 1)).2.2 ≤ l.length := fun h => by have := (numF_ok h).2.2.2; rw [List.length_drop] at this; omega
    obtain ⟨E, hE⟩ : ∃ E, E = (numF (l.drop 1)).1 := ⟨_, rfl⟩
    obtain ⟨D, hD⟩ : ∃ D, D = (numF (l.drop 1)).2.1 := ⟨_, rfl⟩
    obtain ⟨q, hq⟩ : ∃ q, q = 1 + (numF (l.drop 1)).2.2 := ⟨_, rfl⟩
    rw [← hE, ← hD, ← hq] at hs1 ⊢
    rw [← hE, ← hq] at hlt1
    have HS1 := Lib.hid hs1
    clear hx1 hE hD hq hs1
    by_cases hE : E = 0
    case neg =>
      have HPE := Lib.hid (show opP l = (E, Oper'.zero 0) from opP_stuck HNE.out HK.out (k := 0) (by omega) (by rw [txS, HS1.out]) hE)
      have hb : (E != 0) = true := by simpa using hE
      clear hE
      go_wp2_with (first | (refine wpList_load_blk rfl _ _ rfl rfl bN (Tryd.ropT _ _) ?_) | (refine wpList_store_blk rfl _ _ _ rfl rfl (cells := opCells (Oper'.zero 0) nilS) rfl bR (Tryd.ropT _ _) rfl (opCells_one _ _ _ _) ?_))
      try simp only [Exit.inBlock, Exit.then]
      refine bodyPost_blk2 rfl rfl rfl (setRow_heap _ _ _ _ _ _ bR) (Tryd.ropT _ _) ?_
      exact roparse_bad HPE.out ((HX1.out).step (Upd.row _ _ _) (fun i hi e => by unfold At at e; omega))
    subst hE
    have hql := hlt1 rfl
    have g1 : w1.cell? ⟨w.heap.size + 1 + 1, 1, none⟩ = some (.int .u64 0) := cellAt bO 1 _ rfl
    have k1 := freeAt bO 1
    obtain ⟨s1, hs1⟩ : ∃ s, s = (numS l (0, 1)).2 := ⟨_, rfl⟩
    have hs1e : s1 = (0, q) := by rw [hs1, HS1.out]
    have HS1E := Lib.hid hs1e
    have HS1D := Lib.hid hs1
    obtain ⟨w2, hw2⟩ : ∃ w2, w2 = (w1.setCell ⟨w.heap.size + 1 + 1, 1, none⟩ (.int .u64 D)).alloc (.cells #[.string ⟨#[]⟩, .string ⟨#[]⟩, .string ⟨#[]⟩, .string ⟨#[]⟩] 9) := ⟨_, rfl⟩
    have hO1 : w.heap.size + 1 + 1 < w1.heap.size := lt_of_heap bO
    have v1 := Upd.own w1 (w.heap.size + 1 + 1) 1 (.int .u64 D)
    have cR : w2.heap[w.heap.size]? = some (.cells (opCells (Oper'.zero 0) nilS) 36 (0, 0)) := by rw [hw2]; exact ((Upd.refl Nothing _).alloc _).at_ (v1.at_ bR (fun e => by unfold At at e; omega)) id
    have cN : w2.heap[w.heap.size + 1]? = some (.cells (opCells (Oper'.zero 0) nilS) 36 (0, 0)) := by rw [hw2]; exact ((Upd.refl Nothing _).alloc _).at_ (v1.at_ bN (fun e => by unfold At at e; omega)) id
    have cO : w2.heap[w.heap.size + 1 + 1]? = some (.cells (opCells { Oper'.zero m with doc := (D : Int) } nilS) 36 (0, 0)) := by rw [hw2]; exact ((Upd.refl Nothing _).alloc _).at_ (setAt (j := 1) (u := .int .u64 D) bO) id
    have cT : w2.heap[w1.heap.size]? = some (.cells (rowT l s1 0) 9 (0, 0)) := by rw [hw2]; exact newAt' _ _ _ (by simp [World.setCell])
    have hx2 : Ext w w2 := by rw [hw2]; exact (HX1.out.setCell (p := ⟨w.heap.size + 1 + 1, 1, none⟩) (fun h => by dsimp only at h; omega) _).alloc _
    have HW2 := Lib.hid hw2
    have CR := Lib.hid cR
    have CN := Lib.hid cN
    have CO := Lib.hid cO
    have CT := Lib.hid cT
    have HX2 := Lib.hid hx2
    clear hw2 cR cN cO cT hx2 v1 bR bN bO hs1 hs1e hlt1
    go_wp2_with fail
    go_loopw [7, 10] (fun q' i wr => ∃ (k b : Nat), k ≤ 4 ∧ b ≤ l.length ∧ i = .int .i64 (k : Int) ∧ q' = .int .i64 (b : Int) ∧ txS l s1 k = (0, b) ∧ Ext w wr ∧ wr.heap[w.heap.size]? = some (.cells (opCells (Oper'.zero 0) nilS) 36 (0, 0)) ∧ wr.heap[w.heap.size + 1]? = some (.cells (opCells (Oper'.zero 0) nilS) 36 (0, 0)) ∧ wr.heap[w.heap.size + 1 + 1]? = some (.cells (opCells { Oper'.zero m with doc := (D : Int) } nilS) 36 (0, 0)) ∧ wr.heap[w1.heap.size]? = some (.cells (rowT l s1 k) 9 (0, 0))) (fun _ i _ => 4 - (intOf i).toNat)
    case atStart =>
      refine ⟨0, q, by omega, hql, rfl, rfl, HS1E.out, ?_, ?_, ?_, ?_, ?_⟩
      · first | exact HX2.out | (rw [← HW2.out]; exact HX2.out)
      · first | exact CR.out | (rw [← HW2.out]; exact CR.out)
      · first | exact CN.out | (rw [← HW2.out]; exact CN.out)
      · first | exact CO.out | (rw [← HW2.out]; exact CO.out)
      · first | exact CT.out | (rw [← HW2.out]; exact CT.out)
    case round =>
      clear HW2 CR CN CO CT HX2
      obtain ⟨k, b, hk, hb, rfl, rfl, hst, hx, cR, cN, cO, cT⟩ := hrel
      have HST := Lib.hid hst
      have HX := Lib.hid hx
      have CR := Lib.hid cR
      have CN := Lib.hid cN
      have CO := Lib.hid cO
      have CT := Lib.hid cT
      clear hst hx cR cN cO cT
      by_cases hlt : k < 4
      · go_wp2_with (go_at_call 45; fail)
        refine (rTakeText_any wr _ l (H.out.ext HX.out) b hb (by omega)).mono ?_
        rintro e w3 ⟨rfl, hx3⟩
        have dR := hx3.at_ CR.out id
        have dN := hx3.at_ CN.out id
        have dO := hx3.at_ CO.out id
        have dT := hx3.at_ CT.out id
        have HX3 := Lib.hid (HX.out.trans hx3)
        have hS : txS l s1 (k + 1) = ((textF (l.drop b)).1, b + (textF (l.drop b)).2.2) := by rw [txS, HST.out, textS_ok0]
        have hV : txV l s1 k = (textF (l.drop b)).2.1 := by rw [txV, HST.out, textS_ok0]
        have hlt3 : (textF (l.drop b)).1 = 0 → b + (textF (l.drop b)).2.2 ≤ l.length := fun h => by have := (textF_ok h).2.2.2; rw [List.length_drop] at this; omega
        obtain ⟨E, hE⟩ : ∃ E, E = (textF (l.drop b)).1 := ⟨_, rfl⟩
        obtain ⟨t, ht⟩ : ∃ t, t = (textF (l.drop b)).2.1 := ⟨_, rfl⟩
        obtain ⟨q3, hq3⟩ : ∃ q, q = b + (textF (l.drop b)).2.2 := ⟨_, rfl⟩
        rw [← hE, ← hq3] at hS hlt3
        rw [← ht] at hV
        rw [← hE, ← ht, ← hq3]
        have HS := Lib.hid hS
        have HV := Lib.hid hV
        clear hx3 hE ht hq3 hS hV
        by_cases hE : E = 0
        case neg =>
          have HPE := Lib.hid (show opP l = (E, Oper'.zero 0) from opP_stuck HNE.out HK.out (k := k + 1) (by omega) (by rw [← HS1D.out, HS.out]) hE)
          have hb : (E != 0) = true := by simpa using hE
          clear hE
          go_wp2_with (first | (refine wpList_load_blk rfl _ _ rfl rfl dN (Tryd.ropT _ _) ?_) | (refine wpList_store_blk rfl _ _ _ rfl rfl (cells := opCells (Oper'.zero 0) nilS) rfl dR (Tryd.ropT _ _) rfl (opCells_one _ _ _ _) ?_))
          try simp only [Exit.inBlock, Exit.then]
          refine bodyPost_blk2 rfl rfl rfl (setRow_heap _ _ _ _ _ _ dR) (Tryd.ropT _ _) ?_
          exact roparse_bad HPE.out ((HX3.out).step (Upd.row _ _ _) (fun i hi e => by unfold At at e; omega))
        subst hE
        have hq3 := hlt3 rfl
        have gk := cellAt dT k _ (rowT_at l s1 hlt)
        have kk := freeAt dT k
        have v1 := Upd.own w3 w1.heap.size k (str t)
        have DR := Lib.hid (v1.at_ dR (fun e => by unfold At at e; omega))
        have DN := Lib.hid (v1.at_ dN (fun e => by unfold At at e; omega))
        have DO := Lib.hid (v1.at_ dO (fun e => by unfold At at e; omega))
        have hT := setAt (j := k) (u := str t) dT
        rw [← HV.out, rowT_set l s1 hlt, HV.out] at hT
        have DT := Lib.hid hT
        have HX4 := Lib.hid (HX3.out.setCell (p := ⟨w1.heap.size, k, none⟩) (fun h => by dsimp only at h; omega) (str t))
        clear v1 hT dR dN dO dT
        go_wp2
        refine ⟨⟨k + 1, q3, by omega, hq3, by go_num, rfl, HS.out, HX4.out, DR.out, DN.out, DO.out, DT.out⟩, ?measure⟩
        case measure => simp [intOf]; omega
      · have hk4 : k = 4 := by omega
        subst hk4
        clear hlt hk
        go_wp2_with (go_at_call 46; fail)
        refine (rTakeAll_any wr _ l (H.out.ext HX.out) b 3 hb (by omega) (by omega)).mono ?_
        rintro e w3 ⟨v3, hx3, hres⟩
        have dR := hx3.at_ CR.out id
        have dN := hx3.at_ CN.out id
        have HX3 := Lib.hid (HX.out.trans hx3)
        obtain ⟨p0, p1⟩ := numsP3 (l := l) (a := b)
        have hopP : opP l = opEnd l (opN l (0, b) (opT l s1 m D 4) 3, esT l s1 4, nmS l (0, b) 3) := by
          rw [opP, if_neg HNE.out, if_neg HK.out, opS_eq, ← HS1D.out, HST.out, HHD.out, HS1.out]
        have HOP := Lib.hid hopP
        clear hopP
        rcases hres with ⟨r1, r2, r3, rfl, r4⟩ | ⟨r1, rfl⟩
        rotate_left
        · have hE := p1 r1
          obtain ⟨E, hEE⟩ : ∃ E, E = (numsP l 3 b).1 := ⟨_, rfl⟩
          rw [← hEE] at r1 hE ⊢
          have HPE := Lib.hid (show opP l = (E, Oper'.zero 0) from by rw [HOP.out, opEnd, if_pos (by dsimp only; rw [hE]; exact r1)]; dsimp only; rw [hE])
          have hb3 : (E != 0) = true := by simpa using r1
          clear p0 p1 r1 hE hEE hx3
          go_wp2_with (first | (refine wpList_load_blk rfl _ _ rfl rfl dN (Tryd.ropT _ _) ?_) | (refine wpList_store_blk rfl _ _ _ rfl rfl (cells := opCells (Oper'.zero 0) nilS) rfl dR (Tryd.ropT _ _) rfl (opCells_one _ _ _ _) ?_))
          try simp only [Exit.inBlock, Exit.then]
          refine bodyPost_blk2 rfl rfl rfl (setRow_heap _ _ _ _ _ _ dR) (Tryd.ropT _ _) ?_
          exact roparse_bad HPE.out ((HX3.out).step (Upd.row _ _ _) (fun i hi e => by unfold At at e; omega))
        · obtain ⟨hn3, hl3⟩ := p0 r1
          rw [r1] at *
          obtain ⟨q3, hq3⟩ : ∃ q, q = (numsP l 3 b).2.2 := ⟨_, rfl⟩
          rw [← hq3] at hn3 r2 ⊢
          rw [hl3] at r4
          obtain ⟨o0, ho0⟩ : ∃ o, o = opN l (0, b) (opT l s1 m D 4) 3 := ⟨_, rfl⟩
          have HOP2 := Lib.hid (show opP l = opEnd l (o0, esT l s1 4, 0, q3) from by rw [HOP.out, hn3, ho0])
          have dO := hx3.at_ CO.out id
          have dT := hx3.at_ CT.out id
          clear p0 p1 r1 r3 hn3 hl3 hq3 hx3
          by_cases hql3 : q3 = l.length
          case neg =>
            have HPE := Lib.hid (show opP l = (2, Oper'.zero 0) from by rw [HOP2.out, opEnd, if_neg (by simp), if_pos (by dsimp only; omega)])
            have hb3 : ((q3 : Int) != (l.length : Int)) = true := by simp; omega
            clear hql3
            go_wp2_with (first | (refine wpList_load_blk rfl _ _ rfl rfl dN (Tryd.ropT _ _) ?_) | (refine wpList_store_blk rfl _ _ _ rfl rfl (cells := opCells (Oper'.zero 0) nilS) rfl dR (Tryd.ropT _ _) rfl (opCells_one _ _ _ _) ?_))
            try simp only [Exit.inBlock, Exit.then]
            refine bodyPost_blk2 rfl rfl rfl (setRow_heap _ _ _ _ _ _ dR) (Tryd.ropT _ _) ?_
            exact roparse_bad HPE.out ((HX3.out).step (Upd.row _ _ _) (fun i hi e => by unfold At at e; omega))
          have hes : (#[] : Array Value).size = 0 := rfl
          have x3 : w3.cell? ⟨w1.heap.size, 3, none⟩ = some (str (txV l s1 3)) := cellAt dT 3 _ rfl
          have hesl : (txV l s1 3).length ≤ l.length := textS_len l _
          obtain ⟨gc, wb, hcv, hbb, hxb⟩ := conv_text (P := Tryd.prog) w3 (txV l s1 3) Tryd.underlying9 Tryd.underlying26 Tryd.underlying5 (by unfold maxLen; omega)
          obtain ⟨es, hese⟩ : ∃ es, es = txV l s1 3 := ⟨_, rfl⟩
          rw [← hese] at x3 hesl hcv hbb
          have HOP3 := Lib.hid (show opP l = opEnd l (o0, es, 0, q3) from by rw [HOP2.out, hese]; rfl)
          have HBB := Lib.hid hbb
          have HXB := Lib.hid hxb
          have hq3i : ((q3 : Int) != (l.length : Int)) = false := by simp; omega
          have HQL := Lib.hid hql3
          have HESE := Lib.hid hese
          have HR4 := Lib.hid r4
          clear hbb hxb hes hese HOP2 hql3 r4
          go_wp2_with (go_at_call 47; fail)
          refine (rdParse_any wb _ es HBB.out (by omega)).mono ?_
          rintro e w5 ⟨v', rfl, hok, hbad, hx5⟩
          have HXB5 := Lib.hid (HXB.out.trans hx5)
          have hszb : w.heap.size ≤ wb.heap.size := by have := HXB.out.size; have := HX3.out.size; omega
          obtain ⟨E2, hE2⟩ : ∃ E2, E2 = (editsP es.length es).1 := ⟨_, rfl⟩
          obtain ⟨L2, hL2⟩ : ∃ L2, L2 = (editsP es.length es).2 := ⟨_, rfl⟩
          rw [← hE2] at hok hbad ⊢
          rw [← hL2] at hok
          have hP2 : opP l = if E2 ≠ 0 then (E2, Oper'.zero 0) else if opRight { o0 with edits := L2 } then (0, { o0 with edits := L2 }) else (2, Oper'.zero 0) := by
            rw [HOP3.out, opEnd, if_neg (by simp), if_neg (by dsimp only; have := HQL.out; omega)]
            dsimp only
            rw [← hE2, ← hL2]
          have HP2 := Lib.hid hP2
          have eR := HXB5.out.at_ dR id
          have eN := HXB5.out.at_ dN id
          have HX5 := Lib.hid (HX3.out.trans HXB5.out)
          have HWE := Lib.hid (show ∀ x ∈ L2, 0 ≤ x.kind from fun x hx => by
            rw [hL2] at hx
            by_cases h : (editsP es.length es).1 = 0
            · exact ((editsP_ok _ _ (Nat.le_refl _) h).2.2 x hx).2.1
            · rw [editsP_bad _ _ h] at hx; cases hx)
          clear hE2 hL2 hP2 hcv x3
          by_cases hE2 : E2 = 0
          case neg =>
            have hb2 : (E2 != 0) = true := by simpa using hE2
            have HPE := Lib.hid (show opP l = (E2, Oper'.zero 0) from by rw [HP2.out, if_pos hE2])
            have hvb := hbad hE2
            subst hvb
            clear hE2 hok hbad
            go_wp2_with (first | (refine wpList_load_blk rfl _ _ rfl rfl eN (Tryd.ropT _ _) ?_) | (refine wpList_store_blk rfl _ _ _ rfl rfl (cells := opCells (Oper'.zero 0) nilS) rfl eR (Tryd.ropT _ _) rfl (opCells_one _ _ _ _) ?_))
            try simp only [Exit.inBlock, Exit.then]
            refine bodyPost_blk2 rfl rfl rfl (setRow_heap _ _ _ _ _ _ eR) (Tryd.ropT _ _) ?_
            exact roparse_bad HPE.out ((HX5.out).step (Upd.row _ _ _) (fun i hi e => by unfold At at e; omega))
          subst hE2
          have hown := hok rfl
          obtain ⟨va2, vn2, vc2, rfl⟩ := ownsForm hown
          have hob := (HR4.out.lt)
          obtain ⟨b3, o3, c3, hv3, hb3, -, -, hc3⟩ := (Row.of_owns HR4.out).addr (by decide)
          subst hv3
          have hb3' : wr.heap.size ≤ b3 := hb3
          have hOlt : w.heap.size + 1 + 1 < wr.heap.size := lt_of_heap CO.out
          have hTlt : w.heap.size + 1 + 1 < w1.heap.size := hO1
          obtain ⟨P0, hP0⟩ : ∃ P, P = nmV l (0, b) 0 := ⟨_, rfl⟩
          obtain ⟨P1, hP1⟩ : ∃ P, P = nmV l (0, b) 1 := ⟨_, rfl⟩
          obtain ⟨P2, hP2⟩ : ∃ P, P = nmV l (0, b) 2 := ⟨_, rfl⟩
          rw [← hP0, ← hP1, ← hP2] at hc3
          have j0 := HXB5.out.cell (hc3 0 (u64v P0) rfl) id
          have j1 := HXB5.out.cell (hc3 1 (u64v P1) rfl) id
          have j2 := HXB5.out.cell (hc3 2 (u64v P2) rfl) id
          rw [Nat.add_zero] at j0
          have eO := HXB5.out.at_ dO id
          have eT := HXB5.out.at_ dT id
          obtain ⟨N0, hN0⟩ : ∃ N, N = txV l s1 0 := ⟨_, rfl⟩
          obtain ⟨N1, hN1⟩ : ∃ N, N = txV l s1 1 := ⟨_, rfl⟩
          obtain ⟨N2, hN2⟩ : ∃ N, N = txV l s1 2 := ⟨_, rfl⟩
          have i0 : w5.cell? ⟨w1.heap.size, 0, none⟩ = some (str N0) := by rw [hN0]; exact cellAt eT 0 _ rfl
          have i1 : w5.cell? ⟨w1.heap.size, 1, none⟩ = some (str N1) := by rw [hN1]; exact cellAt eT 1 _ rfl
          have i2 : w5.cell? ⟨w1.heap.size, 2, none⟩ = some (str N2) := by rw [hN2]; exact cellAt eT 2 _ rfl
          obtain ⟨o2, ho2⟩ : ∃ o2, o2 = { o0 with edits := L2 } := ⟨_, rfl⟩
          have HP3 := Lib.hid (show opP l = if opRight o2 then (0, o2) else (2, Oper'.zero 0) from by rw [HP2.out, if_neg (by simp), ho2])
          have U0 : Upd (At (w.heap.size + 1 + 1)) w5 w5 := Upd.refl _ _
          have B0 := eO
          have gc0 : w5.cell? ⟨w.heap.size + 1 + 1, 2, none⟩ = some (.string ⟨#[]⟩) := cellAt B0 2 _ rfl
          have gf0 : w5.frozen? ⟨w.heap.size + 1 + 1, 2, none⟩ = false := freeAt B0 2
          have U1 : Upd (At (w.heap.size + 1 + 1)) w5 (w5.setCell ⟨w.heap.size + 1 + 1, 2, none⟩ (str N0)) := U0.setCell (p := ⟨w.heap.size + 1 + 1, 2, none⟩) (fun _ => rfl) _
          have B1 := setAt (j := 2) (u := (str N0)) B0
          have gc1 : (w5.setCell ⟨w.heap.size + 1 + 1, 2, none⟩ (str N0)).cell? ⟨w.heap.size + 1 + 1, 3, none⟩ = some (.string ⟨#[]⟩) := cellAt B1 3 _ rfl
          have gf1 : (w5.setCell ⟨w.heap.size + 1 + 1, 2, none⟩ (str N0)).frozen? ⟨w.heap.size + 1 + 1, 3, none⟩ = false := freeAt B1 3
          have gl1 := U1.cell i1 (fun e => by unfold At at e; dsimp only at e; omega)
          have U2 : Upd (At (w.heap.size + 1 + 1)) w5 ((w5.setCell ⟨w.heap.size + 1 + 1, 2, none⟩ (str N0)).setCell ⟨w.heap.size + 1 + 1, 3, none⟩ (str N1)) := U1.setCell (p := ⟨w.heap.size + 1 + 1, 3, none⟩) (fun _ => rfl) _
          have B2 := setAt (j := 3) (u := (str N1)) B1
          have gc2 : ((w5.setCell ⟨w.heap.size + 1 + 1, 2, none⟩ (str N0)).setCell ⟨w.heap.size + 1 + 1, 3, none⟩ (str N1)).cell? ⟨w.heap.size + 1 + 1, 4, none⟩ = some (.string ⟨#[]⟩) := cellAt B2 4 _ rfl
          have gf2 : ((w5.setCell ⟨w.heap.size + 1 + 1, 2, none⟩ (str N0)).setCell ⟨w.heap.size + 1 + 1, 3, none⟩ (str N1)).frozen? ⟨w.heap.size + 1 + 1, 4, none⟩ = false := freeAt B2 4
          have gl2 := U2.cell i2 (fun e => by unfold At at e; dsimp only at e; omega)
          have U3 : Upd (At (w.heap.size + 1 + 1)) w5 (((w5.setCell ⟨w.heap.size + 1 + 1, 2, none⟩ (str N0)).setCell ⟨w.heap.size + 1 + 1, 3, none⟩ (str N1)).setCell ⟨w.heap.size + 1 + 1, 4, none⟩ (str N2)) := U2.setCell (p := ⟨w.heap.size + 1 + 1, 4, none⟩) (fun _ => rfl) _
          have B3 := setAt (j := 4) (u := (str N2)) B2
          have gc3 : (((w5.setCell ⟨w.heap.size + 1 + 1, 2, none⟩ (str N0)).setCell ⟨w.heap.size + 1 + 1, 3, none⟩ (str N1)).setCell ⟨w.heap.size + 1 + 1, 4, none⟩ (str N2)).cell? ⟨w.heap.size + 1 + 1, 5, none⟩ = some nilS := cellAt B3 5 _ rfl
          have gf3 : (((w5.setCell ⟨w.heap.size + 1 + 1, 2, none⟩ (str N0)).setCell ⟨w.heap.size + 1 + 1, 3, none⟩ (str N1)).setCell ⟨w.heap.size + 1 + 1, 4, none⟩ (str N2)).frozen? ⟨w.heap.size + 1 + 1, 5, none⟩ = false := freeAt B3 5
          have U4 : Upd (At (w.heap.size + 1 + 1)) w5 ((((w5.setCell ⟨w.heap.size + 1 + 1, 2, none⟩ (str N0)).setCell ⟨w.heap.size + 1 + 1, 3, none⟩ (str N1)).setCell ⟨w.heap.size + 1 + 1, 4, none⟩ (str N2)).setCell ⟨w.heap.size + 1 + 1, 5, none⟩ (.slice va2 vn2 vc2)) := U3.setCell (p := ⟨w.heap.size + 1 + 1, 5, none⟩) (fun _ => rfl) _
          have B4 := setAt (j := 5) (u := (.slice va2 vn2 vc2)) B3
          have gc4 : ((((w5.setCell ⟨w.heap.size + 1 + 1, 2, none⟩ (str N0)).setCell ⟨w.heap.size + 1 + 1, 3, none⟩ (str N1)).setCell ⟨w.heap.size + 1 + 1, 4, none⟩ (str N2)).setCell ⟨w.heap.size + 1 + 1, 5, none⟩ (.slice va2 vn2 vc2)).cell? ⟨w.heap.size + 1 + 1, 6, none⟩ = some (.int .u64 0) := cellAt B4 6 _ rfl
          have gf4 : ((((w5.setCell ⟨w.heap.size + 1 + 1, 2, none⟩ (str N0)).setCell ⟨w.heap.size + 1 + 1, 3, none⟩ (str N1)).setCell ⟨w.heap.size + 1 + 1, 4, none⟩ (str N2)).setCell ⟨w.heap.size + 1 + 1, 5, none⟩ (.slice va2 vn2 vc2)).frozen? ⟨w.heap.size + 1 + 1, 6, none⟩ = false := freeAt B4 6
          have gl4 := U4.cell j0 (fun e => by unfold At at e; dsimp only at e; omega)
          have U5 : Upd (At (w.heap.size + 1 + 1)) w5 (((((w5.setCell ⟨w.heap.size + 1 + 1, 2, none⟩ (str N0)).setCell ⟨w.heap.size + 1 + 1, 3, none⟩ (str N1)).setCell ⟨w.heap.size + 1 + 1, 4, none⟩ (str N2)).setCell ⟨w.heap.size + 1 + 1, 5, none⟩ (.slice va2 vn2 vc2)).setCell ⟨w.heap.size + 1 + 1, 6, none⟩ (.int .u64 (P0 : Int))) := U4.setCell (p := ⟨w.heap.size + 1 + 1, 6, none⟩) (fun _ => rfl) _
          have B5 := setAt (j := 6) (u := (.int .u64 (P0 : Int))) B4
          have gc5 : (((((w5.setCell ⟨w.heap.size + 1 + 1, 2, none⟩ (str N0)).setCell ⟨w.heap.size + 1 + 1, 3, none⟩ (str N1)).setCell ⟨w.heap.size + 1 + 1, 4, none⟩ (str N2)).setCell ⟨w.heap.size + 1 + 1, 5, none⟩ (.slice va2 vn2 vc2)).setCell ⟨w.heap.size + 1 + 1, 6, none⟩ (.int .u64 (P0 : Int))).cell? ⟨w.heap.size + 1 + 1, 7, none⟩ = some (.int .u64 0) := cellAt B5 7 _ rfl
          have gf5 : (((((w5.setCell ⟨w.heap.size + 1 + 1, 2, none⟩ (str N0)).setCell ⟨w.heap.size + 1 + 1, 3, none⟩ (str N1)).setCell ⟨w.heap.size + 1 + 1, 4, none⟩ (str N2)).setCell ⟨w.heap.size + 1 + 1, 5, none⟩ (.slice va2 vn2 vc2)).setCell ⟨w.heap.size + 1 + 1, 6, none⟩ (.int .u64 (P0 : Int))).frozen? ⟨w.heap.size + 1 + 1, 7, none⟩ = false := freeAt B5 7
          have gl5 := U5.cell j1 (fun e => by unfold At at e; dsimp only at e; omega)
          have U6 : Upd (At (w.heap.size + 1 + 1)) w5 ((((((w5.setCell ⟨w.heap.size + 1 + 1, 2, none⟩ (str N0)).setCell ⟨w.heap.size + 1 + 1, 3, none⟩ (str N1)).setCell ⟨w.heap.size + 1 + 1, 4, none⟩ (str N2)).setCell ⟨w.heap.size + 1 + 1, 5, none⟩ (.slice va2 vn2 vc2)).setCell ⟨w.heap.size + 1 + 1, 6, none⟩ (.int .u64 (P0 : Int))).setCell ⟨w.heap.size + 1 + 1, 7, none⟩ (.int .u64 (P1 : Int))) := U5.setCell (p := ⟨w.heap.size + 1 + 1, 7, none⟩) (fun _ => rfl) _
          have B6 := setAt (j := 7) (u := (.int .u64 (P1 : Int))) B5
          have gc6 : ((((((w5.setCell ⟨w.heap.size + 1 + 1, 2, none⟩ (str N0)).setCell ⟨w.heap.size + 1 + 1, 3, none⟩ (str N1)).setCell ⟨w.heap.size + 1 + 1, 4, none⟩ (str N2)).setCell ⟨w.heap.size + 1 + 1, 5, none⟩ (.slice va2 vn2 vc2)).setCell ⟨w.heap.size + 1 + 1, 6, none⟩ (.int .u64 (P0 : Int))).setCell ⟨w.heap.size + 1 + 1, 7, none⟩ (.int .u64 (P1 : Int))).cell? ⟨w.heap.size + 1 + 1, 8, none⟩ = some (.int .u64 0) := cellAt B6 8 _ rfl
          have gf6 : ((((((w5.setCell ⟨w.heap.size + 1 + 1, 2, none⟩ (str N0)).setCell ⟨w.heap.size + 1 + 1, 3, none⟩ (str N1)).setCell ⟨w.heap.size + 1 + 1, 4, none⟩ (str N2)).setCell ⟨w.heap.size + 1 + 1, 5, none⟩ (.slice va2 vn2 vc2)).setCell ⟨w.heap.size + 1 + 1, 6, none⟩ (.int .u64 (P0 : Int))).setCell ⟨w.heap.size + 1 + 1, 7, none⟩ (.int .u64 (P1 : Int))).frozen? ⟨w.heap.size + 1 + 1, 8, none⟩ = false := freeAt B6 8
          have gl6 := U6.cell j2 (fun e => by unfold At at e; dsimp only at e; omega)
          have U7 : Upd (At (w.heap.size + 1 + 1)) w5 (((((((w5.setCell ⟨w.heap.size + 1 + 1, 2, none⟩ (str N0)).setCell ⟨w.heap.size + 1 + 1, 3, none⟩ (str N1)).setCell ⟨w.heap.size + 1 + 1, 4, none⟩ (str N2)).setCell ⟨w.heap.size + 1 + 1, 5, none⟩ (.slice va2 vn2 vc2)).setCell ⟨w.heap.size + 1 + 1, 6, none⟩ (.int .u64 (P0 : Int))).setCell ⟨w.heap.size + 1 + 1, 7, none⟩ (.int .u64 (P1 : Int))).setCell ⟨w.heap.size + 1 + 1, 8, none⟩ (.int .u64 (P2 : Int))) := U6.setCell (p := ⟨w.heap.size + 1 + 1, 8, none⟩) (fun _ => rfl) _
          have B7 := setAt (j := 8) (u := (.int .u64 (P2 : Int))) B6
          have EO := Lib.hid (show (((((((w5.setCell ⟨w.heap.size + 1 + 1, 2, none⟩ (str N0)).setCell ⟨w.heap.size + 1 + 1, 3, none⟩ (str N1)).setCell ⟨w.heap.size + 1 + 1, 4, none⟩ (str N2)).setCell ⟨w.heap.size + 1 + 1, 5, none⟩ (.slice va2 vn2 vc2)).setCell ⟨w.heap.size + 1 + 1, 6, none⟩ (.int .u64 (P0 : Int))).setCell ⟨w.heap.size + 1 + 1, 7, none⟩ (.int .u64 (P1 : Int))).setCell ⟨w.heap.size + 1 + 1, 8, none⟩ (.int .u64 (P2 : Int))).heap[w.heap.size + 1 + 1]? = some (.cells (opCells o2 (.slice va2 vn2 vc2)) 36 (0, 0)) from by rw [ho2, ho0, B7, hN0, hN1, hN2, hP0, hP1, hP2]; rfl)
          have ER := Lib.hid (U7.at_ eR (fun e => by unfold At at e; omega))
          have EN := Lib.hid (U7.at_ eN (fun e => by unfold At at e; omega))
          have EX := Lib.hid (show Ext w (((((((w5.setCell ⟨w.heap.size + 1 + 1, 2, none⟩ (str N0)).setCell ⟨w.heap.size + 1 + 1, 3, none⟩ (str N1)).setCell ⟨w.heap.size + 1 + 1, 4, none⟩ (str N2)).setCell ⟨w.heap.size + 1 + 1, 5, none⟩ (.slice va2 vn2 vc2)).setCell ⟨w.heap.size + 1 + 1, 6, none⟩ (.int .u64 (P0 : Int))).setCell ⟨w.heap.size + 1 + 1, 7, none⟩ (.int .u64 (P1 : Int))).setCell ⟨w.heap.size + 1 + 1, 8, none⟩ (.int .u64 (P2 : Int))) from HX5.out.step U7 (fun i hi e => by unfold At at e; omega))
          have EE := Lib.hid (show (((((((w5.setCell ⟨w.heap.size + 1 + 1, 2, none⟩ (str N0)).setCell ⟨w.heap.size + 1 + 1, 3, none⟩ (str N1)).setCell ⟨w.heap.size + 1 + 1, 4, none⟩ (str N2)).setCell ⟨w.heap.size + 1 + 1, 5, none⟩ (.slice va2 vn2 vc2)).setCell ⟨w.heap.size + 1 + 1, 6, none⟩ (.int .u64 (P0 : Int))).setCell ⟨w.heap.size + 1 + 1, 7, none⟩ (.int .u64 (P1 : Int))).setCell ⟨w.heap.size + 1 + 1, 8, none⟩ (.int .u64 (P2 : Int))).ownsRow w.heap.size 72 3 (.slice va2 vn2 vc2) o2.edits.length (editCells o2.edits) from by
            rw [ho2]
            exact U7.ownsRow (hown.mono_base hszb) (fun k hk e => by unfold At at e; subst e; obtain ⟨cur, hc⟩ := owns_tag hown hk; exact tag_ne eO (by decide) hc rfl))
          have EWF := Lib.hid (show (∀ x ∈ o2.edits, 0 ≤ x.kind) ∧ 0 ≤ o2.kind from by
            rw [ho2, ho0]
            refine ⟨fun x hx => ?_, by show (0 : Int) ≤ ((m : Nat) : Int); omega⟩
            exact HWE.out x hx)
          clear U0 U1 U2 U3 U4 U5 U6 U7 B0 B1 B2 B3 B4 B5 B6 B7 eR eN eO eT hown hok hbad dR dN dO dT j1 j2 i1 i2 ho0 ho2 hN0 hN1 hN2 hP0 hP1 hP2 hc3 hob
          go_upto_region 35 with fail
          go_wp2_with (first | (refine wpList_load_blk rfl _ _ rfl rfl EO.out (Tryd.ropT _ _) ?_) | (go_at_call 20; fail))
          refine (rright_any _ o2 _ (Row.of_owns EE.out) EWF.out.1 EWF.out.2).mono ?_
          rintro e w7 ⟨rfl, hx7⟩
          have fR := hx7.at_ ER.out id
          have fN := hx7.at_ EN.out id
          have fO := hx7.at_ EO.out id
          have HX7 := Lib.hid (EX.out.trans hx7)
          have HEE7 := Lib.hid (hx7.ownsRow EE.out (fun _ _ e => e))
          clear hx7 gc0 gf0 gc1 gf1 gl1 gc2 gf2 gl2 gc3 gf3 gc4 gf4 gl4 gc5 gf5 gl5 gc6 gf6 gl6 i0 j0
          by_cases hr : opRight o2 = true
          · have HPE := Lib.hid (show opP l = (0, o2) from by rw [HP3.out, if_pos hr])
            rw [hr]
            clear hr
            go_wp2_with (first | (refine wpList_load_blk rfl _ _ rfl rfl fO (Tryd.ropT _ _) ?_) | (refine wpList_store_blk rfl _ _ _ rfl rfl (cells := opCells o2 (.slice va2 vn2 vc2)) rfl fR (Tryd.ropT _ _) rfl (opCells_one _ _ _ _) ?_))
            try simp only [Exit.inBlock, Exit.then]
            refine bodyPost_blk2 rfl rfl rfl (setRow_heap _ _ _ _ _ _ fR) (Tryd.ropT _ _) ?_
            refine roparse_ok HPE.out ?_ (HX7.out.step (Upd.row _ _ _) (fun i hi e => by unfold At at e; omega))
            exact (Upd.row w7 w.heap.size _).ownsRow HEE7.out (fun k hk e => by unfold At at e; subst e; obtain ⟨cur, hc⟩ := owns_tag HEE7.out hk; exact tag_ne fR (by decide) hc rfl)
          · have hrf : opRight o2 = false := by simpa using hr
            have HPE := Lib.hid (show opP l = (2, Oper'.zero 0) from by rw [HP3.out, if_neg hr])
            rw [hrf]
            clear hr hrf
            go_wp2_with (first | (refine wpList_load_blk rfl _ _ rfl rfl fN (Tryd.ropT _ _) ?_) | (refine wpList_store_blk rfl _ _ _ rfl rfl (cells := opCells (Oper'.zero 0) nilS) rfl fR (Tryd.ropT _ _) rfl (opCells_one _ _ _ _) ?_))
            try simp only [Exit.inBlock, Exit.then]
            refine bodyPost_blk2 rfl rfl rfl (setRow_heap _ _ _ _ _ _ fR) (Tryd.ropT _ _) ?_
            exact roparse_bad HPE.out ((HX7.out).step (Upd.row _ _ _) (fun i hi e => by unfold At at e; omega))
end Go.Proofs.YtlhpcgmbbeihiaaDoor
