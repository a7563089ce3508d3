/-
  CONTRACT of op.Parse.
-/
import Derived.Test.YtlhpcgmbbeihiaaDoorRdr
import Derived.Test.YtlhpcgmbbeihiaaDoorDParse
import Derived.Test.YtlhpcgmbbeihiaaDoorOPut
import Derived.Lib.ConvBytes
namespace Go.Proofs.YtlhpcgmbbeihiaaDoor
open Go.RowKit

/-- The states behind k texts; the texts. -/
def txS (l : List UInt8) (s : Int × Nat) : Nat → Int × Nat
  | 0 => s
  | k + 1 => (textS l (txS l s k)).2
def txV (l : List UInt8) (s : Int × Nat) (k : Nat) : List UInt8 := (textS l (txS l s k)).1
def nmS (l : List UInt8) (s : Int × Nat) : Nat → Int × Nat
  | 0 => s
  | k + 1 => (numS l (nmS l s k)).2
def nmV (l : List UInt8) (s : Int × Nat) (k : Nat) : Nat := (numS l (nmS l s k)).1
def upto {α : Type} (b : Bool) (x z : α) : α := if b then x else z
/-- The operation behind k texts. -/
def opT (l : List UInt8) (s : Int × Nat) (kind D : Nat) (k : Nat) : Oper' := ⟨kind, D, upto (decide (0 < k)) (txV l s 0) [], upto (decide (1 < k)) (txV l s 1) [], upto (decide (2 < k)) (txV l s 2) [], [], 0, 0, 0⟩
def esT (l : List UInt8) (s : Int × Nat) (k : Nat) : List UInt8 := upto (decide (3 < k)) (txV l s 3) []
/-- .. and behind k numbers. -/
def opN (l : List UInt8) (s : Int × Nat) (o : Oper') (k : Nat) : Oper' := { o with epoch := upto (decide (0 < k)) ((nmV l s 0 : Nat) : Int) 0, version := upto (decide (1 < k)) ((nmV l s 1 : Nat) : Int) 0, dur := upto (decide (2 < k)) ((nmV l s 2 : Nat) : Int) 0 }
theorem opS_eq (l : List UInt8) : opS l = (opN l (txS l (numS l (0, 1)).2 4) (opT l (numS l (0, 1)).2 (hd l) (numS l (0, 1)).1 4) 3, esT l (numS l (0, 1)).2 4, nmS l (txS l (numS l (0, 1)).2 4) 3) := rfl
theorem textS_le {l : List UInt8} {s : Int × Nat} (h : s.2 ≤ l.length) : (textS l s).2.2 ≤ l.length := by
  by_cases h0 : (textS l s).2.1 = 0
  · exact (textS_ok h0).2.2.2 h
  · by_cases hs : s.1 = 0
    · have e : (textS l s).2 = ((textF (l.drop s.2)).1, s.2 + (textF (l.drop s.2)).2.2) := by rw [textS, if_pos hs]
      rw [e] at h0 ⊢
      have := textF_bad h0
      rw [this]; simpa using h
    · rw [textS_bad l hs]; exact h
theorem numS_le {l : List UInt8} {s : Int × Nat} (h : s.2 ≤ l.length) : (numS l s).2.2 ≤ l.length := by
  by_cases h0 : (numS l s).2.1 = 0
  · exact (numS_ok h0).2.2.2 h
  · by_cases hs : s.1 = 0
    · have e : (numS l s).2 = ((numF (l.drop s.2)).1, s.2 + (numF (l.drop s.2)).2.2) := by rw [numS, if_pos hs]
      rw [e] at h0 ⊢
      have := numF_bad h0
      rw [this]; simpa using h
    · rw [numS_bad l hs]; exact h
theorem txS_le {l : List UInt8} {s : Int × Nat} (h : s.2 ≤ l.length) (k : Nat) : (txS l s k).2 ≤ l.length := by
  induction k with
  | zero => exact h
  | succ k ih => exact textS_le ih
theorem nmS_le {l : List UInt8} {s : Int × Nat} (h : s.2 ≤ l.length) (k : Nat) : (nmS l s k).2 ≤ l.length := by
  induction k with
  | zero => exact h
  | succ k ih => exact numS_le ih
theorem opT_at (l : List UInt8) (s : Int × Nat) (kind D : Nat) {k : Nat} (hk : k < 3) : (opCells (opT l s kind D k) nilS)[2 + k]? = some (.string ⟨#[]⟩) := by
  have h : k = 0 ∨ k = 1 ∨ k = 2 := by omega
  rcases h with rfl | rfl | rfl <;> rfl
theorem opT_set (l : List UInt8) (s : Int × Nat) (kind D : Nat) {k : Nat} (hk : k < 3) : (opCells (opT l s kind D k) nilS).setIfInBounds (2 + k) (str (textS l (txS l s k)).1) = opCells (opT l s kind D (k + 1)) nilS := by
  have h : k = 0 ∨ k = 1 ∨ k = 2 := by omega
  rcases h with rfl | rfl | rfl <;> rfl
theorem opN_at (l : List UInt8) (s : Int × Nat) (o : Oper') {k : Nat} (hk : k < 3) : (opCells (opN l s o k) nilS)[6 + k]? = some (.int .u64 0) := by
  have h : k = 0 ∨ k = 1 ∨ k = 2 := by omega
  rcases h with rfl | rfl | rfl <;> rfl
theorem opN_set (l : List UInt8) (s : Int × Nat) (o : Oper') {k : Nat} (hk : k < 3) : (opCells (opN l s o k) nilS).setIfInBounds (6 + k) (.int .u64 (((numS l (nmS l s k)).1 : Nat) : Int)) = opCells (opN l s o (k + 1)) nilS := by
  have h : k = 0 ∨ k = 1 ∨ k = 2 := by omega
  rcases h with rfl | rfl | rfl <;> rfl
theorem four_ptr (b c : Nat) {k : Nat} (hk : k < 4) : (#[.pointer (some ⟨b, 2, none⟩), .pointer (some ⟨b, 3, none⟩), .pointer (some ⟨b, 4, none⟩), .pointer (some ⟨c, 0, none⟩)] : Array Value)[k]? = some (if k < 3 then .pointer (some ⟨b, 2 + k, none⟩) else .pointer (some ⟨c, 0, none⟩)) := by
  have h : k = 0 ∨ k = 1 ∨ k = 2 ∨ k = 3 := by omega
  rcases h with rfl | rfl | rfl | rfl <;> rfl
theorem three_ptr (b : Nat) {k : Nat} (hk : k < 3) : (#[.pointer (some ⟨b, 6, none⟩), .pointer (some ⟨b, 7, none⟩), .pointer (some ⟨b, 8, none⟩)] : Array Value)[k]? = some (.pointer (some ⟨b, 6 + k, none⟩)) := by
  have h : k = 0 ∨ k = 1 ∨ k = 2 := by omega
  rcases h with rfl | rfl | rfl <;> rfl
theorem newAt' (w : World) (o : Obj) (n : Nat) (h : n = w.heap.size) : (w.alloc o).heap[n]? = some o := by subst h; exact newAt w o
theorem Tryd.opT (o : Oper') (ve : Value) : StructT Tryd.prog 25 (opCells o ve).size := ⟨_, Tryd.underlying25, rfl, by kernel_rfl⟩

def OParsePost (l : List UInt8) (w : World) (e : Ending) (w' : World) : Prop := ∃ ve, e = .returned (.tuple #[.agg (opCells (opP l).2 ve), .int .i64 (opP l).1]) ∧ w'.ownsRow w.heap.size 64 3 ve (opP l).2.edits.length (editCells (opP l).2.edits) ∧ Ext w w'
theorem oparse_bad {l : List UInt8} {w w' : World} {E : Int} (hq : opP l = (E, Oper'.zero 0)) (hx : Ext w w') : OParsePost l w (.returned (.tuple #[.agg (opCells (Oper'.zero 0) nilS), .int .i64 E])) w' :=
  ⟨nilS, by rw [hq], by rw [hq]; exact World.ownsRow_nil _ _ _ _, hx⟩

theorem zeros_same : setL (opCells (Oper'.zero 0) nilS) 0 (opCells (Oper'.zero 0) nilS).toList = opCells (Oper'.zero 0) nilS := by simp [opCells, setL]
theorem oparse_ok {l : List UInt8} {w w' : World} {o : Oper'} {ve : Value} (hq : opP l = (0, o)) (ho : w'.ownsRow w.heap.size 64 3 ve o.edits.length (editCells o.edits)) (hx : Ext w w') : OParsePost l w (.returned (.tuple #[.agg (opCells o ve), .int .i64 0])) w' :=
  ⟨ve, by rw [hq], by rw [hq]; exact ho, hx⟩
theorem drew_heap (w : World) : w.drew.heap = w.heap := rfl
theorem zeros_stored {wr : World} {R : Nat} (h : wr.heap[R]? = some (.cells (opCells (Oper'.zero 0) nilS) 25 (0, 0))) :
    (wr.setCells R 0 (opCells (Oper'.zero 0) nilS).toList).drew.heap[R]? = some (.cells (opCells (Oper'.zero 0) nilS) 25 (0, 0)) := by
  have := setCellsAt (opCells (Oper'.zero 0) nilS).toList wr 0 _ h
  rw [zeros_same] at this
  rw [drew_heap]
  exact this
/-- '[]byte(s)'. -/
theorem conv_text {P : Program} (w : World) (es : List UInt8) {src dst e : TypeId} (hs : P.underlying src = some .string) (hd : P.underlying dst = some (.slice e)) (he : P.underlying e = some (.int .u8)) (hl : es.length ≤ maxLen) :
    ∃ (gc : Nat) (wb : World), (convert src dst (str es)).run P w = .ok (.slice (some ⟨w.heap.size, 0, none⟩) es.length gc) wb ∧ Bytes (From w.heap.size) wb (.slice (some ⟨w.heap.size, 0, none⟩) es.length gc) es ∧ Ext w wb := by
  have h := Lib.run_convert_string_bytes (P := P) w src dst e ⟨es.toArray⟩ hs hd he
  have hsz : (⟨es.toArray⟩ : ByteArray).size = es.length := by simp [ByteArray.size]
  rw [hsz] at h
  refine ⟨_, _, h, ?_, ?_⟩
  · refine ⟨_, _, rfl, grownCap_ge _ _ _ _, grownCap_le_maxLen _ _ _ _ hl, fun e => (by cases e), fun x e _ => (by cases e; exact ⟨rfl, Nat.le_refl _⟩), fun b o hbo j u hj => ?_⟩
    cases hbo
    have hjl : j < es.length := by have := (List.getElem?_eq_some_iff.1 hj).1; simpa using this
    rw [Nat.zero_add, Lib.bytesWorld_cell w e ⟨es.toArray⟩ j (by rw [hsz]; exact hjl)]
    rw [List.getElem?_map, List.getElem?_eq_getElem hjl] at hj
    simp only [Option.map_some, Option.some.injEq] at hj
    rw [← hj]
    simp [List.getD, hjl]
  · exact ⟨rfl, rfl, rfl, by rw [Lib.bytesWorld_size]; omega, fun k hk _ => Lib.bytesWorld_at_old w e _ k hk⟩
theorem textS_len (l : List UInt8) (s : Int × Nat) : (textS l s).1.length ≤ l.length := by
  by_cases h0 : (textS l s).2.1 = 0
  · obtain ⟨-, -, h3, -⟩ := textS_ok h0
    have := congrArg List.length h3
    rw [List.length_append, List.length_drop] at this
    have := vtext_len (textS l s).1
    omega
  · by_cases hs : s.1 = 0
    · have e : textS l s = ((textF (l.drop s.2)).2.1, (textF (l.drop s.2)).1, s.2 + (textF (l.drop s.2)).2.2) := by rw [textS, if_pos hs]
      rw [e] at h0 ⊢
      have := textF_bad h0
      rw [show (textF (l.drop s.2)).2.1 = [] from by rw [this]]; simp
    · rw [textS_bad l hs]; simp

set_option maxRecDepth 100000 in
set_option maxHeartbeats 4000000 in
theorem oParse_any {S : Nat → Prop} (w : World) (v : Value) (l : List UInt8) (h : Bytes S w v l) (hl : l.length ≤ 1099511627776) :
    Calls Tryd.prog 14 #[v] w (OParsePost l w) := by
  have H := Lib.hid h
  have g := h.addr
  obtain ⟨a, c, rfl, hn, hm, -⟩ := h
  unfold maxLen at hm
  have hzb := newAt w (.cells (opCells (Oper'.zero 0) nilS) 25)
  have HXZ := Lib.hid (show Ext w (w.alloc (.cells (opCells (Oper'.zero 0) nilS) 25)) from (Upd.refl _ _).alloc _)
  by_cases h0 : l.length = 0
  · have hl0 : l = [] := List.eq_nil_of_length_eq_zero h0
    have HQ := Lib.hid (show opP l = (10, Oper'.zero 0) from by rw [opP, if_pos hl0])
    clear hl0 g
    have hi0 : (l.length : Int) = 0 := by omega
    go_enter Tryd.func14, Tryd.ntmps14
    go_wp2_with fail
    refine bodyPost_blk2 rfl rfl rfl hzb (Tryd.opT _ _) ?_
    exact oparse_bad HQ.out HXZ.out
  · obtain ⟨b1, o1, c1', e1, -, -, -, hc1⟩ := g (by omega)
    cases e1
    obtain ⟨m, hm'⟩ : ∃ m : Nat, m = l[0].toNat := ⟨_, rfl⟩
    have hm1 : m < 256 := by have := UInt8.toNat_lt l[0]; omega
    have hhd : hd l = m := by
      cases l with
      | nil => simp at h0
      | cons c l => rw [hd_cons, hm']; rfl
    have hcell := (HXZ.out).cell (bytes_cell hc1 0 (by omega)) id
    rw [← hm', Nat.add_zero] at hcell
    have HC := Lib.hid hcell
    have HHD := Lib.hid hhd
    have HNE := Lib.hid (show ¬ l = [] from fun e => h0 (by rw [e]; rfl))
    clear hc1 hm' hhd
    simp only [opCells, Oper'.zero] at hcell
    go_enter Tryd.func14, Tryd.ntmps14
    go_wp2_with (go_at_call 40; fail)
    refine (known_any _ m).mono ?_
    rintro e w1 ⟨rfl, rfl⟩
    by_cases hk : 1 ≤ m ∧ m ≤ 17
    case neg =>
      have HQ := Lib.hid (show opP l = (60, Oper'.zero 0) from by rw [opP, if_neg HNE.out, HHD.out, if_pos (by omega)])
      rw [show (decide ((1 : Int) ≤ (m : Int)) && decide ((m : Int) ≤ 17)) = false from by simp; omega]
      clear hk
      go_wp2_with fail
      refine bodyPost_blk2 rfl rfl rfl hzb (Tryd.opT _ _) ?_
      exact oparse_bad HQ.out HXZ.out
    rw [show (decide ((1 : Int) ≤ (m : Int)) && decide ((m : Int) ≤ 17)) = true from by simp; omega]
    have HK := Lib.hid hk
    clear hk hzb
    go_wp2_with (go_at_call 41; fail)
    obtain ⟨w0, hw0⟩ : ∃ w0, w0 = (((w.alloc (.cells #[.int .u8 0, .int .u64 0, .string ⟨#[]⟩, .string ⟨#[]⟩, .string ⟨#[]⟩, .slice none 0 0, .int .u64 0, .int .u64 0, .int .u64 0] 25)).alloc (.cells #[.slice (some ⟨b1, o1, none⟩) l.length c, .int .i64 1, .int .i64 0] 76)).alloc (.cells #[.int .u8 m, .int .u64 0, .string ⟨#[]⟩, .string ⟨#[]⟩, .string ⟨#[]⟩, .slice none 0 0, .int .u64 0, .int .u64 0, .int .u64 0] 25)).alloc (.cells #[.string ⟨#[]⟩] 9) := ⟨_, rfl⟩
    rw [← hw0]
    obtain ⟨RB, hRB⟩ : ∃ x, x = w.heap.size + 1 := ⟨_, rfl⟩
    obtain ⟨OB, hOB⟩ : ∃ x, x = RB + 1 := ⟨_, rfl⟩
    obtain ⟨SB, hSB⟩ : ∃ x, x = OB + 1 := ⟨_, rfl⟩
    rw [← hRB, ← hOB, ← hSB]
    have sz0 : w0.heap.size = SB + 1 := by rw [hw0]; simp; omega
    have bR : w0.heap[w.heap.size]? = some (.cells (opCells (Oper'.zero 0) nilS) 25 (0, 0)) := by
      rw [hw0]
      exact ((((Upd.refl Nothing _).alloc _).alloc _).alloc _).at_ (newAt w _) id
    have bRd : RdrAt w0 RB (.slice (some ⟨b1, o1, none⟩) l.length c) (0, 1) := by
      rw [hw0]
      exact (((Upd.refl Nothing _).alloc _).alloc _).at_ (newAt' _ _ _ (by rw [hRB]; simp)) id
    have bO : w0.heap[OB]? = some (.cells (opCells (opT l (0, 1) m 0 0) nilS) 25 (0, 0)) := by
      rw [hw0]
      exact ((Upd.refl Nothing _).alloc _).at_ (newAt' _ _ _ (by rw [hOB, hRB]; simp)) id
    have bS : w0.heap[SB]? = some (.cells #[.string ⟨#[]⟩] 9 (0, 0)) := by
      rw [hw0]
      exact newAt' _ _ _ (by rw [hSB, hOB, hRB]; simp)
    have lRB : w.heap.size < RB := by omega
    have lOB : RB < OB := by omega
    have lSB : OB < SB := by omega
    clear hRB hOB hSB
    have hx0 : Ext w w0 := by rw [hw0]; exact ((((Upd.refl _ _).alloc _).alloc _).alloc _).alloc _
    have hxf : ∀ {a b : Nat} {x y : World}, w.heap.size < a → w.heap.size < b → Ext w x → Upd (Two a b) x y → Ext w y := fun ha hb h1 h2 => h1.step h2 (fun i hi e => by rcases e with e | e <;> omega)
    clear hw0 hcell
    refine (rdrNum_any w0 RB OB 1 _ l (0, 1) _ _ (H.out.ext hx0) (by omega) (by dsimp only; omega) bRd bO rfl (by omega)).mono ?_
    rintro e w1 ⟨rfl, cRd, cO, cU⟩
    have hx1 := hxf (by omega) (by omega) hx0 cU
    have cR := cU.at_ bR (fun e => by rcases e with e | e <;> omega)
    have cS := cU.at_ bS (fun e => by rcases e with e | e <;> omega)
    have hle1 : (numS l (0, 1)).2.2 ≤ l.length := numS_le (by dsimp only; omega)
    obtain ⟨D, hD⟩ : ∃ D, D = (numS l (0, 1)).1 := ⟨_, rfl⟩
    obtain ⟨s1, hs1⟩ : ∃ s1, s1 = (numS l (0, 1)).2 := ⟨_, rfl⟩
    rw [← hs1] at cRd hle1
    have cO : w1.heap[OB]? = some (.cells (opCells (opT l s1 m D 0) nilS) 25 (0, 0)) := by rw [hD]; exact cO
    have hsz1 : SB < w1.heap.size := by have := cU.size; omega
    have HDS := Lib.hid (And.intro hD hs1)
    have HX1 := Lib.hid hx1
    have CR := Lib.hid cR
    have CS := Lib.hid cS
    have CO := Lib.hid cO
    have CRD := Lib.hid cRd
    have HLE1 := Lib.hid hle1
    clear bR bRd bO bS hx0 sz0 cU hx1 cR cS cO cRd hle1 hD hs1
    have hptr0 := newAt w1 (.cells #[.pointer (some ⟨OB, 2, none⟩), .pointer (some ⟨OB, 3, none⟩), .pointer (some ⟨OB, 4, none⟩), .pointer (some ⟨SB, 0, none⟩)] 79)
    have HP0 := Lib.hid hptr0
    have CR0 := Lib.hid (((Upd.refl Nothing w1).alloc (.cells #[.pointer (some ⟨OB, 2, none⟩), .pointer (some ⟨OB, 3, none⟩), .pointer (some ⟨OB, 4, none⟩), .pointer (some ⟨SB, 0, none⟩)] 79)).at_ CR.out id)
    have CS0 := Lib.hid (((Upd.refl Nothing w1).alloc (.cells #[.pointer (some ⟨OB, 2, none⟩), .pointer (some ⟨OB, 3, none⟩), .pointer (some ⟨OB, 4, none⟩), .pointer (some ⟨SB, 0, none⟩)] 79)).at_ CS.out id)
    have CO0 := Lib.hid (((Upd.refl Nothing w1).alloc (.cells #[.pointer (some ⟨OB, 2, none⟩), .pointer (some ⟨OB, 3, none⟩), .pointer (some ⟨OB, 4, none⟩), .pointer (some ⟨SB, 0, none⟩)] 79)).at_ CO.out id)
    have CRD0 := Lib.hid (((Upd.refl Nothing w1).alloc (.cells #[.pointer (some ⟨OB, 2, none⟩), .pointer (some ⟨OB, 3, none⟩), .pointer (some ⟨OB, 4, none⟩), .pointer (some ⟨SB, 0, none⟩)] 79)).at_ CRD.out id)
    have HX10 := Lib.hid (HX1.out.alloc (.cells #[.pointer (some ⟨OB, 2, none⟩), .pointer (some ⟨OB, 3, none⟩), .pointer (some ⟨OB, 4, none⟩), .pointer (some ⟨SB, 0, none⟩)] 79))
    clear hptr0
    go_wp2_with fail
    go_loopw [38] (fun i wr => ∃ k : Nat, k ≤ 4 ∧ i = .int .i64 k ∧ Ext w wr ∧ wr.heap[w.heap.size]? = some (.cells (opCells (Oper'.zero 0) nilS) 25 (0, 0)) ∧ RdrAt wr RB (.slice (some ⟨b1, o1, none⟩) l.length c) (txS l s1 k) ∧ wr.heap[OB]? = some (.cells (opCells (opT l s1 m D k) nilS) 25 (0, 0)) ∧ wr.heap[SB]? = some (.cells #[str (esT l s1 k)] 9 (0, 0)) ∧ wr.heap[w1.heap.size]? = some (.cells #[.pointer (some ⟨OB, 2, none⟩), .pointer (some ⟨OB, 3, none⟩), .pointer (some ⟨OB, 4, none⟩), .pointer (some ⟨SB, 0, none⟩)] 79 (0, 0))) (fun i _ => 4 - (intOf i).toNat)
    case atStart => exact ⟨0, by omega, rfl, HX10.out, CR0.out, CRD0.out, CO0.out, CS0.out, HP0.out⟩
    case round =>
      clear CR0 CRD0 CO0 CS0 HP0 HX10 CR CRD CO CS HX1
      obtain ⟨k, hk, rfl, hx, cR, cRd, cO, cS, cP⟩ := hrel
      have HX := Lib.hid hx
      have CR := Lib.hid cR
      have CRD := Lib.hid cRd
      have CO := Lib.hid cO
      have CS := Lib.hid cS
      have CP := Lib.hid cP
      clear hx cR cRd cO cS cP
      by_cases hlt : k < 4
      · have hcell := cellAt CP.out k _ (four_ptr OB SB hlt)
        have hle := txS_le HLE1.out k
        by_cases hk3 : k < 3
        · rw [if_pos hk3] at hcell
          go_wp2_with (go_at_call 42; fail)
          refine (rdrText_any wr RB OB (2 + k) _ l (txS l s1 k) _ _ (H.out.ext HX.out) (by omega) hle CRD.out CO.out (opT_at l s1 m D hk3) (by omega)).mono ?_
          rintro e w2 ⟨rfl, dRd, dO, dU⟩
          rw [opT_set l s1 m D hk3] at dO
          have HX2 := Lib.hid (hxf (by omega) (by omega) HX.out dU)
          have DR := Lib.hid (dU.at_ CR.out (fun e => by rcases e with e | e <;> omega))
          have DS := Lib.hid (dU.at_ CS.out (fun e => by rcases e with e | e <;> omega))
          have DP := Lib.hid (dU.at_ CP.out (fun e => by rcases e with e | e <;> omega))
          have DO := Lib.hid dO
          have DRD := Lib.hid dRd
          have hes : esT l s1 (k + 1) = esT l s1 k := by unfold esT upto; rw [show decide (3 < k + 1) = decide (3 < k) from by simp; omega]
          have HES := Lib.hid hes
          clear dU dO dRd hcell hes
          go_wp2
          go_roundw
          case rel => exact ⟨k + 1, by omega, by go_num, HX2.out, DR.out, DRD.out, DO.out, by rw [HES.out]; exact DS.out, DP.out⟩
          case measure => simp [intOf]; omega
        · rw [if_neg hk3] at hcell
          have hk3' : k = 3 := by omega
          subst hk3'
          have hs0 : (#[str (esT l s1 3)] : Array Value)[0]? = some (.string ⟨#[]⟩) := rfl
          clear hk3 hk hlt
          go_wp2_with (go_at_call 42; fail)
          refine (rdrText_any wr RB SB 0 _ l (txS l s1 3) _ _ (H.out.ext HX.out) (by omega) hle CRD.out CS.out hs0 (by omega)).mono ?_
          rintro e w2 ⟨rfl, dRd, dS, dU⟩
          have HX2 := Lib.hid (hxf (by omega) (by omega) HX.out dU)
          have DR := Lib.hid (dU.at_ CR.out (fun e => by rcases e with e | e <;> omega))
          have DO := Lib.hid (dU.at_ CO.out (fun e => by rcases e with e | e <;> omega))
          have DP := Lib.hid (dU.at_ CP.out (fun e => by rcases e with e | e <;> omega))
          have DS := Lib.hid (show w2.heap[SB]? = some (.cells #[str (esT l s1 4)] 9 (0, 0)) from dS)
          have DO2 := Lib.hid (show w2.heap[OB]? = some (.cells (opCells (opT l s1 m D 4) nilS) 25 (0, 0)) from DO.out)
          have DRD := Lib.hid dRd
          clear dU dS dRd hcell
          go_wp2
          go_roundw
          case rel => exact ⟨4, by omega, by go_num, HX2.out, DR.out, DRD.out, DO2.out, DS.out, DP.out⟩
          case measure => simp [intOf]
      · have hk4 : k = 4 := by omega
        subst hk4
        clear hlt hk CP
        obtain ⟨wv, hwv⟩ : ∃ x, x = wr := ⟨_, rfl⟩
        subst hwv
        obtain ⟨s2, hs2⟩ : ∃ s2, s2 = txS l s1 4 := ⟨_, rfl⟩
        have hle2 := txS_le HLE1.out 4
        rw [← hs2] at hle2
        have CRD2 := Lib.hid (show RdrAt wv RB (.slice (some ⟨b1, o1, none⟩) l.length c) s2 from by rw [hs2]; exact CRD.out)
        obtain ⟨o0, ho0⟩ : ∃ o0, o0 = opT l s1 m D 4 := ⟨_, rfl⟩
        have CO2 := Lib.hid (show wv.heap[OB]? = some (.cells (opCells (opN l s2 o0 0) nilS) 25 (0, 0)) from by rw [ho0]; exact CO.out)
        obtain ⟨es, hes⟩ : ∃ es, es = esT l s1 4 := ⟨_, rfl⟩
        have HESL := Lib.hid (show es.length ≤ l.length from by rw [hes]; exact textS_len l _)
        have CS2 := Lib.hid (show wv.heap[SB]? = some (.cells #[str es] 9 (0, 0)) from by rw [hes]; exact CS.out)
        have HQ := Lib.hid (show opS l = (opN l s2 o0 3, es, nmS l s2 3) from by
          rw [opS_eq, ← HDS.out.2, ← HDS.out.1, HHD.out, ← hs2, ← ho0, ← hes])
        have HLE2 := Lib.hid hle2
        have HO0 := Lib.hid ho0
        have hszr : SB < wv.heap.size := lt_of_heap CS2.out
        clear hs2 ho0 hes hle2 CRD CO CS
        have HP0 := Lib.hid (newAt wv (.cells #[.pointer (some ⟨OB, 6, none⟩), .pointer (some ⟨OB, 7, none⟩), .pointer (some ⟨OB, 8, none⟩)] 78))
        have CR0 := Lib.hid (((Upd.refl Nothing wv).alloc (.cells #[.pointer (some ⟨OB, 6, none⟩), .pointer (some ⟨OB, 7, none⟩), .pointer (some ⟨OB, 8, none⟩)] 78)).at_ CR.out id)
        have CS0 := Lib.hid (((Upd.refl Nothing wv).alloc (.cells #[.pointer (some ⟨OB, 6, none⟩), .pointer (some ⟨OB, 7, none⟩), .pointer (some ⟨OB, 8, none⟩)] 78)).at_ CS2.out id)
        have CO0 := Lib.hid (((Upd.refl Nothing wv).alloc (.cells #[.pointer (some ⟨OB, 6, none⟩), .pointer (some ⟨OB, 7, none⟩), .pointer (some ⟨OB, 8, none⟩)] 78)).at_ CO2.out id)
        have CRD0 := Lib.hid (((Upd.refl Nothing wv).alloc (.cells #[.pointer (some ⟨OB, 6, none⟩), .pointer (some ⟨OB, 7, none⟩), .pointer (some ⟨OB, 8, none⟩)] 78)).at_ CRD2.out id)
        have HX10 := Lib.hid (HX.out.alloc (.cells #[.pointer (some ⟨OB, 6, none⟩), .pointer (some ⟨OB, 7, none⟩), .pointer (some ⟨OB, 8, none⟩)] 78))
        go_wp2_with fail
        go_loopw [51] (fun i wr => ∃ k : Nat, k ≤ 3 ∧ i = .int .i64 k ∧ Ext w wr ∧ wr.heap[w.heap.size]? = some (.cells (opCells (Oper'.zero 0) nilS) 25 (0, 0)) ∧ RdrAt wr RB (.slice (some ⟨b1, o1, none⟩) l.length c) (nmS l s2 k) ∧ wr.heap[OB]? = some (.cells (opCells (opN l s2 o0 k) nilS) 25 (0, 0)) ∧ wr.heap[SB]? = some (.cells #[str es] 9 (0, 0)) ∧ wr.heap[wv.heap.size]? = some (.cells #[.pointer (some ⟨OB, 6, none⟩), .pointer (some ⟨OB, 7, none⟩), .pointer (some ⟨OB, 8, none⟩)] 78 (0, 0))) (fun i _ => 3 - (intOf i).toNat)
        case atStart => exact ⟨0, by omega, rfl, HX10.out, CR0.out, CRD0.out, CO0.out, CS0.out, HP0.out⟩
        case round =>
          clear CR0 CRD0 CO0 CS0 HP0 HX10 CR CRD2 CO2 CS2 HX
          obtain ⟨k, hk, rfl, hx, cR, cRd, cO, cS, cP⟩ := hrel
          have HX := Lib.hid hx
          have CR := Lib.hid cR
          have CRD := Lib.hid cRd
          have CO := Lib.hid cO
          have CS := Lib.hid cS
          have CP := Lib.hid cP
          clear hx cR cRd cO cS cP
          by_cases hlt : k < 3
          · have hcell := cellAt CP.out k _ (three_ptr OB hlt)
            have hle := nmS_le HLE2.out k
            go_wp2_with (go_at_call 41; fail)
            refine (rdrNum_any _ RB OB (6 + k) _ l (nmS l s2 k) _ _ (H.out.ext HX.out) (by omega) hle CRD.out CO.out (opN_at l s2 o0 hlt) (by omega)).mono ?_
            rintro e w2 ⟨rfl, dRd, dO, dU⟩
            rw [opN_set l s2 o0 hlt] at dO
            have HX2 := Lib.hid (hxf (by omega) (by omega) HX.out dU)
            have DR := Lib.hid (dU.at_ CR.out (fun e => by rcases e with e | e <;> omega))
            have DS := Lib.hid (dU.at_ CS.out (fun e => by rcases e with e | e <;> omega))
            have DP := Lib.hid (dU.at_ CP.out (fun e => by rcases e with e | e <;> omega))
            have DO := Lib.hid dO
            have DRD := Lib.hid dRd
            clear dU dO dRd hcell
            go_wp2
            refine ⟨?_, ?measure⟩
            repeat apply Exists.intro
            refine ⟨?rel, rfl⟩
            case rel => exact ⟨k + 1, by omega, by go_num, HX2.out, DR.out, DRD.out, DO.out, DS.out, DP.out⟩
            case measure => simp [intOf]; omega
          · have hk3 : k = 3 := by omega
            subst hk3
            clear hlt hk CP
            obtain ⟨E, hE⟩ : ∃ E, E = (nmS l s2 3).1 := ⟨_, rfl⟩
            obtain ⟨q, hq⟩ : ∃ q, q = (nmS l s2 3).2 := ⟨_, rfl⟩
            have hqe : nmS l s2 3 = (E, q) := by rw [hE, hq]
            rw [hqe] at HQ CRD
            have HP := Lib.hid (show opP l = opEnd l (opN l s2 o0 3, es, E, q) from by rw [opP, if_neg HNE.out, HHD.out, if_neg (by have := HK.out; omega), HQ.out])
            clear hE hq hqe
            have z0 : wr.cell? ⟨RB, 0, none⟩ = some (.slice (some ⟨b1, o1, none⟩) l.length c) := cellAt CRD.out 0 _ rfl
            have z1 : wr.cell? ⟨RB, 1, none⟩ = some (.int .i64 q) := cellAt CRD.out 1 _ rfl
            have z2 : wr.cell? ⟨RB, 2, none⟩ = some (.int .i64 E) := cellAt CRD.out 2 _ rfl
            by_cases hE0 : E = 0
            · subst hE0
              by_cases hql : q < l.length
              · have HPE := Lib.hid (show opP l = (2, Oper'.zero 0) from by rw [HP.out, opEnd, if_neg (by simp), if_pos hql])
                have hqi : (q : Int) < l.length := by omega
                go_wp2_with (refine wpList_store_blk rfl _ _ _ rfl rfl (cells := opCells (Oper'.zero 0) nilS) rfl CR.out (Tryd.opT _ _) rfl (opCells_one _ _ _ _) ?_)
                try simp only [Exit.inBlock, Exit.then]
                refine bodyPost_blk2 rfl rfl rfl (setRow_heap _ _ _ _ _ _ CR.out) (Tryd.opT _ _) ?_
                exact oparse_bad HPE.out (HX.out.step (Upd.row _ _ _) (fun i hi e => by unfold At at e; omega))
              · have hqi : ¬ (q : Int) < l.length := by omega
                have zs : wr.cell? ⟨SB, 0, none⟩ = some (str es) := cellAt CS.out 0 _ rfl
                have hesl : es.length ≤ l.length := HESL.out
                obtain ⟨gc, wb, hcv, hbb, hxb⟩ := conv_text (P := Tryd.prog) wr es Tryd.underlying9 Tryd.underlying26 Tryd.underlying5 (by unfold maxLen; omega)
                have HBB := Lib.hid hbb
                have HXB := Lib.hid hxb
                clear hbb hxb
                go_wp2_with (go_at_call 43; fail)
                refine (dParse_any wb _ es HBB.out (by omega)).mono ?_
                rintro e w3 ⟨v', rfl, hok, hbad, hx3⟩
                have HXB3 := Lib.hid (HXB.out.trans hx3)
                have hszb : w.heap.size ≤ wb.heap.size := by have := HXB.out.size; have := HX.out.size; omega
                obtain ⟨E2, hE2⟩ : ∃ E2, E2 = (editsP es.length es).1 := ⟨_, rfl⟩
                obtain ⟨L2, hL2⟩ : ∃ L2, L2 = (editsP es.length es).2 := ⟨_, rfl⟩
                rw [← hE2] at hok hbad ⊢
                rw [← hL2] at hok
                have hP2 : opP l = if E2 ≠ 0 then (E2, Oper'.zero 0) else if opRight { opN l s2 o0 3 with edits := L2 } then (0, { opN l s2 o0 3 with edits := L2 }) else (2, Oper'.zero 0) := by
                  rw [HP.out, opEnd, if_neg (by simp), if_neg hql]
                  dsimp only
                  rw [← hE2, ← hL2]
                have HP2 := Lib.hid hP2
                have hvf : ∃ a2 n2 c2, v' = .slice a2 n2 c2 := by
                  by_cases h : E2 = 0
                  · exact ownsForm (hok h)
                  · exact ⟨_, _, _, hbad h⟩
                obtain ⟨va2, vn2, vc2, rfl⟩ := hvf
                have dR := HXB3.out.at_ CR.out id
                have dO := HXB3.out.at_ CO.out id
                have dRd := HXB3.out.at_ CRD.out id
                have g5 := cellAt dO 5 nilS rfl
                have k5 := freeAt dO 5
                have g2 : w3.cell? ⟨RB, 2, none⟩ = some (.int .i64 0) := cellAt dRd 2 _ rfl
                have k2 := freeAt dRd 2
                have u1 := Upd.own w3 OB 5 (.slice va2 vn2 vc2)
                have u2 := Upd.own (w3.setCell ⟨OB, 5, none⟩ (.slice va2 vn2 vc2)) RB 2 (.int .i64 E2)
                have eR := u2.at_ (u1.at_ dR (fun e => by unfold At at e; omega)) (fun e => by unfold At at e; omega)
                have eO := u2.at_ (setAt (j := 5) (u := .slice va2 vn2 vc2) dO) (fun e => by unfold At at e; omega)
                have eRd := setAt (j := 2) (u := .int .i64 E2) (u1.at_ dRd (fun e => by unfold At at e; omega))
                have eX : Ext w ((w3.setCell ⟨OB, 5, none⟩ (.slice va2 vn2 vc2)).setCell ⟨RB, 2, none⟩ (.int .i64 E2)) := ((HX.out.trans HXB3.out).setCell (p := ⟨OB, 5, none⟩) (fun h => by dsimp only at h; omega) _).setCell (p := ⟨RB, 2, none⟩) (fun h => by dsimp only at h; omega) _
                have eE : E2 = 0 → ((w3.setCell ⟨OB, 5, none⟩ (.slice va2 vn2 vc2)).setCell ⟨RB, 2, none⟩ (.int .i64 E2)).ownsRow w.heap.size 64 3 (.slice va2 vn2 vc2) L2.length (editCells L2) := fun h => by
                  have h1 := hok h
                  exact u2.ownsRow (u1.ownsRow (h1.mono_base hszb) (fun k hk e => by unfold At at e; subst e; obtain ⟨cur, hc⟩ := owns_tag h1 hk; exact tag_ne dO (by decide) hc rfl)) (fun k hk e => by unfold At at e; subst e; obtain ⟨cur, hc⟩ := owns_tag h1 hk; exact tag_ne dRd (by decide) hc rfl)
                have ER := Lib.hid eR
                have EO := Lib.hid (show ((w3.setCell ⟨OB, 5, none⟩ (.slice va2 vn2 vc2)).setCell ⟨RB, 2, none⟩ (.int .i64 E2)).heap[OB]? = some (.cells (opCells { opN l s2 o0 3 with edits := L2 } (.slice va2 vn2 vc2)) 25 (0, 0)) from eO)
                have n0 : ((w3.setCell ⟨OB, 5, none⟩ (.slice va2 vn2 vc2)).setCell ⟨RB, 2, none⟩ (.int .i64 E2)).cell? ⟨RB, 2, none⟩ = some (.int .i64 E2) := cellAt eRd 2 _ rfl
                have HX4 := Lib.hid eX
                have HEE := Lib.hid eE
                clear hE2 hL2 hok hbad hP2 dR dO dRd eR eO eRd eX eE u1 u2 z0 z1 z2
                by_cases hE2 : E2 = 0
                · subst hE2
                  obtain ⟨o2, ho2⟩ : ∃ o2, o2 = { opN l s2 o0 3 with edits := L2 } := ⟨_, rfl⟩
                  have HP3 := Lib.hid (show opP l = if opRight o2 then (0, o2) else (2, Oper'.zero 0) from by rw [HP2.out, if_neg (by simp), ho2])
                  have EO2 := EO.out
                  rw [← ho2] at EO2
                  have hee : ((w3.setCell ⟨OB, 5, none⟩ (.slice va2 vn2 vc2)).setCell ⟨RB, 2, none⟩ (.int .i64 0)).ownsRow w.heap.size 64 3 (.slice va2 vn2 vc2) o2.edits.length (editCells o2.edits) := by rw [ho2]; exact HEE.out rfl
                  have HEE2 := Lib.hid hee
                  clear ho2 hee
                  go_wp2_with (first | (refine wpList_load_blk rfl _ _ rfl rfl EO2 (Tryd.opT _ _) ?_) | (go_at_call 18; fail))
                  refine (right_any _ o2 _ (Row.of_owns HEE2.out)).mono ?_
                  rintro e w5 ⟨rfl, hx5⟩
                  have fR := hx5.at_ ER.out id
                  have fO := hx5.at_ EO2 id
                  have HX5 := Lib.hid (HX4.out.trans hx5)
                  have HEE5 := Lib.hid (hx5.ownsRow HEE2.out (fun _ _ e => e))
                  clear hx5 EO2 g5 k5 g2 k2 n0
                  by_cases hr : opRight o2 = true
                  · have HPE := Lib.hid (show opP l = (0, o2) from by rw [HP3.out, if_pos hr])
                    rw [hr]
                    clear hr
                    go_wp2_with (first | (refine wpList_load_blk rfl _ _ rfl rfl fO (Tryd.opT _ _) ?_) | (refine wpList_store_blk rfl _ _ _ rfl rfl (cells := opCells o2 (.slice va2 vn2 vc2)) rfl fR (Tryd.opT _ _) rfl (opCells_one _ _ _ _) ?_))
                    try simp only [Exit.inBlock, Exit.then]
                    refine bodyPost_blk2 rfl rfl rfl (setRow_heap _ _ _ _ _ _ fR) (Tryd.opT _ _) ?_
                    refine oparse_ok HPE.out ?_ (HX5.out.step (Upd.row _ _ _) (fun i hi e => by unfold At at e; omega))
                    exact (Upd.row w5 w.heap.size _).ownsRow HEE5.out (fun k hk e => by unfold At at e; subst e; obtain ⟨cur, hc⟩ := owns_tag HEE5.out hk; exact tag_ne fR (by decide) hc rfl)
                  · have hrf : opRight o2 = false := by simpa using hr
                    have HPE := Lib.hid (show opP l = (2, Oper'.zero 0) from by rw [HP3.out, if_neg hr])
                    rw [hrf]
                    clear hr hrf
                    go_wp2_with (refine wpList_store_blk rfl _ _ _ rfl rfl (cells := opCells (Oper'.zero 0) nilS) rfl fR (Tryd.opT _ _) rfl (opCells_one _ _ _ _) ?_)
                    try simp only [Exit.inBlock, Exit.then]
                    refine bodyPost_blk2 rfl rfl rfl (setRow_heap _ _ _ _ _ _ fR) (Tryd.opT _ _) ?_
                    exact oparse_bad HPE.out (HX5.out.step (Upd.row _ _ _) (fun i hi e => by unfold At at e; omega))
                · have hb2 : (E2 != 0) = true := by simpa using hE2
                  have HPE := Lib.hid (show opP l = (E2, Oper'.zero 0) from by rw [HP2.out, if_pos hE2])
                  clear hE2
                  obtain ⟨r0, r1, r2, r3, r4, r5, r6, r7, r8⟩ := opLit_cells (Oper'.zero 0) _ ER.out
                  simp only [Oper'.zero] at r0 r1 r2 r3 r4 r5 r6 r7 r8
                  have f0 := freeAt ER.out 0
                  have f1 := freeAt ER.out 1
                  have f2 := freeAt ER.out 2
                  have f3 := freeAt ER.out 3
                  have f4 := freeAt ER.out 4
                  have f5 := freeAt ER.out 5
                  have f6 := freeAt ER.out 6
                  have f7 := freeAt ER.out 7
                  have f8 := freeAt ER.out 8
                  go_wp2_with fail
                  go_region
                  go_wp2_with fail
                  refine bodyPost_blk2 rfl rfl rfl (zeros_stored ER.out) (Tryd.opT _ _) ?_
                  exact oparse_bad HPE.out ((HX4.out.step (Upd.cells w.heap.size (opCells (Oper'.zero 0) nilS).toList _ 0) (fun i hi e => by unfold At at e; omega)).drew)
            · have hb0 : (E != 0) = true := by simpa using hE0
              have HPE := Lib.hid (show opP l = (E, Oper'.zero 0) from by rw [HP.out, opEnd, if_pos hE0])
              clear hE0
              obtain ⟨r0, r1, r2, r3, r4, r5, r6, r7, r8⟩ := opLit_cells (Oper'.zero 0) _ CR.out
              simp only [Oper'.zero] at r0 r1 r2 r3 r4 r5 r6 r7 r8
              have f0 := freeAt CR.out 0
              have f1 := freeAt CR.out 1
              have f2 := freeAt CR.out 2
              have f3 := freeAt CR.out 3
              have f4 := freeAt CR.out 4
              have f5 := freeAt CR.out 5
              have f6 := freeAt CR.out 6
              have f7 := freeAt CR.out 7
              have f8 := freeAt CR.out 8
              go_wp2_with fail
              go_region
              go_wp2_with fail
              refine bodyPost_blk2 rfl rfl rfl (zeros_stored CR.out) (Tryd.opT _ _) ?_
              exact oparse_bad HPE.out ((HX.out.step (Upd.cells w.heap.size (opCells (Oper'.zero 0) nilS).toList wr 0) (fun i hi e => by unfold At at e; omega)).drew)
end Go.Proofs.YtlhpcgmbbeihiaaDoor
