/-
  WHAT THE WALKS OF CHAPTER 19 SHARE: an edit, an operation as cells; what is right; equality of edits, of texts. No condition.
-/
import Derived.Test.YtlhpcgmbbeihiaaDoorMA
namespace Go.Proofs.YtlhpcgmbbeihiaaDoor
open Go.RowKit

abbrev nilS : Value := .slice none 0 0
def editRight (e : Edit) : Bool := if e.kind = 1 ∨ e.kind = 3 then decide (0 < e.n) && decide (e.n ≤ 2147483647) && e.text.isEmpty else if e.kind = 2 then decide (e.n = 0) && !e.text.isEmpty else false
def deltaRight (l : List Edit) : Bool := l.all editRight
/-- Is a part blank? -/
def blankPart (o : Oper') (c : UInt8) : Bool :=
  if c = 100 then decide (o.doc = 0) else if c = 110 then o.name.isEmpty else if c = 111 then o.to.isEmpty else if c = 116 then o.text.isEmpty
  else if c = 101 then o.edits.isEmpty else if c = 112 then decide (o.epoch = 0) else if c = 118 then decide (o.version = 0) else decide (o.dur = 0)
def allParts : List UInt8 := [100, 110, 111, 116, 101, 112, 118, 117]
def opRight (o : Oper') : Bool := decide (1 ≤ o.kind) && decide (o.kind ≤ 17) && deltaRight o.edits && allParts.all (fun c => blankPart o c || (partsF o.kind.toNat).contains c)
def Edit.cells (e : Edit) : List Value := [.int .u8 e.kind, .int .i64 e.n, str e.text]
abbrev editCells (l : List Edit) : List Value := (l.map Edit.cells).flatten
theorem editCells_length (l : List Edit) : (editCells l).length = l.length * 3 := by
  induction l with
  | nil => rfl
  | cons e l ih => simp [editCells, Edit.cells] at ih ⊢; omega
theorem editCells_snoc (l : List Edit) (e : Edit) : editCells (l ++ [e]) = editCells l ++ e.cells := by simp [editCells]
theorem edit_one (e : Edit) : OneCells e.cells := by intro u hu; simp [Edit.cells] at hu; rcases hu with rfl | rfl | rfl <;> rfl
theorem Tryd.editsT : SliceT Tryd.prog 23 64 3 32 := sliceT_of Tryd.underlying23 (by kernel_rfl) (by decide)

theorem Tryd.reditsT : SliceT Tryd.prog 34 72 3 32 := sliceT_of Tryd.underlying34 (by kernel_rfl) (by decide)
def opCells (o : Oper') (ve : Value) : Array Value := #[.int .u8 o.kind, .int .u64 o.doc, str o.name, str o.to, str o.text, ve, .int .u64 o.epoch, .int .u64 o.version, .int .u64 o.dur]
theorem opCells_one (o : Oper') (a : Option Addr) (n c : Nat) : (opCells o (.slice a n c)).all (·.oneCell') = true := by simp [opCells, Value.oneCell']
theorem partsTable (k : Nat) (hk : k < 18) : ([.string ⟨#[]⟩, .string ⟨#[110]⟩, .string ⟨#[110]⟩, .string ⟨#[]⟩, .string ⟨#[110, 111]⟩, .string ⟨#[110]⟩, .string ⟨#[100, 117]⟩, .string ⟨#[100, 112, 117]⟩, .string ⟨#[100, 112]⟩, .string ⟨#[100, 112, 116]⟩, .string ⟨#[100, 112, 118, 101]⟩, .string ⟨#[100]⟩, .string ⟨#[100, 118]⟩, .string ⟨#[100, 118, 117]⟩, .string ⟨#[100, 118]⟩, .string ⟨#[100, 112]⟩, .string ⟨#[100]⟩, .string ⟨#[100]⟩] : List Value)[k]? = some (str (partsF k)) := by
  have h : k = 0 ∨ k = 1 ∨ k = 2 ∨ k = 3 ∨ k = 4 ∨ k = 5 ∨ k = 6 ∨ k = 7 ∨ k = 8 ∨ k = 9 ∨ k = 10 ∨ k = 11 ∨ k = 12 ∨ k = 13 ∨ k = 14 ∨ k = 15 ∨ k = 16 ∨ k = 17 := by omega
  rcases h with rfl | rfl | rfl | rfl | rfl | rfl | rfl | rfl | rfl | rfl | rfl | rfl | rfl | rfl | rfl | rfl | rfl | rfl <;> rfl

theorem partsLen (k : Nat) (hk : k < 18) : (partsF k).length ≤ 4 := by
  have h : k = 0 ∨ k = 1 ∨ k = 2 ∨ k = 3 ∨ k = 4 ∨ k = 5 ∨ k = 6 ∨ k = 7 ∨ k = 8 ∨ k = 9 ∨ k = 10 ∨ k = 11 ∨ k = 12 ∨ k = 13 ∨ k = 14 ∨ k = 15 ∨ k = 16 ∨ k = 17 := by omega
  rcases h with rfl | rfl | rfl | rfl | rfl | rfl | rfl | rfl | rfl | rfl | rfl | rfl | rfl | rfl | rfl | rfl | rfl | rfl <;> simp [partsF]
theorem Tryd.ropT (o : Oper') (ve : Value) : StructT Tryd.prog 36 (opCells o ve).size := ⟨_, Tryd.underlying36, rfl, by kernel_rfl⟩
theorem run_index_str {P : Program} {T : TypeId} (hT : P.underlying T = some .string) {ps : List UInt8} {k : Nat} {c : UInt8} {m : Int} (hc : ps[k]? = some c) (hm : (c.toNat : Int) = m) (w : World) : (Instr.index T (str ps) (.int .i64 k)).run P w = .ok (.int .u8 m) w := by
  subst hm
  obtain ⟨hk, hck⟩ := List.getElem?_eq_some_iff.1 hc
  have hk' : k < (⟨ps.toArray⟩ : ByteArray).size := hk
  have hget : (⟨ps.toArray⟩ : ByteArray)[k]'hk' = c := hck
  rw [run_index_string _ _ _ _ _ hT, dif_pos ⟨by omega, by exact_mod_cast hk'⟩]
  congr 3
  simp only [Int.toNat_natCast]; rw [hget]
/-- Are two the same? (A name, so that no walk takes it apart.) -/
def eqB {α : Type} [DecidableEq α] (a b : α) : Bool := decide (a = b)
theorem eqB_self {α : Type} [DecidableEq α] (a : α) : eqB a a = true := by simp [eqB]
theorem eqB_ne {α : Type} [DecidableEq α] {a b : α} (h : ¬ a = b) : eqB a b = false := by simp [eqB, h]
theorem decide_len_ne {α : Type} [DecidableEq α] {l1 l2 : List α} (h : l1.length ≠ l2.length) : eqB l1 l2 = false := by
  rw [eqB, decide_eq_false_iff_not]; intro e; exact h (by rw [e])
theorem take_extG {α : Type} {l1 l2 : List α} {k : Nat} (h1 : k < l1.length) (h2 : k < l2.length) (h : l1.take k = l2.take k) (e : l1[k] = l2[k]) : l1.take (k+1) = l2.take (k+1) := by
  rw [List.take_succ_eq_append_getElem h1, List.take_succ_eq_append_getElem h2, h, e]
theorem decide_of_take {α : Type} [DecidableEq α] {l1 l2 : List α} (hl : l1.length = l2.length) (h : l1.take l1.length = l2.take l1.length) : eqB l1 l2 = true := by
  rw [eqB, decide_eq_true_iff]; rw [List.take_length] at h; rw [h, hl, List.take_length]
theorem decide_ne_at {α : Type} [DecidableEq α] {l1 l2 : List α} {k : Nat} (h1 : k < l1.length) (h2 : k < l2.length) (e : ¬ l1[k] = l2[k]) : eqB l1 l2 = false := by
  rw [eqB, decide_eq_false_iff_not]; intro e'; subst e'; exact e rfl
theorem bytes_toList (l : List UInt8) : (⟨l.toArray⟩ : ByteArray).toList = l := by rw [ByteArray.toList_eq]

theorem edit_cells {l : List Edit} {w : World} {b o : Nat} (h : ∀ j u, (editCells l)[j]? = some u → w.cell? ⟨b, o + j, none⟩ = some u) (k : Nat) (hk : k < l.length) :
    w.cell? ⟨b, o + k * 3, none⟩ = some (.int .u8 l[k].kind) ∧ w.cell? ⟨b, o + k * 3 + 1, none⟩ = some (.int .i64 l[k].n) ∧ w.cell? ⟨b, o + k * 3 + 2, none⟩ = some (str l[k].text) := by
  have hg : ∀ j, j < 3 → (editCells l)[k * 3 + j]? = (l[k].cells)[j]? := by
    clear h
    induction l generalizing k with
    | nil => simp at hk
    | cons e l ih =>
      intro j hj
      cases k with
      | zero => simp only [editCells, List.map_cons, List.flatten_cons, Nat.zero_mul, Nat.zero_add, List.getElem_cons_zero]; exact List.getElem?_append_left (by simpa [Edit.cells] using hj)
      | succ k =>
        have := ih k (by simpa using hk) j hj
        simp only [editCells, List.map_cons, List.flatten_cons, List.getElem_cons_succ]
        rw [List.getElem?_append_right (by simp [Edit.cells]; omega)]
        rw [show (k + 1) * 3 + j - e.cells.length = k * 3 + j from by simp [Edit.cells]; omega]
        exact this
  refine ⟨h _ _ ?_, ?_, ?_⟩
  · have := hg 0 (by decide); simpa [Edit.cells] using this
  · rw [Nat.add_assoc]; exact h _ _ (by have := hg 1 (by decide); simpa [Edit.cells] using this)
  · rw [Nat.add_assoc]; exact h _ _ (by have := hg 2 (by decide); simpa [Edit.cells] using this)

set_option maxHeartbeats 400000 in
theorem eqEdits_any {S1 S2 : Nat → Prop} (w : World) (v1 v2 : Value) (l1 l2 : List Edit) (h1 : Row S1 w v1 l1.length (editCells l1)) (h2 : Row S2 w v2 l2.length (editCells l2)) :
    Calls Tryd.prog 51 #[v1, v2] w fun e w' => e = .returned (.bool (eqB l1 l2)) ∧ Ext w w' := by
  have g1 := h1.addr
  have g2 := h2.addr
  obtain ⟨a1, c1, rfl, hn1, hm1, -⟩ := h1
  obtain ⟨a2, c2, rfl, hn2, hm2, -⟩ := h2
  unfold maxLen at hm1 hm2
  by_cases hl : l1.length = l2.length
  · have hb : ((l1.length : Int) != (l2.length : Int)) = false := by simp [hl]
    have HL := Lib.hid hl
    have G1 := Lib.hid g1
    have G2 := Lib.hid g2
    clear hl g1 g2
    go_enter Tryd.func51, Tryd.ntmps51
    go_wp2
    go_loopw [13] (fun i wr => ∃ k : Nat, k ≤ l1.length ∧ i = .int .i64 k ∧ l1.take k = l2.take k ∧ Ext w wr)
      (fun i _ => l1.length - (intOf i).toNat)
    case atStart => exact ⟨0, Nat.zero_le _, rfl, rfl, Upd.refl _ _⟩
    case round =>
      obtain ⟨k, hk, rfl, ht, hx⟩ := hrel
      have HT := Lib.hid ht
      clear ht
      by_cases hlt : k < l1.length
      · have hlt2 : k < l2.length := by rw [← HL.out]; exact hlt
        obtain ⟨b1, o1, c1', e1, -, -, -, hc1⟩ := G1.out (by omega)
        obtain ⟨b2, o2, c2', e2, -, -, -, hc2⟩ := G2.out (by omega)
        cases e1; cases e2
        obtain ⟨p1, p2, p3⟩ := edit_cells hc1 k hlt
        obtain ⟨q1, q2, q3⟩ := edit_cells hc2 k hlt2
        have p1 := hx.cell p1 id
        have p2 := hx.cell p2 id
        have p3 := hx.cell p3 id
        have q1 := hx.cell q1 id
        have q2 := hx.cell q2 id
        have q3 := hx.cell q3 id
        clear hc1 hc2
        generalize hx1 : l1[k] = x1 at p1 p2 p3
        generalize hx2 : l2[k] = x2 at q1 q2 q3
        by_cases he : x1 = x2
        · have HE := Lib.hid (hx1.trans (he.trans hx2.symm))
          have HX1 := Lib.hid hx1
          have HX2 := Lib.hid hx2
          subst he
          clear hx1 hx2
          go_wp2
          go_quiet (fail)
          go_wp2
          go_roundw
          case rel => exact ⟨k + 1, by omega, by go_num, take_extG hlt hlt2 HT.out HE.out, hx.drewN _⟩
          case measure => simp [intOf]; omega
        · have HE := Lib.hid (show ¬ l1[k] = l2[k] from fun e => he (by rw [← hx1, ← hx2, e]))
          have HX1 := Lib.hid hx1
          have HX2 := Lib.hid hx2
          clear hx1 hx2
          by_cases hk : x1.kind = x2.kind
          · by_cases hn : x1.n = x2.n
            · have ht : ((⟨x1.text.toArray⟩ : ByteArray).toList == (⟨x2.text.toArray⟩ : ByteArray).toList) = false := by
                rw [beq_eq_false_iff_ne]; intro e; apply he
                rw [bytes_toList, bytes_toList] at e
                cases x1; cases x2; simp_all
              have ht2 : (x1.text == x2.text) = false := by
                rw [beq_eq_false_iff_ne]; intro e; apply he
                cases x1; cases x2; simp_all
              have hk' : (x1.kind == x2.kind) = true := by simpa using hk
              have hn' : (x1.n == x2.n) = true := by simpa using hn
              clear he hk hn
              go_wp2
              go_quiet (fail)
              go_wp2
              go_ret
              exact ⟨by rw [decide_ne_at hlt hlt2 HE.out]; rfl, hx.drewN _⟩
            · have hn' : (x1.n == x2.n) = false := by simpa using hn
              have hk' : (x1.kind == x2.kind) = true := by simpa using hk
              clear he hk hn
              go_wp2
              go_quiet (fail)
              go_wp2
              go_ret
              exact ⟨by rw [decide_ne_at hlt hlt2 HE.out]; rfl, hx.drewN _⟩
          · have hk' : (x1.kind == x2.kind) = false := by simpa using hk
            clear he hk
            go_wp2
            go_quiet (fail)
            go_wp2
            go_ret
            exact ⟨by rw [decide_ne_at hlt hlt2 HE.out]; rfl, hx.drewN _⟩
      · go_wp2
        go_ret
        have hkl : k = l1.length := by omega
        subst hkl
        exact ⟨by rw [decide_of_take HL.out HT.out]; rfl, hx⟩
  · have hb : ((l1.length : Int) != (l2.length : Int)) = true := by simp; omega
    have HL := Lib.hid hl
    clear hl g1 g2
    go_enter Tryd.func51, Tryd.ntmps51
    go_wp2
    go_ret
    exact ⟨by rw [decide_len_ne HL.out]; rfl, Upd.refl _ _⟩
end Go.Proofs.YtlhpcgmbbeihiaaDoor
