/-
  WHAT COMES IN: a slice of events of the input as a row of events; an operation, an event as cells. No condition but that they can be read.
  CONTRACT of the law's own function few: where it says yes there are at most 60 events of few bytes.
-/
import Derived.Test.YtlhpcgmbbeihiaaGEvs
import Derived.Test.YtlhpcgmbbeihiaaShut
import Derived.Test.YtlhpcgmbbeihiaaGWlaw
import Derived.Test.YtlhpcgmbbeihiaaWr5
import Derived.Deep.Slices
namespace Go.Proofs.Ytlhpcgmbbeihiaa
open Go.ChangeShapes Go.WideShapes Go.ChangeAt Go.RowKit

section
variable {H : Type} {enc : TypeId × Value → H} {P : Program} {W : World}
abbrev Reads1 (enc : TypeId × Value → H) (P : Program) (W : World) (t : TypeId) (cs : List Value) : Prop := ∃ n y, DataW.trod enc P W 0 (fun _ => true) true n t cs = some y

theorem list_of_all {α : Type} {p : Nat → α → Prop} : ∀ (n : Nat), (∀ i, i < n → ∃ x, p i x) → ∃ l : List α, l.length = n ∧ ∀ i (h : i < l.length), p i l[i]
  | 0, _ => ⟨[], rfl, fun i h => absurd h (Nat.not_lt_zero _)⟩
  | n + 1, h => by
    obtain ⟨l, hl, hp⟩ := list_of_all n fun i hi => h i (by omega)
    obtain ⟨x, hx⟩ := h n (by omega)
    refine ⟨l ++ [x], by simp [hl], fun i hi => ?_⟩
    by_cases hin : i < l.length
    · rw [List.getElem_append_left hin]; exact hp i hin
    · have : i = l.length := by simp at hi; omega
      subst this
      simp [hl] at hx ⊢; exact hx
/-- A slice that can be read: its elements' cells. -/
theorem slice_open {t e : TypeId} {sz : Nat} (ht : P.underlying t = some (.slice e)) (hc : P.cellsOf e = sz) (h0 : 0 < sz) {cs : List Value} (h : Reads1 enc P W t cs) :
    ∃ (v : Value) (css : List (List Value)), cs = [v] ∧ (∀ c ∈ css, c.length = sz) ∧ Row (Till W.heap.size) W v css.length css.flatten ∧ ∀ i (hi : i < css.length), Reads1 enc P W e css[i] := by
  obtain ⟨fuel, x, h⟩ := h
  rcases Go.Deep.open_slice ht h with ⟨rfl, -⟩ | ⟨a, len, cap, m, n, D, Pl, rfl, -, hlc, hcm, hm, -, hx⟩
  · exact ⟨_, [], rfl, by simp, Row.nil _ _, fun i hi => by simp at hi⟩
  · simp only [if_true] at hm
    obtain ⟨css, hl, hp⟩ := list_of_all (p := fun i (c : List Value) => W.cells? 0 (a.add (i * P.cellsOf e)) (P.cellsOf e) = some c ∧ DataW.trod enc P W 0 (fun _ => true) true n e c = some (D i, Pl i)) len (fun i hi => hx i (by omega))
    have hsz : ∀ c ∈ css, c.length = sz := fun c hmem => by
      obtain ⟨i, hi, rfl⟩ := List.getElem_of_mem hmem
      exact (World.cells?_some (hp i hi).1).2.1.trans hc
    refine ⟨_, css, rfl, hsz, ⟨some a, cap, by rw [hl], by omega, hcm, fun e => (by cases e), fun x e g => ?_, fun b o e j u hj => ?_⟩, fun i hi => ⟨n, _, (hp i hi).2⟩⟩
    · cases e
      have hpos : 0 < css.length := by
        rcases g with g | g
        · exact g
        · cases css with
          | nil => simp at g
          | cons c r => simp
      have hq := (World.cells?_some (hp 0 hpos).1).2.2 0 (by omega)
      have hl0 : (css[0]).length = sz := hsz _ (List.getElem_mem _)
      rw [Nat.zero_mul, show (a.add 0).add 0 = a from by simp [Addr.add], List.getElem?_eq_getElem (by omega)] at hq
      refine ⟨?_, World.block_lt_of_cell? W a hq⟩
      unfold World.cell? at hq
      split at hq
      · split at hq
        · cases hq
        · rename_i hs; simpa using hs
      · cases hq
    · cases e
      have hjl : j < css.length * sz := by
        have h1 := (List.getElem?_eq_some_iff.1 hj).1
        have h2 : ∀ l : List (List Value), (∀ c ∈ l, c.length = sz) → l.flatten.length = l.length * sz := by
          intro l; induction l with
          | nil => intro _; simp
          | cons c r ih => intro hh; rw [List.flatten_cons, List.length_append, ih (fun d hd => hh d (by simp [hd])), hh c (by simp), List.length_cons, Nat.succ_mul]; omega
        rw [h2 css hsz] at h1; exact h1
      have hi : j / sz < css.length := by rw [Nat.div_lt_iff_lt_mul h0]; exact hjl
      have hr : j % sz < sz := Nat.mod_lt _ h0
      have hdm : j / sz * sz + j % sz = j := by rw [Nat.mul_comm]; exact Nat.div_add_mod j sz
      rw [← hdm, flat_at hsz hi hr] at hj
      have hq := (World.cells?_some (hp (j / sz) hi).1).2.2 (j % sz) (by omega)
      rw [hc] at hq
      rw [hj] at hq
      rw [← hq, Go.Deep.add_add, hdm]
      congr 1
      unfold Addr.add; split <;> simp_all
theorem field_open {t : TypeId} {cs : List Value} {fs : Array Field} (ht : P.underlying t = some (.struct fs)) (h : Reads1 enc P W t cs) : cs.length = P.cellsOf t ∧
    ∀ (i : Nat) (f : Field), fs[i]? = some f → ∀ (ty : TypeId) (off n : Nat) (cs' : List Value), f.type = ty → f.offset = off → P.cellsOf ty = n → (cs.drop off).take n = cs' → Reads1 enc P W ty cs' := by
  obtain ⟨fuel, x, h⟩ := h
  obtain ⟨xs, n, -, -, hl, hxl, hf⟩ := DataW.trod_struct ht h
  refine ⟨hl, fun i f hi ty off m cs' e1 e2 e3 hcs => ?_⟩
  subst e1 e2 e3
  have hlt : i < fs.size := (Array.getElem?_eq_some_iff.1 hi).1
  have := hf i f hi
  rw [hcs, List.getElem?_eq_getElem (show i < xs.length by omega)] at this
  exact ⟨n, _, this⟩
theorem int_open {t : TypeId} {k : IntKind} {cs : List Value} (ht : P.underlying t = some (.int k)) (h : Reads1 enc P W t cs) : ∃ n, cs = [.int k n] ∧ k.min ≤ n ∧ n ≤ k.max := by
  obtain ⟨fuel, x, h⟩ := h
  obtain ⟨n, h1, -, h3⟩ := DataW.trod_int ht h
  simp [Lit.wf] at h3
  exact ⟨n, h1, h3⟩
theorem str_open {t : TypeId} {cs : List Value} (ht : P.underlying t = some .string) (h : Reads1 enc P W t cs) : ∃ s : List UInt8, cs = [str s] ∧ s.length ≤ maxLen := by
  obtain ⟨fuel, x, h⟩ := h
  obtain ⟨s, h1, -, h3⟩ := DataW.trod_string ht h
  obtain ⟨⟨l⟩⟩ := s
  exact ⟨l, h1, h3⟩
theorem bool_open {t : TypeId} {cs : List Value} (ht : P.underlying t = some .bool) (h : Reads1 enc P W t cs) : ∃ b, cs = [.bool b] := by
  obtain ⟨fuel, x, h⟩ := h
  obtain ⟨b, h1, -⟩ := DataW.trod_bool ht h
  exact ⟨b, h1⟩
theorem map_of_all {α β : Type} {q : α → Prop} (f : α → β) (l : List β) (h : ∀ i (hi : i < l.length), ∃ a, l[i] = f a ∧ q a) : ∃ m : List α, l = m.map f ∧ ∀ a ∈ m, q a := by
  induction l with
  | nil => exact ⟨[], rfl, by simp⟩
  | cons b l ih =>
    obtain ⟨m, hm, hq⟩ := ih fun i hi => h (i + 1) (by simp; omega)
    obtain ⟨a, ha, hqa⟩ := h 0 (by simp)
    refine ⟨a :: m, by rw [hm]; simpa using ha, fun x hx => ?_⟩
    rcases List.mem_cons.1 hx with rfl | hx
    · exact hqa
    · exact hq x hx
end

section
variable {H : Type} {enc : TypeId × Value → H} {W : World}
theorem u8min : IntKind.u8.min = 0 := by decide
theorem u8max : IntKind.u8.max = 255 := by decide
theorem u64min : IntKind.u64.min = 0 := by decide
theorem i64min : IntKind.i64.min = -9223372036854775808 := by decide
theorem i64max : IntKind.i64.max = 9223372036854775807 := by decide
theorem Try.k8 : Try.prog.cellsOf 5 = 1 := by kernel_rfl
theorem Try.kint : Try.prog.cellsOf 3 = 1 := by kernel_rfl
theorem Try.k64 : Try.prog.cellsOf 25 = 1 := by kernel_rfl
theorem Try.kstr : Try.prog.cellsOf 9 = 1 := by kernel_rfl
theorem Try.kbool : Try.prog.cellsOf 4 = 1 := by kernel_rfl
theorem Try.kedits : Try.prog.cellsOf 39 = 1 := by kernel_rfl
theorem Try.kedit : Try.prog.cellsOf 46 = 3 := by kernel_rfl
theorem Try.kop : Try.prog.cellsOf 41 = 9 := by kernel_rfl

set_option maxRecDepth 100000 in
theorem edit_in {cs : List Value} (h : Reads1 enc Try.prog W 46 cs) : ∃ e : Edit, cs = Edit.cells e ∧ WfEdit e ∧ e.text.length ≤ maxLen := by
  obtain ⟨hl, hf⟩ := field_open Try.underlying46 h
  rw [Try.kedit] at hl
  match cs, hl with
  | [c0, c1, c2], _ =>
    obtain ⟨k, e0, k0, k1⟩ := int_open Try.underlying5 (hf 0 _ rfl 5 0 1 [c0] rfl rfl Try.k8 rfl)
    obtain ⟨n, e1, n0, n1⟩ := int_open Try.underlying3 (hf 1 _ rfl 3 1 1 [c1] rfl rfl Try.kint rfl)
    obtain ⟨s, e2, s1⟩ := str_open Try.underlying9 (hf 2 _ rfl 9 2 1 [c2] rfl rfl Try.kstr rfl)
    cases e0; cases e1; cases e2
    rw [u8min] at k0; rw [u8max] at k1; rw [i64min] at n0; rw [i64max] at n1
    exact ⟨⟨k, n, s⟩, rfl, ⟨k0, k1, n0, n1⟩, s1⟩
def EditIn (e : Edit) : Prop := WfEdit e ∧ e.text.length ≤ maxLen
theorem edits_in {cs : List Value} (h : Reads1 enc Try.prog W 39 cs) : ∃ (v : Value) (l : List Edit), cs = [v] ∧ Row (Till W.heap.size) W v l.length (editCells l) ∧ ∀ e ∈ l, EditIn e := by
  obtain ⟨v, css, rfl, -, hr, he⟩ := slice_open Try.underlying39 Try.kedit (by decide) h
  obtain ⟨l, rfl, hq⟩ := map_of_all (q := EditIn) Edit.cells css fun i hi => by
    obtain ⟨e, h1, h2, h3⟩ := edit_in (he i hi)
    exact ⟨e, h1, h2, h3⟩
  rw [List.length_map] at hr
  exact ⟨v, l, rfl, hr, hq⟩
theorem bools_in {cs : List Value} (h : Reads1 enc Try.prog W 42 cs) : ∃ (v : Value) (l : List Bool), cs = [v] ∧ Row (Till W.heap.size) W v l.length (bools l) := by
  obtain ⟨v, css, rfl, -, hr, he⟩ := slice_open Try.underlying42 Try.kbool (by decide) h
  obtain ⟨l, rfl, -⟩ := map_of_all (q := fun _ => True) (fun b : Bool => [Value.bool b]) css fun i hi => by
    obtain ⟨b, h1⟩ := bool_open Try.underlying4 (he i hi)
    exact ⟨b, h1, trivial⟩
  rw [List.length_map] at hr
  refine ⟨v, l, rfl, ?_⟩
  have : ∀ l : List Bool, (l.map fun b : Bool => [Value.bool b]).flatten = bools l := by
    intro l
    induction l with
    | nil => rfl
    | cons b l ih => simp [bools] at ih ⊢; exact ih
  rwa [this] at hr
/-- What an operation that comes in is. -/
structure OpIn (o : Oper') : Prop where
  kind : 0 ≤ o.kind ∧ o.kind ≤ 255
  edits : ∀ e ∈ o.edits, EditIn e
  nat : NatOp o
  name : o.name.length ≤ maxLen
  to : o.to.length ≤ maxLen
  text : o.text.length ≤ maxLen
set_option maxRecDepth 100000 in
theorem op_in {cs : List Value} (h : Reads1 enc Try.prog W 41 cs) : ∃ (v : Value) (o : Oper'), cs = (opCells o v).toList ∧ Row (Till W.heap.size) W v o.edits.length (editCells o.edits) ∧ OpIn o := by
  obtain ⟨hl, hf⟩ := field_open Try.underlying41 h
  rw [Try.kop] at hl
  match cs, hl with
  | [c0, c1, c2, c3, c4, c5, c6, c7, c8], _ =>
    obtain ⟨k, e0, k0, k1⟩ := int_open Try.underlying5 (hf 0 _ rfl 5 0 1 [c0] rfl rfl Try.k8 rfl)
    obtain ⟨d, e1, d0, d1⟩ := int_open Try.underlying25 (hf 1 _ rfl 25 1 1 [c1] rfl rfl Try.k64 rfl)
    obtain ⟨s, e2, s1⟩ := str_open Try.underlying9 (hf 2 _ rfl 9 2 1 [c2] rfl rfl Try.kstr rfl)
    obtain ⟨t, e3, t1⟩ := str_open Try.underlying9 (hf 3 _ rfl 9 3 1 [c3] rfl rfl Try.kstr rfl)
    obtain ⟨u, e4, u1⟩ := str_open Try.underlying9 (hf 4 _ rfl 9 4 1 [c4] rfl rfl Try.kstr rfl)
    obtain ⟨v, l, e5, hr, hq⟩ := edits_in (hf 5 _ rfl 39 5 1 [c5] rfl rfl Try.kedits rfl)
    obtain ⟨p, e6, p0, p1⟩ := int_open Try.underlying25 (hf 6 _ rfl 25 6 1 [c6] rfl rfl Try.k64 rfl)
    obtain ⟨q, e7, q0, q1⟩ := int_open Try.underlying25 (hf 7 _ rfl 25 7 1 [c7] rfl rfl Try.k64 rfl)
    obtain ⟨r, e8, r0, r1⟩ := int_open Try.underlying25 (hf 8 _ rfl 25 8 1 [c8] rfl rfl Try.k64 rfl)
    cases e0; cases e1; cases e2; cases e3; cases e4; cases e5; cases e6; cases e7; cases e8
    rw [u8min] at k0; rw [u8max] at k1; rw [u64min] at d0 p0 q0 r0
    exact ⟨c5, ⟨k, d, s, t, u, l, p, q, r⟩, rfl, hr, ⟨⟨k0, k1⟩, hq, ⟨d0, p0, q0, r0⟩, s1, t1, u1⟩⟩
/-- What an event that comes in is. -/
structure EvIn (x : Ev) : Prop where
  kind : 0 ≤ x.kind ∧ x.kind ≤ 255
  op : OpIn x.op
  by_ : 0 ≤ x.by_
set_option maxRecDepth 100000 in
theorem ev_in {cs : List Value} (h : Reads1 enc Try.prog W 44 cs) : ∃ e : Ev, EvRow (Till W.heap.size) W cs e ∧ EvIn e := by
  obtain ⟨hl, hf⟩ := field_open Try.underlying44 h
  rw [show Try.prog.cellsOf 44 = 14 from by kernel_rfl] at hl
  match cs, hl with
  | [c0, c1, c2, c3, c4, c5, c6, c7, c8, c9, c10, c11, c12, c13], _ =>
    obtain ⟨k, e0, k0, k1⟩ := int_open Try.underlying5 (hf 0 _ rfl 5 0 1 [c0] rfl rfl Try.k8 rfl)
    obtain ⟨p, e1, p0, p1⟩ := int_open Try.underlying3 (hf 1 _ rfl 3 1 1 [c1] rfl rfl Try.kint rfl)
    obtain ⟨v, o, e2, hr, ho⟩ := op_in (hf 2 _ rfl 41 2 9 [c2, c3, c4, c5, c6, c7, c8, c9, c10] rfl rfl Try.kop rfl)
    obtain ⟨y, e3, y0, y1⟩ := int_open Try.underlying25 (hf 3 _ rfl 25 11 1 [c11] rfl rfl Try.k64 rfl)
    obtain ⟨q, e4, q0, q1⟩ := int_open Try.underlying3 (hf 4 _ rfl 3 12 1 [c12] rfl rfl Try.kint rfl)
    obtain ⟨u, l, e5, hu⟩ := bools_in (hf 5 _ rfl 42 13 1 [c13] rfl rfl (by kernel_rfl) rfl)
    cases e0; cases e1; cases e3; cases e4; cases e5
    simp [opCells] at e2
    obtain ⟨rfl, rfl, rfl, rfl, rfl, rfl, rfl, rfl, rfl⟩ := e2
    rw [u8min] at k0; rw [u8max] at k1; rw [u64min] at y0
    exact ⟨⟨k, p, o, y, q, l⟩, ⟨_, _, rfl, hr, hu⟩, ⟨by simpa using k0, by simpa using k1⟩, ho, by simpa using y0⟩
theorem evs_in {cs : List Value} (h : Reads1 enc Try.prog W 32 cs) : ∃ (v : Value) (l : List Ev), cs = [v] ∧ EvsRow (Till W.heap.size) W v l ∧ ∀ e ∈ l, EvIn e := by
  obtain ⟨v, css, rfl, -, hr, he⟩ := slice_open Try.underlying32 (by kernel_rfl) (show 0 < 14 by decide) h
  obtain ⟨l, hl, hp⟩ := list_of_all (p := fun i (e : Ev) => ∀ hi : i < css.length, EvRow (Till W.heap.size) W css[i] e ∧ EvIn e) css.length fun i hi => by
    obtain ⟨e, h1, h2⟩ := ev_in (he i hi)
    exact ⟨e, fun _ => ⟨h1, h2⟩⟩
  refine ⟨v, l, rfl, ⟨css, hl.symm, by rw [hl]; exact hr, fun i cs e h1 h2 => ?_⟩, fun e hm => ?_⟩
  · obtain ⟨g1, rfl⟩ := List.getElem?_eq_some_iff.1 h1
    obtain ⟨g2, rfl⟩ := List.getElem?_eq_some_iff.1 h2
    exact (hp i g2 g1).1
  · obtain ⟨i, hi, rfl⟩ := List.getElem_of_mem hm
    exact (hp i hi (by omega)).2
end
end Go.Proofs.Ytlhpcgmbbeihiaa
namespace Go.Proofs.Ytlhpcgmbbeihiaa
open Go.RowKit

def FewEv (x : Ev) : Prop := x.op.name.length ≤ 100 ∧ x.op.to.length ≤ 100 ∧ x.op.text.length ≤ 100 ∧ x.op.edits.length ≤ 20 ∧ x.keep.length ≤ 20 ∧ ∀ e ∈ x.op.edits, e.text.length ≤ 100
def FewPost (l : List Ev) (w : World) (e : Ending) (w' : World) : Prop := ∃ b, e = .returned (.bool b) ∧ (b = true → l.length ≤ 60 ∧ ∀ x ∈ l, FewEv x) ∧ Ext w w'
theorem few_no {l : List Ev} {w w' : World} (h : Ext w w') : FewPost l w (.returned (.bool false)) w' := ⟨false, rfl, ⟨fun e => (by cases e), h⟩⟩
def FewTexts (l : List Edit) (k : Nat) : Prop := ∀ e ∈ l.take k, e.text.length ≤ 100
theorem fewTexts_succ {l : List Edit} {k : Nat} (hk : k < l.length) (h : FewTexts l k) (h1 : (l[k]).text.length ≤ 100) : FewTexts l (k + 1) := by
  intro e he
  rw [List.take_succ_eq_append_getElem hk] at he
  rcases List.mem_append.1 he with he | he
  · exact h e he
  · simp at he; subst he; exact h1
def FewEvs (l : List Ev) (k : Nat) : Prop := ∀ e ∈ l.take k, FewEv e
theorem fewEvs_succ {l : List Ev} {k : Nat} (hk : k < l.length) (h : FewEvs l k) (h1 : FewEv l[k]) : FewEvs l (k + 1) := by
  intro e he
  rw [List.take_succ_eq_append_getElem hk] at he
  rcases List.mem_append.1 he with he | he
  · exact h e he
  · simp at he; subst he; exact h1
theorem ev_op_range {w : World} {b o : Nat} {e : Ev} {ve vk : Value} (h : w.rangeAt b o (evCells e ve vk).toList) : w.rangeAt b (o + 2) (opCells e.op ve).toList := by
  intro j u hj
  have hj9 : j < 9 := by have := (List.getElem?_eq_some_iff.1 hj).1; simpa [opCells] using this
  rw [Nat.add_assoc]
  refine h (2 + j) u ?_
  have : j = 0 ∨ j = 1 ∨ j = 2 ∨ j = 3 ∨ j = 4 ∨ j = 5 ∨ j = 6 ∨ j = 7 ∨ j = 8 := by omega
  rcases this with rfl | rfl | rfl | rfl | rfl | rfl | rfl | rfl | rfl <;> exact hj

set_option maxRecDepth 100000 in
set_option maxHeartbeats 2000000 in
theorem few_any {S : Nat → Prop} (w : World) (v : Value) (l : List Ev) (h : EvsRow S w v l) :
    Calls Try.prog 18 #[v] w (FewPost l w) := by
  obtain ⟨hml, ⟨a, c, rfl, hn, hm⟩, hat⟩ := h.at_
  have HAT := Lib.hid hat
  unfold maxLen at hm hml
  clear h hat
  go_enter Try.func18, Try.ntmps18
  go_wp2
  go_loopw [3] (fun i wr => ∃ k : Nat, k ≤ l.length ∧ k ≤ 61 ∧ i = .int .i64 k ∧ Ext w wr ∧ FewEvs l k)
    (fun i _ => l.length - (intOf i).toNat)
  case atStart => exact ⟨0, Nat.zero_le _, by omega, rfl, Upd.refl _ _, fun e he => by simp at he⟩
  case round =>
    obtain ⟨k, hk, hk61, rfl, hx, hfe⟩ := hrel
    have HX := Lib.hid hx
    have HFE := Lib.hid hfe
    clear hx hfe
    by_cases hlt : k < l.length
    case neg =>
      have hkl : k = l.length := by omega
      have HFA := Lib.hid (show ∀ x ∈ l, FewEv x from by have := HFE.out; unfold FewEvs at this; rwa [hkl, List.take_length] at this)
      by_cases h60 : l.length ≤ 60
      · have q : decide ((l.length : Int) ≤ 60) = true := by simp; omega
        have H60 := Lib.hid h60
        clear h60 hkl
        go_wp2
        go_ret
        exact ⟨true, rfl, fun _ => ⟨H60.out, HFA.out⟩, HX.out⟩
      · have q : decide ((l.length : Int) ≤ 60) = false := by simp; omega
        clear h60 hkl
        go_wp2
        go_ret
        exact few_no HX.out
    by_cases hlt2 : k < 61
    case neg =>
      have q : decide ((l.length : Int) ≤ 60) = false := by simp; omega
      have q2 : decide ((k : Int) < 61) = false := by simp; omega
      go_wp2
      go_ret
      exact few_no HX.out
    have q2 : decide ((k : Int) < 61) = true := by simp; omega
    obtain ⟨b, o, c', ve, vk, e1, -, hra, hr1, hr2⟩ := HAT.out k hlt
    cases e1
    obtain ⟨x, hxq⟩ : ∃ x, x = l[k] := ⟨_, rfl⟩
    rw [← hxq] at hra hr1 hr2
    have hra' : World.rangeAt _ b (o + k * 14) (evCells x ve vk).toList := fun j u hj => HX.out.cell (hra j u hj) id
    have hop := ev_op_range hra'
    have p13 := hra' 13 vk rfl
    have hbw : b < wr.heap.size := World.block_lt_of_cell? wr ⟨b, o + k * 14 + 13, none⟩ p13
    have HR1 := Lib.hid (hr1.ext HX.out).addr
    have HXQ := Lib.hid hxq
    obtain ⟨ea, ec, rfl, hen, hem, -⟩ := hr1
    obtain ⟨ka, kc, rfl, hkn, hkm, -⟩ := hr2
    unfold maxLen at hem hkm
    have HOP := Lib.hid (show World.rangeAt _ b (o + k * 14 + 2) [.int .u8 x.op.kind, .int .u64 x.op.doc, str x.op.name, str x.op.to, str x.op.text, .slice ea x.op.edits.length ec, .int .u64 x.op.epoch, .int .u64 x.op.version, .int .u64 x.op.dur] from hop)
    clear hra hra' hxq hop
    by_cases hn : x.op.name.length ≤ 100
    case neg =>
      have q : (100 : Int) < (x.op.name.length : Int) := by omega
      clear hn
      go_wp2_with (refine wpList_load_mid rfl _ _ rfl b (o + k * 14 + 2) rfl [.int .u8 x.op.kind, .int .u64 x.op.doc, str x.op.name, str x.op.to, str x.op.text, .slice ea x.op.edits.length ec, .int .u64 x.op.epoch, .int .u64 x.op.version, .int .u64 x.op.dur] _ HOP.out Try.underlying41 rfl (by kernel_rfl) ?_)
      go_ret
      exact few_no (HX.out.alloc _)
    have qn : ¬ (100 : Int) < (x.op.name.length : Int) := by omega
    by_cases ht : x.op.to.length ≤ 100
    case neg =>
      have q : (100 : Int) < (x.op.to.length : Int) := by omega
      clear ht
      go_wp2_with (refine wpList_load_mid rfl _ _ rfl b (o + k * 14 + 2) rfl [.int .u8 x.op.kind, .int .u64 x.op.doc, str x.op.name, str x.op.to, str x.op.text, .slice ea x.op.edits.length ec, .int .u64 x.op.epoch, .int .u64 x.op.version, .int .u64 x.op.dur] _ HOP.out Try.underlying41 rfl (by kernel_rfl) ?_)
      go_ret
      exact few_no (HX.out.alloc _)
    have qt : ¬ (100 : Int) < (x.op.to.length : Int) := by omega
    by_cases hu : x.op.text.length ≤ 100
    case neg =>
      have q : (100 : Int) < (x.op.text.length : Int) := by omega
      clear hu
      go_wp2_with (refine wpList_load_mid rfl _ _ rfl b (o + k * 14 + 2) rfl [.int .u8 x.op.kind, .int .u64 x.op.doc, str x.op.name, str x.op.to, str x.op.text, .slice ea x.op.edits.length ec, .int .u64 x.op.epoch, .int .u64 x.op.version, .int .u64 x.op.dur] _ HOP.out Try.underlying41 rfl (by kernel_rfl) ?_)
      go_ret
      exact few_no (HX.out.alloc _)
    have qu : ¬ (100 : Int) < (x.op.text.length : Int) := by omega
    by_cases he : x.op.edits.length ≤ 20
    case neg =>
      have q : (20 : Int) < (x.op.edits.length : Int) := by omega
      clear he
      go_wp2_with (refine wpList_load_mid rfl _ _ rfl b (o + k * 14 + 2) rfl [.int .u8 x.op.kind, .int .u64 x.op.doc, str x.op.name, str x.op.to, str x.op.text, .slice ea x.op.edits.length ec, .int .u64 x.op.epoch, .int .u64 x.op.version, .int .u64 x.op.dur] _ HOP.out Try.underlying41 rfl (by kernel_rfl) ?_)
      go_ret
      exact few_no (HX.out.alloc _)
    have qe : ¬ (20 : Int) < (x.op.edits.length : Int) := by omega
    by_cases hk : x.keep.length ≤ 20
    case neg =>
      have q : (20 : Int) < (x.keep.length : Int) := by omega
      clear hk
      go_wp2_with (refine wpList_load_mid rfl _ _ rfl b (o + k * 14 + 2) rfl [.int .u8 x.op.kind, .int .u64 x.op.doc, str x.op.name, str x.op.to, str x.op.text, .slice ea x.op.edits.length ec, .int .u64 x.op.epoch, .int .u64 x.op.version, .int .u64 x.op.dur] _ HOP.out Try.underlying41 rfl (by kernel_rfl) ?_)
      go_ret
      exact few_no (HX.out.alloc _)
    have qk : ¬ (20 : Int) < (x.keep.length : Int) := by omega
    go_wp2_with (refine wpList_load_mid rfl _ _ rfl b (o + k * 14 + 2) rfl [.int .u8 x.op.kind, .int .u64 x.op.doc, str x.op.name, str x.op.to, str x.op.text, .slice ea x.op.edits.length ec, .int .u64 x.op.epoch, .int .u64 x.op.version, .int .u64 x.op.dur] _ HOP.out Try.underlying41 rfl (by kernel_rfl) ?_)
    obtain ⟨bx, hbx⟩ : ∃ bx, bx = wr.heap.size := ⟨_, rfl⟩
    obtain ⟨wa, hwa⟩ : ∃ wa, wa = wr.alloc (.cells (opCells x.op (.slice ea x.op.edits.length ec)) 41) := ⟨_, rfl⟩
    have hua : Ext wr wa := by rw [hwa]; exact (Upd.refl _ _).alloc _
    have hbb : wa.heap[bx]? = some (.cells (opCells x.op (.slice ea x.op.edits.length ec)) 41 (0, 0)) := by rw [hwa, hbx]; exact newAt _ _
    have HWA := Lib.hid hwa
    have HBX := Lib.hid hbx
    have HBB := Lib.hid hbb
    have HXA := Lib.hid (HX.out.trans hua)
    have HUA := Lib.hid hua
    have HF5 := Lib.hid (And.intro hn (And.intro ht (And.intro hu (And.intro he hk))))
    rw [show wr.alloc (.cells #[.int .u8 x.op.kind, .int .u64 x.op.doc, str x.op.name, str x.op.to, str x.op.text, .slice ea x.op.edits.length ec, .int .u64 x.op.epoch, .int .u64 x.op.version, .int .u64 x.op.dur] 41) = wa from HWA.out.symm, show wr.heap.size = bx from HBX.out.symm]
    clear hwa hbx hbb hua qn qt qu qe qk hn ht hu hk p13 hbw hkn hkm
    go_loopw [5] (fun j w5 => ∃ i : Nat, i ≤ x.op.edits.length ∧ j = .int .i64 i ∧ Ext wa w5 ∧ FewTexts x.op.edits i) (fun j _ => x.op.edits.length - (intOf j).toNat)
    case atStart => exact ⟨0, Nat.zero_le _, rfl, Upd.refl _ _, fun e he => by simp at he⟩
    case round =>
      obtain ⟨i, hi, rfl, hx5, hft⟩ := hrel
      have HX5 := Lib.hid hx5
      have HFT := Lib.hid hft
      have z5 := hx5.cell (cellAt HBB.out 5 (.slice ea x.op.edits.length ec) rfl) id
      clear hx5 hft
      by_cases hie : i < x.op.edits.length
      · obtain ⟨b1, o1, c1', q1, -, -, -, hc1⟩ := HR1.out (by omega)
        cases q1
        obtain ⟨-, -, p3⟩ := edit_cells hc1 i hie
        have p3 := (HUA.out.trans HX5.out).cell p3 id
        clear hc1
        by_cases h1 : (x.op.edits[i]).text.length ≤ 100
        · have q : ¬ (100 : Int) < ((x.op.edits[i]).text.length : Int) := by omega
          have H1 := Lib.hid h1
          clear h1
          go_wp2
          go_roundw
          case rel => exact ⟨i + 1, by omega, by go_num, HX5.out, fewTexts_succ hie HFT.out H1.out⟩
          case measure => simp [intOf]; omega
        · have q : (100 : Int) < ((x.op.edits[i]).text.length : Int) := by omega
          clear h1
          go_wp2
          go_ret
          exact few_no (HXA.out.trans HX5.out)
      · have hil : i = x.op.edits.length := by omega
        have HFX := Lib.hid (show FewEv x from by
          obtain ⟨a1, a2, a3, a4, a5⟩ := HF5.out
          refine ⟨a1, a2, a3, a4, a5, ?_⟩
          have := HFT.out; unfold FewTexts at this; rwa [hil, List.take_length] at this)
        clear hil
        go_wp2
        go_roundw
        case rel => exact ⟨k + 1, by omega, by omega, by go_num, HXA.out.trans HX5.out, fewEvs_succ hlt HFE.out (by rw [← HXQ.out]; exact HFX.out)⟩
        case measure => simp [intOf]; omega
end Go.Proofs.Ytlhpcgmbbeihiaa
