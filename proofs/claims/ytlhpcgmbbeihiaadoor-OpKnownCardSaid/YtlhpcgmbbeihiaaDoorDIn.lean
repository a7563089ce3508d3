/-
  WHAT COMES IN: an operation, a row of answers as cells; the library's table of powers of ten as the row's condition lays it. No condition but that they can be read.
-/
import Derived.Test.YtlhpcgmbbeihiaaDoorTells
import Derived.Test.YtlhpcgmbbeihiaaDoorShows
import Derived.Test.YtlhpcgmbbeihiaaDoorBytesLaw
import Derived.Test.YtlhpcgmbbeihiaaDoorBackLaw
import Derived.Test.YtlhpcgmbbeihiaaDoorShut
import Derived.Test.YtlhpcgmbbeihiaaDoorRows
import Derived.Deep.Slices
import Derived.LaidMore
import Derived.Stop.LaidErr
import Derived.Stop.Joined
import Derived.Lib.LaidTab
namespace Go.Proofs.YtlhpcgmbbeihiaaDoor
open Go.ChangeShapes Go.WideShapes Go.ChangeAt Go.RowKit

theorem flat_at {m : Nat} {css : List (List Value)} (hm : ∀ cs ∈ css, cs.length = m) {i j : Nat} (hi : i < css.length) (hj : j < m) : css.flatten[i * m + j]? = (css[i])[j]? := by
  induction css generalizing i with
  | nil => simp at hi
  | cons c css ih =>
    have hc : c.length = m := hm c (by simp)
    cases i with
    | zero => simp only [List.flatten_cons, Nat.zero_mul, Nat.zero_add, List.getElem_cons_zero]; exact List.getElem?_append_left (by omega)
    | succ i =>
      simp only [List.flatten_cons, List.getElem_cons_succ]
      rw [List.getElem?_append_right (by rw [hc, Nat.succ_mul]; omega), hc, show (i + 1) * m + j - m = i * m + j from by rw [Nat.succ_mul]; omega]
      exact ih (fun cs h => hm cs (by simp [h])) (by simpa using hi)

section
variable {H : Type} {enc : TypeId × Value → H} {P : Program} {W : World}
abbrev Reads1 (enc : TypeId × Value → H) (P : Program) (W : World) (t : TypeId) (cs : List Value) : Prop := ∃ n y, DataW.trod enc P W 0 (fun _ => true) true n t cs = some y

theorem list_of_all {α : Type} {p : Nat → α → Prop} : ∀ (n : Nat), (∀ i, i < n → ∃ x, p i x) → ∃ l : List α, l.length = n ∧ ∀ i (h : i < l.length), p i l[i]
  | 0, _ => ⟨[], rfl, fun i h => absurd h (Nat.not_lt_zero _)⟩
  | n + 1, h => by
    obtain ⟨l, hl, hp⟩ := list_of_all n fun i hi => h i (by omega)
    obtain ⟨x, hx⟩ := h n (by omega)
    refine ⟨l ++ [x], by simp [hl], fun i hi => ?_⟩
    by_cases hin : i < l.length
    · rw [List.getElem_append_left hin]; exact hp i hin
    · have : i = l.length := by simp at hi; omega
      subst this
      simp [hl] at hx ⊢; exact hx
/-- A slice that can be read: its elements' cells. -/
theorem slice_open {t e : TypeId} {sz : Nat} (ht : P.underlying t = some (.slice e)) (hc : P.cellsOf e = sz) (h0 : 0 < sz) {cs : List Value} (h : Reads1 enc P W t cs) :
    ∃ (v : Value) (css : List (List Value)), cs = [v] ∧ (∀ c ∈ css, c.length = sz) ∧ Row (Till W.heap.size) W v css.length css.flatten ∧ ∀ i (hi : i < css.length), Reads1 enc P W e css[i] := by
  obtain ⟨fuel, x, h⟩ := h
  rcases Go.Deep.open_slice ht h with ⟨rfl, -⟩ | ⟨a, len, cap, m, n, D, Pl, rfl, -, hlc, hcm, hm, -, hx⟩
  · exact ⟨_, [], rfl, by simp, Row.nil _ _, fun i hi => by simp at hi⟩
  · simp only [if_true] at hm
    obtain ⟨css, hl, hp⟩ := list_of_all (p := fun i (c : List Value) => W.cells? 0 (a.add (i * P.cellsOf e)) (P.cellsOf e) = some c ∧ DataW.trod enc P W 0 (fun _ => true) true n e c = some (D i, Pl i)) len (fun i hi => hx i (by omega))
    have hsz : ∀ c ∈ css, c.length = sz := fun c hmem => by
      obtain ⟨i, hi, rfl⟩ := List.getElem_of_mem hmem
      exact (World.cells?_some (hp i hi).1).2.1.trans hc
    refine ⟨_, css, rfl, hsz, ⟨some a, cap, by rw [hl], by omega, hcm, fun e => (by cases e), fun x e g => ?_, fun b o e j u hj => ?_⟩, fun i hi => ⟨n, _, (hp i hi).2⟩⟩
    · cases e
      have hpos : 0 < css.length := by
        rcases g with g | g
        · exact g
        · cases css with
          | nil => simp at g
          | cons c r => simp
      have hq := (World.cells?_some (hp 0 hpos).1).2.2 0 (by omega)
      have hl0 : (css[0]).length = sz := hsz _ (List.getElem_mem _)
      rw [Nat.zero_mul, show (a.add 0).add 0 = a from by simp [Addr.add], List.getElem?_eq_getElem (by omega)] at hq
      refine ⟨?_, World.block_lt_of_cell? W a hq⟩
      unfold World.cell? at hq
      split at hq
      · split at hq
        · cases hq
        · rename_i hs; simpa using hs
      · cases hq
    · cases e
      have hjl : j < css.length * sz := by
        have h1 := (List.getElem?_eq_some_iff.1 hj).1
        have h2 : ∀ l : List (List Value), (∀ c ∈ l, c.length = sz) → l.flatten.length = l.length * sz := by
          intro l; induction l with
          | nil => intro _; simp
          | cons c r ih => intro hh; rw [List.flatten_cons, List.length_append, ih (fun d hd => hh d (by simp [hd])), hh c (by simp), List.length_cons, Nat.succ_mul]; omega
        rw [h2 css hsz] at h1; exact h1
      have hi : j / sz < css.length := by rw [Nat.div_lt_iff_lt_mul h0]; exact hjl
      have hr : j % sz < sz := Nat.mod_lt _ h0
      have hdm : j / sz * sz + j % sz = j := by rw [Nat.mul_comm]; exact Nat.div_add_mod j sz
      rw [← hdm, flat_at hsz hi hr] at hj
      have hq := (World.cells?_some (hp (j / sz) hi).1).2.2 (j % sz) (by omega)
      rw [hc] at hq
      rw [hj] at hq
      rw [← hq, Go.Deep.add_add, hdm]
      congr 1
      unfold Addr.add; split <;> simp_all
theorem field_open {t : TypeId} {cs : List Value} {fs : Array Field} (ht : P.underlying t = some (.struct fs)) (h : Reads1 enc P W t cs) : cs.length = P.cellsOf t ∧
    ∀ (i : Nat) (f : Field), fs[i]? = some f → ∀ (ty : TypeId) (off n : Nat) (cs' : List Value), f.type = ty → f.offset = off → P.cellsOf ty = n → (cs.drop off).take n = cs' → Reads1 enc P W ty cs' := by
  obtain ⟨fuel, x, h⟩ := h
  obtain ⟨xs, n, -, -, hl, hxl, hf⟩ := DataW.trod_struct ht h
  refine ⟨hl, fun i f hi ty off m cs' e1 e2 e3 hcs => ?_⟩
  subst e1 e2 e3
  have hlt : i < fs.size := (Array.getElem?_eq_some_iff.1 hi).1
  have := hf i f hi
  rw [hcs, List.getElem?_eq_getElem (show i < xs.length by omega)] at this
  exact ⟨n, _, this⟩
theorem int_open {t : TypeId} {k : IntKind} {cs : List Value} (ht : P.underlying t = some (.int k)) (h : Reads1 enc P W t cs) : ∃ n, cs = [.int k n] ∧ k.min ≤ n ∧ n ≤ k.max := by
  obtain ⟨fuel, x, h⟩ := h
  obtain ⟨n, h1, -, h3⟩ := DataW.trod_int ht h
  simp [Lit.wf] at h3
  exact ⟨n, h1, h3⟩
theorem str_open {t : TypeId} {cs : List Value} (ht : P.underlying t = some .string) (h : Reads1 enc P W t cs) : ∃ s : List UInt8, cs = [str s] ∧ s.length ≤ maxLen := by
  obtain ⟨fuel, x, h⟩ := h
  obtain ⟨s, h1, -, h3⟩ := DataW.trod_string ht h
  obtain ⟨⟨l⟩⟩ := s
  exact ⟨l, h1, h3⟩
theorem bool_open {t : TypeId} {cs : List Value} (ht : P.underlying t = some .bool) (h : Reads1 enc P W t cs) : ∃ b, cs = [.bool b] := by
  obtain ⟨fuel, x, h⟩ := h
  obtain ⟨b, h1, -⟩ := DataW.trod_bool ht h
  exact ⟨b, h1⟩
theorem map_of_all {α β : Type} {q : α → Prop} (f : α → β) (l : List β) (h : ∀ i (hi : i < l.length), ∃ a, l[i] = f a ∧ q a) : ∃ m : List α, l = m.map f ∧ ∀ a ∈ m, q a := by
  induction l with
  | nil => exact ⟨[], rfl, by simp⟩
  | cons b l ih =>
    obtain ⟨m, hm, hq⟩ := ih fun i hi => h (i + 1) (by simp; omega)
    obtain ⟨a, ha, hqa⟩ := h 0 (by simp)
    refine ⟨a :: m, by rw [hm]; simpa using ha, fun x hx => ?_⟩
    rcases List.mem_cons.1 hx with rfl | hx
    · exact hqa
    · exact hq x hx
end

section
variable {H : Type} {enc : TypeId × Value → H} {W : World}
theorem u8min : IntKind.u8.min = 0 := by decide
theorem u8max : IntKind.u8.max = 255 := by decide
theorem u64min : IntKind.u64.min = 0 := by decide
theorem i64min : IntKind.i64.min = -9223372036854775808 := by decide
theorem i64max : IntKind.i64.max = 9223372036854775807 := by decide
theorem Tryd.k8 : Tryd.prog.cellsOf 5 = 1 := by kernel_rfl
theorem Tryd.kint : Tryd.prog.cellsOf 3 = 1 := by kernel_rfl
theorem Tryd.k64 : Tryd.prog.cellsOf 22 = 1 := by kernel_rfl
theorem Tryd.kstr : Tryd.prog.cellsOf 9 = 1 := by kernel_rfl
theorem Tryd.kbool : Tryd.prog.cellsOf 4 = 1 := by kernel_rfl
theorem Tryd.kedits : Tryd.prog.cellsOf 23 = 1 := by kernel_rfl
theorem Tryd.kedit : Tryd.prog.cellsOf 64 = 3 := by kernel_rfl
theorem Tryd.kop : Tryd.prog.cellsOf 25 = 9 := by kernel_rfl

set_option maxRecDepth 100000 in
theorem edit_in {cs : List Value} (h : Reads1 enc Tryd.prog W 64 cs) : ∃ e : Edit, cs = Edit.cells e ∧ WfEdit e ∧ e.text.length ≤ maxLen := by
  obtain ⟨hl, hf⟩ := field_open Tryd.underlying64 h
  rw [Tryd.kedit] at hl
  match cs, hl with
  | [c0, c1, c2], _ =>
    obtain ⟨k, e0, k0, k1⟩ := int_open Tryd.underlying5 (hf 0 _ rfl 5 0 1 [c0] rfl rfl Tryd.k8 rfl)
    obtain ⟨n, e1, n0, n1⟩ := int_open Tryd.underlying3 (hf 1 _ rfl 3 1 1 [c1] rfl rfl Tryd.kint rfl)
    obtain ⟨s, e2, s1⟩ := str_open Tryd.underlying9 (hf 2 _ rfl 9 2 1 [c2] rfl rfl Tryd.kstr rfl)
    cases e0; cases e1; cases e2
    rw [u8min] at k0; rw [u8max] at k1; rw [i64min] at n0; rw [i64max] at n1
    exact ⟨⟨k, n, s⟩, rfl, ⟨k0, k1, n0, n1⟩, s1⟩
def EditIn (e : Edit) : Prop := WfEdit e ∧ e.text.length ≤ maxLen
theorem edits_in {cs : List Value} (h : Reads1 enc Tryd.prog W 23 cs) : ∃ (v : Value) (l : List Edit), cs = [v] ∧ Row (Till W.heap.size) W v l.length (editCells l) ∧ ∀ e ∈ l, EditIn e := by
  obtain ⟨v, css, rfl, -, hr, he⟩ := slice_open Tryd.underlying23 Tryd.kedit (by decide) h
  obtain ⟨l, rfl, hq⟩ := map_of_all (q := EditIn) Edit.cells css fun i hi => by
    obtain ⟨e, h1, h2, h3⟩ := edit_in (he i hi)
    exact ⟨e, h1, h2, h3⟩
  rw [List.length_map] at hr
  exact ⟨v, l, rfl, hr, hq⟩
theorem u64max : IntKind.u64.max = 18446744073709551615 := by decide
set_option maxRecDepth 100000 in
theorem op_in {cs : List Value} (h : Reads1 enc Tryd.prog W 25 cs) : ∃ (v : Value) (o : Oper'), cs = (opCells o v).toList ∧ Row (Till W.heap.size) W v o.edits.length (editCells o.edits) ∧ WfOp o := by
  obtain ⟨hl, hf⟩ := field_open Tryd.underlying25 h
  rw [Tryd.kop] at hl
  match cs, hl with
  | [c0, c1, c2, c3, c4, c5, c6, c7, c8], _ =>
    obtain ⟨k, e0, k0, k1⟩ := int_open Tryd.underlying5 (hf 0 _ rfl 5 0 1 [c0] rfl rfl Tryd.k8 rfl)
    obtain ⟨d, e1, d0, d1⟩ := int_open Tryd.underlying22 (hf 1 _ rfl 22 1 1 [c1] rfl rfl Tryd.k64 rfl)
    obtain ⟨s, e2, s1⟩ := str_open Tryd.underlying9 (hf 2 _ rfl 9 2 1 [c2] rfl rfl Tryd.kstr rfl)
    obtain ⟨t, e3, t1⟩ := str_open Tryd.underlying9 (hf 3 _ rfl 9 3 1 [c3] rfl rfl Tryd.kstr rfl)
    obtain ⟨u, e4, u1⟩ := str_open Tryd.underlying9 (hf 4 _ rfl 9 4 1 [c4] rfl rfl Tryd.kstr rfl)
    obtain ⟨v, l, e5, hr, hq⟩ := edits_in (hf 5 _ rfl 23 5 1 [c5] rfl rfl Tryd.kedits rfl)
    obtain ⟨p, e6, p0, p1⟩ := int_open Tryd.underlying22 (hf 6 _ rfl 22 6 1 [c6] rfl rfl Tryd.k64 rfl)
    obtain ⟨q, e7, q0, q1⟩ := int_open Tryd.underlying22 (hf 7 _ rfl 22 7 1 [c7] rfl rfl Tryd.k64 rfl)
    obtain ⟨r, e8, r0, r1⟩ := int_open Tryd.underlying22 (hf 8 _ rfl 22 8 1 [c8] rfl rfl Tryd.k64 rfl)
    cases e0; cases e1; cases e2; cases e3; cases e4; cases e5; cases e6; cases e7; cases e8
    rw [u8min] at k0; rw [u8max] at k1; rw [u64min] at d0 p0 q0 r0; rw [u64max] at d1 p1 q1 r1
    exact ⟨c5, ⟨k, d, s, t, u, l, p, q, r⟩, rfl, hr, ⟨k0, k1, ⟨d0, by show d < 18446744073709551616; omega⟩, ⟨p0, by show p < 18446744073709551616; omega⟩, ⟨q0, by show q < 18446744073709551616; omega⟩, ⟨r0, by show r < 18446744073709551616; omega⟩, fun e he => (hq e he).1⟩⟩
theorem texts_in {cs : List Value} (h : Reads1 enc Tryd.prog W 51 cs) : ∃ (v : Value) (l : List (List UInt8)), cs = [v] ∧ Texts (Till W.heap.size) W v l := by
  obtain ⟨v, css, rfl, -, hr, he⟩ := slice_open Tryd.underlying51 Tryd.kstr (by decide) h
  obtain ⟨l, rfl, -⟩ := map_of_all (q := fun _ => True) (fun b : List UInt8 => [str b]) css fun i hi => by
    obtain ⟨b, h1, -⟩ := str_open Tryd.underlying9 (he i hi)
    exact ⟨b, h1, trivial⟩
  rw [List.length_map] at hr
  refine ⟨v, l, rfl, ?_⟩
  have : ∀ l : List (List UInt8), (l.map fun b : List UInt8 => [str b]).flatten = strs l := by
    intro l
    induction l with
    | nil => rfl
    | cons b l ih => simp [strs] at ih ⊢; exact ih
  rwa [this] at hr
set_option maxRecDepth 100000 in
theorem ans_in {cs : List Value} (h : Reads1 enc Tryd.prog W 53 cs) : ∃ p : Ans × Value, cs = (ansCells p.1 p.2).toList ∧ Texts (Till W.heap.size) W p.2 p.1.names ∧ AnsIn p.1 := by
  obtain ⟨hl, hf⟩ := field_open Tryd.underlying53 h
  rw [show Tryd.prog.cellsOf 53 = 4 from by kernel_rfl] at hl
  match cs, hl with
  | [c0, c1, c2, c3], _ =>
    obtain ⟨n, e0, n0, n1⟩ := int_open Tryd.underlying30 (hf 0 _ rfl 30 0 1 [c0] rfl rfl (by kernel_rfl) rfl)
    obtain ⟨d, e1, d0, d1⟩ := int_open Tryd.underlying22 (hf 1 _ rfl 22 1 1 [c1] rfl rfl Tryd.k64 rfl)
    obtain ⟨s, e2, s1⟩ := str_open Tryd.underlying9 (hf 2 _ rfl 9 2 1 [c2] rfl rfl Tryd.kstr rfl)
    obtain ⟨v, l, e3, hr⟩ := texts_in (hf 3 _ rfl 51 3 1 [c3] rfl rfl (by kernel_rfl) rfl)
    cases e0; cases e1; cases e2; cases e3
    rw [i64min] at n0; rw [i64max] at n1; rw [u64min] at d0; rw [u64max] at d1
    exact ⟨(⟨n, d, s, l⟩, c3), rfl, hr, ⟨n0, n1, d0, by show d < 18446744073709551616; omega⟩⟩
theorem anss_in {cs : List Value} (h : Reads1 enc Tryd.prog W 49 cs) : ∃ (v : Value) (l : List (Ans × Value)), cs = [v] ∧ Row (Till W.heap.size) W v l.length (ansRow l) ∧ ∀ p ∈ l, Texts (Till W.heap.size) W p.2 p.1.names ∧ AnsIn p.1 := by
  obtain ⟨v, css, rfl, -, hr, he⟩ := slice_open Tryd.underlying49 (by kernel_rfl) (show 0 < 4 by decide) h
  obtain ⟨l, rfl, hq⟩ := map_of_all (q := fun p : Ans × Value => Texts (Till W.heap.size) W p.2 p.1.names ∧ AnsIn p.1) (fun p : Ans × Value => (ansCells p.1 p.2).toList) css fun i hi => by
    obtain ⟨p, h1, h2, h3⟩ := ans_in (he i hi)
    exact ⟨p, h1, h2, h3⟩
  rw [List.length_map] at hr
  exact ⟨v, l, rfl, hr, hq⟩
end
theorem Tryd.gPow : Tryd.prog.globalNamed "internal/strconv.uint64pow10" = some 1 := by kernel_rfl
/-- What the row's condition says of the library's table. -/
theorem tab_of {W : World} (h : laidMetH Tryd.prog Rows.opBytesRow.laid W) : Tab W := by
  rw [MakeChecks.laidMetH_plain _ _ _ (by kernel_rfl)] at h
  exact Lib.tabIs_of_head Tryd.gPow (by kernel_rfl) Tryd.underlying140 Tryd.underlying22 (by kernel_rfl) (by kernel_rfl) (h.tail.tail)
end Go.Proofs.YtlhpcgmbbeihiaaDoor
