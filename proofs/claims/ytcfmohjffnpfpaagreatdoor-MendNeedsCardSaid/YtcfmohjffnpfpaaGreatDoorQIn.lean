/-
  WHAT A ROW OF THIS SEAT GIVES ITS WALK: versions, ten cells each. No condition.
-/
import Derived.Test.YtcfmohjffnpfpaaGreatDoorQRow
import Derived.Test.YtcfmohjffnpfpaaGreatDoorEvShut
namespace Go.Proofs.YtcfmohjffnpfpaaGreatDoor
open Go Go.ChangeShapes Go.WideShapes Go.ChangeAt Go.RowKit

section
variable {H : Type} {enc : TypeId × Value → H} {P : Program} {W : World}
abbrev Reads1 (enc : TypeId × Value → H) (P : Program) (W : World) (t : TypeId) (cs : List Value) : Prop := ∃ n y, DataW.trod enc P W 0 (fun _ => true) true n t cs = some y
theorem field_open {t : TypeId} {cs : List Value} {fs : Array Field} (ht : P.underlying t = some (.struct fs)) (h : Reads1 enc P W t cs) : cs.length = P.cellsOf t ∧
    ∀ (i : Nat) (f : Field), fs[i]? = some f → ∀ (ty : TypeId) (off n : Nat) (cs' : List Value), f.type = ty → f.offset = off → P.cellsOf ty = n → (cs.drop off).take n = cs' → Reads1 enc P W ty cs' := by
  obtain ⟨fuel, x, h⟩ := h
  obtain ⟨xs, n, -, -, hl, hxl, hf⟩ := DataW.trod_struct ht h
  refine ⟨hl, fun i f hi ty off m cs' e1 e2 e3 hcs => ?_⟩
  subst e1 e2 e3
  have hlt : i < fs.size := (Array.getElem?_eq_some_iff.1 hi).1
  have := hf i f hi
  rw [hcs, List.getElem?_eq_getElem (show i < xs.length by omega)] at this
  exact ⟨n, _, this⟩
theorem int_open {t : TypeId} {k : IntKind} {cs : List Value} (ht : P.underlying t = some (.int k)) (h : Reads1 enc P W t cs) : ∃ n, cs = [.int k n] ∧ k.min ≤ n ∧ n ≤ k.max := by
  obtain ⟨fuel, x, h⟩ := h
  obtain ⟨n, h1, -, h3⟩ := DataW.trod_int ht h
  simp [Lit.wf] at h3
  exact ⟨n, h1, h3⟩
end
section
variable {H : Type} {enc : TypeId × Value → H} {W : World}
theorem u64min : IntKind.u64.min = 0 := by decide
theorem u64max : IntKind.u64.max = 18446744073709551615 := by decide
theorem Tryz.k64 : Tryz.prog.cellsOf 31 = 1 := by kernel_rfl
theorem bool_open {t : TypeId} {cs : List Value} (ht : Tryz.prog.underlying t = some .bool) (h : Reads1 enc Tryz.prog W t cs) : ∃ b, cs = [.bool b] := by
  obtain ⟨fuel, x, h⟩ := h
  obtain ⟨b, h1, -⟩ := DataW.trod_bool ht h
  exact ⟨b, h1⟩
theorem str_open {t : TypeId} {cs : List Value} (ht : Tryz.prog.underlying t = some .string) (h : Reads1 enc Tryz.prog W t cs) : ∃ s : List UInt8, cs = [str s] := by
  obtain ⟨fuel, x, h⟩ := h
  obtain ⟨s, h1, -⟩ := DataW.trod_string ht h
  obtain ⟨⟨l⟩⟩ := s
  exact ⟨l, h1⟩
theorem u64_in {cs : List Value} (h : Reads1 enc Tryz.prog W 31 cs) : ∃ n : Nat, cs = [.int .u64 n] := by
  obtain ⟨a, e1, a0, -⟩ := int_open Tryz.underlying31 h
  have u64min : IntKind.u64.min = 0 := by decide
  rw [u64min] at a0
  obtain ⟨n, rfl⟩ := Int.eq_ofNat_of_zero_le a0
  exact ⟨n, e1⟩
theorem Tryz.kstr : Tryz.prog.cellsOf 9 = 1 := by kernel_rfl
theorem Tryz.kbool : Tryz.prog.cellsOf 4 = 1 := by kernel_rfl
theorem Tryz.kref : Tryz.prog.cellsOf 57 = 2 := by kernel_rfl
theorem Tryz.kver : Tryz.prog.cellsOf 59 = 10 := by kernel_rfl
theorem ref_in {cs : List Value} (h : Reads1 enc Tryz.prog W 57 cs) : ∃ a b : Nat, cs = [.int .u64 a, .int .u64 b] := by
  obtain ⟨hl, hf⟩ := field_open Tryz.underlying57 h
  rw [Tryz.kref] at hl
  match cs, hl with
  | [c0, c1], _ =>
    obtain ⟨a, e0⟩ := u64_in (hf 0 _ rfl 31 0 1 [c0] rfl rfl Tryz.k64 rfl)
    obtain ⟨b, e1⟩ := u64_in (hf 1 _ rfl 31 1 1 [c1] rfl rfl Tryz.k64 rfl)
    cases e0; cases e1
    exact ⟨a, b, rfl⟩
theorem ver_in {cs : List Value} (h : Reads1 enc Tryz.prog W 59 cs) : ∃ x : Vn, cs = encV x := by
  obtain ⟨hl, hf⟩ := field_open Tryz.underlying59 h
  rw [Tryz.kver] at hl
  match cs, hl with
  | [c0, c1, c2, c3, c4, c5, c6, c7, c8, c9], _ =>
    obtain ⟨n, e0⟩ := u64_in (hf 0 _ rfl 31 0 1 [c0] rfl rfl Tryz.k64 rfl)
    obtain ⟨bs, e1⟩ := u64_in (hf 1 _ rfl 31 1 1 [c1] rfl rfl Tryz.k64 rfl)
    obtain ⟨p, e2⟩ := u64_in (hf 2 _ rfl 31 2 1 [c2] rfl rfl Tryz.k64 rfl)
    obtain ⟨i, e3⟩ := u64_in (hf 3 _ rfl 31 3 1 [c3] rfl rfl Tryz.k64 rfl)
    obtain ⟨s, e4⟩ := u64_in (hf 4 _ rfl 31 4 1 [c4] rfl rfl Tryz.k64 rfl)
    obtain ⟨ra, rb, e5⟩ := ref_in (hf 5 _ rfl 57 5 2 [c5, c6] rfl rfl Tryz.kref rfl)
    obtain ⟨tx, e7⟩ := str_open Tryz.underlying9 (hf 6 _ rfl 9 7 1 [c7] rfl rfl Tryz.kstr rfl)
    obtain ⟨il, e8⟩ := bool_open Tryz.underlying4 (hf 7 _ rfl 4 8 1 [c8] rfl rfl Tryz.kbool rfl)
    obtain ⟨hd, e9⟩ := bool_open Tryz.underlying4 (hf 8 _ rfl 4 9 1 [c9] rfl rfl Tryz.kbool rfl)
    cases e0; cases e1; cases e2; cases e3; cases e4; cases e5; cases e7; cases e8; cases e9
    exact ⟨⟨n, bs, p, i, s, ra, rb, tx, il, hd⟩, rfl⟩
end
theorem flat_at {m : Nat} {css : List (List Value)} (hm : ∀ cs ∈ css, cs.length = m) {i j : Nat} (hi : i < css.length) (hj : j < m) : css.flatten[i * m + j]? = (css[i])[j]? := by
  induction css generalizing i with
  | nil => simp at hi
  | cons c css ih =>
    have hc : c.length = m := hm c (by simp)
    cases i with
    | zero => simp only [List.flatten_cons, Nat.zero_mul, Nat.zero_add, List.getElem_cons_zero]; exact List.getElem?_append_left (by omega)
    | succ i =>
      simp only [List.flatten_cons, List.getElem_cons_succ]
      rw [List.getElem?_append_right (by rw [hc, Nat.succ_mul]; omega), hc, show (i + 1) * m + j - m = i * m + j from by rw [Nat.succ_mul]; omega]
      exact ih (fun cs h => hm cs (by simp [h])) (by simpa using hi)

section
variable {H : Type} {enc : TypeId × Value → H} {P : Program} {W : World}
theorem list_of_all {α : Type} {p : Nat → α → Prop} : ∀ (n : Nat), (∀ i, i < n → ∃ x, p i x) → ∃ l : List α, l.length = n ∧ ∀ i (h : i < l.length), p i l[i]
  | 0, _ => ⟨[], rfl, fun i h => absurd h (Nat.not_lt_zero _)⟩
  | n + 1, h => by
    obtain ⟨l, hl, hp⟩ := list_of_all n fun i hi => h i (by omega)
    obtain ⟨x, hx⟩ := h n (by omega)
    refine ⟨l ++ [x], by simp [hl], fun i hi => ?_⟩
    by_cases hin : i < l.length
    · rw [List.getElem_append_left hin]; exact hp i hin
    · have : i = l.length := by simp at hi; omega
      subst this
      simp [hl] at hx ⊢; exact hx
/-- A slice that can be read: its elements' cells. -/
theorem slice_open {t e : TypeId} {sz : Nat} (ht : P.underlying t = some (.slice e)) (hc : P.cellsOf e = sz) (h0 : 0 < sz) {cs : List Value} (h : Reads1 enc P W t cs) :
    ∃ (v : Value) (css : List (List Value)), cs = [v] ∧ (∀ c ∈ css, c.length = sz) ∧ Row (Till W.heap.size) W v css.length css.flatten ∧ ∀ i (hi : i < css.length), Reads1 enc P W e css[i] := by
  obtain ⟨fuel, x, h⟩ := h
  rcases Go.Deep.open_slice ht h with ⟨rfl, -⟩ | ⟨a, len, cap, m, n, D, Pl, rfl, -, hlc, hcm, hm, -, hx⟩
  · exact ⟨_, [], rfl, by simp, Row.nil _ _, fun i hi => by simp at hi⟩
  · simp only [if_true] at hm
    obtain ⟨css, hl, hp⟩ := list_of_all (p := fun i (c : List Value) => W.cells? 0 (a.add (i * P.cellsOf e)) (P.cellsOf e) = some c ∧ DataW.trod enc P W 0 (fun _ => true) true n e c = some (D i, Pl i)) len (fun i hi => hx i (by omega))
    have hsz : ∀ c ∈ css, c.length = sz := fun c hmem => by
      obtain ⟨i, hi, rfl⟩ := List.getElem_of_mem hmem
      exact (World.cells?_some (hp i hi).1).2.1.trans hc
    refine ⟨_, css, rfl, hsz, ⟨some a, cap, by rw [hl], by omega, hcm, fun e => (by cases e), fun x e g => ?_, fun b o e j u hj => ?_⟩, fun i hi => ⟨n, _, (hp i hi).2⟩⟩
    · cases e
      have hpos : 0 < css.length := by
        rcases g with g | g
        · exact g
        · cases css with
          | nil => simp at g
          | cons c r => simp
      have hq := (World.cells?_some (hp 0 hpos).1).2.2 0 (by omega)
      have hl0 : (css[0]).length = sz := hsz _ (List.getElem_mem _)
      rw [Nat.zero_mul, show (a.add 0).add 0 = a from by simp [Addr.add], List.getElem?_eq_getElem (by omega)] at hq
      refine ⟨?_, World.block_lt_of_cell? W a hq⟩
      unfold World.cell? at hq
      split at hq
      · split at hq
        · cases hq
        · rename_i hs; simpa using hs
      · cases hq
    · cases e
      have hjl : j < css.length * sz := by
        have h1 := (List.getElem?_eq_some_iff.1 hj).1
        have h2 : ∀ l : List (List Value), (∀ c ∈ l, c.length = sz) → l.flatten.length = l.length * sz := by
          intro l; induction l with
          | nil => intro _; simp
          | cons c r ih => intro hh; rw [List.flatten_cons, List.length_append, ih (fun d hd => hh d (by simp [hd])), hh c (by simp), List.length_cons, Nat.succ_mul]; omega
        rw [h2 css hsz] at h1; exact h1
      have hi : j / sz < css.length := by rw [Nat.div_lt_iff_lt_mul h0]; exact hjl
      have hr : j % sz < sz := Nat.mod_lt _ h0
      have hdm : j / sz * sz + j % sz = j := by rw [Nat.mul_comm]; exact Nat.div_add_mod j sz
      rw [← hdm, flat_at hsz hi hr] at hj
      have hq := (World.cells?_some (hp (j / sz) hi).1).2.2 (j % sz) (by omega)
      rw [hc] at hq
      rw [hj] at hq
      rw [← hq, Go.Deep.add_add, hdm]
      congr 1
      unfold Addr.add; split <;> simp_all
theorem map_of_all {α β : Type} {q : α → Prop} (f : α → β) (l : List β) (h : ∀ i (hi : i < l.length), ∃ a, l[i] = f a ∧ q a) : ∃ m : List α, l = m.map f ∧ ∀ a ∈ m, q a := by
  induction l with
  | nil => exact ⟨[], rfl, by simp⟩
  | cons b l ih =>
    obtain ⟨m, hm, hq⟩ := ih fun i hi => h (i + 1) (by simp; omega)
    obtain ⟨a, ha, hqa⟩ := h 0 (by simp)
    refine ⟨a :: m, by rw [hm]; simpa using ha, fun x hx => ?_⟩
    rcases List.mem_cons.1 hx with rfl | hx
    · exact hqa
    · exact hq x hx
end
section
variable {H : Type} {enc : TypeId × Value → H} {W : World}
theorem vers_in {cs : List Value} (h : Reads1 enc Tryz.prog W 23 cs) : ∃ (v : Value) (l : List Vn), cs = [v] ∧ VRow (Till W.heap.size) W v l := by
  obtain ⟨v, css, rfl, -, hr, he⟩ := slice_open Tryz.underlying23 Tryz.kver (by decide) h
  obtain ⟨l, rfl, -⟩ := map_of_all (q := fun _ => True) encV css fun i hi => by
    obtain ⟨b, h1⟩ := ver_in (he i hi)
    exact ⟨b, h1, trivial⟩
  rw [List.length_map] at hr
  exact ⟨v, l, rfl, hr⟩
end
end Go.Proofs.YtcfmohjffnpfpaaGreatDoor
