/-
  WHAT A ROW OF THIS SEAT GIVES ITS WALK: the library's variables, and what comes in: numbers, Names, texts. No condition.
-/
import Derived.Test.YtfpioijfocmfcaaGreatDoorYRow
import Derived.Test.YtfpioijfocmfcaaGreatDoorNParse
import Derived.Test.YtfpioijfocmfcaaGreatDoorRows
import Derived.HandedShaped
import Derived.Shelf.Vars
import Derived.Handed
import Derived.Deep.Slices
import Derived.LaidMore
import Derived.Stop.LaidErr
import Derived.Stop.Joined
import Derived.Lib.LaidTab
import Derived.SevenTiedAt
import Derived.Lay
import Derived.ProofKit
import Derived.OpenShut
import Derived.ShutString
import Derived.ChangeOld
import Derived.Below
namespace Go.Proofs.YtfpioijfocmfcaaGreatDoor
section
open Go Go.ChangeShapes Go.WideShapes Go.RowKit

variable {H : Type} {enc : TypeId × Value → H}
/-- The plain wrap, the variables' condition and the world's shape kept. -/
theorem returnsInHanded_and_shaped {a : Assume} {C : Checked} {os : Os} {f : FuncId} {fn : Func} {s : ChangeSpec} {conds : List PathCond} {apart fresh handsOn again : Bool} {X : World → Array Value → Prop}
    (hX : ∀ (w w' : World) (args : Array Value), w.heap = w'.heap → X w args → X w' args)
    (own : ownKnob C.prog.godebug = none) (started : os.Started) (noInit : C.prog.inits.idxOf? f = none) (hfn : C.prog.funcs[f]? = some fn)
    (witness : ∃ (w : World) (tape : Tape) (i : Input), w.os = os ∧ (w.forCall tape i).Shaped C.prog ∧ i.vars = [] ∧ Input.okWide C.prog (w.forCall tape i) .any w.heap.size f i ∧
      ((s.pre enc C.prog fn conds apart (w.forCall tape i).memory i.args ∧ X (w.forCall tape i).memory i.args) ∧ sizedMet enc C.prog fn (OpenSpec.ofChange s) apart (w.forCall tape i).memory i.args) ∧ a.holds C.prog (lone (Frame.enter C.prog f i.args .normal) [] (w.forCall tape i)))
    (contract : ∀ (W : World) (base : Nat) (args : Array Value) (ds gs : List (DataW H)) (before : List MemPlace),
      (∀ (j : Nat) t v, fn.params[j]? = some t → args[j]? = some v → Value.okWide C.prog W .any base t v) →
      DataW.Whole enc C.prog fn.params.toList s.vars apart W args.toList ds gs before →
      conds.all (PathCond.test C.prog ⟨fn.params.toList, ds, s.plain.varTypes C.prog, gs⟩) = true →
      (DataW.weightsEach C.prog (fn.params.toList ++ s.plain.varTypes C.prog) (ds ++ gs)).all (· ≤ reachBytes) = true → X W args → W.ShapedOpen C.prog →
      a.holds C.prog (lone (Frame.enter C.prog f args .normal) [] W) →
      Calls C.prog f args W fun e W' => ∃ v, e = .returned v ∧ s.post enc C.prog fn apart fresh handsOn again W args v W') :
    ReturnsInHanded a C os f .any (fun w args => (s.pre enc C.prog fn conds apart w args ∧ X w args) ∧ sizedMet enc C.prog fn (OpenSpec.ofChange s) apart w args) (s.post enc C.prog fn apart fresh handsOn again) := by
  refine returnsInHanded_of_calls own started noInit witness ?_
  intro w tape i _ hsh _ hok hpre hholds
  obtain ⟨_, _, _, fn', hfn', _, _, _, _, hval⟩ := hok
  have e : fn' = fn := Option.some.inj (hfn'.symm.trans hfn)
  subst e
  obtain ⟨⟨⟨ds, gs, before, hw, hc⟩, hx⟩, hz⟩ := hpre
  have hw' := DataW.Whole.of_heap (w' := w.forCall tape i) (by rfl) hw
  refine (contract (w.forCall tape i) w.heap.size i.args ds gs before hval hw' hc (hz.weights hw) (hX _ _ _ (by rfl) hx) hsh hholds).mono fun e W' ⟨v, he, hp⟩ => ?_
  subst he
  exact ChangeSpec.post_blind hp
theorem Tryz.gPow : Tryz.prog.globalNamed "internal/strconv.uint64pow10" = some 2 := by kernel_rfl
set_option maxRecDepth 100000 in
theorem tab_of {W : World} (h : laidMetH Tryz.prog Rows.viewOddRow.laid W) : Tab W := by
  rw [MakeChecks.laidMetH_plain _ _ _ (by kernel_rfl)] at h
  exact Lib.tabIs_of_head Tryz.gPow (by kernel_rfl) Tryz.underlying170 Tryz.underlying22 (by kernel_rfl) (by kernel_rfl) (h.tail.tail)
theorem Tryz.star : "*" ++ "errors.errorString" = "*errors.errorString" := by decide
set_option maxRecDepth 100000 in
theorem Tryz.rowErr (u : TypeId) (h : Tryz.prog.typeName? 3 u = some "*errors.errorString") : u = 180 :=
  typeName_ptr_named (nm := "errors.errorString") (by rw [Tryz.star]; kernel_rfl) (by kernel_rfl) (by decide) u (by rw [Tryz.star]; exact h)
set_option maxRecDepth 100000 in
theorem Tryz.cellsE : Tryz.prog.cellsOf 182 = 1 := by kernel_rfl
theorem Tryz.cellsS : Tryz.prog.cellsOf 9 = 1 := by kernel_rfl
theorem Tryz.gSyn : Tryz.prog.globalNamed "strconv.ErrSyntax" = some 0 := by kernel_rfl
theorem Tryz.gRng : Tryz.prog.globalNamed "strconv.ErrRange" = some 1 := by kernel_rfl
theorem Tryz.tSyn : (Tryz.prog.globals[0]?).map (·.type) = some 86 := by kernel_rfl
theorem Tryz.tRng : (Tryz.prog.globals[1]?).map (·.type) = some 86 := by kernel_rfl
set_option maxRecDepth 100000 in
theorem sent_of {W : World} {nm : String} {g : Nat} {bs : List UInt8} {rest : List (String × DataW Unit)} (hg : Tryz.prog.globalNamed nm = some g) (ht : (Tryz.prog.globals[g]?).map (·.type) = some 86)
    (h : laidMet Tryz.prog ((nm, .iface "*errors.errorString" (.ptr (.agg [.lit (.string bs)]))) :: rest) W) : ∃ ev, W.cell? ⟨g, 0, none⟩ = some ev ∧ (ev = .nilIface ∨ ∃ t p, ev = .iface t p) := by
  obtain ⟨ps, ⟨g0, t0, cs0, f0, p0, q0, hg0, ht0, hv0, hd0, _, e0⟩, hnd, hrows⟩ := h
  obtain rfl := Option.some.inj (hg.symm.trans hg0)
  obtain rfl := Option.some.inj (ht.symm.trans ht0)
  subst e0
  obtain ⟨l0⟩ := cs0
  have ok0 : ∀ u v, l0 = [.iface u v] → Value.okWide Tryz.prog W .any 0 u v := fun u v e => by
    subst e
    exact (hrows g 0 (by simp [MemPlace.row])).2 u v (by simpa using World.var?_cell hg0 hv0 0)
  obtain ⟨a0, s0, rfl, -, -, -, rfl⟩ := errorString_of_trod Tryz.underlying86 Tryz.rowErr Tryz.underlying180 Tryz.underlying182 rfl rfl Tryz.underlying9 Tryz.cellsE Tryz.cellsS hd0 ok0
  exact ⟨_, by simpa using World.var?_cell hg0 hv0 0, .inr ⟨_, _, rfl⟩⟩
set_option maxRecDepth 100000 in
theorem env_of {W : World} (h : laidMetH Tryz.prog Rows.viewOddRow.laid W) (hs : W.ShapedOpen Tryz.prog) : Env W := by
  have ht := tab_of h
  rw [MakeChecks.laidMetH_plain _ _ _ (by kernel_rfl)] at h
  exact ⟨ht, cell_of_shapedOpen_int (g := 3) (zero := #[.int .i64 0]) (t := 3) hs (of_decide_eq_true (by kernel_rfl)) (by kernel_rfl) rfl (by kernel_rfl) (by kernel_rfl) Tryz.underlying3,
    sent_of Tryz.gSyn Tryz.tSyn h.tail.tail.tail.tail.tail, sent_of Tryz.gRng Tryz.tRng h.tail.tail.tail.tail⟩
end
section
open Go Go.ChangeShapes Go.WideShapes Go.ChangeAt Go.RowKit

theorem Tryz.own : ownKnob Tryz.prog.godebug = none := by kernel_rfl
theorem Tryz.laidOut : laidOutB Tryz.prog = true := by kernel_rfl
end
section
open Go Go.ChangeShapes Go.WideShapes Go.ChangeAt Go.RowKit

set_option maxRecDepth 100000 in
theorem u64_wf {n : Int} (h : (Lit.int .u64 n).wf = true) : ∃ m : Nat, n = m ∧ m < 18446744073709551616 := by
  have m1 : IntKind.u64.min = 0 := by decide
  have m2 : IntKind.u64.max = 18446744073709551615 := by decide
  have h2 : IntKind.u64.min ≤ n ∧ n ≤ IntKind.u64.max := by
    unfold Lit.wf at h
    first | exact of_decide_eq_true h | (rw [Bool.and_eq_true, decide_eq_true_eq, decide_eq_true_eq] at h; exact h)
  rw [m1, m2] at h2
  obtain ⟨m, rfl⟩ := Int.eq_ofNat_of_zero_le h2.1
  exact ⟨m, rfl, by have := h2.2; omega⟩
end
section
open Go Go.ChangeShapes Go.WideShapes Go.ChangeAt Go.RowKit

section
variable {H : Type} {enc : TypeId × Value → H} {P : Program} {W : World}
abbrev Reads1 (enc : TypeId × Value → H) (P : Program) (W : World) (t : TypeId) (cs : List Value) : Prop := ∃ n y, DataW.trod enc P W 0 (fun _ => true) true n t cs = some y
theorem field_open {t : TypeId} {cs : List Value} {fs : Array Field} (ht : P.underlying t = some (.struct fs)) (h : Reads1 enc P W t cs) : cs.length = P.cellsOf t ∧
    ∀ (i : Nat) (f : Field), fs[i]? = some f → ∀ (ty : TypeId) (off n : Nat) (cs' : List Value), f.type = ty → f.offset = off → P.cellsOf ty = n → (cs.drop off).take n = cs' → Reads1 enc P W ty cs' := by
  obtain ⟨fuel, x, h⟩ := h
  obtain ⟨xs, n, -, -, hl, hxl, hf⟩ := DataW.trod_struct ht h
  refine ⟨hl, fun i f hi ty off m cs' e1 e2 e3 hcs => ?_⟩
  subst e1 e2 e3
  have hlt : i < fs.size := (Array.getElem?_eq_some_iff.1 hi).1
  have := hf i f hi
  rw [hcs, List.getElem?_eq_getElem (show i < xs.length by omega)] at this
  exact ⟨n, _, this⟩
theorem int_open {t : TypeId} {k : IntKind} {cs : List Value} (ht : P.underlying t = some (.int k)) (h : Reads1 enc P W t cs) : ∃ n, cs = [.int k n] ∧ k.min ≤ n ∧ n ≤ k.max := by
  obtain ⟨fuel, x, h⟩ := h
  obtain ⟨n, h1, -, h3⟩ := DataW.trod_int ht h
  simp [Lit.wf] at h3
  exact ⟨n, h1, h3⟩
end
section
variable {H : Type} {enc : TypeId × Value → H} {W : World}
theorem u64min : IntKind.u64.min = 0 := by decide
theorem u64max : IntKind.u64.max = 18446744073709551615 := by decide
theorem Tryz.k64 : Tryz.prog.cellsOf 22 = 1 := by kernel_rfl
theorem Tryz.kmk : Tryz.prog.cellsOf 61 = 3 := by kernel_rfl
theorem Tryz.kvw : Tryz.prog.cellsOf 24 = 3 := by kernel_rfl
theorem Tryz.kkp : Tryz.prog.cellsOf 28 = 3 := by kernel_rfl
theorem Tryz.kms : Tryz.prog.cellsOf 25 = 1 := by kernel_rfl
theorem Tryz.kpm : Tryz.prog.cellsOf 26 = 1 := by kernel_rfl
theorem three_in {fs : Array Field} {t : TypeId} {cs : List Value} (ht : Tryz.prog.underlying t = some (.struct fs)) (h3 : Tryz.prog.cellsOf t = 3) (h : Reads1 enc Tryz.prog W t cs)
    (f0 f1 f2 : Field) (g0 : fs[0]? = some f0) (g1 : fs[1]? = some f1) (g2 : fs[2]? = some f2) (t0 : f0.type = 22) (t1 : f1.type = 22) (t2 : f2.type = 22) (o0 : f0.offset = 0) (o1 : f1.offset = 1) (o2 : f2.offset = 2) :
    ∃ a b c : Nat, cs = [.int .u64 a, .int .u64 b, .int .u64 c] ∧ a < 18446744073709551616 ∧ b < 18446744073709551616 ∧ c < 18446744073709551616 := by
  obtain ⟨hl, hf⟩ := field_open ht h
  rw [h3] at hl
  match cs, hl with
  | [c0, c1, c2], _ =>
    obtain ⟨a, e1, a0, a1⟩ := int_open Tryz.underlying22 (hf 0 _ g0 22 0 1 [c0] t0 o0 Tryz.k64 rfl)
    obtain ⟨b, e2, b0, b1⟩ := int_open Tryz.underlying22 (hf 1 _ g1 22 1 1 [c1] t1 o1 Tryz.k64 rfl)
    obtain ⟨c, e3, c0', c1'⟩ := int_open Tryz.underlying22 (hf 2 _ g2 22 2 1 [c2] t2 o2 Tryz.k64 rfl)
    cases e1; cases e2; cases e3
    rw [u64min] at a0 b0 c0'; rw [u64max] at a1 b1 c1'
    obtain ⟨a, rfl⟩ := Int.eq_ofNat_of_zero_le a0
    obtain ⟨b, rfl⟩ := Int.eq_ofNat_of_zero_le b0
    obtain ⟨c, rfl⟩ := Int.eq_ofNat_of_zero_le c0'
    exact ⟨a, b, c, rfl, by omega, by omega, by omega⟩
theorem mk_in {cs : List Value} (h : Reads1 enc Tryz.prog W 61 cs) : ∃ x : Mk, cs = encM x := by
  obtain ⟨a, b, c, rfl, -⟩ := three_in Tryz.underlying61 Tryz.kmk h _ _ _ rfl rfl rfl rfl rfl rfl rfl rfl rfl
  exact ⟨⟨a, b, c⟩, rfl⟩
theorem vw_in {cs : List Value} (h : Reads1 enc Tryz.prog W 24 cs) : ∃ x : Vw, cs = (vwCells x).toList := by
  obtain ⟨a, b, c, rfl, -⟩ := three_in Tryz.underlying24 Tryz.kvw h _ _ _ rfl rfl rfl rfl rfl rfl rfl rfl rfl
  exact ⟨⟨a, b, c⟩, rfl⟩
end
end
section
open Go Go.ChangeShapes Go.WideShapes Go.ChangeAt Go.RowKit
theorem flat_at {m : Nat} {css : List (List Value)} (hm : ∀ cs ∈ css, cs.length = m) {i j : Nat} (hi : i < css.length) (hj : j < m) : css.flatten[i * m + j]? = (css[i])[j]? := by
  induction css generalizing i with
  | nil => simp at hi
  | cons c css ih =>
    have hc : c.length = m := hm c (by simp)
    cases i with
    | zero => simp only [List.flatten_cons, Nat.zero_mul, Nat.zero_add, List.getElem_cons_zero]; exact List.getElem?_append_left (by omega)
    | succ i =>
      simp only [List.flatten_cons, List.getElem_cons_succ]
      rw [List.getElem?_append_right (by rw [hc, Nat.succ_mul]; omega), hc, show (i + 1) * m + j - m = i * m + j from by rw [Nat.succ_mul]; omega]
      exact ih (fun cs h => hm cs (by simp [h])) (by simpa using hi)

section
variable {H : Type} {enc : TypeId × Value → H} {P : Program} {W : World}
theorem list_of_all {α : Type} {p : Nat → α → Prop} : ∀ (n : Nat), (∀ i, i < n → ∃ x, p i x) → ∃ l : List α, l.length = n ∧ ∀ i (h : i < l.length), p i l[i]
  | 0, _ => ⟨[], rfl, fun i h => absurd h (Nat.not_lt_zero _)⟩
  | n + 1, h => by
    obtain ⟨l, hl, hp⟩ := list_of_all n fun i hi => h i (by omega)
    obtain ⟨x, hx⟩ := h n (by omega)
    refine ⟨l ++ [x], by simp [hl], fun i hi => ?_⟩
    by_cases hin : i < l.length
    · rw [List.getElem_append_left hin]; exact hp i hin
    · have : i = l.length := by simp at hi; omega
      subst this
      simp [hl] at hx ⊢; exact hx
/-- A slice that can be read: its elements' cells. -/
theorem slice_open {t e : TypeId} {sz : Nat} (ht : P.underlying t = some (.slice e)) (hc : P.cellsOf e = sz) (h0 : 0 < sz) {cs : List Value} (h : Reads1 enc P W t cs) :
    ∃ (v : Value) (css : List (List Value)), cs = [v] ∧ (∀ c ∈ css, c.length = sz) ∧ Row (Till W.heap.size) W v css.length css.flatten ∧ ∀ i (hi : i < css.length), Reads1 enc P W e css[i] := by
  obtain ⟨fuel, x, h⟩ := h
  rcases Go.Deep.open_slice ht h with ⟨rfl, -⟩ | ⟨a, len, cap, m, n, D, Pl, rfl, -, hlc, hcm, hm, -, hx⟩
  · exact ⟨_, [], rfl, by simp, Row.nil _ _, fun i hi => by simp at hi⟩
  · simp only [if_true] at hm
    obtain ⟨css, hl, hp⟩ := list_of_all (p := fun i (c : List Value) => W.cells? 0 (a.add (i * P.cellsOf e)) (P.cellsOf e) = some c ∧ DataW.trod enc P W 0 (fun _ => true) true n e c = some (D i, Pl i)) len (fun i hi => hx i (by omega))
    have hsz : ∀ c ∈ css, c.length = sz := fun c hmem => by
      obtain ⟨i, hi, rfl⟩ := List.getElem_of_mem hmem
      exact (World.cells?_some (hp i hi).1).2.1.trans hc
    refine ⟨_, css, rfl, hsz, ⟨some a, cap, by rw [hl], by omega, hcm, fun e => (by cases e), fun x e g => ?_, fun b o e j u hj => ?_⟩, fun i hi => ⟨n, _, (hp i hi).2⟩⟩
    · cases e
      have hpos : 0 < css.length := by
        rcases g with g | g
        · exact g
        · cases css with
          | nil => simp at g
          | cons c r => simp
      have hq := (World.cells?_some (hp 0 hpos).1).2.2 0 (by omega)
      have hl0 : (css[0]).length = sz := hsz _ (List.getElem_mem _)
      rw [Nat.zero_mul, show (a.add 0).add 0 = a from by simp [Addr.add], List.getElem?_eq_getElem (by omega)] at hq
      refine ⟨?_, World.block_lt_of_cell? W a hq⟩
      unfold World.cell? at hq
      split at hq
      · split at hq
        · cases hq
        · rename_i hs; simpa using hs
      · cases hq
    · cases e
      have hjl : j < css.length * sz := by
        have h1 := (List.getElem?_eq_some_iff.1 hj).1
        have h2 : ∀ l : List (List Value), (∀ c ∈ l, c.length = sz) → l.flatten.length = l.length * sz := by
          intro l; induction l with
          | nil => intro _; simp
          | cons c r ih => intro hh; rw [List.flatten_cons, List.length_append, ih (fun d hd => hh d (by simp [hd])), hh c (by simp), List.length_cons, Nat.succ_mul]; omega
        rw [h2 css hsz] at h1; exact h1
      have hi : j / sz < css.length := by rw [Nat.div_lt_iff_lt_mul h0]; exact hjl
      have hr : j % sz < sz := Nat.mod_lt _ h0
      have hdm : j / sz * sz + j % sz = j := by rw [Nat.mul_comm]; exact Nat.div_add_mod j sz
      rw [← hdm, flat_at hsz hi hr] at hj
      have hq := (World.cells?_some (hp (j / sz) hi).1).2.2 (j % sz) (by omega)
      rw [hc] at hq
      rw [hj] at hq
      rw [← hq, Go.Deep.add_add, hdm]
      congr 1
      unfold Addr.add; split <;> simp_all
theorem str_open {t : TypeId} {cs : List Value} (ht : P.underlying t = some .string) (h : Reads1 enc P W t cs) : ∃ s : List UInt8, cs = [str s] ∧ s.length ≤ maxLen := by
  obtain ⟨fuel, x, h⟩ := h
  obtain ⟨s, h1, -, h3⟩ := DataW.trod_string ht h
  obtain ⟨⟨l⟩⟩ := s
  exact ⟨l, h1, h3⟩
theorem map_of_all {α β : Type} {q : α → Prop} (f : α → β) (l : List β) (h : ∀ i (hi : i < l.length), ∃ a, l[i] = f a ∧ q a) : ∃ m : List α, l = m.map f ∧ ∀ a ∈ m, q a := by
  induction l with
  | nil => exact ⟨[], rfl, by simp⟩
  | cons b l ih =>
    obtain ⟨m, hm, hq⟩ := ih fun i hi => h (i + 1) (by simp; omega)
    obtain ⟨a, ha, hqa⟩ := h 0 (by simp)
    refine ⟨a :: m, by rw [hm]; simpa using ha, fun x hx => ?_⟩
    rcases List.mem_cons.1 hx with rfl | hx
    · exact hqa
    · exact hq x hx
end
theorem Tryz.kstr : Tryz.prog.cellsOf 9 = 1 := by kernel_rfl
section
variable {H : Type} {enc : TypeId × Value → H} {W : World}
theorem texts_in {cs : List Value} (h : Reads1 enc Tryz.prog W 29 cs) : ∃ (v : Value) (l : List (List UInt8)), cs = [v] ∧ Texts (Till W.heap.size) W v l := by
  obtain ⟨v, css, rfl, -, hr, he⟩ := slice_open Tryz.underlying29 Tryz.kstr (by decide) h
  obtain ⟨l, rfl, -⟩ := map_of_all (q := fun _ => True) (fun b : List UInt8 => [str b]) css fun i hi => by
    obtain ⟨b, h1, -⟩ := str_open Tryz.underlying9 (he i hi)
    exact ⟨b, h1, trivial⟩
  rw [List.length_map] at hr
  refine ⟨v, l, rfl, ?_⟩
  have : ∀ l : List (List UInt8), (l.map fun b : List UInt8 => [str b]).flatten = strs l := by
    intro l
    induction l with
    | nil => rfl
    | cons b l ih => simp [strs] at ih ⊢; exact ih
  rwa [this] at hr
theorem marks_in {cs : List Value} (h : Reads1 enc Tryz.prog W 25 cs) : ∃ (v : Value) (l : List Mk), cs = [v] ∧ MkRow (Till W.heap.size) W v l := by
  obtain ⟨v, css, rfl, -, hr, he⟩ := slice_open Tryz.underlying25 Tryz.kmk (by decide) h
  obtain ⟨l, rfl, -⟩ := map_of_all (q := fun _ => True) encM css fun i hi => by
    obtain ⟨b, h1⟩ := mk_in (he i hi)
    exact ⟨b, h1, trivial⟩
  rw [List.length_map] at hr
  exact ⟨v, l, rfl, hr⟩
theorem own_in {cs : List Value} (h : Reads1 enc Tryz.prog W 26 cs) : ∃ (v : Value) (q : Option Mk), cs = [v] ∧ OwnIs (Till W.heap.size) W v q := by
  obtain ⟨fuel, x, h⟩ := h
  rcases DataW.trod_pointer Tryz.underlying26 h with ⟨rfl, -⟩ | ⟨a, cs', y, n, -, rfl, -, hc, hy⟩
  · exact ⟨_, none, rfl, rfl⟩
  · rw [Tryz.kmk] at hc
    obtain ⟨q, rfl⟩ := mk_in ⟨n, y, hy⟩
    obtain ⟨-, -, hq⟩ := World.cells?_some hc
    have h0 := hq 0 (by decide)
    have hs := World.cell?_spot h0
    obtain ⟨b, o, sp⟩ := a
    obtain rfl : sp = none := by simpa [Addr.add] using hs
    refine ⟨_, some q, rfl, b, o, rfl, ?_, fun j u hj => ?_⟩
    · exact World.block_lt_of_cell? W _ h0
    · have hj3 : j < 3 := by have := (List.getElem?_eq_some_iff.1 hj).1; simpa [encM] using this
      have := hq j hj3
      rw [hj] at this
      rw [← this, Addr.add_mid]
theorem kp_in {cs : List Value} (h : Reads1 enc Tryz.prog W 28 cs) : ∃ (a b c : Value) (k : Kp), cs = [a, b, c] ∧ KeepIs (Till W.heap.size) W a b c k := by
  obtain ⟨hl, hf⟩ := field_open Tryz.underlying28 h
  rw [Tryz.kkp] at hl
  match cs, hl with
  | [c0, c1, c2], _ =>
    obtain ⟨v0, l0, e0, h0⟩ := marks_in (hf 0 _ rfl 25 0 1 [c0] rfl rfl Tryz.kms rfl)
    obtain ⟨v1, l1, e1, h1⟩ := marks_in (hf 1 _ rfl 25 1 1 [c1] rfl rfl Tryz.kms rfl)
    obtain ⟨v2, q, e2, h2⟩ := own_in (hf 2 _ rfl 26 2 1 [c2] rfl rfl Tryz.kpm rfl)
    cases e0; cases e1; cases e2
    exact ⟨_, _, _, ⟨l0, l1, q⟩, rfl, h0, h1, h2⟩
end
end
end Go.Proofs.YtfpioijfocmfcaaGreatDoor
