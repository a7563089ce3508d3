/-
  WHAT THE ROW OF PublishWalks GIVES ITS WALK: the library's variables, a configuration, results. No condition.
-/
import Derived.Test.YtnkmpoplibnflaaGreatDoorWLaw
import Derived.Test.YtnkmpoplibnflaaGreatDoorGAA
import Derived.Test.YtnkmpoplibnflaaGreatDoorWWorks2
import Derived.Lib.LaidTab
import Derived.Shelf.Vars
import Derived.Stop.Joined
import Derived.Stop.LaidErr
set_option maxRecDepth 100000
set_option maxHeartbeats 16000000
namespace Go.Proofs.YtnkmpoplibnflaaGreatDoor
open Go Go.ChangeShapes Go.WideShapes Go.ChangeAt Go.RowKit
section
variable {H : Type} {enc : TypeId × Value -> H} {P : Program} {W : World}
abbrev Reads1 (enc : TypeId × Value -> H) (P : Program) (W : World) (t : TypeId) (cs : List Value) : Prop := ∃ n y, DataW.trod enc P W 0 (fun _ => true) true n t cs = some y
theorem field_open {t : TypeId} {cs : List Value} {fs : Array Field} (ht : P.underlying t = some (.struct fs)) (h : Reads1 enc P W t cs) : cs.length = P.cellsOf t ∧
  ∀ (i : Nat) (f : Field), fs[i]? = some f -> ∀ (ty : TypeId) (off n : Nat) (cs' : List Value), f.type = ty -> f.offset = off -> P.cellsOf ty = n -> (cs.drop off).take n = cs' -> Reads1 enc P W ty cs' := by
 obtain ⟨fuel, x, h⟩ := h
 obtain ⟨xs, n, -, -, hl, hxl, hf⟩ := DataW.trod_struct ht h
 refine ⟨hl, fun i f hi ty off m cs' e1 e2 e3 hcs => ?_⟩
 subst e1 e2 e3
 have hlt : i < fs.size := (Array.getElem?_eq_some_iff.1 hi).1
 have := hf i f hi
 rw [hcs, List.getElem?_eq_getElem (show i < xs.length by omega)] at this
 exact ⟨n, _, this⟩
theorem int_open {t : TypeId} {k : IntKind} {cs : List Value} (ht : P.underlying t = some (.int k)) (h : Reads1 enc P W t cs) : ∃ n, cs = [.int k n] /\ k.min <= n /\ n <= k.max := by
 obtain ⟨fuel, x, h⟩ := h
 obtain ⟨n, h1, -, h3⟩ := DataW.trod_int ht h
 simp [Lit.wf] at h3
 exact ⟨n, h1, h3⟩
end
section
variable {H : Type} {enc : TypeId × Value -> H} {W : World}
theorem Tryz.k8 : Tryz.prog.cellsOf 5 = 1 := by kernel_rfl
theorem Tryz.kcfg : Tryz.prog.cellsOf 25 = 7 := by kernel_rfl
theorem Tryz.kbs : Tryz.prog.cellsOf 23 = 1 := by kernel_rfl
theorem u64min : IntKind.u64.min = 0 := by decide
theorem u64max : IntKind.u64.max = 18446744073709551615 := by decide
theorem Tryz.k64 : Tryz.prog.cellsOf 22 = 1 := by kernel_rfl
theorem u64_in {cs : List Value} (h : Reads1 enc Tryz.prog W 22 cs) : ∃ n : Nat, cs = [.int .u64 n] /\ n < 18446744073709551616 := by
 obtain ⟨a, e1, a0, a1⟩ := int_open Tryz.underlying22 h
 rw [u64min] at a0; rw [u64max] at a1
 obtain ⟨n, rfl⟩ := Int.eq_ofNat_of_zero_le a0
 exact ⟨n, e1, by omega⟩
end
theorem flat_at {m : Nat} {css : List (List Value)} (hm : ∀ cs ∈ css, cs.length = m) {i j : Nat} (hi : i < css.length) (hj : j < m) : css.flatten[i * m + j]? = (css[i])[j]? := by
 induction css generalizing i with
 | nil => simp at hi
 | cons c css ih =>
  have hc : c.length = m := hm c (by simp)
  cases i with
  | zero => simp only [List.flatten_cons, Nat.zero_mul, Nat.zero_add, List.getElem_cons_zero]; exact List.getElem?_append_left (by omega)
  | succ i =>
   simp only [List.flatten_cons, List.getElem_cons_succ]
   rw [List.getElem?_append_right (by rw [hc, Nat.succ_mul]; omega), hc, show (i + 1) * m + j - m = i * m + j from by rw [Nat.succ_mul]; omega]
   exact ih (fun cs h => hm cs (by simp [h])) (by simpa using hi)
section
variable {H : Type} {enc : TypeId × Value -> H} {P : Program} {W : World}
theorem list_of_all {α : Type} {p : Nat -> α -> Prop} : ∀ (n : Nat), (∀ i, i < n -> ∃ x, p i x) -> ∃ l : List α, l.length = n /\ ∀ i (h : i < l.length), p i l[i]
 | 0, _ => ⟨[], rfl, fun i h => absurd h (Nat.not_lt_zero _)⟩
 | n + 1, h => by
  obtain ⟨l, hl, hp⟩ := list_of_all n fun i hi => h i (by omega)
  obtain ⟨x, hx⟩ := h n (by omega)
  refine ⟨l ++ [x], by simp [hl], fun i hi => ?_⟩
  by_cases hin : i < l.length
  ·rw [List.getElem_append_left hin]; exact hp i hin
  ·have : i = l.length := by simp at hi; omega
   subst this
   simp [hl] at hx ⊢; exact hx
theorem slice_open {t e : TypeId} {sz : Nat} (ht : P.underlying t = some (.slice e)) (hc : P.cellsOf e = sz) (h0 : 0 < sz) {cs : List Value} (h : Reads1 enc P W t cs) :
  ∃ (v : Value) (css : List (List Value)), cs = [v] /\ (∀ c ∈ css, c.length = sz) /\ Row (Till W.heap.size) W v css.length css.flatten /\ ∀ i (hi : i < css.length), Reads1 enc P W e css[i] := by
 obtain ⟨fuel, x, h⟩ := h
 rcases Go.Deep.open_slice ht h with ⟨rfl, -⟩ | ⟨a, len, cap, m, n, D, Pl, rfl, -, hlc, hcm, hm, -, hx⟩
 ·exact ⟨_, [], rfl, by simp, Row.nil _ _, fun i hi => by simp at hi⟩
 ·simp only [if_true] at hm
  obtain ⟨css, hl, hp⟩ := list_of_all (p := fun i (c : List Value) => W.cells? 0 (a.add (i * P.cellsOf e)) (P.cellsOf e) = some c /\ DataW.trod enc P W 0 (fun _ => true) true n e c = some (D i, Pl i)) len (fun i hi => hx i (by omega))
  have hsz : ∀ c ∈ css, c.length = sz := fun c hmem => by
   obtain ⟨i, hi, rfl⟩ := List.getElem_of_mem hmem
   exact (World.cells?_some (hp i hi).1).2.1.trans hc
  refine ⟨_, css, rfl, hsz, ⟨some a, cap, by rw [hl], by omega, hcm, fun e => (by cases e), fun x e g => ?_, fun b o e j u hj => ?_⟩, fun i hi => ⟨n, _, (hp i hi).2⟩⟩
  ·cases e
   have hpos : 0 < css.length := by
    rcases g with g | g
    ·exact g
    ·cases css with
     | nil => simp at g
     | cons c r => simp
   have hq := (World.cells?_some (hp 0 hpos).1).2.2 0 (by omega)
   have hl0 : (css[0]).length = sz := hsz _ (List.getElem_mem _)
   rw [Nat.zero_mul, show (a.add 0).add 0 = a from by simp [Addr.add], List.getElem?_eq_getElem (by omega)] at hq
   refine ⟨?_, World.block_lt_of_cell? W a hq⟩
   unfold World.cell? at hq
   split at hq
   ·split at hq
    ·cases hq
    ·rename_i hs; simpa using hs
   ·cases hq
  ·cases e
   have hjl : j < css.length * sz := by
    have h1 := (List.getElem?_eq_some_iff.1 hj).1
    have h2 : ∀ l : List (List Value), (∀ c ∈ l, c.length = sz) -> l.flatten.length = l.length * sz := by
     intro l; induction l with
     | nil => intro _; simp
     | cons c r ih => intro hh; rw [List.flatten_cons, List.length_append, ih (fun d hd => hh d (by simp [hd])), hh c (by simp), List.length_cons, Nat.succ_mul]; omega
    rw [h2 css hsz] at h1; exact h1
   have hi : j / sz < css.length := by rw [Nat.div_lt_iff_lt_mul h0]; exact hjl
   have hr : j % sz < sz := Nat.mod_lt _ h0
   have hdm : j / sz * sz + j % sz = j := by rw [Nat.mul_comm]; exact Nat.div_add_mod j sz
   rw [<- hdm, flat_at hsz hi hr] at hj
   have hq := (World.cells?_some (hp (j / sz) hi).1).2.2 (j % sz) (by omega)
   rw [hc] at hq
   rw [hj] at hq
   rw [<- hq, Go.Deep.add_add, hdm]
   congr 1
   unfold Addr.add; split <;> simp_all
theorem map_of_all {α β : Type} {q : α -> Prop} (f : α -> β) (l : List β) (h : ∀ i (hi : i < l.length), ∃ a, l[i] = f a /\ q a) : ∃ m : List α, l = m.map f /\ ∀ a ∈ m, q a := by
 induction l with
 | nil => exact ⟨[], rfl, by simp⟩
 | cons b l ih =>
  obtain ⟨m, hm, hq⟩ := ih fun i hi => h (i + 1) (by simp; omega)
  obtain ⟨a, ha, hqa⟩ := h 0 (by simp)
  refine ⟨a :: m, by rw [hm]; simpa using ha, fun x hx => ?_⟩
  rcases List.mem_cons.1 hx with rfl | hx
  ·exact hqa
  ·exact hq x hx
end
section
variable {H : Type} {enc : TypeId × Value -> H} {W : World}
theorem Tryz.kstr : Tryz.prog.cellsOf 9 = 1 := by kernel_rfl
theorem Tryz.kres : Tryz.prog.cellsOf 47 = 3 := by kernel_rfl
theorem Tryz.kerr : Tryz.prog.cellsOf 36 = 1 := by kernel_rfl
theorem Tryz.ktxs : Tryz.prog.cellsOf 45 = 1 := by kernel_rfl
theorem str_open {t : TypeId} {cs : List Value} (ht : Tryz.prog.underlying t = some .string) (h : Reads1 enc Tryz.prog W t cs) : ∃ s : List UInt8, cs = [str s] := by
 obtain ⟨fuel, x, h⟩ := h
 obtain ⟨s, h1, -⟩ := DataW.trod_string ht h
 obtain ⟨⟨l⟩⟩ := s
 exact ⟨l, h1⟩
theorem texts_in {cs : List Value} (h : Reads1 enc Tryz.prog W 45 cs) : ∃ (v : Value) (l : List (List UInt8)), cs = [v] /\ Texts (Till W.heap.size) W v l := by
 obtain ⟨v, css, rfl, -, hr, he⟩ := slice_open Tryz.underlying45 Tryz.kstr (by decide) h
 obtain ⟨l, rfl, -⟩ := map_of_all (q := fun _ => True) (fun b : List UInt8 => [str b]) css fun i hi => by
  obtain ⟨b, h1⟩ := str_open Tryz.underlying9 (he i hi)
  exact ⟨b, h1, trivial⟩
 rw [List.length_map] at hr
 refine ⟨v, l, rfl, ?_⟩
 have : ∀ l : List (List UInt8), (l.map fun b : List UInt8 => [str b]).flatten = strs l := by
  intro l
  induction l with
  | nil => rfl
  | cons b l ih => simp [strs] at ih ⊢; exact ih
 rwa [this] at hr
theorem bytes_in {cs : List Value} (h : Reads1 enc Tryz.prog W 23 cs) : ∃ (v : Value) (l : List UInt8), cs = [v] /\ Bytes (Till W.heap.size) W v l := by
 obtain ⟨v, css, rfl, -, hr, he⟩ := slice_open Tryz.underlying23 Tryz.k8 (by decide) h
 obtain ⟨l, rfl, -⟩ := map_of_all (q := fun _ => True) (fun b : UInt8 => [u8 b]) css fun i hi => by
  obtain ⟨n, h1, h0, h2⟩ := int_open Tryz.underlying5 (he i hi)
  rw [show IntKind.u8.min = 0 by decide] at h0
  rw [show IntKind.u8.max = 255 by decide] at h2
  obtain ⟨m, rfl⟩ := Int.eq_ofNat_of_zero_le h0
  refine ⟨UInt8.ofNat m, ?_, trivial⟩
  have hm : (UInt8.ofNat m).toNat = m := by simp; omega
  rw [h1]
  show [Value.int .u8 (m : Int)] = [Value.int .u8 ((UInt8.ofNat m).toNat : Int)]
  rw [hm]
 rw [List.length_map] at hr
 refine ⟨v, l, rfl, ?_⟩
 have : ∀ l : List UInt8, (l.map fun b : UInt8 => [u8 b]).flatten = l.map u8 := by
  intro l
  induction l with
  | nil => rfl
  | cons b l ih => simp at ih ⊢; exact ih
 rwa [this] at hr
theorem cfg_in {cs : List Value} (h : Reads1 enc Tryz.prog W 25 cs) : ∃ (c n p i s k : Nat) (v : Value) (l : List UInt8), cs = [.int .u64 c, .int .u64 n, .int .u64 p, .int .u64 i, .int .u64 s, .int .u64 k, v] ∧
  c < 18446744073709551616 /\ n < 18446744073709551616 /\ p < 18446744073709551616 /\ i < 18446744073709551616 /\ k < 18446744073709551616 /\ (s < 18446744073709551616 /\ Bytes (Till W.heap.size) W v l) := by
 obtain ⟨hl, hf⟩ := field_open Tryz.underlying25 h
 rw [Tryz.kcfg] at hl
 match cs, hl with
 | [c0, c1, c2, c3, c4, c5, c6], _ =>
  obtain ⟨c, e0, b0⟩ := u64_in (hf 0 _ rfl 22 0 1 [c0] rfl rfl Tryz.k64 rfl)
  obtain ⟨n, e1, b1⟩ := u64_in (hf 1 _ rfl 22 1 1 [c1] rfl rfl Tryz.k64 rfl)
  obtain ⟨p, e2, b2⟩ := u64_in (hf 2 _ rfl 22 2 1 [c2] rfl rfl Tryz.k64 rfl)
  obtain ⟨i, e3, b3⟩ := u64_in (hf 3 _ rfl 22 3 1 [c3] rfl rfl Tryz.k64 rfl)
  obtain ⟨s, e4, b4⟩ := u64_in (hf 4 _ rfl 22 4 1 [c4] rfl rfl Tryz.k64 rfl)
  obtain ⟨k, e5, b5⟩ := u64_in (hf 5 _ rfl 22 5 1 [c5] rfl rfl Tryz.k64 rfl)
  obtain ⟨v, l, e6, hr⟩ := bytes_in (hf 6 _ rfl 23 6 1 [c6] rfl rfl Tryz.kbs rfl)
  cases e0; cases e1; cases e2; cases e3; cases e4; cases e5; cases e6
  exact ⟨c, n, p, i, s, k, _, l, rfl, b0, b1, b2, b3, b5, b4, hr⟩
theorem res_in {cs : List Value} (h : Reads1 enc Tryz.prog W 47 cs) : ∃ x : Wk.ResV, cs = Wk.resC x /\ Texts (Till W.heap.size) W x.2.1 x.1.names /\ Bytes (Till W.heap.size) W x.2.2 x.1.bytes := by
 obtain ⟨hl, hf⟩ := field_open Tryz.underlying47 h
 rw [Tryz.kres] at hl
 match cs, hl with
 | [c0, c1, c2], _ =>
  obtain ⟨e, e0, -⟩ := int_open Tryz.underlying36 (hf 0 _ rfl 36 0 1 [c0] rfl rfl Tryz.kerr rfl)
  obtain ⟨nv, l, e1, h1⟩ := texts_in (hf 1 _ rfl 45 1 1 [c1] rfl rfl Tryz.ktxs rfl)
  obtain ⟨bv, b, e2, h2⟩ := bytes_in (hf 2 _ rfl 23 2 1 [c2] rfl rfl Tryz.kbs rfl)
  cases e0; cases e1; cases e2
  exact ⟨(⟨e, l, b⟩, _, _), rfl, h1, h2⟩
theorem results_in {cs : List Value} (h : Reads1 enc Tryz.prog W 26 cs) : ∃ (v : Value) (L : List Wk.Res), cs = [v] /\ Wk.ResIs (Till W.heap.size) W v L := by
 obtain ⟨v, css, rfl, -, hr, he⟩ := slice_open Tryz.underlying26 Tryz.kres (by decide) h
 obtain ⟨l, rfl, hq⟩ := map_of_all (q := fun x : Wk.ResV => Texts (Till W.heap.size) W x.2.1 x.1.names /\ Bytes (Till W.heap.size) W x.2.2 x.1.bytes) Wk.resC css fun i hi => by
  obtain ⟨x, h1, h2⟩ := res_in (he i hi)
  exact ⟨x, h1, h2⟩
 rw [List.length_map] at hr
 exact ⟨v, l.map (·.1), rfl, l, rfl, hr, hq⟩
end
theorem Tryz.gPow : Tryz.prog.globalNamed "internal/strconv.uint64pow10" = some 0 := by kernel_rfl
theorem tab_of {W : World} (h : laidMetH Tryz.prog Rows.publishWalksRow.laid W) : Tab W := by
 rw [MakeChecks.laidMetH_plain _ _ _ (by kernel_rfl)] at h
 exact Lib.tabIs_of_head Tryz.gPow (by kernel_rfl) Tryz.underlying159 Tryz.underlying22 (by kernel_rfl) (by kernel_rfl) (h.tail.tail)
theorem Tryz.star : "*" ++ "errors.errorString" = "*errors.errorString" := by decide
theorem Tryz.rowErr (u : TypeId) (h : Tryz.prog.typeName? 3 u = some "*errors.errorString") : u = 282 :=
 typeName_ptr_named (nm := "errors.errorString") (by rw [Tryz.star]; kernel_rfl) (by kernel_rfl) (by decide) u (by rw [Tryz.star]; exact h)
theorem Tryz.cellsE : Tryz.prog.cellsOf 284 = 1 := by kernel_rfl
theorem Tryz.cellsS : Tryz.prog.cellsOf 9 = 1 := by kernel_rfl
theorem Tryz.gSyn : Tryz.prog.globalNamed "strconv.ErrSyntax" = some 4 := by kernel_rfl
theorem Tryz.gRng : Tryz.prog.globalNamed "strconv.ErrRange" = some 5 := by kernel_rfl
theorem Tryz.tSyn : (Tryz.prog.globals[4]?).map (·.type) = some 123 := by kernel_rfl
theorem Tryz.tRng : (Tryz.prog.globals[5]?).map (·.type) = some 123 := by kernel_rfl
theorem sent_of {W : World} {nm : String} {g : Nat} {bs : List UInt8} {rest : List (String × DataW Unit)} (hg : Tryz.prog.globalNamed nm = some g) (ht : (Tryz.prog.globals[g]?).map (·.type) = some 123)
  (h : laidMet Tryz.prog ((nm, .iface "*errors.errorString" (.ptr (.agg [.lit (.string bs)]))) :: rest) W) : ∃ ev, W.cell? ⟨g, 0, none⟩ = some ev /\ (ev = .nilIface \/ ∃ t p, ev = .iface t p) := by
 obtain ⟨ps, ⟨g0, t0, cs0, f0, p0, q0, hg0, ht0, hv0, hd0, _, e0⟩, hnd, hrows⟩ := h
 obtain rfl := Option.some.inj (hg.symm.trans hg0)
 obtain rfl := Option.some.inj (ht.symm.trans ht0)
 subst e0
 obtain ⟨l0⟩ := cs0
 have ok0 : ∀ u v, l0 = [.iface u v] -> Value.okWide Tryz.prog W .any 0 u v := fun u v e => by
  subst e
  exact (hrows g 0 (by simp [MemPlace.row])).2 u v (by simpa using World.var?_cell hg0 hv0 0)
 obtain ⟨a0, s0, rfl, -, -, -, rfl⟩ := errorString_of_trod Tryz.underlying123 Tryz.rowErr Tryz.underlying282 Tryz.underlying284 rfl rfl Tryz.underlying9 Tryz.cellsE Tryz.cellsS hd0 ok0
 exact ⟨_, by simpa using World.var?_cell hg0 hv0 0, .inr ⟨_, _, rfl⟩⟩
theorem env_of {W : World} (h : laidMetH Tryz.prog Rows.publishWalksRow.laid W) (hs : W.ShapedOpen Tryz.prog) : Env W := by
 have ht := tab_of h
 rw [MakeChecks.laidMetH_plain _ _ _ (by kernel_rfl)] at h
 exact ⟨ht, cell_of_shapedOpen_int (g := 1) (zero := #[.int .i64 0]) (t := 3) hs (of_decide_eq_true (by kernel_rfl)) (by kernel_rfl) rfl (by kernel_rfl) (by kernel_rfl) Tryz.underlying3,
  sent_of Tryz.gSyn Tryz.tSyn h.tail.tail.tail.tail.tail, sent_of Tryz.gRng Tryz.tRng h.tail.tail.tail.tail⟩
theorem walks_row {W : World} {cc cn cp ci cs ck : Nat} {cv : Value} {cl : List UInt8} (bc : cc < 18446744073709551616) (bn : cn < 18446744073709551616) (bp : cp < 18446744073709551616) (bi : ci < 18446744073709551616) (bk : ck < 18446744073709551616) (hrow : cs < 18446744073709551616 /\ Bytes (Till W.heap.size) W cv cl)
  (v : Value) (L : List Wk.Res) (hL : Wk.ResIs (Till W.heap.size) W v L) (hE : Env W) :
  Calls Tryz.prog 3 #[.agg #[.int .u64 cc, .int .u64 cn, .int .u64 cp, .int .u64 ci, .int .u64 cs, .int .u64 ck, cv], v] W fun e w' => e = .returned (.bool true) /\ Ext W w' := by
 obtain ⟨hs, hb⟩ := hrow
 have hb' := hb
 obtain ⟨ba, bcc, rfl, -⟩ := hb
 exact Wk.publishWalks_any W ⟨cc, cn, cp, ci, cs, ck, cl⟩ bc bn bp bi hs bk ba bcc hb' v L hL hE Wk.works_any
end Go.Proofs.YtnkmpoplibnflaaGreatDoor
