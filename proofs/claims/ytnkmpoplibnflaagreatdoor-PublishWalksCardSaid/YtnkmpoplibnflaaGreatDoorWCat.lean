/-
  CONTRACT of the catalog's Right. Condition: at most 1000000 entries; numbers of 64 bits.
-/
import Derived.Test.YtnkmpoplibnflaaGreatDoorGAS
import Derived.Test.YtnkmpoplibnflaaGreatDoorGAB
import Derived.Maps.OwnSet
import Derived.Sort.Walk0
set_option maxRecDepth 100000
set_option maxHeartbeats 16000000
namespace Go.Proofs.YtnkmpoplibnflaaGreatDoor.Wk
open Go Go.Proofs.YtnkmpoplibnflaaGreatDoor Go.RowKit Go.Maps
theorem str_less (x y : List UInt8) (b : Bool) (h : decide (x < y) = b) : Op.bytesLess (⟨x.toArray⟩ : ByteArray).toList (⟨y.toArray⟩ : ByteArray).toList = b /\ Op.bytesLess x y = b := by
 rw [bytes_toList, bytes_toList, bytesLess_eq]
 exact ⟨h, h⟩
theorem Tryz.keyC : Keyed Tryz.prog 22 := int_keyed Tryz.underlying22
theorem Tryz.zeroU (w : World) : (zeroValue 199).run Tryz.prog w = .ok (.agg #[]) w := by kernel_rfl
theorem c64_key (k : Nat) (hk : k < 18446744073709551616) : keyOf Tryz.prog 22 (.int .u64 k) = some (.int .u64 k) :=
 keyOf_int_mk Tryz.underlying22 (by have e1 : IntKind.min .u64 = 0 := rfl; have e2 : IntKind.max .u64 = 18446744073709551615 := rfl; show (decide (IntKind.min .u64 <= (k : Int)) && decide ((k : Int) <= IntKind.max .u64)) = true; rw [e1, e2]; simp; omega)
theorem upd_mapc {w w' : World} {b : Nat} (h : w.grownBy w' (some b)) : Upd (At b) w w' := ⟨h.os, h.tape, h.output, h.size, fun k hk e => h.block k hk (fun e' => e (by cases e'; rfl))⟩
theorem wpList_insert_own {H : Type} {P : Program} (w : World) {ops : Array Oper} {rest : List Oper} {o : Oper} {a : Act} {Q : Exit -> Act -> World -> Prop}
  (hg : o.guard = none) (m x v : Operand) (t : TypeId) (hop : o.op = Op.insert t m x v)
  (k e : TypeId) (K : Keyed P k) (ht : P.underlying t = some (.map k e)) (R : Value -> Option (DataW H × List MemPlace)) (b n : Nat) (D : DataW H)
  (hm : a.eval m = .map (some b)) (hown : w.ownsMap P k R b n D) (hn : n < maxLen) (key val : Value) (kl : Lit) (hx : a.eval x = key) (hv : a.eval v = val) (hkey : keyOf P k key = some kl)
  (d : DataW H) (ps : List MemPlace) (hval : R val = some (d, ps))
  (hK : ∀ w', w'.ownsMap P k R b (n + 1) (D.put kl d) -> w.grownBy w' (some b) -> wpList P ops Q rest (a.put o.dst undef) w') :
  wpList P ops Q (o :: rest) a w := by
 refine wpList_plain hg fun K' hK' => ?_
 obtain ⟨w', hrun, r1, r2⟩ := hown.update K ht hn hkey hval
 unfold Oper.wp
 simp [execOp, hop, hm, hx, hv, hrun, Result.andThen]
 exact hK' _ _ (hK w' r1 r2)
/-! ### plain -/
def stepE (pre : List Ent) (e : Ent) : Bool := (nameOk e.1 && decide (e.2 ≠ 0)) && pre.all fun a => decide (a.1 < e.1) && decide (a.2 ≠ e.2)
theorem catRight_snoc (pre : List Ent) (e : Ent) : catRight (pre ++ [e]) = (catRight pre && stepE pre e) := by
 rw [Bool.eq_iff_iff]
 simp only [catRight, stepE, List.all_append, List.all_cons, List.all_nil, Bool.and_true, Bool.and_eq_true, decide_eq_true_eq, List.pairwise_append, List.all_eq_true, List.mem_singleton, forall_eq, List.pairwise_singleton, true_and]
 constructor
 ·rintro ⟨⟨h1, h2⟩, h3, h4⟩; exact ⟨⟨h1, h3⟩, h2, fun x hx => h4 x hx⟩
 ·rintro ⟨⟨h1, h3⟩, h2, h4⟩; exact ⟨⟨h1, h2⟩, h3, fun x hx => h4 x hx⟩
theorem catRight_pre {a b : List Ent} (h : catRight (a ++ b) = true) : catRight a = true := by
 simp only [catRight, List.all_append, Bool.and_eq_true, decide_eq_true_eq, List.pairwise_append] at h ⊢
 exact ⟨h.1.1, h.2.1⟩
theorem catRight_bad {l : List Ent} {n : Nat} (h : n < l.length) (hs : stepE (l.take n) l[n] = false) : catRight l = false := by
 rw [Bool.eq_false_iff]; intro ht
 have h1 : l = l.take (n + 1) ++ l.drop (n + 1) := (List.take_append_drop _ _).symm
 rw [h1] at ht
 have := catRight_pre ht
 rw [List.take_succ_eq_append_getElem h, catRight_snoc, hs] at this
 simp at this
theorem name_lt_trans {a b c : List UInt8} (h1 : a < b) (h2 : b < c) : a < c := List.lt_trans h1 h2
theorem stepE_iff {l : List Ent} {m : Nat} (h : m + 1 < l.length) (hr : catRight (l.take (m + 1)) = true) (hn : nameOk l[m + 1].1 = true) (hi : l[m + 1].2 ≠ 0) (hd : ∀ a ∈ l.take (m + 1), a.2 ≠ l[m + 1].2) :
  stepE (l.take (m + 1)) l[m + 1] = decide (l[m].1 < l[m + 1].1) := by
 rw [Bool.eq_iff_iff]
 simp only [stepE, hn, Bool.true_and, Bool.and_eq_true, decide_eq_true_eq, List.all_eq_true]
 rw [List.take_succ_eq_append_getElem (by omega)] at hr hd ⊢
 constructor
 ·rintro ⟨-, h2⟩
  exact (h2 l[m] (List.mem_append.2 (.inr (List.mem_singleton.2 rfl)))).1
 ·intro hlt
  refine ⟨hi, fun a ha => ⟨?_, hd a ha⟩⟩
  rcases List.mem_append.1 ha with ha | ha
  ·simp only [catRight, Bool.and_eq_true, decide_eq_true_eq, List.pairwise_append] at hr
   exact name_lt_trans (hr.2.2.2 a ha l[m] (List.mem_singleton.2 rfl)).1 hlt
  ·rw [List.mem_singleton.1 ha]; exact hlt
def cellsE (e : Ent) : List Value := [str e.1, .int .u64 (e.2 : Int)]
def flatE (es : List Ent) : List Value := (es.map cellsE).flatten
theorem flatE_snoc (es : List Ent) (e : Ent) : flatE (es ++ [e]) = flatE es ++ cellsE e := by simp [flatE]
theorem flatE_at : ∀ {es : List Ent} (k : Nat) (hk : k < es.length), (flatE es)[k * 2]? = some (str es[k].1) /\ (flatE es)[k * 2 + 1]? = some (.int .u64 (es[k].2 : Int))
 | [], k, h => by simp at h
 | t :: ts, 0, _ => by simp [flatE, cellsE]
 | t :: ts, k + 1, h => by
  have := flatE_at (es := ts) k (by simpa using h)
  have hl : (cellsE t).length = 2 := rfl
  simp only [flatE, List.map_cons, List.flatten_cons] at this ⊢
  rw [show (k + 1) * 2 = 2 + k * 2 by omega, List.getElem?_append_right (by omega), List.getElem?_append_right (by omega)]
  simp only [hl]
  rw [show 2 + k * 2 - 2 = k * 2 by omega, show 2 + k * 2 + 1 - 2 = k * 2 + 1 by omega]
  exact this
abbrev Ents (S : Nat -> Prop) (w : World) (v : Value) (es : List Ent) : Prop := Row S w v es.length (flatE es)
def IdsIs (w : World) (b n : Nat) (es : List Ent) : Prop :=
 ∃ D : DataW Unit, w.ownsMap Tryz.prog 22 unitElem b n D /\ ∀ k : Nat, Maps.has D (.int .u64 k) = (decide (k = 0) || es.any fun e => decide (e.2 = k))
theorem IdsIs.upd {S : Nat -> Prop} {w w' : World} {b n : Nat} {es : List Ent} (h : IdsIs w b n es) (hu : Upd S w w') (hs : ¬ S b) : IdsIs w' b n es := by
 obtain ⟨D, ⟨es, c, hb, h1⟩, h2⟩ := h
 exact ⟨D, ⟨es, c, hu.at_ hb hs, h1⟩, h2⟩
theorem ids_put {D : DataW Unit} (hD : IsMap D) {es : List Ent} (h2 : ∀ k : Nat, Maps.has D (.int .u64 k) = (decide (k = 0) || es.any fun e => decide (e.2 = k))) (e : Ent) (k : Nat) :
  Maps.has (D.put (.int .u64 e.2) (.agg [])) (.int .u64 k) = (decide (k = 0) || (es ++ [e]).any fun e => decide (e.2 = k)) := by
 by_cases c : e.2 = k
 ·subst c
  rw [has_put_same (k := .int .u64 e.2) hD (by simp [WideAt.IsKeyLit])]; simp
 ·rw [has_put_other (by intro h; injection h with _ h; omega), h2]; simp [c]
theorem ids_put2 {D : DataW Unit} (hD : IsMap D) {es : List Ent} (h2 : ∀ k : Nat, Maps.has D (.int .u64 k) = (decide (k = 0) || es.any fun e => decide (e.2 = k))) {e : Ent} {d : Nat} (hd : d = e.2) (k : Nat) :
  Maps.has (D.put (.int .u64 d) (.agg [])) (.int .u64 k) = (decide (k = 0) || (es ++ [e]).any fun e => decide (e.2 = k)) := by subst hd; exact ids_put hD h2 e k
theorem ids_start (k : Nat) : Maps.has (DataW.put (.map [] : DataW Unit) (.int .u64 (0 : Nat)) (.agg [])) (.int .u64 k) = (decide (k = 0) || ([] : List Ent).any fun e => decide (e.2 = k)) := by
 by_cases c : k = 0
 ·subst c
  rw [has_put_same (k := .int .u64 (0 : Nat)) ⟨_, rfl⟩ (by simp [WideAt.IsKeyLit])]; simp
 ·rw [has_put_other (by intro h; injection h with _ h; omega)]; simp [c, Maps.has]
def OneTx (s : List UInt8) (v : Value) (w : World) : Prop := Texts (fun _ => True) w v [s]
theorem OneTx.ext {s : List UInt8} {v : Value} {w w' : World} (h : OneTx s v w) (hu : Ext w w') : OneTx s v w' := by
 unfold OneTx at h ⊢
 exact Row.ext h hu
def crAVal (ge n m b1 o1 L c1 : Nat) (s ps : List UInt8) : Nat -> Value
 | 0 => .bool true
 | 1 => .bool true
 | 7 => .bool true
 | 8 => .bool true
 | 22 => .bool true
 | _ => undef
def crADst (i : Nat) : Tmp := 25 + i
theorem crADst_ne {j t : Nat} (ht : t = 0 \/ t = 4 \/ t = 5 \/ t = 7) (e : crADst j = t) : False := by
 unfold crADst at e
 have e : (25 + j : Nat) = t := e
 rcases ht with rfl | rfl | rfl | rfl <;> (repeat' (split at e)) <;> omega
def crAPhi (ge n m b1 o1 L c1 : Nat) (s ps : List UInt8) (ix : Nat) (v : Value) (_ : World) : Prop := v = crAVal ge n m b1 o1 L c1 s ps ix
theorem crAPhi.ext {ge n m b1 o1 L c1 : Nat} {s ps : List UInt8} {ix : Nat} {v : Value} {w w' : World} (h : crAPhi ge n m b1 o1 L c1 s ps ix v w) (_ : Ext w w') : crAPhi ge n m b1 o1 L c1 s ps ix v w' := by
 unfold crAPhi at h ⊢
 exact h
def crBVal (ge n m b1 o1 L c1 : Nat) (s ps : List UInt8) : Nat -> Value
 | 0 => .bool false
 | 1 => .bool false
 | 2 => .pointer (some ⟨ge, 0, none⟩)
 | 3 => str s
 | 5 => .bool false
 | 6 => .bool true
 | 7 => .bool true
 | 8 => .bool true
 | 22 => .bool true
 | _ => undef
def crBDst (i : Nat) : Tmp := 25 + i
theorem crBDst_ne {j t : Nat} (ht : t = 0 \/ t = 4 \/ t = 5 \/ t = 7) (e : crBDst j = t) : False := by
 unfold crBDst at e
 have e : (25 + j : Nat) = t := e
 rcases ht with rfl | rfl | rfl | rfl <;> (repeat' (split at e)) <;> omega
def crBPhi (ge n m b1 o1 L c1 : Nat) (s ps : List UInt8) (ix : Nat) (v : Value) (w : World) : Prop := if ix = 4 then OneTx s v w else v = crBVal ge n m b1 o1 L c1 s ps ix
theorem crBPhi.ext {ge n m b1 o1 L c1 : Nat} {s ps : List UInt8} {ix : Nat} {v : Value} {w w' : World} (h : crBPhi ge n m b1 o1 L c1 s ps ix v w) (hu : Ext w w') : crBPhi ge n m b1 o1 L c1 s ps ix v w' := by
 unfold crBPhi at h ⊢
 by_cases c : ix = 4
 ·rw [if_pos c] at h ⊢; exact h.ext hu
 ·rw [if_neg c] at h ⊢
  exact h
def crCVal (ge n m b1 o1 L c1 : Nat) (s ps : List UInt8) : Nat -> Value
 | 0 => .bool false
 | 1 => .bool false
 | 2 => .pointer (some ⟨ge, 0, none⟩)
 | 3 => str s
 | 5 => .bool true
 | 6 => .bool false
 | 7 => .bool false
 | 8 => .bool false
 | 9 => .int .i64 n
 | 10 => .bool false
 | 11 => .bool false
 | 21 => .bool false
 | 22 => .bool false
 | _ => undef
def crCDst (i : Nat) : Tmp := 25 + i
theorem crCDst_ne {j t : Nat} (ht : t = 0 \/ t = 4 \/ t = 5 \/ t = 7) (e : crCDst j = t) : False := by
 unfold crCDst at e
 have e : (25 + j : Nat) = t := e
 rcases ht with rfl | rfl | rfl | rfl <;> (repeat' (split at e)) <;> omega
def crCPhi (ge n m b1 o1 L c1 : Nat) (s ps : List UInt8) (ix : Nat) (v : Value) (w : World) : Prop := if ix = 4 then OneTx s v w else v = crCVal ge n m b1 o1 L c1 s ps ix
theorem crCPhi.ext {ge n m b1 o1 L c1 : Nat} {s ps : List UInt8} {ix : Nat} {v : Value} {w w' : World} (h : crCPhi ge n m b1 o1 L c1 s ps ix v w) (hu : Ext w w') : crCPhi ge n m b1 o1 L c1 s ps ix v w' := by
 unfold crCPhi at h ⊢
 by_cases c : ix = 4
 ·rw [if_pos c] at h ⊢; exact h.ext hu
 ·rw [if_neg c] at h ⊢
  exact h
def crDVal (ge n m b1 o1 L c1 : Nat) (s ps : List UInt8) : Nat -> Value
 | 0 => .bool false
 | 1 => .bool false
 | 2 => .pointer (some ⟨ge, 0, none⟩)
 | 3 => str s
 | 5 => .bool true
 | 6 => .bool false
 | 7 => .bool false
 | 8 => .bool false
 | 9 => .int .i64 n
 | 10 => .bool true
 | 11 => .bool true
 | 12 => .slice (some ⟨b1, o1, none⟩) L c1
 | 13 => .int .i64 n
 | 14 => .int .i64 (m : Int)
 | 15 => .pointer (some ⟨b1, o1 + m * 2, none⟩)
 | 16 => .pointer (some ⟨b1, o1 + m * 2, none⟩)
 | 17 => str ps
 | 18 => .pointer (some ⟨ge, 0, none⟩)
 | 19 => str s
 | 20 => .bool false
 | 21 => .bool false
 | 22 => .bool false
 | _ => undef
def crDDst (i : Nat) : Tmp := 25 + i
theorem crDDst_ne {j t : Nat} (ht : t = 0 \/ t = 4 \/ t = 5 \/ t = 7) (e : crDDst j = t) : False := by
 unfold crDDst at e
 have e : (25 + j : Nat) = t := e
 rcases ht with rfl | rfl | rfl | rfl <;> (repeat' (split at e)) <;> omega
def crDPhi (ge n m b1 o1 L c1 : Nat) (s ps : List UInt8) (ix : Nat) (v : Value) (w : World) : Prop := if ix = 4 then OneTx s v w else v = crDVal ge n m b1 o1 L c1 s ps ix
theorem crDPhi.ext {ge n m b1 o1 L c1 : Nat} {s ps : List UInt8} {ix : Nat} {v : Value} {w w' : World} (h : crDPhi ge n m b1 o1 L c1 s ps ix v w) (hu : Ext w w') : crDPhi ge n m b1 o1 L c1 s ps ix v w' := by
 unfold crDPhi at h ⊢
 by_cases c : ix = 4
 ·rw [if_pos c] at h ⊢; exact h.ext hu
 ·rw [if_neg c] at h ⊢
  exact h
def crEVal (ge n m b1 o1 L c1 : Nat) (s ps : List UInt8) : Nat -> Value
 | 0 => .bool false
 | 1 => .bool false
 | 2 => .pointer (some ⟨ge, 0, none⟩)
 | 3 => str s
 | 5 => .bool true
 | 6 => .bool false
 | 7 => .bool false
 | 8 => .bool false
 | 9 => .int .i64 n
 | 10 => .bool true
 | 11 => .bool true
 | 12 => .slice (some ⟨b1, o1, none⟩) L c1
 | 13 => .int .i64 n
 | 14 => .int .i64 (m : Int)
 | 15 => .pointer (some ⟨b1, o1 + m * 2, none⟩)
 | 16 => .pointer (some ⟨b1, o1 + m * 2, none⟩)
 | 17 => str ps
 | 18 => .pointer (some ⟨ge, 0, none⟩)
 | 19 => str s
 | 20 => .bool true
 | 21 => .bool true
 | 22 => .bool true
 | _ => undef
def crEDst (i : Nat) : Tmp := 25 + i
theorem crEDst_ne {j t : Nat} (ht : t = 0 \/ t = 4 \/ t = 5 \/ t = 7) (e : crEDst j = t) : False := by
 unfold crEDst at e
 have e : (25 + j : Nat) = t := e
 rcases ht with rfl | rfl | rfl | rfl <;> (repeat' (split at e)) <;> omega
def crEPhi (ge n m b1 o1 L c1 : Nat) (s ps : List UInt8) (ix : Nat) (v : Value) (w : World) : Prop := if ix = 4 then OneTx s v w else v = crEVal ge n m b1 o1 L c1 s ps ix
theorem crEPhi.ext {ge n m b1 o1 L c1 : Nat} {s ps : List UInt8} {ix : Nat} {v : Value} {w w' : World} (h : crEPhi ge n m b1 o1 L c1 s ps ix v w) (hu : Ext w w') : crEPhi ge n m b1 o1 L c1 s ps ix v w' := by
 unfold crEPhi at h ⊢
 by_cases c : ix = 4
 ·rw [if_pos c] at h ⊢; exact h.ext hu
 ·rw [if_neg c] at h ⊢
  exact h
theorem catRight_any {S : Nat -> Prop} (w : World) (v : Value) (l : List Ent) (h : Ents S w v l) (hlen : l.length <= 1000000) (h64 : ∀ e ∈ l, e.2 < 18446744073709551616) :
  Calls Tryz.prog 147 #[v] w fun e w' => e = .returned (.bool (catRight l)) /\ Ext w w' := by
 have hmm := @run_makeMap Tryz.prog
 have H := zq h
 have H64 := zq h64
 obtain ⟨a0, c0, rfl, hn, hm, -⟩ := h
 unfold maxLen at hm
 clear h64
 have h0 : (w.alloc (.map #[] 0)).ownsMap Tryz.prog 22 (unitElem (H := Unit)) w.heap.size 0 (.map []) := World.ownsMap_made _ _ _ _
 have hkey0 : keyOf Tryz.prog 22 (.int .u64 (0 : Nat)) = some (.int .u64 (0 : Nat)) := c64_key 0 (by decide)
 go_enter Tryz.func147, Tryz.ntmps147
 go_wp2_with (first
  | (refine wpList_insert_own _ rfl _ _ _ 196 rfl 22 199 Tryz.keyC Tryz.underlying196 (unitElem (H := Unit)) w.heap.size 0 (.map []) rfl h0 (by unfold maxLen; omega) (.int .u64 (0 : Nat)) (.agg #[]) (.int .u64 (0 : Nat)) rfl rfl hkey0 (.agg []) [] unitElem_mk ?_; intro w2 hown2 hg2)
  | go_in)
 have hx2 : Ext w w2 := ((Upd.refl Nothing w).alloc _).step (upd_mapc hg2) (fun i hi e => by unfold At at e; omega)
 have HX2 := zq hx2
 have HI2 := zq (show IdsIs w2 w.heap.size 1 [] from ⟨_, hown2, ids_start⟩)
 have hs2 : w.heap.size < w2.heap.size := by
  obtain ⟨D, ⟨es, c, hb, h1⟩, h2⟩ := HI2.out
  exact lZ hb
 clear hown2 hg2 hx2 h0 hkey0
 go_wp2
 go_loopw [13] (fun t wr => ∃ n : Nat, n <= l.length /\ t = .int .i64 n /\ Hid (IdsIs wr w.heap.size (n + 1) (l.take n)) /\ Hid (catRight (l.take n) = true) /\ Hid (Ext w wr)) (fun t _ => l.length - (intOf t).toNat)
 case atStart => exact ⟨0, Nat.zero_le _, rfl, HI2, zq (by simp [catRight]), HX2⟩
 case round =>
  obtain ⟨n, hn', rfl, HI, HR, HX⟩ := hrel
  have hsz := HX.out.size
  by_cases hlt : n < l.length
  ·obtain ⟨b1, o1, c1, e1, -, -, -, hq1⟩ := (H.out.ext HX.out).addr (by omega)
   cases e1
   obtain ⟨q1, q2⟩ := flatE_at n hlt
   have d0 : wr.cell? ⟨b1, o1 + n * 2, none⟩ = some (str l[n].1) := hq1 _ _ q1
   have d1 : wr.cell? ⟨b1, o1 + n * 2 + 1, none⟩ = some (.int .u64 ((l[n].2 : Nat) : Int)) := hq1 _ _ q2
   have hpre : ∀ m, m + 1 = n -> ∃ h : m < l.length, wr.cell? ⟨b1, o1 + m * 2, none⟩ = some (str l[m].1) := fun m hm => ⟨by omega, hq1 _ _ (flatE_at m (by omega)).1⟩
   have HPRE := zq hpre
   have hid : l[n].2 < 18446744073709551616 := H64.out _ (List.getElem_mem hlt)
   obtain ⟨s, hs⟩ : ∃ s, s = l[n].1 := ⟨_, rfl⟩
   obtain ⟨di, hidd⟩ : ∃ s, s = l[n].2 := ⟨_, rfl⟩
   rw [<- hs] at d0
   rw [<- hidd] at d1 hid
   have HS := zq hs
   have HID := zq hidd
   have HLT := zq hlt
   clear hpre q1 q2 hq1 hs hidd
   obtain ⟨ge, hge⟩ : ∃ gb, gb = wr.heap.size := ⟨_, rfl⟩
   obtain ⟨w3, hw3⟩ : ∃ u, u = wr.alloc (.cells #[str s, .int .u64 (di : Int)] 259) := ⟨_, rfl⟩
   have hx3 : Ext wr w3 := by rw [hw3]; exact uZ.alloc _
   have hg3 : w3.heap[ge]? = some (.cells #[str s, .int .u64 (di : Int)] 259 (0, 0)) := by rw [hw3, hge]; exact newAt _ _
   have HX3 := zq (HX.out.trans hx3)
   have HWX := zq hx3
   have HI3 := zq (HI.out.upd hx3 id)
   have HW3 := zq hw3
   have HG3 := zq hg3
   have HGE := zq hge
   have e1 := cZ hg3 1 _ rfl
   have hl3 := lZ hg3
   clear hw3 hx3 hg3 hge
   go_upto_region 5 with fail
   rw [show wr.heap.size = ge from HGE.out.symm]
   rw [show (wr.alloc (.cells #[.string ⟨s.toArray⟩, .int .u64 (di : Int)] 259)) = w3 from HW3.out.symm]
   clear d0 d1
   obtain ⟨D, hown, hhas⟩ := HI3.out
   have HHAS := zq hhas
   have HOWN := zq hown
   have hkey := c64_key di hid
   have hh := hhas di
   obtain ⟨tw, htw⟩ : ∃ q, q = (decide (di = 0) || (l.take n).any fun e => decide (e.2 = di)) := ⟨_, rfl⟩
   rw [<- htw] at hh
   have HTW := zq htw
   have HH := zq hh
   clear htw hown hhas hh
   go_upto_region 6 with (refine wpList_lookup_own_unit _ rfl _ _ 196 rfl 22 199 Tryz.keyC Tryz.underlying196 (Tryz.zeroU _) w.heap.size (n + 1) D rfl HOWN.out _ _ rfl hkey ?_)
   rw [HH.out]
   obtain ⟨w5, hw5⟩ : ∃ u, u = w3.alloc (.cells #[] 199) := ⟨_, rfl⟩
   have hx5 : Ext w3 w5 := by rw [hw5]; exact uZ.alloc _
   rw [<- hw5]
   clear hw5
   replace HX3 := zq (HX3.out.trans hx5)
   replace HWX := zq (HWX.out.trans hx5)
   replace HOWN := zq (show w5.ownsMap Tryz.prog 22 unitElem w.heap.size (n + 1) D from by obtain ⟨es, c, hb, h1⟩ := HOWN.out; exact ⟨es, c, hx5.at_ hb id, h1⟩)
   replace HGE := zq (hx5.at_ HG3.out id)
   clear hx5 HG3 HW3 HH hkey e1 hl3 hsz HI3
   cases tw with
   | true =>
    have HB := zq (catRight_bad HLT.out (by
     rw [Bool.eq_false_iff]; intro h
     simp only [stepE, Bool.and_eq_true, decide_eq_true_eq, List.all_eq_true] at h
     have := HTW.out.symm
     simp only [Bool.or_eq_true, decide_eq_true_eq, List.any_eq_true] at this
     rcases this with h0 | ⟨e, he, h1⟩
     ·exact h.1.2 (by rw [<- HID.out]; exact h0)
     ·exact (h.2 e he).2 (by rw [h1, HID.out])))
    refine wp_region_invH Nothing (fun _ => Ext) 1000 crADst (crAPhi ge n 0 b1 o1 0 0 s s) 53 (by kernel_rfl) (by decide) (by decide) rfl (fun i hi => .inl ((by decide : ∀ i, i < 23 -> crADst i < 53) i hi)) (fun i w w' h => ⟨h, fun _ => h⟩) (fun i j v w w' _ _ _ _ h hu => h.ext hu) ?_ ?_
    ·intro i o b' w1' ho hx1' hd hk hE hSZ
     have hi : i < 23 := (Array.getElem?_eq_some_iff.1 ho).1
     have his : i = 0 \/ i = 1 \/ i = 2 \/ i = 3 \/ i = 4 \/ i = 5 \/ i = 6 \/ i = 7 \/ i = 8 \/ i = 9 \/ i = 10 \/ i = 11 \/ i = 12 \/ i = 13 \/ i = 14 \/ i = 15 \/ i = 16 \/ i = 17 \/ i = 18 \/ i = 19 \/ i = 20 \/ i = 21 \/ i = 22 := by omega
     clear hE hSZ
     have HW1 := zq hx1'
     clear hx1'
     rcases his with rfl | rfl | rfl | rfl | rfl | rfl | rfl | rfl | rfl | rfl | rfl | rfl | rfl | rfl | rfl | rfl | rfl | rfl | rfl | rfl | rfl | rfl | rfl
     all_goals (simp at ho; subst ho)
     ·
      refine .inl ⟨rfl, ?_⟩
      have o7 : b'.tmps[7]?.getD undef = .bool true := tAt (hk 7 (fun j oj _ e => (crADst_ne (by decide) e).elim))
      clear hd hk
      go_step
      exact ⟨_, rfl, rfl, uZ⟩
     ·
      refine .inl ⟨rfl, ?_⟩
      have e0 : b'.tmps[25]?.getD undef = .bool true := tAt (hd ⟨0, .data⟩ (by simp) rfl)
      clear hd hk
      go_step
      exact ⟨_, rfl, rfl, uZ⟩
     ·
      refine .inr ⟨gNot rfl rfl (hd ⟨1, .guard⟩ (by simp) rfl), rfl, rfl, uZ⟩
     ·
      refine .inr ⟨gNot rfl rfl (hd ⟨1, .guard⟩ (by simp) rfl), rfl, rfl, uZ⟩
     ·
      refine .inr ⟨gNot rfl rfl (hd ⟨1, .guard⟩ (by simp) rfl), rfl, rfl, uZ⟩
     ·
      refine .inr ⟨gNot rfl rfl (hd ⟨1, .guard⟩ (by simp) rfl), rfl, rfl, uZ⟩
     ·
      refine .inr ⟨gNot rfl rfl (hd ⟨1, .guard⟩ (by simp) rfl), rfl, rfl, uZ⟩
     ·
      refine .inl ⟨rfl, ?_⟩
      have e1 : b'.tmps[26]?.getD undef = .bool true := tAt (hd ⟨1, .data⟩ (by simp) rfl)
      have e6 : b'.tmps[31]?.getD undef = undef := tAt (hd ⟨6, .data⟩ (by simp) rfl)
      clear hd hk
      go_step
      exact ⟨_, rfl, rfl, uZ⟩
     ·
      refine .inl ⟨rfl, ?_⟩
      have e7 : b'.tmps[32]?.getD undef = .bool true := tAt (hd ⟨7, .data⟩ (by simp) rfl)
      clear hd hk
      go_step
      exact ⟨_, rfl, rfl, uZ⟩
     ·
      refine .inr ⟨gNot rfl rfl (hd ⟨8, .guard⟩ (by simp) rfl), rfl, rfl, uZ⟩
     ·
      refine .inr ⟨gNot rfl rfl (hd ⟨8, .guard⟩ (by simp) rfl), rfl, rfl, uZ⟩
     ·
      refine .inr ⟨gNot rfl rfl (hd ⟨8, .guard⟩ (by simp) rfl), rfl, rfl, uZ⟩
     ·
      refine .inr ⟨gUn rfl rfl (hd ⟨11, .guard⟩ (by simp) rfl), rfl, rfl, uZ⟩
     ·
      refine .inr ⟨gUn rfl rfl (hd ⟨11, .guard⟩ (by simp) rfl), rfl, rfl, uZ⟩
     ·
      refine .inr ⟨gUn rfl rfl (hd ⟨11, .guard⟩ (by simp) rfl), rfl, rfl, uZ⟩
     ·
      refine .inr ⟨gUn rfl rfl (hd ⟨11, .guard⟩ (by simp) rfl), rfl, rfl, uZ⟩
     ·
      refine .inr ⟨gUn rfl rfl (hd ⟨11, .guard⟩ (by simp) rfl), rfl, rfl, uZ⟩
     ·
      refine .inr ⟨gUn rfl rfl (hd ⟨11, .guard⟩ (by simp) rfl), rfl, rfl, uZ⟩
     ·
      refine .inr ⟨gUn rfl rfl (hd ⟨11, .guard⟩ (by simp) rfl), rfl, rfl, uZ⟩
     ·
      refine .inr ⟨gUn rfl rfl (hd ⟨11, .guard⟩ (by simp) rfl), rfl, rfl, uZ⟩
     ·
      refine .inr ⟨gUn rfl rfl (hd ⟨11, .guard⟩ (by simp) rfl), rfl, rfl, uZ⟩
     ·
      refine .inr ⟨gNot rfl rfl (hd ⟨8, .guard⟩ (by simp) rfl), rfl, rfl, uZ⟩
     ·
      refine .inl ⟨rfl, ?_⟩
      have e8 : b'.tmps[33]?.getD undef = .bool true := tAt (hd ⟨8, .data⟩ (by simp) rfl)
      have e21 : b'.tmps[46]?.getD undef = undef := tAt (hd ⟨21, .data⟩ (by simp) rfl)
      clear hd hk
      go_step
      exact ⟨_, rfl, rfl, uZ⟩
    ·intro v w1' hx1' hp
     have h22 : v 22 = .bool true := hp 22 (by decide)
     have HX8 := zq (HX3.out.trans hx1')
     clear hp hx1'
     simp only [List.size_toArray, List.length_cons, List.length_nil, Nat.reduceAdd, fillAll, crADst]
     go_simp
     go_wp2
     go_ret
     exact ⟨by rw [HB.out]; rfl, HX8.out⟩
   | false =>
    have hfree : di ≠ 0 /\ ∀ a ∈ l.take n, a.2 ≠ di := by
     have := HTW.out.symm
     simp only [Bool.or_eq_false_iff, decide_eq_false_iff_not, List.any_eq_false, decide_eq_true_eq] at this
     exact this
    have HFR := zq hfree
    clear hfree
    cases hnm : nameOk s with
    | false =>
     have HNM := zq hnm
     have HB := zq (catRight_bad HLT.out (by rw [HS.out] at hnm; simp [stepE, hnm]))
     clear hnm
     refine wp_region_invH Nothing (fun _ => Ext) 1000 crBDst (crBPhi ge n 0 b1 o1 0 0 s s) 53 (by kernel_rfl) (by decide) (by decide) rfl (fun i hi => .inl ((by decide : ∀ i, i < 23 -> crBDst i < 53) i hi)) (fun i w w' h => ⟨h, fun _ => h⟩) (fun i j v w w' _ _ _ _ h hu => h.ext hu) ?_ ?_
     ·intro i o b' w1' ho hx1' hd hk hE hSZ
      have hi : i < 23 := (Array.getElem?_eq_some_iff.1 ho).1
      have his : i = 0 \/ i = 1 \/ i = 2 \/ i = 3 \/ i = 4 \/ i = 5 \/ i = 6 \/ i = 7 \/ i = 8 \/ i = 9 \/ i = 10 \/ i = 11 \/ i = 12 \/ i = 13 \/ i = 14 \/ i = 15 \/ i = 16 \/ i = 17 \/ i = 18 \/ i = 19 \/ i = 20 \/ i = 21 \/ i = 22 := by omega
      clear hE hSZ
      have HW1 := zq hx1'
      clear hx1'
      rcases his with rfl | rfl | rfl | rfl | rfl | rfl | rfl | rfl | rfl | rfl | rfl | rfl | rfl | rfl | rfl | rfl | rfl | rfl | rfl | rfl | rfl | rfl | rfl
      all_goals (simp at ho; subst ho)
      ·
       refine .inl ⟨rfl, ?_⟩
       have o7 : b'.tmps[7]?.getD undef = .bool false := tAt (hk 7 (fun j oj _ e => (crBDst_ne (by decide) e).elim))
       clear hd hk
       go_step
       exact ⟨_, rfl, rfl, uZ⟩
      ·
       refine .inl ⟨rfl, ?_⟩
       have e0 : b'.tmps[25]?.getD undef = .bool false := tAt (hd ⟨0, .data⟩ (by simp) rfl)
       clear hd hk
       go_step
       exact ⟨_, rfl, rfl, uZ⟩
      ·
       refine .inl ⟨gAt rfl rfl (hd ⟨1, .guard⟩ (by simp) rfl), ?_⟩
       have o5 : b'.tmps[5]?.getD undef = .pointer (some ⟨ge, 0, none⟩) := tAt (hk 5 (fun j oj _ e => (crBDst_ne (by decide) e).elim))
       have q := lZ (HW1.out.at_ HGE.out id)
       clear hd hk
       go_step
       exact ⟨_, rfl, rfl, uZ⟩
      ·
       refine .inl ⟨gAt rfl rfl (hd ⟨1, .guard⟩ (by simp) rfl), ?_⟩
       have e2 : b'.tmps[27]?.getD undef = .pointer (some ⟨ge, 0, none⟩) := tAt (hd ⟨2, .data⟩ (by simp) rfl)
       have q := cZ (HW1.out.at_ HGE.out id) 0 _ rfl
       clear hd hk
       go_step
       exact ⟨_, rfl, rfl, uZ⟩
      ·
       refine .inl ⟨gAt rfl rfl (hd ⟨1, .guard⟩ (by simp) rfl), ?_⟩
       have e3 : b'.tmps[28]?.getD undef = str s := tAt (hd ⟨3, .data⟩ (by simp) rfl)
       clear hd hk
       go_step
       exact ⟨_, rfl, (row_new w1' #[str s] 9 1 _ (by decide) rfl).mono (fun _ _ => trivial), uZ.alloc _⟩
      ·
       refine .inl ⟨gAt rfl rfl (hd ⟨1, .guard⟩ (by simp) rfl), ?_⟩
       have h4 := hd ⟨4, .data⟩ (by simp) rfl
       have h4 : OneTx s (b'.tmps.getD 29 undef) w1' := h4
       obtain ⟨u29, hu29⟩ : ∃ u, u = b'.tmps[29]?.getD undef := ⟨_, rfl⟩
       rw [show b'.tmps.getD 29 undef = u29 by rw [hu29]; simp] at h4
       have e29 : b'.tmps[29]?.getD undef = u29 := hu29.symm
       clear hu29
       clear hd hk
       go_step
       refine (isName_any w1' u29 [s] (show Texts (fun _ => True) w1' u29 [s] from h4)).mono ?_
       rintro e w2 ⟨rfl, hu⟩
       exact ⟨_, rfl, (by show Value.bool _ = .bool false; simp [HNM.out]), hu⟩
      ·
       refine .inl ⟨gAt rfl rfl (hd ⟨1, .guard⟩ (by simp) rfl), ?_⟩
       have e5 : b'.tmps[30]?.getD undef = .bool false := tAt (hd ⟨5, .data⟩ (by simp) rfl)
       clear hd hk
       go_step
       exact ⟨_, rfl, rfl, uZ⟩
      ·
       refine .inl ⟨rfl, ?_⟩
       have e1 : b'.tmps[26]?.getD undef = .bool false := tAt (hd ⟨1, .data⟩ (by simp) rfl)
       have e6 : b'.tmps[31]?.getD undef = .bool true := tAt (hd ⟨6, .data⟩ (by simp) rfl)
       clear hd hk
       go_step
       exact ⟨_, rfl, rfl, uZ⟩
      ·
       refine .inl ⟨rfl, ?_⟩
       have e7 : b'.tmps[32]?.getD undef = .bool true := tAt (hd ⟨7, .data⟩ (by simp) rfl)
       clear hd hk
       go_step
       exact ⟨_, rfl, rfl, uZ⟩
      ·
       refine .inr ⟨gNot rfl rfl (hd ⟨8, .guard⟩ (by simp) rfl), rfl, rfl, uZ⟩
      ·
       refine .inr ⟨gNot rfl rfl (hd ⟨8, .guard⟩ (by simp) rfl), rfl, rfl, uZ⟩
      ·
       refine .inr ⟨gNot rfl rfl (hd ⟨8, .guard⟩ (by simp) rfl), rfl, rfl, uZ⟩
      ·
       refine .inr ⟨gUn rfl rfl (hd ⟨11, .guard⟩ (by simp) rfl), rfl, rfl, uZ⟩
      ·
       refine .inr ⟨gUn rfl rfl (hd ⟨11, .guard⟩ (by simp) rfl), rfl, rfl, uZ⟩
      ·
       refine .inr ⟨gUn rfl rfl (hd ⟨11, .guard⟩ (by simp) rfl), rfl, rfl, uZ⟩
      ·
       refine .inr ⟨gUn rfl rfl (hd ⟨11, .guard⟩ (by simp) rfl), rfl, rfl, uZ⟩
      ·
       refine .inr ⟨gUn rfl rfl (hd ⟨11, .guard⟩ (by simp) rfl), rfl, rfl, uZ⟩
      ·
       refine .inr ⟨gUn rfl rfl (hd ⟨11, .guard⟩ (by simp) rfl), rfl, rfl, uZ⟩
      ·
       refine .inr ⟨gUn rfl rfl (hd ⟨11, .guard⟩ (by simp) rfl), rfl, rfl, uZ⟩
      ·
       refine .inr ⟨gUn rfl rfl (hd ⟨11, .guard⟩ (by simp) rfl), rfl, rfl, uZ⟩
      ·
       refine .inr ⟨gUn rfl rfl (hd ⟨11, .guard⟩ (by simp) rfl), rfl, rfl, uZ⟩
      ·
       refine .inr ⟨gNot rfl rfl (hd ⟨8, .guard⟩ (by simp) rfl), rfl, rfl, uZ⟩
      ·
       refine .inl ⟨rfl, ?_⟩
       have e8 : b'.tmps[33]?.getD undef = .bool true := tAt (hd ⟨8, .data⟩ (by simp) rfl)
       have e21 : b'.tmps[46]?.getD undef = undef := tAt (hd ⟨21, .data⟩ (by simp) rfl)
       clear hd hk
       go_step
       exact ⟨_, rfl, rfl, uZ⟩
     ·intro v w1' hx1' hp
      have h22 : v 22 = .bool true := hp 22 (by decide)
      have HX8 := zq (HX3.out.trans hx1')
      clear hp hx1'
      simp only [List.size_toArray, List.length_cons, List.length_nil, Nat.reduceAdd, fillAll, crBDst]
      go_simp
      go_wp2
      go_ret
      exact ⟨by rw [HB.out]; rfl, HX8.out⟩
    | true =>
     have HNM := zq hnm
     clear hnm
     by_cases hn0 : n = 0
     ·have HMN := zq hn0
      have HOK := zq (show stepE (l.take n) (l[n]'HLT.out) = true by
       have h1 := HNM.out; have h2 := HFR.out; rw [HS.out] at h1; rw [HID.out] at h2
       simp only [stepE, Bool.and_eq_true, decide_eq_true_eq, List.all_eq_true]
       refine ⟨⟨h1, h2.1⟩, fun a ha => ?_⟩
       rw [hn0] at ha; simp at ha)
      clear hn0
      refine wp_region_invH Nothing (fun _ => Ext) 1000 crCDst (crCPhi ge n 0 b1 o1 0 0 s s) 53 (by kernel_rfl) (by decide) (by decide) rfl (fun i hi => .inl ((by decide : ∀ i, i < 23 -> crCDst i < 53) i hi)) (fun i w w' h => ⟨h, fun _ => h⟩) (fun i j v w w' _ _ _ _ h hu => h.ext hu) ?_ ?_
      ·intro i o b' w1' ho hx1' hd hk hE hSZ
       have hi : i < 23 := (Array.getElem?_eq_some_iff.1 ho).1
       have his : i = 0 \/ i = 1 \/ i = 2 \/ i = 3 \/ i = 4 \/ i = 5 \/ i = 6 \/ i = 7 \/ i = 8 \/ i = 9 \/ i = 10 \/ i = 11 \/ i = 12 \/ i = 13 \/ i = 14 \/ i = 15 \/ i = 16 \/ i = 17 \/ i = 18 \/ i = 19 \/ i = 20 \/ i = 21 \/ i = 22 := by omega
       clear hE hSZ
       have HW1 := zq hx1'
       clear hx1'
       rcases his with rfl | rfl | rfl | rfl | rfl | rfl | rfl | rfl | rfl | rfl | rfl | rfl | rfl | rfl | rfl | rfl | rfl | rfl | rfl | rfl | rfl | rfl | rfl
       all_goals (simp at ho; subst ho)
       ·
        refine .inl ⟨rfl, ?_⟩
        have o7 : b'.tmps[7]?.getD undef = .bool false := tAt (hk 7 (fun j oj _ e => (crCDst_ne (by decide) e).elim))
        clear hd hk
        go_step
        exact ⟨_, rfl, rfl, uZ⟩
       ·
        refine .inl ⟨rfl, ?_⟩
        have e0 : b'.tmps[25]?.getD undef = .bool false := tAt (hd ⟨0, .data⟩ (by simp) rfl)
        clear hd hk
        go_step
        exact ⟨_, rfl, rfl, uZ⟩
       ·
        refine .inl ⟨gAt rfl rfl (hd ⟨1, .guard⟩ (by simp) rfl), ?_⟩
        have o5 : b'.tmps[5]?.getD undef = .pointer (some ⟨ge, 0, none⟩) := tAt (hk 5 (fun j oj _ e => (crCDst_ne (by decide) e).elim))
        have q := lZ (HW1.out.at_ HGE.out id)
        clear hd hk
        go_step
        exact ⟨_, rfl, rfl, uZ⟩
       ·
        refine .inl ⟨gAt rfl rfl (hd ⟨1, .guard⟩ (by simp) rfl), ?_⟩
        have e2 : b'.tmps[27]?.getD undef = .pointer (some ⟨ge, 0, none⟩) := tAt (hd ⟨2, .data⟩ (by simp) rfl)
        have q := cZ (HW1.out.at_ HGE.out id) 0 _ rfl
        clear hd hk
        go_step
        exact ⟨_, rfl, rfl, uZ⟩
       ·
        refine .inl ⟨gAt rfl rfl (hd ⟨1, .guard⟩ (by simp) rfl), ?_⟩
        have e3 : b'.tmps[28]?.getD undef = str s := tAt (hd ⟨3, .data⟩ (by simp) rfl)
        clear hd hk
        go_step
        exact ⟨_, rfl, (row_new w1' #[str s] 9 1 _ (by decide) rfl).mono (fun _ _ => trivial), uZ.alloc _⟩
       ·
        refine .inl ⟨gAt rfl rfl (hd ⟨1, .guard⟩ (by simp) rfl), ?_⟩
        have h4 := hd ⟨4, .data⟩ (by simp) rfl
        have h4 : OneTx s (b'.tmps.getD 29 undef) w1' := h4
        obtain ⟨u29, hu29⟩ : ∃ u, u = b'.tmps[29]?.getD undef := ⟨_, rfl⟩
        rw [show b'.tmps.getD 29 undef = u29 by rw [hu29]; simp] at h4
        have e29 : b'.tmps[29]?.getD undef = u29 := hu29.symm
        clear hu29
        clear hd hk
        go_step
        refine (isName_any w1' u29 [s] (show Texts (fun _ => True) w1' u29 [s] from h4)).mono ?_
        rintro e w2 ⟨rfl, hu⟩
        exact ⟨_, rfl, (by show Value.bool _ = .bool true; simp [HNM.out]), hu⟩
       ·
        refine .inl ⟨gAt rfl rfl (hd ⟨1, .guard⟩ (by simp) rfl), ?_⟩
        have e5 : b'.tmps[30]?.getD undef = .bool true := tAt (hd ⟨5, .data⟩ (by simp) rfl)
        clear hd hk
        go_step
        exact ⟨_, rfl, rfl, uZ⟩
       ·
        refine .inl ⟨rfl, ?_⟩
        have e1 : b'.tmps[26]?.getD undef = .bool false := tAt (hd ⟨1, .data⟩ (by simp) rfl)
        have e6 : b'.tmps[31]?.getD undef = .bool false := tAt (hd ⟨6, .data⟩ (by simp) rfl)
        clear hd hk
        go_step
        exact ⟨_, rfl, rfl, uZ⟩
       ·
        refine .inl ⟨rfl, ?_⟩
        have e7 : b'.tmps[32]?.getD undef = .bool false := tAt (hd ⟨7, .data⟩ (by simp) rfl)
        clear hd hk
        go_step
        exact ⟨_, rfl, rfl, uZ⟩
       ·
        refine .inl ⟨gAt rfl rfl (hd ⟨8, .guard⟩ (by simp) rfl), ?_⟩
        have o4 : b'.tmps[4]?.getD undef = .int .i64 n := tAt (hk 4 (fun j oj _ e => (crCDst_ne (by decide) e).elim))
        clear hd hk
        go_step
        exact ⟨_, rfl, rfl, uZ⟩
       ·
        refine .inl ⟨gAt rfl rfl (hd ⟨8, .guard⟩ (by simp) rfl), ?_⟩
        have e9 : b'.tmps[34]?.getD undef = .int .i64 n := tAt (hd ⟨9, .data⟩ (by simp) rfl)
        clear hd hk
        go_step
        exact ⟨_, rfl, (by show Value.bool _ = .bool _; simp; have := HMN.out; omega), uZ⟩
       ·
        refine .inl ⟨gAt rfl rfl (hd ⟨8, .guard⟩ (by simp) rfl), ?_⟩
        have e10 : b'.tmps[35]?.getD undef = .bool false := tAt (hd ⟨10, .data⟩ (by simp) rfl)
        clear hd hk
        go_step
        exact ⟨_, rfl, rfl, uZ⟩
       ·
        refine .inr ⟨gNot rfl rfl (hd ⟨11, .guard⟩ (by simp) rfl), rfl, rfl, uZ⟩
       ·
        refine .inr ⟨gNot rfl rfl (hd ⟨11, .guard⟩ (by simp) rfl), rfl, rfl, uZ⟩
       ·
        refine .inr ⟨gNot rfl rfl (hd ⟨11, .guard⟩ (by simp) rfl), rfl, rfl, uZ⟩
       ·
        refine .inr ⟨gNot rfl rfl (hd ⟨11, .guard⟩ (by simp) rfl), rfl, rfl, uZ⟩
       ·
        refine .inr ⟨gNot rfl rfl (hd ⟨11, .guard⟩ (by simp) rfl), rfl, rfl, uZ⟩
       ·
        refine .inr ⟨gNot rfl rfl (hd ⟨11, .guard⟩ (by simp) rfl), rfl, rfl, uZ⟩
       ·
        refine .inr ⟨gNot rfl rfl (hd ⟨11, .guard⟩ (by simp) rfl), rfl, rfl, uZ⟩
       ·
        refine .inr ⟨gNot rfl rfl (hd ⟨11, .guard⟩ (by simp) rfl), rfl, rfl, uZ⟩
       ·
        refine .inr ⟨gNot rfl rfl (hd ⟨11, .guard⟩ (by simp) rfl), rfl, rfl, uZ⟩
       ·
        refine .inl ⟨gAt rfl rfl (hd ⟨8, .guard⟩ (by simp) rfl), ?_⟩
        have e11 : b'.tmps[36]?.getD undef = .bool false := tAt (hd ⟨11, .data⟩ (by simp) rfl)
        have e20 : b'.tmps[45]?.getD undef = undef := tAt (hd ⟨20, .data⟩ (by simp) rfl)
        clear hd hk
        go_step
        exact ⟨_, rfl, rfl, uZ⟩
       ·
        refine .inl ⟨rfl, ?_⟩
        have e8 : b'.tmps[33]?.getD undef = .bool false := tAt (hd ⟨8, .data⟩ (by simp) rfl)
        have e21 : b'.tmps[46]?.getD undef = .bool false := tAt (hd ⟨21, .data⟩ (by simp) rfl)
        clear hd hk
        go_step
        exact ⟨_, rfl, rfl, uZ⟩
      ·intro v w1' hx1' hp
       have h22 : v 22 = .bool false := hp 22 (by decide)
       have HX8 := zq (HX3.out.trans hx1')
       have hg8 := hx1'.at_ HGE.out id
       have e1 := cZ hg8 1 _ rfl
       have hl8 := lZ hg8
       have HO8 := zq (show w1'.ownsMap Tryz.prog 22 unitElem w.heap.size (n + 1) D from by obtain ⟨es, c, hb, h1⟩ := HOWN.out; exact ⟨es, c, hx1'.at_ hb id, h1⟩)
       have hkey := c64_key di hid
       clear hp hx1' hg8
       simp only [List.size_toArray, List.length_cons, List.length_nil, Nat.reduceAdd, fillAll, crCDst]
       go_simp
       go_wp2_with (first
        | (at_mapUpdate; refine wpList_mapUpdate_own _ rfl _ _ _ 196 rfl 22 199 Tryz.keyC Tryz.underlying196 (unitElem (H := Unit)) w.heap.size (n + 1) D rfl HO8.out (by unfold maxLen; omega) _ _ _ rfl rfl hkey _ [] unitElem_mk ?_; intro w9 hown9 hg9)
        | go_in)
       have hx9 : Ext w w9 := HX8.out.step (upd_mapc hg9) (fun i hi e => by unfold At at e; omega)
       have HO9 := zq hown9
       clear hown9 hg9
       go_wp2
       go_roundw
       case rel => exact ⟨n + 1, by have := HLT.out; omega, by go_num, zq ⟨_, HO9.out, fun k => by rw [List.take_succ_eq_append_getElem HLT.out]; exact ids_put2 HOWN.out.isMap HHAS.out HID.out k⟩, zq (by rw [List.take_succ_eq_append_getElem HLT.out, catRight_snoc, HR.out, HOK.out]; rfl), zq hx9⟩
       case measure => have := HLT.out; simp [intOf]; omega
     ·obtain ⟨m, hmn⟩ : ∃ m, n = m + 1 := ⟨n - 1, by omega⟩
      have HMN := zq hmn
      obtain ⟨hml, hcp⟩ := HPRE.out m hmn.symm
      obtain ⟨ps, hps⟩ : ∃ s, s = l[m].1 := ⟨_, rfl⟩
      rw [<- hps] at hcp
      have HCP := zq (HWX.out.cell hcp id)
      have HPS := zq hps
      have hst : stepE (l.take n) (l[n]'HLT.out) = decide (ps < s) := by
       have h1 := HNM.out
       have h2 := HFR.out
       have h3 := HR.out
       have h4 := HLT.out
       rw [HS.out] at h1; rw [HID.out] at h2
       rw [HPS.out, HS.out]
       subst hmn
       exact stepE_iff h4 h3 h1 h2.1 h2.2
      have HST := zq hst
      clear hcp hps hst hn0 hmn
      cases hlt2 : decide (ps < s) with
      | true =>
       have HLS := zq (str_less _ _ _ hlt2)
       have HOK := zq (show stepE (l.take n) (l[n]'HLT.out) = true by rw [HST.out, hlt2])
       clear hlt2
       refine wp_region_invH Nothing (fun _ => Ext) 1000 crDDst (crDPhi ge n m b1 o1 l.length c0 s ps) 53 (by kernel_rfl) (by decide) (by decide) rfl (fun i hi => .inl ((by decide : ∀ i, i < 23 -> crDDst i < 53) i hi)) (fun i w w' h => ⟨h, fun _ => h⟩) (fun i j v w w' _ _ _ _ h hu => h.ext hu) ?_ ?_
       ·intro i o b' w1' ho hx1' hd hk hE hSZ
        have hi : i < 23 := (Array.getElem?_eq_some_iff.1 ho).1
        have his : i = 0 \/ i = 1 \/ i = 2 \/ i = 3 \/ i = 4 \/ i = 5 \/ i = 6 \/ i = 7 \/ i = 8 \/ i = 9 \/ i = 10 \/ i = 11 \/ i = 12 \/ i = 13 \/ i = 14 \/ i = 15 \/ i = 16 \/ i = 17 \/ i = 18 \/ i = 19 \/ i = 20 \/ i = 21 \/ i = 22 := by omega
        clear hE hSZ
        have HW1 := zq hx1'
        clear hx1'
        rcases his with rfl | rfl | rfl | rfl | rfl | rfl | rfl | rfl | rfl | rfl | rfl | rfl | rfl | rfl | rfl | rfl | rfl | rfl | rfl | rfl | rfl | rfl | rfl
        all_goals (simp at ho; subst ho)
        ·
         refine .inl ⟨rfl, ?_⟩
         have o7 : b'.tmps[7]?.getD undef = .bool false := tAt (hk 7 (fun j oj _ e => (crDDst_ne (by decide) e).elim))
         clear hd hk
         go_step
         exact ⟨_, rfl, rfl, uZ⟩
        ·
         refine .inl ⟨rfl, ?_⟩
         have e0 : b'.tmps[25]?.getD undef = .bool false := tAt (hd ⟨0, .data⟩ (by simp) rfl)
         clear hd hk
         go_step
         exact ⟨_, rfl, rfl, uZ⟩
        ·
         refine .inl ⟨gAt rfl rfl (hd ⟨1, .guard⟩ (by simp) rfl), ?_⟩
         have o5 : b'.tmps[5]?.getD undef = .pointer (some ⟨ge, 0, none⟩) := tAt (hk 5 (fun j oj _ e => (crDDst_ne (by decide) e).elim))
         have q := lZ (HW1.out.at_ HGE.out id)
         clear hd hk
         go_step
         exact ⟨_, rfl, rfl, uZ⟩
        ·
         refine .inl ⟨gAt rfl rfl (hd ⟨1, .guard⟩ (by simp) rfl), ?_⟩
         have e2 : b'.tmps[27]?.getD undef = .pointer (some ⟨ge, 0, none⟩) := tAt (hd ⟨2, .data⟩ (by simp) rfl)
         have q := cZ (HW1.out.at_ HGE.out id) 0 _ rfl
         clear hd hk
         go_step
         exact ⟨_, rfl, rfl, uZ⟩
        ·
         refine .inl ⟨gAt rfl rfl (hd ⟨1, .guard⟩ (by simp) rfl), ?_⟩
         have e3 : b'.tmps[28]?.getD undef = str s := tAt (hd ⟨3, .data⟩ (by simp) rfl)
         clear hd hk
         go_step
         exact ⟨_, rfl, (row_new w1' #[str s] 9 1 _ (by decide) rfl).mono (fun _ _ => trivial), uZ.alloc _⟩
        ·
         refine .inl ⟨gAt rfl rfl (hd ⟨1, .guard⟩ (by simp) rfl), ?_⟩
         have h4 := hd ⟨4, .data⟩ (by simp) rfl
         have h4 : OneTx s (b'.tmps.getD 29 undef) w1' := h4
         obtain ⟨u29, hu29⟩ : ∃ u, u = b'.tmps[29]?.getD undef := ⟨_, rfl⟩
         rw [show b'.tmps.getD 29 undef = u29 by rw [hu29]; simp] at h4
         have e29 : b'.tmps[29]?.getD undef = u29 := hu29.symm
         clear hu29
         clear hd hk
         go_step
         refine (isName_any w1' u29 [s] (show Texts (fun _ => True) w1' u29 [s] from h4)).mono ?_
         rintro e w2 ⟨rfl, hu⟩
         exact ⟨_, rfl, (by show Value.bool _ = .bool true; simp [HNM.out]), hu⟩
        ·
         refine .inl ⟨gAt rfl rfl (hd ⟨1, .guard⟩ (by simp) rfl), ?_⟩
         have e5 : b'.tmps[30]?.getD undef = .bool true := tAt (hd ⟨5, .data⟩ (by simp) rfl)
         clear hd hk
         go_step
         exact ⟨_, rfl, rfl, uZ⟩
        ·
         refine .inl ⟨rfl, ?_⟩
         have e1 : b'.tmps[26]?.getD undef = .bool false := tAt (hd ⟨1, .data⟩ (by simp) rfl)
         have e6 : b'.tmps[31]?.getD undef = .bool false := tAt (hd ⟨6, .data⟩ (by simp) rfl)
         clear hd hk
         go_step
         exact ⟨_, rfl, rfl, uZ⟩
        ·
         refine .inl ⟨rfl, ?_⟩
         have e7 : b'.tmps[32]?.getD undef = .bool false := tAt (hd ⟨7, .data⟩ (by simp) rfl)
         clear hd hk
         go_step
         exact ⟨_, rfl, rfl, uZ⟩
        ·
         refine .inl ⟨gAt rfl rfl (hd ⟨8, .guard⟩ (by simp) rfl), ?_⟩
         have o4 : b'.tmps[4]?.getD undef = .int .i64 n := tAt (hk 4 (fun j oj _ e => (crDDst_ne (by decide) e).elim))
         clear hd hk
         go_step
         exact ⟨_, rfl, rfl, uZ⟩
        ·
         refine .inl ⟨gAt rfl rfl (hd ⟨8, .guard⟩ (by simp) rfl), ?_⟩
         have e9 : b'.tmps[34]?.getD undef = .int .i64 n := tAt (hd ⟨9, .data⟩ (by simp) rfl)
         clear hd hk
         go_step
         exact ⟨_, rfl, (by show Value.bool _ = .bool _; simp; have := HMN.out; omega), uZ⟩
        ·
         refine .inl ⟨gAt rfl rfl (hd ⟨8, .guard⟩ (by simp) rfl), ?_⟩
         have e10 : b'.tmps[35]?.getD undef = .bool true := tAt (hd ⟨10, .data⟩ (by simp) rfl)
         clear hd hk
         go_step
         exact ⟨_, rfl, rfl, uZ⟩
        ·
         refine .inl ⟨gAt rfl rfl (hd ⟨11, .guard⟩ (by simp) rfl), ?_⟩
         have o0 : b'.tmps[0]?.getD undef = .slice (some ⟨b1, o1, none⟩) l.length c0 := tAt (hk 0 (fun j oj _ e => (crDDst_ne (by decide) e).elim))
         clear hd hk
         go_step
         exact ⟨_, rfl, rfl, uZ⟩
        ·
         refine .inl ⟨gAt rfl rfl (hd ⟨11, .guard⟩ (by simp) rfl), ?_⟩
         have o4 : b'.tmps[4]?.getD undef = .int .i64 n := tAt (hk 4 (fun j oj _ e => (crDDst_ne (by decide) e).elim))
         clear hd hk
         go_step
         exact ⟨_, rfl, rfl, uZ⟩
        ·
         refine .inl ⟨gAt rfl rfl (hd ⟨11, .guard⟩ (by simp) rfl), ?_⟩
         have e13 : b'.tmps[38]?.getD undef = .int .i64 n := tAt (hd ⟨13, .data⟩ (by simp) rfl)
         have q2 := HMN.out
         clear hd hk
         go_step
         exact ⟨_, rfl, rfl, uZ⟩
        ·
         refine .inl ⟨gAt rfl rfl (hd ⟨11, .guard⟩ (by simp) rfl), ?_⟩
         have e12 : b'.tmps[37]?.getD undef = .slice (some ⟨b1, o1, none⟩) l.length c0 := tAt (hd ⟨12, .data⟩ (by simp) rfl)
         have e14 : b'.tmps[39]?.getD undef = .int .i64 (m : Int) := tAt (hd ⟨14, .data⟩ (by simp) rfl)
         have q := HLT.out
         have q2 := HMN.out
         clear hd hk
         go_step
         exact ⟨_, rfl, rfl, uZ⟩
        ·
         refine .inl ⟨gAt rfl rfl (hd ⟨11, .guard⟩ (by simp) rfl), ?_⟩
         have e15 : b'.tmps[40]?.getD undef = .pointer (some ⟨b1, o1 + m * 2, none⟩) := tAt (hd ⟨15, .data⟩ (by simp) rfl)
         clear hd hk
         go_step
         exact ⟨_, rfl, rfl, uZ⟩
        ·
         refine .inl ⟨gAt rfl rfl (hd ⟨11, .guard⟩ (by simp) rfl), ?_⟩
         have e16 : b'.tmps[41]?.getD undef = .pointer (some ⟨b1, o1 + m * 2, none⟩) := tAt (hd ⟨16, .data⟩ (by simp) rfl)
         have q := HW1.out.cell HCP.out id
         clear hd hk
         go_step
         exact ⟨_, rfl, rfl, uZ⟩
        ·
         refine .inl ⟨gAt rfl rfl (hd ⟨11, .guard⟩ (by simp) rfl), ?_⟩
         have o5 : b'.tmps[5]?.getD undef = .pointer (some ⟨ge, 0, none⟩) := tAt (hk 5 (fun j oj _ e => (crDDst_ne (by decide) e).elim))
         have q := lZ (HW1.out.at_ HGE.out id)
         clear hd hk
         go_step
         exact ⟨_, rfl, rfl, uZ⟩
        ·
         refine .inl ⟨gAt rfl rfl (hd ⟨11, .guard⟩ (by simp) rfl), ?_⟩
         have e18 : b'.tmps[43]?.getD undef = .pointer (some ⟨ge, 0, none⟩) := tAt (hd ⟨18, .data⟩ (by simp) rfl)
         have q := cZ (HW1.out.at_ HGE.out id) 0 _ rfl
         clear hd hk
         go_step
         exact ⟨_, rfl, rfl, uZ⟩
        ·
         refine .inl ⟨gAt rfl rfl (hd ⟨11, .guard⟩ (by simp) rfl), ?_⟩
         have e17 : b'.tmps[42]?.getD undef = str ps := tAt (hd ⟨17, .data⟩ (by simp) rfl)
         have e19 : b'.tmps[44]?.getD undef = str s := tAt (hd ⟨19, .data⟩ (by simp) rfl)
         have q := HLS.out
         clear hd hk
         go_step
         exact ⟨_, rfl, rfl, uZ⟩
        ·
         refine .inl ⟨gAt rfl rfl (hd ⟨8, .guard⟩ (by simp) rfl), ?_⟩
         have e11 : b'.tmps[36]?.getD undef = .bool true := tAt (hd ⟨11, .data⟩ (by simp) rfl)
         have e20 : b'.tmps[45]?.getD undef = .bool false := tAt (hd ⟨20, .data⟩ (by simp) rfl)
         clear hd hk
         go_step
         exact ⟨_, rfl, rfl, uZ⟩
        ·
         refine .inl ⟨rfl, ?_⟩
         have e8 : b'.tmps[33]?.getD undef = .bool false := tAt (hd ⟨8, .data⟩ (by simp) rfl)
         have e21 : b'.tmps[46]?.getD undef = .bool false := tAt (hd ⟨21, .data⟩ (by simp) rfl)
         clear hd hk
         go_step
         exact ⟨_, rfl, rfl, uZ⟩
       ·intro v w1' hx1' hp
        have h22 : v 22 = .bool false := hp 22 (by decide)
        have HX8 := zq (HX3.out.trans hx1')
        have hg8 := hx1'.at_ HGE.out id
        have e1 := cZ hg8 1 _ rfl
        have hl8 := lZ hg8
        have HO8 := zq (show w1'.ownsMap Tryz.prog 22 unitElem w.heap.size (n + 1) D from by obtain ⟨es, c, hb, h1⟩ := HOWN.out; exact ⟨es, c, hx1'.at_ hb id, h1⟩)
        have hkey := c64_key di hid
        clear hp hx1' hg8
        simp only [List.size_toArray, List.length_cons, List.length_nil, Nat.reduceAdd, fillAll, crDDst]
        go_simp
        go_wp2_with (first
         | (at_mapUpdate; refine wpList_mapUpdate_own _ rfl _ _ _ 196 rfl 22 199 Tryz.keyC Tryz.underlying196 (unitElem (H := Unit)) w.heap.size (n + 1) D rfl HO8.out (by unfold maxLen; omega) _ _ _ rfl rfl hkey _ [] unitElem_mk ?_; intro w9 hown9 hg9)
         | go_in)
        have hx9 : Ext w w9 := HX8.out.step (upd_mapc hg9) (fun i hi e => by unfold At at e; omega)
        have HO9 := zq hown9
        clear hown9 hg9
        go_wp2
        go_roundw
        case rel => exact ⟨n + 1, by have := HLT.out; omega, by go_num, zq ⟨_, HO9.out, fun k => by rw [List.take_succ_eq_append_getElem HLT.out]; exact ids_put2 HOWN.out.isMap HHAS.out HID.out k⟩, zq (by rw [List.take_succ_eq_append_getElem HLT.out, catRight_snoc, HR.out, HOK.out]; rfl), zq hx9⟩
        case measure => have := HLT.out; simp [intOf]; omega
      | false =>
       have HLS := zq (str_less _ _ _ hlt2)
       have HB := zq (catRight_bad HLT.out (by rw [HST.out, hlt2]))
       clear hlt2
       refine wp_region_invH Nothing (fun _ => Ext) 1000 crEDst (crEPhi ge n m b1 o1 l.length c0 s ps) 53 (by kernel_rfl) (by decide) (by decide) rfl (fun i hi => .inl ((by decide : ∀ i, i < 23 -> crEDst i < 53) i hi)) (fun i w w' h => ⟨h, fun _ => h⟩) (fun i j v w w' _ _ _ _ h hu => h.ext hu) ?_ ?_
       ·intro i o b' w1' ho hx1' hd hk hE hSZ
        have hi : i < 23 := (Array.getElem?_eq_some_iff.1 ho).1
        have his : i = 0 \/ i = 1 \/ i = 2 \/ i = 3 \/ i = 4 \/ i = 5 \/ i = 6 \/ i = 7 \/ i = 8 \/ i = 9 \/ i = 10 \/ i = 11 \/ i = 12 \/ i = 13 \/ i = 14 \/ i = 15 \/ i = 16 \/ i = 17 \/ i = 18 \/ i = 19 \/ i = 20 \/ i = 21 \/ i = 22 := by omega
        clear hE hSZ
        have HW1 := zq hx1'
        clear hx1'
        rcases his with rfl | rfl | rfl | rfl | rfl | rfl | rfl | rfl | rfl | rfl | rfl | rfl | rfl | rfl | rfl | rfl | rfl | rfl | rfl | rfl | rfl | rfl | rfl
        all_goals (simp at ho; subst ho)
        ·
         refine .inl ⟨rfl, ?_⟩
         have o7 : b'.tmps[7]?.getD undef = .bool false := tAt (hk 7 (fun j oj _ e => (crEDst_ne (by decide) e).elim))
         clear hd hk
         go_step
         exact ⟨_, rfl, rfl, uZ⟩
        ·
         refine .inl ⟨rfl, ?_⟩
         have e0 : b'.tmps[25]?.getD undef = .bool false := tAt (hd ⟨0, .data⟩ (by simp) rfl)
         clear hd hk
         go_step
         exact ⟨_, rfl, rfl, uZ⟩
        ·
         refine .inl ⟨gAt rfl rfl (hd ⟨1, .guard⟩ (by simp) rfl), ?_⟩
         have o5 : b'.tmps[5]?.getD undef = .pointer (some ⟨ge, 0, none⟩) := tAt (hk 5 (fun j oj _ e => (crEDst_ne (by decide) e).elim))
         have q := lZ (HW1.out.at_ HGE.out id)
         clear hd hk
         go_step
         exact ⟨_, rfl, rfl, uZ⟩
        ·
         refine .inl ⟨gAt rfl rfl (hd ⟨1, .guard⟩ (by simp) rfl), ?_⟩
         have e2 : b'.tmps[27]?.getD undef = .pointer (some ⟨ge, 0, none⟩) := tAt (hd ⟨2, .data⟩ (by simp) rfl)
         have q := cZ (HW1.out.at_ HGE.out id) 0 _ rfl
         clear hd hk
         go_step
         exact ⟨_, rfl, rfl, uZ⟩
        ·
         refine .inl ⟨gAt rfl rfl (hd ⟨1, .guard⟩ (by simp) rfl), ?_⟩
         have e3 : b'.tmps[28]?.getD undef = str s := tAt (hd ⟨3, .data⟩ (by simp) rfl)
         clear hd hk
         go_step
         exact ⟨_, rfl, (row_new w1' #[str s] 9 1 _ (by decide) rfl).mono (fun _ _ => trivial), uZ.alloc _⟩
        ·
         refine .inl ⟨gAt rfl rfl (hd ⟨1, .guard⟩ (by simp) rfl), ?_⟩
         have h4 := hd ⟨4, .data⟩ (by simp) rfl
         have h4 : OneTx s (b'.tmps.getD 29 undef) w1' := h4
         obtain ⟨u29, hu29⟩ : ∃ u, u = b'.tmps[29]?.getD undef := ⟨_, rfl⟩
         rw [show b'.tmps.getD 29 undef = u29 by rw [hu29]; simp] at h4
         have e29 : b'.tmps[29]?.getD undef = u29 := hu29.symm
         clear hu29
         clear hd hk
         go_step
         refine (isName_any w1' u29 [s] (show Texts (fun _ => True) w1' u29 [s] from h4)).mono ?_
         rintro e w2 ⟨rfl, hu⟩
         exact ⟨_, rfl, (by show Value.bool _ = .bool true; simp [HNM.out]), hu⟩
        ·
         refine .inl ⟨gAt rfl rfl (hd ⟨1, .guard⟩ (by simp) rfl), ?_⟩
         have e5 : b'.tmps[30]?.getD undef = .bool true := tAt (hd ⟨5, .data⟩ (by simp) rfl)
         clear hd hk
         go_step
         exact ⟨_, rfl, rfl, uZ⟩
        ·
         refine .inl ⟨rfl, ?_⟩
         have e1 : b'.tmps[26]?.getD undef = .bool false := tAt (hd ⟨1, .data⟩ (by simp) rfl)
         have e6 : b'.tmps[31]?.getD undef = .bool false := tAt (hd ⟨6, .data⟩ (by simp) rfl)
         clear hd hk
         go_step
         exact ⟨_, rfl, rfl, uZ⟩
        ·
         refine .inl ⟨rfl, ?_⟩
         have e7 : b'.tmps[32]?.getD undef = .bool false := tAt (hd ⟨7, .data⟩ (by simp) rfl)
         clear hd hk
         go_step
         exact ⟨_, rfl, rfl, uZ⟩
        ·
         refine .inl ⟨gAt rfl rfl (hd ⟨8, .guard⟩ (by simp) rfl), ?_⟩
         have o4 : b'.tmps[4]?.getD undef = .int .i64 n := tAt (hk 4 (fun j oj _ e => (crEDst_ne (by decide) e).elim))
         clear hd hk
         go_step
         exact ⟨_, rfl, rfl, uZ⟩
        ·
         refine .inl ⟨gAt rfl rfl (hd ⟨8, .guard⟩ (by simp) rfl), ?_⟩
         have e9 : b'.tmps[34]?.getD undef = .int .i64 n := tAt (hd ⟨9, .data⟩ (by simp) rfl)
         clear hd hk
         go_step
         exact ⟨_, rfl, (by show Value.bool _ = .bool _; simp; have := HMN.out; omega), uZ⟩
        ·
         refine .inl ⟨gAt rfl rfl (hd ⟨8, .guard⟩ (by simp) rfl), ?_⟩
         have e10 : b'.tmps[35]?.getD undef = .bool true := tAt (hd ⟨10, .data⟩ (by simp) rfl)
         clear hd hk
         go_step
         exact ⟨_, rfl, rfl, uZ⟩
        ·
         refine .inl ⟨gAt rfl rfl (hd ⟨11, .guard⟩ (by simp) rfl), ?_⟩
         have o0 : b'.tmps[0]?.getD undef = .slice (some ⟨b1, o1, none⟩) l.length c0 := tAt (hk 0 (fun j oj _ e => (crEDst_ne (by decide) e).elim))
         clear hd hk
         go_step
         exact ⟨_, rfl, rfl, uZ⟩
        ·
         refine .inl ⟨gAt rfl rfl (hd ⟨11, .guard⟩ (by simp) rfl), ?_⟩
         have o4 : b'.tmps[4]?.getD undef = .int .i64 n := tAt (hk 4 (fun j oj _ e => (crEDst_ne (by decide) e).elim))
         clear hd hk
         go_step
         exact ⟨_, rfl, rfl, uZ⟩
        ·
         refine .inl ⟨gAt rfl rfl (hd ⟨11, .guard⟩ (by simp) rfl), ?_⟩
         have e13 : b'.tmps[38]?.getD undef = .int .i64 n := tAt (hd ⟨13, .data⟩ (by simp) rfl)
         have q2 := HMN.out
         clear hd hk
         go_step
         exact ⟨_, rfl, rfl, uZ⟩
        ·
         refine .inl ⟨gAt rfl rfl (hd ⟨11, .guard⟩ (by simp) rfl), ?_⟩
         have e12 : b'.tmps[37]?.getD undef = .slice (some ⟨b1, o1, none⟩) l.length c0 := tAt (hd ⟨12, .data⟩ (by simp) rfl)
         have e14 : b'.tmps[39]?.getD undef = .int .i64 (m : Int) := tAt (hd ⟨14, .data⟩ (by simp) rfl)
         have q := HLT.out
         have q2 := HMN.out
         clear hd hk
         go_step
         exact ⟨_, rfl, rfl, uZ⟩
        ·
         refine .inl ⟨gAt rfl rfl (hd ⟨11, .guard⟩ (by simp) rfl), ?_⟩
         have e15 : b'.tmps[40]?.getD undef = .pointer (some ⟨b1, o1 + m * 2, none⟩) := tAt (hd ⟨15, .data⟩ (by simp) rfl)
         clear hd hk
         go_step
         exact ⟨_, rfl, rfl, uZ⟩
        ·
         refine .inl ⟨gAt rfl rfl (hd ⟨11, .guard⟩ (by simp) rfl), ?_⟩
         have e16 : b'.tmps[41]?.getD undef = .pointer (some ⟨b1, o1 + m * 2, none⟩) := tAt (hd ⟨16, .data⟩ (by simp) rfl)
         have q := HW1.out.cell HCP.out id
         clear hd hk
         go_step
         exact ⟨_, rfl, rfl, uZ⟩
        ·
         refine .inl ⟨gAt rfl rfl (hd ⟨11, .guard⟩ (by simp) rfl), ?_⟩
         have o5 : b'.tmps[5]?.getD undef = .pointer (some ⟨ge, 0, none⟩) := tAt (hk 5 (fun j oj _ e => (crEDst_ne (by decide) e).elim))
         have q := lZ (HW1.out.at_ HGE.out id)
         clear hd hk
         go_step
         exact ⟨_, rfl, rfl, uZ⟩
        ·
         refine .inl ⟨gAt rfl rfl (hd ⟨11, .guard⟩ (by simp) rfl), ?_⟩
         have e18 : b'.tmps[43]?.getD undef = .pointer (some ⟨ge, 0, none⟩) := tAt (hd ⟨18, .data⟩ (by simp) rfl)
         have q := cZ (HW1.out.at_ HGE.out id) 0 _ rfl
         clear hd hk
         go_step
         exact ⟨_, rfl, rfl, uZ⟩
        ·
         refine .inl ⟨gAt rfl rfl (hd ⟨11, .guard⟩ (by simp) rfl), ?_⟩
         have e17 : b'.tmps[42]?.getD undef = str ps := tAt (hd ⟨17, .data⟩ (by simp) rfl)
         have e19 : b'.tmps[44]?.getD undef = str s := tAt (hd ⟨19, .data⟩ (by simp) rfl)
         have q := HLS.out
         clear hd hk
         go_step
         exact ⟨_, rfl, rfl, uZ⟩
        ·
         refine .inl ⟨gAt rfl rfl (hd ⟨8, .guard⟩ (by simp) rfl), ?_⟩
         have e11 : b'.tmps[36]?.getD undef = .bool true := tAt (hd ⟨11, .data⟩ (by simp) rfl)
         have e20 : b'.tmps[45]?.getD undef = .bool true := tAt (hd ⟨20, .data⟩ (by simp) rfl)
         clear hd hk
         go_step
         exact ⟨_, rfl, rfl, uZ⟩
        ·
         refine .inl ⟨rfl, ?_⟩
         have e8 : b'.tmps[33]?.getD undef = .bool false := tAt (hd ⟨8, .data⟩ (by simp) rfl)
         have e21 : b'.tmps[46]?.getD undef = .bool true := tAt (hd ⟨21, .data⟩ (by simp) rfl)
         clear hd hk
         go_step
         exact ⟨_, rfl, rfl, uZ⟩
       ·intro v w1' hx1' hp
        have h22 : v 22 = .bool true := hp 22 (by decide)
        have HX8 := zq (HX3.out.trans hx1')
        clear hp hx1'
        simp only [List.size_toArray, List.length_cons, List.length_nil, Nat.reduceAdd, fillAll, crEDst]
        go_simp
        go_wp2
        go_ret
        exact ⟨by rw [HB.out]; rfl, HX8.out⟩
  ·have hkl : n = l.length := by omega
   have hf : catRight l = true := by have := HR.out; rw [hkl, List.take_length] at this; exact this
   have HF := zq hf
   clear hf hkl
   go_wp2
   go_ret
   exact ⟨by rw [HF.out]; rfl, HX.out⟩
end Go.Proofs.YtnkmpoplibnflaaGreatDoor.Wk
