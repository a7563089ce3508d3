/-
  CONTRACTS of the small functions of package name: of, numbers, heads, counts. No condition.
  CONTRACT of name.May. No condition.
  CONTRACT of strconv.FormatUint: any number's digits. Condition: the library's table of powers of ten lies as it is laid.
-/
import Derived.Test.YtnkmpoplibnflaaGreatDoorGAB
import Derived.Deep.CutRange
import Derived.Test.YtnkmpoplibnflaaGreatDoorGAA
import Derived.Test.YtnkmpoplibnflaaGreatDoorShelf
import Derived.Lib.Walk
import Derived.Lib.ItoaMem
set_option maxRecDepth 100000
set_option maxHeartbeats 16000000
namespace Go.Proofs.YtnkmpoplibnflaaGreatDoor
open Go.RowKit
abbrev u64 (n : Nat) : Value := .int .u64 (n : Int)
def nmCells (x : Nm) : Array Value := #[.int .u8 x.kind, u64 x.doc, u64 x.n, u64 x.proc, u64 x.inc, u64 x.k]
def four (l : List Nat) : Array Value := #[u64 (l.getD 0 0), u64 (l.getD 1 0), u64 (l.getD 2 0), u64 (l.getD 3 0)]
theorem nmCells_one (x : Nm) : (nmCells x).all (·.oneCell') = true := by simp [nmCells, Value.oneCell']
theorem Tryz.nmT (x : Nm) : StructT Tryz.prog 78 (nmCells x).size := ⟨_, Tryz.underlying78, rfl, by kernel_rfl⟩
theorem of_any (w : World) (k a b c d : Nat) :
  Calls Tryz.prog 51 #[.int .u8 k, .agg #[u64 a, u64 b, u64 c, u64 d]] w fun e w' => e = .returned (.agg (nmCells (ofF k [a, b, c, d]))) /\ Ext w w' := by
 by_cases h1 : k = 1
 ·subst h1
  go_enter Tryz.func51, Tryz.ntmps51
  go_wp2
  refine bodyPost_ret (v := .agg (nmCells (ofF 1 [a, b, c, d]))) (by simp [results, Tryz.results51, go_sem, nmCells, ofF]) rfl ⟨rfl, ?_⟩
  exact (uZ.alloc _).alloc _
 by_cases h2 : k = 2
 ·subst h2
  go_enter Tryz.func51, Tryz.ntmps51
  go_wp2
  refine bodyPost_ret (v := .agg (nmCells (ofF 2 [a, b, c, d]))) (by simp [results, Tryz.results51, go_sem, nmCells, ofF]) rfl ⟨rfl, ?_⟩
  exact (uZ.alloc _).alloc _
 by_cases h3 : k = 3
 ·subst h3
  go_enter Tryz.func51, Tryz.ntmps51
  go_wp2
  refine bodyPost_ret (v := .agg (nmCells (ofF 3 [a, b, c, d]))) (by simp [results, Tryz.results51, go_sem, nmCells, ofF]) rfl ⟨rfl, ?_⟩
  exact (uZ.alloc _).alloc _
 have f1 : ((k : Int) == 1) = false := by simp; omega
 have f2 : ((k : Int) == 2) = false := by simp; omega
 have f3 : ((k : Int) == 3) = false := by simp; omega
 go_enter Tryz.func51, Tryz.ntmps51
 go_wp2
 refine bodyPost_ret (v := .agg (nmCells (ofF k [a, b, c, d]))) (by simp [results, Tryz.results51, go_sem, nmCells, ofF, h1, h2, h3]) rfl ⟨rfl, ?_⟩
 exact (uZ.alloc _).alloc _
theorem numbers_any (w : World) (x : Nm) :
  Calls Tryz.prog 42 #[.agg (nmCells x)] w fun e w' => e = .returned (.agg (four (numsF x))) /\ Ext w w' := by
 obtain ⟨k, a, b, c, d, g⟩ := x
 show Calls Tryz.prog 42 #[.agg #[.int .u8 k, u64 a, u64 b, u64 c, u64 d, u64 g]] w fun e w' => e = .returned (.agg (four (numsF ⟨k, a, b, c, d, g⟩))) /\ Ext w w'
 by_cases h1 : k = 1
 ·subst h1
  go_enter Tryz.func42, Tryz.ntmps42
  go_wp2
  refine bodyPost_ret (v := .agg (four (numsF ⟨1, a, b, c, d, g⟩))) (by simp [results, Tryz.results42, go_sem, four, numsF]) rfl ⟨rfl, ?_⟩
  exact (uZ.alloc _).alloc _
 by_cases h2 : k = 2
 ·subst h2
  go_enter Tryz.func42, Tryz.ntmps42
  go_wp2
  refine bodyPost_ret (v := .agg (four (numsF ⟨2, a, b, c, d, g⟩))) (by simp [results, Tryz.results42, go_sem, four, numsF]) rfl ⟨rfl, ?_⟩
  exact (uZ.alloc _).alloc _
 by_cases h3 : k = 3
 ·subst h3
  go_enter Tryz.func42, Tryz.ntmps42
  go_wp2
  refine bodyPost_ret (v := .agg (four (numsF ⟨3, a, b, c, d, g⟩))) (by simp [results, Tryz.results42, go_sem, four, numsF]) rfl ⟨rfl, ?_⟩
  exact (uZ.alloc _).alloc _
 have f1 : ((k : Int) == 1) = false := by simp; omega
 have f2 : ((k : Int) == 2) = false := by simp; omega
 have f3 : ((k : Int) == 3) = false := by simp; omega
 go_enter Tryz.func42, Tryz.ntmps42
 go_wp2
 refine bodyPost_ret (v := .agg (four (numsF ⟨k, a, b, c, d, g⟩))) (by simp [results, Tryz.results42, go_sem, four, numsF, h1, h2, h3]) rfl ⟨rfl, ?_⟩
 exact (uZ.alloc _).alloc _
def headsV : Array Value := #[str [], str [115], str [98], str [116], str [106]]
def countsV : Array Value := #[.int .i64 0, .int .i64 2, .int .i64 2, .int .i64 3, .int .i64 4]
theorem heads_any (w : World) : Calls Tryz.prog 41 #[] w fun e w' => e = .returned (.agg headsV) /\ Ext w w' := by
 go_enter Tryz.func41, Tryz.ntmps41
 go_wp2
 refine bodyPost_ret (v := .agg headsV) (by simp [results, Tryz.results41, go_sem, headsV]) rfl ⟨rfl, ?_⟩
 exact uZ.alloc _
theorem counts_any (w : World) : Calls Tryz.prog 43 #[] w fun e w' => e = .returned (.agg countsV) /\ Ext w w' := by
 go_enter Tryz.func43, Tryz.ntmps43
 go_wp2
 refine bodyPost_ret (v := .agg countsV) (by simp [results, Tryz.results43, go_sem, countsV]) rfl ⟨rfl, ?_⟩
 exact uZ.alloc _
theorem headsV_at {k : Nat} (h1 : 1 <= k) (h2 : k <= 4) : headsV[k]? = some (str [headF k]) := by
 have : k = 1 \/ k = 2 \/ k = 3 \/ k = 4 := by omega
 rcases this with rfl | rfl | rfl | rfl <;> rfl
end Go.Proofs.YtnkmpoplibnflaaGreatDoor
set_option maxRecDepth 100000
set_option maxHeartbeats 16000000
namespace Go.Proofs.YtnkmpoplibnflaaGreatDoor
open Go.RowKit
theorem of_four (w : World) (x : Nm) : Calls Tryz.prog 51 #[.int .u8 x.kind, .agg (four (numsF x))] w fun e w' => e = .returned (.agg (nmCells (ofF x.kind (numsF x)))) /\ Ext w w' := by
 have h := of_any w x.kind ((numsF x).getD 0 0) ((numsF x).getD 1 0) ((numsF x).getD 2 0) ((numsF x).getD 3 0)
 have e : ofF x.kind [(numsF x).getD 0 0, (numsF x).getD 1 0, (numsF x).getD 2 0, (numsF x).getD 3 0] = ofF x.kind (numsF x) := by
  unfold ofF; split
  ·simp
  ·split <;> simp
 rw [e] at h
 exact h
theorem nm_equal (y x : Nm) (w : World) : (Op.equalIn 10000 78 (.agg (nmCells y)) (.agg (nmCells x))).run Tryz.prog w = .ok (eqB y x) w := by
 have hS : Tryz.prog.underlying 78 = some (.struct (Tryz.prog.fieldsOf 78)) := by kernel_rfl
 have hp : Tryz.prog.stoodInHeld 78 = false := by kernel_rfl
 have u1 := Tryz.underlying5
 have u2 := Tryz.underlying22
 rw [show (10000 : Nat) = 9999 + 1 from rfl, run_equalIn_agg w 9999 78 _ _ hS hp]
 simp only [Program.fieldsOf, Tryz.underlying78, nmCells]
 go_simp
 obtain ⟨a, b, c, d, e, f⟩ := y
 obtain ⟨a', b', c', d', e', f'⟩ := x
 by_cases h1 : a = a' <;> by_cases h2 : b = b' <;> by_cases h3 : c = c' <;> by_cases h4 : d = d' <;> by_cases h5 : e = e' <;> by_cases h6 : f = f' <;> simp [eqB, h1, h2, h3, h4, h5, h6] <;> omega
theorem wp_eql_nm {op : Oper} {a : Act} {w : World} {K : Act -> World -> Prop} {Q : Exit -> Act -> World -> Prop} (p q : Operand) (ho : op.op = .binOp .eql 78 p q 78) {u v : Nm} (hp : a.eval p = .agg (nmCells u)) (hq : a.eval q = .agg (nmCells v))
  (h : K (a.put op.dst (.bool (eqB u v))) w) : op.wp Tryz.prog a w K Q := by
 have hg := run_eqGuard_agg (P := Tryz.prog) w .eql 78 p q (nmCells u) (nmCells v) (by kernel_rfl)
 unfold Oper.wp execOp
 simp only [ho, hp, hq]
 simp only [Sem.run_bind, Sem.run_pure, Result.andThen_ok, hg, run_eql_struct, nm_equal]
 exact h
theorem mayF_bad {x : Nm} (h : ¬ (1 <= x.kind /\ x.kind <= 4)) : mayF x = false := by
 unfold mayF; simp only [Bool.and_eq_false_iff, decide_eq_false_iff_not]; omega
theorem mayF_ok {x : Nm} (h1 : 1 <= x.kind) (h2 : x.kind <= 4) : mayF x = eqB (ofF x.kind (numsF x)) x := by
 unfold mayF eqB; simp [h1, h2]
def mayOkVal (x : Nm) (g : Nat) : Nat -> Value
 | 0 => .pointer (some ⟨g, 0, none⟩)
 | 1 => .int .u8 x.kind
 | 2 => .bool true
 | 3 => .bool true
 | 4 => .pointer (some ⟨g, 0, none⟩)
 | 5 => .int .u8 x.kind
 | 6 => .bool true
 | 7 => .bool true
 | 8 => .bool true
 | 9 => .pointer (some ⟨g, 0, none⟩)
 | 10 => .int .u8 x.kind
 | 11 => .agg (nmCells x)
 | 12 => .agg (four (numsF x))
 | 13 => .agg (nmCells (ofF x.kind (numsF x)))
 | 14 => .agg (nmCells x)
 | 15 => .bool (eqB (ofF x.kind (numsF x)) x)
 | 16 => .bool (eqB (ofF x.kind (numsF x)) x)
 | 17 => .bool (eqB (ofF x.kind (numsF x)) x)
 | _ => undef
def mayOkDst (i : Nat) : Tmp := if i = 17 then 2 else 3 + i
theorem mayOkDst_ne {j t : Nat} (ht : t = 1) (e : mayOkDst j = t) : False := by
 unfold mayOkDst at e
 have e : (if j = 17 then 2 else 3 + j : Nat) = t := e
 rcases ht with rfl <;> (repeat' (split at e)) <;> omega
def mayOkPhi (x : Nm) (g : Nat) (i : Nat) (v : Value) (w : World) : Prop := v = mayOkVal x g i
theorem mayOkPhi.ext {x : Nm} {g : Nat} {i : Nat} {v : Value} {w w' : World} (h : mayOkPhi x g i v w) (hu : Ext w w') : mayOkPhi x g i v w' := by
 unfold mayOkPhi at h ⊢
 exact h
def mayLoVal (x : Nm) (g : Nat) : Nat -> Value
 | 0 => .pointer (some ⟨g, 0, none⟩)
 | 1 => .int .u8 x.kind
 | 2 => .bool false
 | 3 => .bool false
 | 7 => .bool false
 | 8 => .bool false
 | 16 => .bool false
 | 17 => .bool false
 | _ => undef
def mayLoDst (i : Nat) : Tmp := if i = 17 then 2 else 3 + i
theorem mayLoDst_ne {j t : Nat} (ht : t = 1) (e : mayLoDst j = t) : False := by
 unfold mayLoDst at e
 have e : (if j = 17 then 2 else 3 + j : Nat) = t := e
 rcases ht with rfl <;> (repeat' (split at e)) <;> omega
def mayLoPhi (x : Nm) (g : Nat) (i : Nat) (v : Value) (w : World) : Prop := v = mayLoVal x g i
theorem mayLoPhi.ext {x : Nm} {g : Nat} {i : Nat} {v : Value} {w w' : World} (h : mayLoPhi x g i v w) (hu : Ext w w') : mayLoPhi x g i v w' := by
 unfold mayLoPhi at h ⊢
 exact h
def mayHiVal (x : Nm) (g : Nat) : Nat -> Value
 | 0 => .pointer (some ⟨g, 0, none⟩)
 | 1 => .int .u8 x.kind
 | 2 => .bool true
 | 3 => .bool true
 | 4 => .pointer (some ⟨g, 0, none⟩)
 | 5 => .int .u8 x.kind
 | 6 => .bool false
 | 7 => .bool false
 | 8 => .bool false
 | 16 => .bool false
 | 17 => .bool false
 | _ => undef
def mayHiDst (i : Nat) : Tmp := if i = 17 then 2 else 3 + i
theorem mayHiDst_ne {j t : Nat} (ht : t = 1) (e : mayHiDst j = t) : False := by
 unfold mayHiDst at e
 have e : (if j = 17 then 2 else 3 + j : Nat) = t := e
 rcases ht with rfl <;> (repeat' (split at e)) <;> omega
def mayHiPhi (x : Nm) (g : Nat) (i : Nat) (v : Value) (w : World) : Prop := v = mayHiVal x g i
theorem mayHiPhi.ext {x : Nm} {g : Nat} {i : Nat} {v : Value} {w w' : World} (h : mayHiPhi x g i v w) (hu : Ext w w') : mayHiPhi x g i v w' := by
 unfold mayHiPhi at h ⊢
 exact h
theorem may_any (w : World) (x : Nm) :
  Calls Tryz.prog 40 #[.agg (nmCells x)] w fun e w' => e = .returned (.bool (mayF x)) /\ Ext w w' := by
 have hx : Ext w (w.alloc (.cells (nmCells x) 78)) := uZ.alloc _
 have hb := newAt w (.cells (nmCells x) 78)
 obtain ⟨wb, hwb⟩ : ∃ u, u = w.alloc (.cells (nmCells x) 78) := ⟨_, rfl⟩
 obtain ⟨g, hg⟩ : ∃ g, g = w.heap.size := ⟨_, rfl⟩
 rw [<- hwb] at hx hb
 rw [<- hg] at hb
 have HX := zq hx
 have HB := zq hb
 have HWB := zq hwb
 have HG := zq hg
 clear hx hb hwb hg
 go_enter Tryz.func40, Tryz.ntmps40
 go_upto_region 1 with (fail)
 rw [show w.alloc (.cells (nmCells x) 78) = wb from HWB.out.symm, show w.heap.size = g from HG.out.symm]
 by_cases h1 : 1 <= x.kind
 ·by_cases h2 : x.kind <= 4
  ·have H1 := zq h1
   have H2 := zq h2
   have f1 : decide ((x.kind : Int) ≥ 1) = true := by simp; omega
   have f2 : decide ((x.kind : Int) <= 4) = true := by simp; omega
   refine wp_region_invH Nothing (fun _ => Ext) 1000 mayOkDst (mayOkPhi x g) 20 (by kernel_rfl) (by decide) (by decide) rfl (fun i hi => .inl ((by decide : ∀ i, i < 18 -> mayOkDst i < 20) i hi)) (fun i w w' h => ⟨h, fun _ => h⟩) (fun i j v w w' _ _ _ _ h hu => h.ext hu) ?_ ?_
   ·intro i o b' w1' ho hx1' hd hk hE hSZ
    have hi : i < 18 := (Array.getElem?_eq_some_iff.1 ho).1
    have his : i = 0 \/ i = 1 \/ i = 2 \/ i = 3 \/ i = 4 \/ i = 5 \/ i = 6 \/ i = 7 \/ i = 8 \/ i = 9 \/ i = 10 \/ i = 11 \/ i = 12 \/ i = 13 \/ i = 14 \/ i = 15 \/ i = 16 \/ i = 17 := by omega
    clear hE hSZ
    have HW1 := zq hx1'
    clear hx1'
    rcases his with rfl | rfl | rfl | rfl | rfl | rfl | rfl | rfl | rfl | rfl | rfl | rfl | rfl | rfl | rfl | rfl | rfl | rfl
    all_goals (simp at ho; subst ho)
    case inl =>
     refine .inl ⟨rfl, ?_⟩
     have o1 : b'.tmps[1]?.getD undef = .pointer (some ⟨g, 0, none⟩) := tAt (hk 1 (fun j oj _ e => (mayOkDst_ne (by decide) e).elim))
     clear hd hk
     go_step
     exact ⟨_, rfl, rfl, uZ⟩
    ·
     refine .inl ⟨rfl, ?_⟩
     have e0 : b'.tmps[3]?.getD undef = .pointer (some ⟨g, 0, none⟩) := tAt (hd ⟨0, .data⟩ (by simp) rfl)
     clear hd hk
     have hc := cZ (HW1.out.at_ HB.out id) 0 (.int .u8 x.kind) rfl
     go_step
     exact ⟨_, rfl, rfl, uZ⟩
    ·
     refine .inl ⟨rfl, ?_⟩
     have e1 : b'.tmps[4]?.getD undef = .int .u8 x.kind := tAt (hd ⟨1, .data⟩ (by simp) rfl)
     clear hd hk
     go_step
     exact ⟨_, rfl, rfl, uZ⟩
    ·
     refine .inl ⟨rfl, ?_⟩
     have e2 : b'.tmps[5]?.getD undef = .bool true := tAt (hd ⟨2, .data⟩ (by simp) rfl)
     clear hd hk
     go_step
     exact ⟨_, rfl, rfl, uZ⟩
    ·
     refine .inl ⟨gAt rfl rfl (hd ⟨3, .guard⟩ (by simp) rfl), ?_⟩
     have o1 : b'.tmps[1]?.getD undef = .pointer (some ⟨g, 0, none⟩) := tAt (hk 1 (fun j oj _ e => (mayOkDst_ne (by decide) e).elim))
     clear hd hk
     go_step
     exact ⟨_, rfl, rfl, uZ⟩
    ·
     refine .inl ⟨gAt rfl rfl (hd ⟨3, .guard⟩ (by simp) rfl), ?_⟩
     have e4 : b'.tmps[7]?.getD undef = .pointer (some ⟨g, 0, none⟩) := tAt (hd ⟨4, .data⟩ (by simp) rfl)
     clear hd hk
     have hc := cZ (HW1.out.at_ HB.out id) 0 (.int .u8 x.kind) rfl
     go_step
     exact ⟨_, rfl, rfl, uZ⟩
    ·
     refine .inl ⟨gAt rfl rfl (hd ⟨3, .guard⟩ (by simp) rfl), ?_⟩
     have e5 : b'.tmps[8]?.getD undef = .int .u8 x.kind := tAt (hd ⟨5, .data⟩ (by simp) rfl)
     clear hd hk
     go_step
     exact ⟨_, rfl, rfl, uZ⟩
    ·
     refine .inl ⟨rfl, ?_⟩
     have e3 : b'.tmps[6]?.getD undef = .bool true := tAt (hd ⟨3, .data⟩ (by simp) rfl)
     have e6 : b'.tmps[9]?.getD undef = .bool true := tAt (hd ⟨6, .data⟩ (by simp) rfl)
     clear hd hk
     go_step
     exact ⟨_, rfl, rfl, uZ⟩
    ·
     refine .inl ⟨rfl, ?_⟩
     have e7 : b'.tmps[10]?.getD undef = .bool true := tAt (hd ⟨7, .data⟩ (by simp) rfl)
     clear hd hk
     go_step
     exact ⟨_, rfl, rfl, uZ⟩
    ·
     refine .inl ⟨gAt rfl rfl (hd ⟨8, .guard⟩ (by simp) rfl), ?_⟩
     have o1 : b'.tmps[1]?.getD undef = .pointer (some ⟨g, 0, none⟩) := tAt (hk 1 (fun j oj _ e => (mayOkDst_ne (by decide) e).elim))
     clear hd hk
     go_step
     exact ⟨_, rfl, rfl, uZ⟩
    ·
     refine .inl ⟨gAt rfl rfl (hd ⟨8, .guard⟩ (by simp) rfl), ?_⟩
     have e9 : b'.tmps[12]?.getD undef = .pointer (some ⟨g, 0, none⟩) := tAt (hd ⟨9, .data⟩ (by simp) rfl)
     clear hd hk
     have hc := cZ (HW1.out.at_ HB.out id) 0 (.int .u8 x.kind) rfl
     go_step
     exact ⟨_, rfl, rfl, uZ⟩
    ·
     refine .inl ⟨gAt rfl rfl (hd ⟨8, .guard⟩ (by simp) rfl), ?_⟩
     have o1 : b'.eval (.tmp 1) = .pointer (some ⟨g, 0, none⟩) := by
      have := hk 1 (fun j oj _ e => (mayOkDst_ne (by decide) e).elim)
      simpa [Act.eval] using this
     have hg1 := HW1.out.at_ HB.out id
     exact wp_load_mid (w := w1') 78 (.tmp 1) rfl g 0 o1 (nmCells x).toList _ (fun j u hj => by have := cZ hg1 j u (by simpa using hj); simpa using this) Tryz.underlying78 rfl (by kernel_rfl) ⟨_, rfl, rfl, uZ⟩
    ·
     refine .inl ⟨gAt rfl rfl (hd ⟨8, .guard⟩ (by simp) rfl), ?_⟩
     have e11 : b'.tmps[14]?.getD undef = .agg (nmCells x) := tAt (hd ⟨11, .data⟩ (by simp) rfl)
     clear hd hk
     go_step
     refine (numbers_any w1' x).mono ?_
     rintro e w2 ⟨rfl, hu⟩
     exact ⟨_, rfl, rfl, hu⟩
    ·
     refine .inl ⟨gAt rfl rfl (hd ⟨8, .guard⟩ (by simp) rfl), ?_⟩
     have e10 : b'.tmps[13]?.getD undef = .int .u8 x.kind := tAt (hd ⟨10, .data⟩ (by simp) rfl)
     have e12 : b'.tmps[15]?.getD undef = .agg (four (numsF x)) := tAt (hd ⟨12, .data⟩ (by simp) rfl)
     clear hd hk
     go_step
     refine (of_four w1' x).mono ?_
     rintro e w2 ⟨rfl, hu⟩
     exact ⟨_, rfl, rfl, hu⟩
    ·
     refine .inl ⟨gAt rfl rfl (hd ⟨8, .guard⟩ (by simp) rfl), ?_⟩
     have o1 : b'.eval (.tmp 1) = .pointer (some ⟨g, 0, none⟩) := by
      have := hk 1 (fun j oj _ e => (mayOkDst_ne (by decide) e).elim)
      simpa [Act.eval] using this
     have hg1 := HW1.out.at_ HB.out id
     exact wp_load_mid (w := w1') 78 (.tmp 1) rfl g 0 o1 (nmCells x).toList _ (fun j u hj => by have := cZ hg1 j u (by simpa using hj); simpa using this) Tryz.underlying78 rfl (by kernel_rfl) ⟨_, rfl, rfl, uZ⟩
    ·
     refine .inl ⟨gAt rfl rfl (hd ⟨8, .guard⟩ (by simp) rfl), ?_⟩
     have o16 : b'.eval (.tmp 16) = .agg (nmCells (ofF x.kind (numsF x))) := by
      have := (show b'.tmps.getD 16 undef = .agg (nmCells (ofF x.kind (numsF x))) from hd ⟨13, .data⟩ (by simp) rfl)
      simpa [Act.eval] using this
     have o17 : b'.eval (.tmp 17) = .agg (nmCells x) := by
      have := (show b'.tmps.getD 17 undef = .agg (nmCells x) from hd ⟨14, .data⟩ (by simp) rfl)
      simpa [Act.eval] using this
     exact wp_eql_nm (.tmp 16) (.tmp 17) rfl o16 o17 ⟨_, rfl, rfl, uZ⟩
    ·
     refine .inl ⟨rfl, ?_⟩
     have e8 : b'.tmps[11]?.getD undef = .bool true := tAt (hd ⟨8, .data⟩ (by simp) rfl)
     have e15 : b'.tmps[18]?.getD undef = .bool (eqB (ofF x.kind (numsF x)) x) := tAt (hd ⟨15, .data⟩ (by simp) rfl)
     clear hd hk
     go_step
     exact ⟨_, rfl, rfl, uZ⟩
    ·
     refine .inl ⟨rfl, ?_⟩
     have e16 : b'.tmps[19]?.getD undef = .bool (eqB (ofF x.kind (numsF x)) x) := tAt (hd ⟨16, .data⟩ (by simp) rfl)
     clear hd hk
     go_step
     exact ⟨_, rfl, rfl, uZ⟩
   ·intro v w1' hx1' hp
    have h17 : v 17 = .bool (eqB (ofF x.kind (numsF x)) x) := hp 17 (by decide)
    have HX8 := zq (HX.out.trans hx1')
    clear hp hx1'
    simp only [List.size_toArray, List.length_cons, List.length_nil, Nat.reduceAdd, fillAll, mayOkDst]
    go_simp
    go_wp2
    go_ret
    exact ⟨by rw [mayF_ok H1.out H2.out]; rfl, HX8.out⟩
  ·have H2 := zq (mayF_bad (x := x) (by omega))
   have f1 : decide ((x.kind : Int) ≥ 1) = true := by simp; omega
   have f2 : decide ((x.kind : Int) <= 4) = false := by simp; omega
   refine wp_region_invH Nothing (fun _ => Ext) 1000 mayHiDst (mayHiPhi x g) 20 (by kernel_rfl) (by decide) (by decide) rfl (fun i hi => .inl ((by decide : ∀ i, i < 18 -> mayHiDst i < 20) i hi)) (fun i w w' h => ⟨h, fun _ => h⟩) (fun i j v w w' _ _ _ _ h hu => h.ext hu) ?_ ?_
   ·intro i o b' w1' ho hx1' hd hk hE hSZ
    have hi : i < 18 := (Array.getElem?_eq_some_iff.1 ho).1
    have his : i = 0 \/ i = 1 \/ i = 2 \/ i = 3 \/ i = 4 \/ i = 5 \/ i = 6 \/ i = 7 \/ i = 8 \/ i = 9 \/ i = 10 \/ i = 11 \/ i = 12 \/ i = 13 \/ i = 14 \/ i = 15 \/ i = 16 \/ i = 17 := by omega
    clear hE hSZ
    have HW1 := zq hx1'
    clear hx1'
    rcases his with rfl | rfl | rfl | rfl | rfl | rfl | rfl | rfl | rfl | rfl | rfl | rfl | rfl | rfl | rfl | rfl | rfl | rfl
    all_goals (simp at ho; subst ho)
    case inl =>
     refine .inl ⟨rfl, ?_⟩
     have o1 : b'.tmps[1]?.getD undef = .pointer (some ⟨g, 0, none⟩) := tAt (hk 1 (fun j oj _ e => (mayHiDst_ne (by decide) e).elim))
     clear hd hk
     go_step
     exact ⟨_, rfl, rfl, uZ⟩
    ·
     refine .inl ⟨rfl, ?_⟩
     have e0 : b'.tmps[3]?.getD undef = .pointer (some ⟨g, 0, none⟩) := tAt (hd ⟨0, .data⟩ (by simp) rfl)
     clear hd hk
     have hc := cZ (HW1.out.at_ HB.out id) 0 (.int .u8 x.kind) rfl
     go_step
     exact ⟨_, rfl, rfl, uZ⟩
    ·
     refine .inl ⟨rfl, ?_⟩
     have e1 : b'.tmps[4]?.getD undef = .int .u8 x.kind := tAt (hd ⟨1, .data⟩ (by simp) rfl)
     clear hd hk
     go_step
     exact ⟨_, rfl, rfl, uZ⟩
    ·
     refine .inl ⟨rfl, ?_⟩
     have e2 : b'.tmps[5]?.getD undef = .bool true := tAt (hd ⟨2, .data⟩ (by simp) rfl)
     clear hd hk
     go_step
     exact ⟨_, rfl, rfl, uZ⟩
    ·
     refine .inl ⟨gAt rfl rfl (hd ⟨3, .guard⟩ (by simp) rfl), ?_⟩
     have o1 : b'.tmps[1]?.getD undef = .pointer (some ⟨g, 0, none⟩) := tAt (hk 1 (fun j oj _ e => (mayHiDst_ne (by decide) e).elim))
     clear hd hk
     go_step
     exact ⟨_, rfl, rfl, uZ⟩
    ·
     refine .inl ⟨gAt rfl rfl (hd ⟨3, .guard⟩ (by simp) rfl), ?_⟩
     have e4 : b'.tmps[7]?.getD undef = .pointer (some ⟨g, 0, none⟩) := tAt (hd ⟨4, .data⟩ (by simp) rfl)
     clear hd hk
     have hc := cZ (HW1.out.at_ HB.out id) 0 (.int .u8 x.kind) rfl
     go_step
     exact ⟨_, rfl, rfl, uZ⟩
    ·
     refine .inl ⟨gAt rfl rfl (hd ⟨3, .guard⟩ (by simp) rfl), ?_⟩
     have e5 : b'.tmps[8]?.getD undef = .int .u8 x.kind := tAt (hd ⟨5, .data⟩ (by simp) rfl)
     clear hd hk
     go_step
     exact ⟨_, rfl, rfl, uZ⟩
    ·
     refine .inl ⟨rfl, ?_⟩
     have e3 : b'.tmps[6]?.getD undef = .bool true := tAt (hd ⟨3, .data⟩ (by simp) rfl)
     have e6 : b'.tmps[9]?.getD undef = .bool false := tAt (hd ⟨6, .data⟩ (by simp) rfl)
     clear hd hk
     go_step
     exact ⟨_, rfl, rfl, uZ⟩
    ·
     refine .inl ⟨rfl, ?_⟩
     have e7 : b'.tmps[10]?.getD undef = .bool false := tAt (hd ⟨7, .data⟩ (by simp) rfl)
     clear hd hk
     go_step
     exact ⟨_, rfl, rfl, uZ⟩
    ·
     refine .inr ⟨gNot rfl rfl (hd ⟨8, .guard⟩ (by simp) rfl), rfl, rfl, uZ⟩
    ·
     refine .inr ⟨gNot rfl rfl (hd ⟨8, .guard⟩ (by simp) rfl), rfl, rfl, uZ⟩
    ·
     refine .inr ⟨gNot rfl rfl (hd ⟨8, .guard⟩ (by simp) rfl), rfl, rfl, uZ⟩
    ·
     refine .inr ⟨gNot rfl rfl (hd ⟨8, .guard⟩ (by simp) rfl), rfl, rfl, uZ⟩
    ·
     refine .inr ⟨gNot rfl rfl (hd ⟨8, .guard⟩ (by simp) rfl), rfl, rfl, uZ⟩
    ·
     refine .inr ⟨gNot rfl rfl (hd ⟨8, .guard⟩ (by simp) rfl), rfl, rfl, uZ⟩
    ·
     refine .inr ⟨gNot rfl rfl (hd ⟨8, .guard⟩ (by simp) rfl), rfl, rfl, uZ⟩
    ·
     refine .inl ⟨rfl, ?_⟩
     have e8 : b'.tmps[11]?.getD undef = .bool false := tAt (hd ⟨8, .data⟩ (by simp) rfl)
     have e15 : b'.tmps[18]?.getD undef = undef := tAt (hd ⟨15, .data⟩ (by simp) rfl)
     clear hd hk
     go_step
     exact ⟨_, rfl, rfl, uZ⟩
    ·
     refine .inl ⟨rfl, ?_⟩
     have e16 : b'.tmps[19]?.getD undef = .bool false := tAt (hd ⟨16, .data⟩ (by simp) rfl)
     clear hd hk
     go_step
     exact ⟨_, rfl, rfl, uZ⟩
   ·intro v w1' hx1' hp
    have h17 : v 17 = .bool false := hp 17 (by decide)
    have HX8 := zq (HX.out.trans hx1')
    clear hp hx1'
    simp only [List.size_toArray, List.length_cons, List.length_nil, Nat.reduceAdd, fillAll, mayHiDst]
    go_simp
    go_wp2
    go_ret
    exact ⟨by rw [H2.out]; rfl, HX8.out⟩
 ·have H2 := zq (mayF_bad (x := x) (by omega))
  have f1 : decide ((x.kind : Int) ≥ 1) = false := by simp; omega
  refine wp_region_invH Nothing (fun _ => Ext) 1000 mayLoDst (mayLoPhi x g) 20 (by kernel_rfl) (by decide) (by decide) rfl (fun i hi => .inl ((by decide : ∀ i, i < 18 -> mayLoDst i < 20) i hi)) (fun i w w' h => ⟨h, fun _ => h⟩) (fun i j v w w' _ _ _ _ h hu => h.ext hu) ?_ ?_
  ·intro i o b' w1' ho hx1' hd hk hE hSZ
   have hi : i < 18 := (Array.getElem?_eq_some_iff.1 ho).1
   have his : i = 0 \/ i = 1 \/ i = 2 \/ i = 3 \/ i = 4 \/ i = 5 \/ i = 6 \/ i = 7 \/ i = 8 \/ i = 9 \/ i = 10 \/ i = 11 \/ i = 12 \/ i = 13 \/ i = 14 \/ i = 15 \/ i = 16 \/ i = 17 := by omega
   clear hE hSZ
   have HW1 := zq hx1'
   clear hx1'
   rcases his with rfl | rfl | rfl | rfl | rfl | rfl | rfl | rfl | rfl | rfl | rfl | rfl | rfl | rfl | rfl | rfl | rfl | rfl
   all_goals (simp at ho; subst ho)
   case inl =>
    refine .inl ⟨rfl, ?_⟩
    have o1 : b'.tmps[1]?.getD undef = .pointer (some ⟨g, 0, none⟩) := tAt (hk 1 (fun j oj _ e => (mayLoDst_ne (by decide) e).elim))
    clear hd hk
    go_step
    exact ⟨_, rfl, rfl, uZ⟩
   ·
    refine .inl ⟨rfl, ?_⟩
    have e0 : b'.tmps[3]?.getD undef = .pointer (some ⟨g, 0, none⟩) := tAt (hd ⟨0, .data⟩ (by simp) rfl)
    clear hd hk
    have hc := cZ (HW1.out.at_ HB.out id) 0 (.int .u8 x.kind) rfl
    go_step
    exact ⟨_, rfl, rfl, uZ⟩
   ·
    refine .inl ⟨rfl, ?_⟩
    have e1 : b'.tmps[4]?.getD undef = .int .u8 x.kind := tAt (hd ⟨1, .data⟩ (by simp) rfl)
    clear hd hk
    go_step
    exact ⟨_, rfl, rfl, uZ⟩
   ·
    refine .inl ⟨rfl, ?_⟩
    have e2 : b'.tmps[5]?.getD undef = .bool false := tAt (hd ⟨2, .data⟩ (by simp) rfl)
    clear hd hk
    go_step
    exact ⟨_, rfl, rfl, uZ⟩
   ·
    refine .inr ⟨gNot rfl rfl (hd ⟨3, .guard⟩ (by simp) rfl), rfl, rfl, uZ⟩
   ·
    refine .inr ⟨gNot rfl rfl (hd ⟨3, .guard⟩ (by simp) rfl), rfl, rfl, uZ⟩
   ·
    refine .inr ⟨gNot rfl rfl (hd ⟨3, .guard⟩ (by simp) rfl), rfl, rfl, uZ⟩
   ·
    refine .inl ⟨rfl, ?_⟩
    have e3 : b'.tmps[6]?.getD undef = .bool false := tAt (hd ⟨3, .data⟩ (by simp) rfl)
    have e6 : b'.tmps[9]?.getD undef = undef := tAt (hd ⟨6, .data⟩ (by simp) rfl)
    clear hd hk
    go_step
    exact ⟨_, rfl, rfl, uZ⟩
   ·
    refine .inl ⟨rfl, ?_⟩
    have e7 : b'.tmps[10]?.getD undef = .bool false := tAt (hd ⟨7, .data⟩ (by simp) rfl)
    clear hd hk
    go_step
    exact ⟨_, rfl, rfl, uZ⟩
   ·
    refine .inr ⟨gNot rfl rfl (hd ⟨8, .guard⟩ (by simp) rfl), rfl, rfl, uZ⟩
   ·
    refine .inr ⟨gNot rfl rfl (hd ⟨8, .guard⟩ (by simp) rfl), rfl, rfl, uZ⟩
   ·
    refine .inr ⟨gNot rfl rfl (hd ⟨8, .guard⟩ (by simp) rfl), rfl, rfl, uZ⟩
   ·
    refine .inr ⟨gNot rfl rfl (hd ⟨8, .guard⟩ (by simp) rfl), rfl, rfl, uZ⟩
   ·
    refine .inr ⟨gNot rfl rfl (hd ⟨8, .guard⟩ (by simp) rfl), rfl, rfl, uZ⟩
   ·
    refine .inr ⟨gNot rfl rfl (hd ⟨8, .guard⟩ (by simp) rfl), rfl, rfl, uZ⟩
   ·
    refine .inr ⟨gNot rfl rfl (hd ⟨8, .guard⟩ (by simp) rfl), rfl, rfl, uZ⟩
   ·
    refine .inl ⟨rfl, ?_⟩
    have e8 : b'.tmps[11]?.getD undef = .bool false := tAt (hd ⟨8, .data⟩ (by simp) rfl)
    have e15 : b'.tmps[18]?.getD undef = undef := tAt (hd ⟨15, .data⟩ (by simp) rfl)
    clear hd hk
    go_step
    exact ⟨_, rfl, rfl, uZ⟩
   ·
    refine .inl ⟨rfl, ?_⟩
    have e16 : b'.tmps[19]?.getD undef = .bool false := tAt (hd ⟨16, .data⟩ (by simp) rfl)
    clear hd hk
    go_step
    exact ⟨_, rfl, rfl, uZ⟩
  ·intro v w1' hx1' hp
   have h17 : v 17 = .bool false := hp 17 (by decide)
   have HX8 := zq (HX.out.trans hx1')
   clear hp hx1'
   simp only [List.size_toArray, List.length_cons, List.length_nil, Nat.reduceAdd, fillAll, mayLoDst]
   go_simp
   go_wp2
   go_ret
   exact ⟨by rw [H2.out]; rfl, HX8.out⟩
end Go.Proofs.YtnkmpoplibnflaaGreatDoor
set_option maxRecDepth 100000
set_option maxHeartbeats 16000000
namespace Go.Proofs.YtnkmpoplibnflaaGreatDoor
open Go.RowKit Go.Sort
abbrev Tab (w : World) : Prop := Lib.TabIs Tryz.prog w "internal/strconv.uint64pow10" .u64 Lib.pow10Tab
theorem tab_upd {S : Nat -> Prop} {w w' : World} (h : Tab w) (hu : Upd S w w') (hS : ∀ g, Tryz.prog.globalNamed "internal/strconv.uint64pow10" = some g -> ¬ S g) : Tab w' := by
 unfold Tab Lib.TabIs World.var? at *
 cases hg : Tryz.prog.globalNamed "internal/strconv.uint64pow10" with
 | none => simp [hg] at h
 | some g =>
  simp only [hg, Option.bind_some] at h ⊢
  have hlt : g < w.heap.size := by
   rcases Nat.lt_or_ge g w.heap.size with h' | h'
   ·exact h'
   ·rw [Array.getElem?_eq_none h'] at h; simp at h
  rw [hu.block g hlt (hS g hg)]
  exact h
theorem tab_ext {w w' : World} (h : Tab w) (hu : Ext w w') : Tab w' := tab_upd h hu (fun _ _ e => e)
theorem ext_grow (w : World) (k : Nat) (os : Array Obj) : Ext w (grow (w.drewN k) os) := by
 refine ⟨rfl, rfl, rfl, ?_, fun j hj _ => ?_⟩
 ·show w.heap.size <= (w.heap ++ os).size
  simp
 ·show (w.heap ++ os)[j]? = w.heap[j]?
  rw [Array.getElem?_append_left hj]
theorem holds0 (w : World) (T : TypeId) (nd : Nat) (hs : nd <= 24) : Holds (fun (b : UInt8) => Value.int .u8 (b.toNat : Int)) (w.alloc (.cells Lib.zeros24 T)) w.heap.size 0 (Array.replicate nd (0 : UInt8)) := fun j hj => by
 have hj' : j < nd := by simpa using hj
 refine ⟨?_, World.frozen?_alloc_new _ _ _ _⟩
 rw [World.cell?_alloc_new, Lib.zeros24_at _ (by omega), getElem!_pos _ j hj]
 simp
theorem Tryz.arrT : Tryz.prog.arrayLen 137 = 24 := by kernel_rfl
theorem fmtUintIn_any (w : World) (u : Nat) (hu : u < 18446744073709551616) (ht : Tab w) :
  Calls Tryz.prog 52 #[.int .u64 u, .int .i64 10] w fun e w' => e = .returned (str (Lib.decDigits u)) /\ Ext w w' := by
 by_cases hs : u < 100
 ·go_enter Tryz.func52, Tryz.ntmps52
  go_wp2_with (go_at_call 61; fail)
  refine (Tryz.internal_strconv_small u hs _).mono ?_
  rintro e w' ⟨rfl, rfl⟩
  go_wp2
  go_ret
  exact ⟨rfl, uZ⟩
 ·have hu1 : 1 <= u := by omega
  have hnd20 : Lib.nDigits u <= 20 := by have := Lib.numDigits_eq u hu1 hu; split at this <;> omega
  have hsl : ∀ W, (Instr.sliceAt 137 (.pointer (some ⟨w.heap.size, 0, none⟩)) none (some (.int .i64 (Lib.nDigits u : Int))) none).run Tryz.prog W = .ok (.slice (some ⟨w.heap.size, 0, none⟩) (Lib.nDigits u) 24) W := fun W => by
   rw [run_sliceAt_array_h W 137 ⟨w.heap.size, 0, none⟩ (by kernel_rfl) .i64 (Lib.nDigits u : Int) (by omega) (by rw [Tryz.arrT]; omega), Tryz.arrT]
   go_simp
  have hH0 := holds0 w 137 (Lib.nDigits u) (by omega)
  have hfmt := Tryz.internal_strconv_formatBase10 w.heap.size 0 24 u (Array.replicate (Lib.nDigits u) 0) (w.alloc (.cells Lib.zeros24 137)) hH0 (by rw [Array.size_replicate]; exact Lib.lt_pow_nDigits u) hu (by rw [Array.size_replicate]; omega)
  rw [Array.size_replicate] at hfmt
  have HH0 := zq hH0
  clear hH0
  go_enter Tryz.func52, Tryz.ntmps52
  go_wp2_with (go_at_call 62; fail)
  refine (Tryz.internal_strconv_numDigits u hu1 hu _ (Lib.tabIs_alloc ht _)).mono ?_
  rintro e w' ⟨rfl, rfl⟩
  go_wp2_with (go_at_call 63; fail)
  refine hfmt.mono ?_
  rintro e w' ⟨rfl, k, v', dk, rfl, hF⟩
  obtain ⟨W', hW'⟩ : ∃ W', W' = (putRow (fun (b : UInt8) => Value.int .u8 (b.toNat : Int)) (w.alloc (.cells Lib.zeros24 137)) w.heap.size 0 dk).drewN k := ⟨_, rfl⟩
  have hx : Ext w W' := by
   rw [hW', alloc_eq_grow]
   obtain ⟨os', _, e⟩ := putRow_grow_new (fun (b : UInt8) => Value.int .u8 (b.toNat : Int)) w #[.cells Lib.zeros24 137] w.heap.size 0 dk (Nat.le_refl _)
   rw [e]
   exact ext_grow w k os'
  have hlen := Lib.decDigits_length u
  have hrow : Bytes (fun _ => True) W' (.slice (some ⟨w.heap.size, 0, none⟩) (Lib.nDigits u) 24) (Lib.decDigits u) := by
   refine ⟨_, _, by rw [hlen], by omega, by unfold maxLen; omega, fun e => (by cases e), fun x e _ => (by cases e; exact ⟨rfl, trivial⟩), fun b o hbo j u' hj => ?_⟩
   cases hbo
   have hj' : j < (Lib.decDigits u).length := by have := (List.getElem?_eq_some_iff.1 hj).1; simpa using this
   rw [List.getElem?_map, List.getElem?_eq_getElem hj'] at hj
   simp only [Option.map_some, Option.some.injEq] at hj
   rw [<- hj, Lib.row_is_numeral hF j hj', hW', World.cell?_drewN]
   exact cell?_putRow (fun (b : UInt8) => Value.int .u8 (b.toNat : Int)) _ w.heap.size 0 _ dk HH0.out (by rw [hF.size, Array.size_replicate]) j (by rw [hF.size]; omega)
  have hcv := row_string (P := Tryz.prog) hrow Tryz.underlying23 Tryz.underlying5 Tryz.underlying9
  have HX := zq hx
  rw [<- hW']
  clear hrow hx hW' hF hlen hfmt HH0
  go_wp2
  go_ret
  exact ⟨rfl, HX.out⟩
theorem fmtUint_any (w : World) (u : Nat) (hu : u < 18446744073709551616) (ht : Tab w) :
  Calls Tryz.prog 44 #[.int .u64 u, .int .i64 10] w fun e w' => e = .returned (str (Lib.decDigits u)) /\ Ext w w' := by
 go_enter Tryz.func44, Tryz.ntmps44
 go_wp2_with (go_at_call 52; fail)
 refine (fmtUintIn_any w u hu ht).mono ?_
 rintro e w' ⟨rfl, hx⟩
 go_wp2
 go_ret
 exact ⟨rfl, hx⟩
theorem dec_len {u : Nat} (hu : u < 18446744073709551616) : (Lib.decDigits u).length <= 20 := by
 have key : ∀ (k u : Nat), u < 10 ^ (k + 1) -> (Lib.decDigits u).length <= k + 1 := by
  intro k
  induction k with
  | zero => intro u h; rw [Lib.decDigits, dif_pos (by simpa using h)]; simp
  | succ k ih =>
   intro u h
   by_cases h1 : u < 10
   ·rw [Lib.decDigits, dif_pos h1]; simp
   ·have h2 : u / 10 < 10 ^ (k + 1) := by rw [Nat.div_lt_iff_lt_mul (by decide)]; rw [Nat.pow_succ] at h; exact h
    rw [Lib.decDigits, dif_neg h1, List.length_append]
    have := ih _ h2
    simp; omega
 exact key 19 u (by
  have : (18446744073709551616 : Nat) < 10 ^ 20 := by decide
  omega)
end Go.Proofs.YtnkmpoplibnflaaGreatDoor
