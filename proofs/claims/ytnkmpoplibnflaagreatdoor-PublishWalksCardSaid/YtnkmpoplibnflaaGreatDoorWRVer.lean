/-
  CONTRACT of the reference's Right of versions, at inline versions. Condition: at most 1000000 of them.
-/
import Derived.Test.YtnkmpoplibnflaaGreatDoorGAQ
set_option maxRecDepth 100000
set_option maxHeartbeats 16000000
namespace Go.Proofs.YtnkmpoplibnflaaGreatDoor.Wk
open Go Go.Proofs.YtnkmpoplibnflaaGreatDoor Go.RowKit
theorem rmade_any (w : World) (x : Nat) (s : List UInt8) :
  Calls Tryz.prog 123 #[.agg #[.int .u64 (x : Int), .int .u64 0, .int .u64 0, .int .u64 0, .int .u64 0, .int .u64 0, .int .u64 0, str s, .bool true, .bool false]] w fun e w' => e = .returned (.int .u64 0) /\ Ext w w' := by
 go_enter Tryz.func123, Tryz.ntmps123
 go_wp2
 go_ret
 exact ⟨rfl, uZ.alloc _⟩
theorem ver_cells {l : List Ver} {w : World} {b o : Nat} (hq : ∀ j u, (flatV l)[j]? = some u -> w.cell? ⟨b, o + j, none⟩ = some u) {k : Nat} (hk : k < l.length) {x : Nat} {s : List UInt8} (hx : x = l[k].1) (hs : s = l[k].2) (j : Nat) (u : Value) (hj : ([.int .u64 (x : Int), .int .u64 0, .int .u64 0, .int .u64 0, .int .u64 0, .int .u64 0, .int .u64 0, str s, .bool true, .bool false] : List Value)[j]? = some u) : w.cell? ⟨b, o + k * 10 + j, none⟩ = some u := by
 subst hx hs
 have hj10 : j < 10 := by have := (List.getElem?_eq_some_iff.1 hj).1; simpa using this
 rw [Nat.add_assoc]
 exact hq _ _ ((flatV_at k hk j hj10).trans hj)
def rvAVal (n m b1 o1 L c1 x y : Nat) (s : List UInt8) : Nat -> Value
 | 0 => .slice (some ⟨b1, o1, none⟩) L c1
 | 1 => .int .i64 n
 | 2 => .pointer (some ⟨b1, o1 + n * 10, none⟩)
 | 3 => .pointer (some ⟨b1, o1 + n * 10, none⟩)
 | 4 => .int .u64 (x : Int)
 | 5 => .bool true
 | 6 => .bool true
 | 23 => .bool true
 | 24 => .bool true
 | 42 => .bool true
 | _ => undef
def rvADst (i : Nat) : Tmp := 10 + i
theorem rvADst_ne {j t : Nat} (ht : t = 0 \/ t = 3) (e : rvADst j = t) : False := by
 unfold rvADst at e
 have e : (10 + j : Nat) = t := e
 rcases ht with rfl | rfl <;> (repeat' (split at e)) <;> omega
def rvAPhi (n m b1 o1 L c1 x y : Nat) (s : List UInt8) (ix : Nat) (v : Value) (_ : World) : Prop := v = rvAVal n m b1 o1 L c1 x y s ix
theorem rvAPhi.ext {n m b1 o1 L c1 x y : Nat} {s : List UInt8} {ix : Nat} {v : Value} {w w' : World} (h : rvAPhi n m b1 o1 L c1 x y s ix v w) (_ : Ext w w') : rvAPhi n m b1 o1 L c1 x y s ix v w' := by
 unfold rvAPhi at h ⊢
 exact h
def rvBVal (n m b1 o1 L c1 x y : Nat) (s : List UInt8) : Nat -> Value
 | 0 => .slice (some ⟨b1, o1, none⟩) L c1
 | 1 => .int .i64 n
 | 2 => .pointer (some ⟨b1, o1 + n * 10, none⟩)
 | 3 => .pointer (some ⟨b1, o1 + n * 10, none⟩)
 | 4 => .int .u64 (x : Int)
 | 5 => .bool false
 | 6 => .bool false
 | 7 => .int .i64 n
 | 8 => .bool true
 | 9 => .bool true
 | 10 => .slice (some ⟨b1, o1, none⟩) L c1
 | 11 => .int .i64 n
 | 12 => .pointer (some ⟨b1, o1 + n * 10, none⟩)
 | 13 => .pointer (some ⟨b1, o1 + n * 10, none⟩)
 | 14 => .int .u64 (x : Int)
 | 15 => .slice (some ⟨b1, o1, none⟩) L c1
 | 16 => .int .i64 n
 | 17 => .int .i64 (m : Int)
 | 18 => .pointer (some ⟨b1, o1 + m * 10, none⟩)
 | 19 => .pointer (some ⟨b1, o1 + m * 10, none⟩)
 | 20 => .int .u64 (y : Int)
 | 21 => .bool true
 | 22 => .bool true
 | 23 => .bool true
 | 24 => .bool true
 | 42 => .bool true
 | _ => undef
def rvBDst (i : Nat) : Tmp := 10 + i
theorem rvBDst_ne {j t : Nat} (ht : t = 0 \/ t = 3) (e : rvBDst j = t) : False := by
 unfold rvBDst at e
 have e : (10 + j : Nat) = t := e
 rcases ht with rfl | rfl <;> (repeat' (split at e)) <;> omega
def rvBPhi (n m b1 o1 L c1 x y : Nat) (s : List UInt8) (ix : Nat) (v : Value) (_ : World) : Prop := v = rvBVal n m b1 o1 L c1 x y s ix
theorem rvBPhi.ext {n m b1 o1 L c1 x y : Nat} {s : List UInt8} {ix : Nat} {v : Value} {w w' : World} (h : rvBPhi n m b1 o1 L c1 x y s ix v w) (_ : Ext w w') : rvBPhi n m b1 o1 L c1 x y s ix v w' := by
 unfold rvBPhi at h ⊢
 exact h
def rvCVal (n m b1 o1 L c1 x y : Nat) (s : List UInt8) : Nat -> Value
 | 0 => .slice (some ⟨b1, o1, none⟩) L c1
 | 1 => .int .i64 n
 | 2 => .pointer (some ⟨b1, o1 + n * 10, none⟩)
 | 3 => .pointer (some ⟨b1, o1 + n * 10, none⟩)
 | 4 => .int .u64 (x : Int)
 | 5 => .bool false
 | 6 => .bool false
 | 7 => .int .i64 n
 | 8 => .bool false
 | 9 => .bool false
 | 22 => .bool false
 | 23 => .bool false
 | 24 => .bool false
 | 25 => .slice (some ⟨b1, o1, none⟩) L c1
 | 26 => .int .i64 n
 | 27 => .pointer (some ⟨b1, o1 + n * 10, none⟩)
 | 28 => .agg #[.int .u64 (x : Int), .int .u64 0, .int .u64 0, .int .u64 0, .int .u64 0, .int .u64 0, .int .u64 0, str s, .bool true, .bool false]
 | 29 => .int .u64 0
 | 30 => .bool false
 | 31 => .bool false
 | 41 => .bool false
 | 42 => .bool false
 | _ => undef
def rvCDst (i : Nat) : Tmp := 10 + i
theorem rvCDst_ne {j t : Nat} (ht : t = 0 \/ t = 3) (e : rvCDst j = t) : False := by
 unfold rvCDst at e
 have e : (10 + j : Nat) = t := e
 rcases ht with rfl | rfl <;> (repeat' (split at e)) <;> omega
def rvCPhi (n m b1 o1 L c1 x y : Nat) (s : List UInt8) (ix : Nat) (v : Value) (_ : World) : Prop := v = rvCVal n m b1 o1 L c1 x y s ix
theorem rvCPhi.ext {n m b1 o1 L c1 x y : Nat} {s : List UInt8} {ix : Nat} {v : Value} {w w' : World} (h : rvCPhi n m b1 o1 L c1 x y s ix v w) (_ : Ext w w') : rvCPhi n m b1 o1 L c1 x y s ix v w' := by
 unfold rvCPhi at h ⊢
 exact h
def rvDVal (n m b1 o1 L c1 x y : Nat) (s : List UInt8) : Nat -> Value
 | 0 => .slice (some ⟨b1, o1, none⟩) L c1
 | 1 => .int .i64 n
 | 2 => .pointer (some ⟨b1, o1 + n * 10, none⟩)
 | 3 => .pointer (some ⟨b1, o1 + n * 10, none⟩)
 | 4 => .int .u64 (x : Int)
 | 5 => .bool false
 | 6 => .bool false
 | 7 => .int .i64 n
 | 8 => .bool true
 | 9 => .bool true
 | 10 => .slice (some ⟨b1, o1, none⟩) L c1
 | 11 => .int .i64 n
 | 12 => .pointer (some ⟨b1, o1 + n * 10, none⟩)
 | 13 => .pointer (some ⟨b1, o1 + n * 10, none⟩)
 | 14 => .int .u64 (x : Int)
 | 15 => .slice (some ⟨b1, o1, none⟩) L c1
 | 16 => .int .i64 n
 | 17 => .int .i64 (m : Int)
 | 18 => .pointer (some ⟨b1, o1 + m * 10, none⟩)
 | 19 => .pointer (some ⟨b1, o1 + m * 10, none⟩)
 | 20 => .int .u64 (y : Int)
 | 21 => .bool false
 | 22 => .bool false
 | 23 => .bool false
 | 24 => .bool false
 | 25 => .slice (some ⟨b1, o1, none⟩) L c1
 | 26 => .int .i64 n
 | 27 => .pointer (some ⟨b1, o1 + n * 10, none⟩)
 | 28 => .agg #[.int .u64 (x : Int), .int .u64 0, .int .u64 0, .int .u64 0, .int .u64 0, .int .u64 0, .int .u64 0, str s, .bool true, .bool false]
 | 29 => .int .u64 0
 | 30 => .bool false
 | 31 => .bool false
 | 41 => .bool false
 | 42 => .bool false
 | _ => undef
def rvDDst (i : Nat) : Tmp := 10 + i
theorem rvDDst_ne {j t : Nat} (ht : t = 0 \/ t = 3) (e : rvDDst j = t) : False := by
 unfold rvDDst at e
 have e : (10 + j : Nat) = t := e
 rcases ht with rfl | rfl <;> (repeat' (split at e)) <;> omega
def rvDPhi (n m b1 o1 L c1 x y : Nat) (s : List UInt8) (ix : Nat) (v : Value) (_ : World) : Prop := v = rvDVal n m b1 o1 L c1 x y s ix
theorem rvDPhi.ext {n m b1 o1 L c1 x y : Nat} {s : List UInt8} {ix : Nat} {v : Value} {w w' : World} (h : rvDPhi n m b1 o1 L c1 x y s ix v w) (_ : Ext w w') : rvDPhi n m b1 o1 L c1 x y s ix v w' := by
 unfold rvDPhi at h ⊢
 exact h
theorem rverRight_any {S : Nat -> Prop} (w : World) (v : Value) (l : List Ver) (h : Vers S w v l) (hlen : l.length <= 1000000) (h64 : ∀ e ∈ l, e.1 < 18446744073709551616) :
  Calls Tryz.prog 115 #[v] w fun e w' => e = .returned (.bool (verRight l)) /\ Ext w w' := by
 have H := zq h
 clear h64
 obtain ⟨a0, c0, rfl, hn, hm, -⟩ := h
 unfold maxLen at hm
 go_enter Tryz.func115, Tryz.ntmps115
 go_wp2
 go_loopw [3] (fun t wr => ∃ n last : Nat, n <= l.length /\ t = .int .i64 n /\ Hid (n = 0 -> last = 0) /\ Hid (∀ m, n = m + 1 -> ∃ h : m < l.length, last = l[m].1) /\ Hid (∀ k (h : k < l.length), k < n -> (k = 0 -> 0 < l[k].1) /\ ∀ m (hm : k = m + 1), ∃ h' : m < l.length, l[m].1 < l[k].1) /\ Hid (Ext w wr)) (fun t _ => l.length - (intOf t).toNat)
 case atStart => exact ⟨0, 0, Nat.zero_le _, rfl, zq (fun _ => rfl), zq (fun m e => (by omega)), zq (fun k _ h => (by omega)), zq uZ⟩
 case round =>
  obtain ⟨n, last, hn', rfl, HL0, HL1, HUP, HX⟩ := hrel
  by_cases hlt : n < l.length
  ·obtain ⟨b1, o1, c1, e1, -, -, -, hq1⟩ := (H.out.ext HX.out).addr (by omega)
   cases e1
   have HLT := zq hlt
   have HDEC := zq (show l[n].1 <= last -> verRight l = false from verRight_bad hlt HL0.out HL1.out)
   have HUP2 := zq (show ¬ l[n].1 <= last -> ∀ k (h : k < l.length), k < n + 1 -> (k = 0 -> 0 < l[k].1) /\ ∀ m (hm : k = m + 1), ∃ h' : m < l.length, l[m].1 < l[k].1 from fun hlt2 k h hk => by
    rcases Nat.lt_or_ge k n with g | g
    ·exact HUP.out k h g
    ·obtain rfl : k = n := by omega
     refine ⟨fun e => by have := HL0.out e; omega, fun m e => ?_⟩
     obtain ⟨h4, h5⟩ := HL1.out m e
     exact ⟨h4, by omega⟩)
   obtain ⟨x, hx⟩ : ∃ s, s = l[n].1 := ⟨_, rfl⟩
   obtain ⟨s, hs⟩ : ∃ s, s = l[n].2 := ⟨_, rfl⟩
   have hca := ver_cells hq1 hlt hx hs
   have HCA := zq hca
   have HCX := zq (show wr.cell? ⟨b1, o1 + n * 10, none⟩ = some (.int .u64 (x : Int)) from hca 0 _ rfl)
   have hprev : ∀ m, n = m + 1 -> wr.cell? ⟨b1, o1 + m * 10, none⟩ = some (.int .u64 (last : Int)) := fun m e => by
    obtain ⟨h4, h5⟩ := HL1.out m e
    exact ver_cells hq1 h4 h5 rfl 0 _ rfl
   have HPREV := zq hprev
   have HXN := zq hx
   have HDX := zq (show x <= last -> verRight l = false from fun h => HDEC.out (hx ▸ h))
   have HUX := zq (show ¬ x <= last -> ∀ k (h : k < l.length), k < n + 1 -> (k = 0 -> 0 < l[k].1) /\ ∀ m (hm : k = m + 1), ∃ h' : m < l.length, l[m].1 < l[k].1 from fun h => HUP2.out (hx ▸ h))
   clear hca hprev hq1 hx hs HDEC HUP2
   have HX3 := zq HX.out
   go_upto_region 4 with fail
   by_cases hz : x = 0
   ·have HZ := zq hz
    have HB := zq (HDX.out (by omega))
    clear hz
    refine wp_region_invH Nothing (fun _ => Ext) 1000 rvADst (rvAPhi n 0 b1 o1 l.length c0 x 0 s) 53 (by kernel_rfl) (by decide) (by decide) rfl (fun i hi => .inl ((by decide : ∀ i, i < 43 -> rvADst i < 53) i hi)) (fun i w w' h => ⟨h, fun _ => h⟩) (fun i j v w w' _ _ _ _ h hu => h.ext hu) ?_ ?_
    ·intro i o b' w1' ho hx1' hd hk hE hSZ
     have hi : i < 43 := (Array.getElem?_eq_some_iff.1 ho).1
     have his : i = 0 \/ i = 1 \/ i = 2 \/ i = 3 \/ i = 4 \/ i = 5 \/ i = 6 \/ i = 7 \/ i = 8 \/ i = 9 \/ i = 10 \/ i = 11 \/ i = 12 \/ i = 13 \/ i = 14 \/ i = 15 \/ i = 16 \/ i = 17 \/ i = 18 \/ i = 19 \/ i = 20 \/ i = 21 \/ i = 22 \/ i = 23 \/ i = 24 \/ i = 25 \/ i = 26 \/ i = 27 \/ i = 28 \/ i = 29 \/ i = 30 \/ i = 31 \/ i = 32 \/ i = 33 \/ i = 34 \/ i = 35 \/ i = 36 \/ i = 37 \/ i = 38 \/ i = 39 \/ i = 40 \/ i = 41 \/ i = 42 := by omega
     clear hE hSZ
     have HW1 := zq hx1'
     clear hx1'
     rcases his with rfl | rfl | rfl | rfl | rfl | rfl | rfl | rfl | rfl | rfl | rfl | rfl | rfl | rfl | rfl | rfl | rfl | rfl | rfl | rfl | rfl | rfl | rfl | rfl | rfl | rfl | rfl | rfl | rfl | rfl | rfl | rfl | rfl | rfl | rfl | rfl | rfl | rfl | rfl | rfl | rfl | rfl | rfl
     all_goals (simp at ho; subst ho)
     ·
      refine .inl ⟨rfl, ?_⟩
      have o0 : b'.tmps[0]?.getD undef = .slice (some ⟨b1, o1, none⟩) l.length c0 := tAt (hk 0 (fun j oj _ e => (rvADst_ne (by decide) e).elim))
      clear hd hk
      go_step
      exact ⟨_, rfl, rfl, uZ⟩
     ·
      refine .inl ⟨rfl, ?_⟩
      have o3 : b'.tmps[3]?.getD undef = .int .i64 n := tAt (hk 3 (fun j oj _ e => (rvADst_ne (by decide) e).elim))
      clear hd hk
      go_step
      exact ⟨_, rfl, rfl, uZ⟩
     ·
      refine .inl ⟨rfl, ?_⟩
      have e0 : b'.tmps[10]?.getD undef = .slice (some ⟨b1, o1, none⟩) l.length c0 := tAt (hd ⟨0, .data⟩ (by simp) rfl)
      have e1 : b'.tmps[11]?.getD undef = .int .i64 n := tAt (hd ⟨1, .data⟩ (by simp) rfl)
      have q := HLT.out
      clear hd hk
      go_step
      exact ⟨_, rfl, rfl, uZ⟩
     ·
      refine .inl ⟨rfl, ?_⟩
      have e2 : b'.tmps[12]?.getD undef = .pointer (some ⟨b1, o1 + n * 10, none⟩) := tAt (hd ⟨2, .data⟩ (by simp) rfl)
      have q := World.block_lt_of_cell? _ _ (HW1.out.cell HCX.out id)
      clear hd hk
      go_step
      exact ⟨_, rfl, rfl, uZ⟩
     ·
      refine .inl ⟨rfl, ?_⟩
      have e3 : b'.tmps[13]?.getD undef = .pointer (some ⟨b1, o1 + n * 10, none⟩) := tAt (hd ⟨3, .data⟩ (by simp) rfl)
      have q := HW1.out.cell HCX.out id
      clear hd hk
      go_step
      exact ⟨_, rfl, rfl, uZ⟩
     ·
      refine .inl ⟨rfl, ?_⟩
      have e4 : b'.tmps[14]?.getD undef = .int .u64 (x : Int) := tAt (hd ⟨4, .data⟩ (by simp) rfl)
      clear hd hk
      go_step
      exact ⟨_, rfl, (by show Value.bool _ = .bool _; simp; have := HZ.out; omega), uZ⟩
     ·
      refine .inl ⟨rfl, ?_⟩
      have e5 : b'.tmps[15]?.getD undef = .bool true := tAt (hd ⟨5, .data⟩ (by simp) rfl)
      clear hd hk
      go_step
      exact ⟨_, rfl, rfl, uZ⟩
     ·
      refine .inr ⟨gNot rfl rfl (hd ⟨6, .guard⟩ (by simp) rfl), rfl, rfl, uZ⟩
     ·
      refine .inr ⟨gNot rfl rfl (hd ⟨6, .guard⟩ (by simp) rfl), rfl, rfl, uZ⟩
     ·
      refine .inr ⟨gNot rfl rfl (hd ⟨6, .guard⟩ (by simp) rfl), rfl, rfl, uZ⟩
     ·
      refine .inr ⟨gUn rfl rfl (hd ⟨9, .guard⟩ (by simp) rfl), rfl, rfl, uZ⟩
     ·
      refine .inr ⟨gUn rfl rfl (hd ⟨9, .guard⟩ (by simp) rfl), rfl, rfl, uZ⟩
     ·
      refine .inr ⟨gUn rfl rfl (hd ⟨9, .guard⟩ (by simp) rfl), rfl, rfl, uZ⟩
     ·
      refine .inr ⟨gUn rfl rfl (hd ⟨9, .guard⟩ (by simp) rfl), rfl, rfl, uZ⟩
     ·
      refine .inr ⟨gUn rfl rfl (hd ⟨9, .guard⟩ (by simp) rfl), rfl, rfl, uZ⟩
     ·
      refine .inr ⟨gUn rfl rfl (hd ⟨9, .guard⟩ (by simp) rfl), rfl, rfl, uZ⟩
     ·
      refine .inr ⟨gUn rfl rfl (hd ⟨9, .guard⟩ (by simp) rfl), rfl, rfl, uZ⟩
     ·
      refine .inr ⟨gUn rfl rfl (hd ⟨9, .guard⟩ (by simp) rfl), rfl, rfl, uZ⟩
     ·
      refine .inr ⟨gUn rfl rfl (hd ⟨9, .guard⟩ (by simp) rfl), rfl, rfl, uZ⟩
     ·
      refine .inr ⟨gUn rfl rfl (hd ⟨9, .guard⟩ (by simp) rfl), rfl, rfl, uZ⟩
     ·
      refine .inr ⟨gUn rfl rfl (hd ⟨9, .guard⟩ (by simp) rfl), rfl, rfl, uZ⟩
     ·
      refine .inr ⟨gUn rfl rfl (hd ⟨9, .guard⟩ (by simp) rfl), rfl, rfl, uZ⟩
     ·
      refine .inr ⟨gNot rfl rfl (hd ⟨6, .guard⟩ (by simp) rfl), rfl, rfl, uZ⟩
     ·
      refine .inl ⟨rfl, ?_⟩
      have e6 : b'.tmps[16]?.getD undef = .bool true := tAt (hd ⟨6, .data⟩ (by simp) rfl)
      have e22 : b'.tmps[32]?.getD undef = undef := tAt (hd ⟨22, .data⟩ (by simp) rfl)
      clear hd hk
      go_step
      exact ⟨_, rfl, rfl, uZ⟩
     ·
      refine .inl ⟨rfl, ?_⟩
      have e23 : b'.tmps[33]?.getD undef = .bool true := tAt (hd ⟨23, .data⟩ (by simp) rfl)
      clear hd hk
      go_step
      exact ⟨_, rfl, rfl, uZ⟩
     ·
      refine .inr ⟨gNot rfl rfl (hd ⟨24, .guard⟩ (by simp) rfl), rfl, rfl, uZ⟩
     ·
      refine .inr ⟨gNot rfl rfl (hd ⟨24, .guard⟩ (by simp) rfl), rfl, rfl, uZ⟩
     ·
      refine .inr ⟨gNot rfl rfl (hd ⟨24, .guard⟩ (by simp) rfl), rfl, rfl, uZ⟩
     ·
      refine .inr ⟨gNot rfl rfl (hd ⟨24, .guard⟩ (by simp) rfl), rfl, rfl, uZ⟩
     ·
      refine .inr ⟨gNot rfl rfl (hd ⟨24, .guard⟩ (by simp) rfl), rfl, rfl, uZ⟩
     ·
      refine .inr ⟨gNot rfl rfl (hd ⟨24, .guard⟩ (by simp) rfl), rfl, rfl, uZ⟩
     ·
      refine .inr ⟨gNot rfl rfl (hd ⟨24, .guard⟩ (by simp) rfl), rfl, rfl, uZ⟩
     ·
      refine .inr ⟨gUn rfl rfl (hd ⟨31, .guard⟩ (by simp) rfl), rfl, rfl, uZ⟩
     ·
      refine .inr ⟨gUn rfl rfl (hd ⟨31, .guard⟩ (by simp) rfl), rfl, rfl, uZ⟩
     ·
      refine .inr ⟨gUn rfl rfl (hd ⟨31, .guard⟩ (by simp) rfl), rfl, rfl, uZ⟩
     ·
      refine .inr ⟨gUn rfl rfl (hd ⟨31, .guard⟩ (by simp) rfl), rfl, rfl, uZ⟩
     ·
      refine .inr ⟨gUn rfl rfl (hd ⟨31, .guard⟩ (by simp) rfl), rfl, rfl, uZ⟩
     ·
      refine .inr ⟨gUn rfl rfl (hd ⟨31, .guard⟩ (by simp) rfl), rfl, rfl, uZ⟩
     ·
      refine .inr ⟨gUn rfl rfl (hd ⟨31, .guard⟩ (by simp) rfl), rfl, rfl, uZ⟩
     ·
      refine .inr ⟨gUn rfl rfl (hd ⟨31, .guard⟩ (by simp) rfl), rfl, rfl, uZ⟩
     ·
      refine .inr ⟨gUn rfl rfl (hd ⟨31, .guard⟩ (by simp) rfl), rfl, rfl, uZ⟩
     ·
      refine .inr ⟨gNot rfl rfl (hd ⟨24, .guard⟩ (by simp) rfl), rfl, rfl, uZ⟩
     ·
      refine .inl ⟨rfl, ?_⟩
      have e24 : b'.tmps[34]?.getD undef = .bool true := tAt (hd ⟨24, .data⟩ (by simp) rfl)
      have e41 : b'.tmps[51]?.getD undef = undef := tAt (hd ⟨41, .data⟩ (by simp) rfl)
      clear hd hk
      go_step
      exact ⟨_, rfl, rfl, uZ⟩
    ·intro v w1' hx1' hp
     have h42 : v 42 = .bool true := hp 42 (by decide)
     have HX8 := zq (HX3.out.trans hx1')
     clear hp hx1'
     simp only [List.size_toArray, List.length_cons, List.length_nil, Nat.reduceAdd, fillAll, rvADst]
     go_simp
     go_wp2
     go_ret
     exact ⟨by rw [HB.out]; rfl, HX8.out⟩
   ·have HZ := zq hz
    by_cases hn0 : n = 0
    ·have HMN := zq hn0
     have HU := zq (HUX.out (by have := HL0.out hn0; omega))
     clear hz hn0
     refine wp_region_invH Nothing (fun _ => Ext) 1000 rvCDst (rvCPhi n 0 b1 o1 l.length c0 x 0 s) 53 (by kernel_rfl) (by decide) (by decide) rfl (fun i hi => .inl ((by decide : ∀ i, i < 43 -> rvCDst i < 53) i hi)) (fun i w w' h => ⟨h, fun _ => h⟩) (fun i j v w w' _ _ _ _ h hu => h.ext hu) ?_ ?_
     ·intro i o b' w1' ho hx1' hd hk hE hSZ
      have hi : i < 43 := (Array.getElem?_eq_some_iff.1 ho).1
      have his : i = 0 \/ i = 1 \/ i = 2 \/ i = 3 \/ i = 4 \/ i = 5 \/ i = 6 \/ i = 7 \/ i = 8 \/ i = 9 \/ i = 10 \/ i = 11 \/ i = 12 \/ i = 13 \/ i = 14 \/ i = 15 \/ i = 16 \/ i = 17 \/ i = 18 \/ i = 19 \/ i = 20 \/ i = 21 \/ i = 22 \/ i = 23 \/ i = 24 \/ i = 25 \/ i = 26 \/ i = 27 \/ i = 28 \/ i = 29 \/ i = 30 \/ i = 31 \/ i = 32 \/ i = 33 \/ i = 34 \/ i = 35 \/ i = 36 \/ i = 37 \/ i = 38 \/ i = 39 \/ i = 40 \/ i = 41 \/ i = 42 := by omega
      clear hE hSZ
      have HW1 := zq hx1'
      clear hx1'
      rcases his with rfl | rfl | rfl | rfl | rfl | rfl | rfl | rfl | rfl | rfl | rfl | rfl | rfl | rfl | rfl | rfl | rfl | rfl | rfl | rfl | rfl | rfl | rfl | rfl | rfl | rfl | rfl | rfl | rfl | rfl | rfl | rfl | rfl | rfl | rfl | rfl | rfl | rfl | rfl | rfl | rfl | rfl | rfl
      all_goals (simp at ho; subst ho)
      ·
       refine .inl ⟨rfl, ?_⟩
       have o0 : b'.tmps[0]?.getD undef = .slice (some ⟨b1, o1, none⟩) l.length c0 := tAt (hk 0 (fun j oj _ e => (rvCDst_ne (by decide) e).elim))
       clear hd hk
       go_step
       exact ⟨_, rfl, rfl, uZ⟩
      ·
       refine .inl ⟨rfl, ?_⟩
       have o3 : b'.tmps[3]?.getD undef = .int .i64 n := tAt (hk 3 (fun j oj _ e => (rvCDst_ne (by decide) e).elim))
       clear hd hk
       go_step
       exact ⟨_, rfl, rfl, uZ⟩
      ·
       refine .inl ⟨rfl, ?_⟩
       have e0 : b'.tmps[10]?.getD undef = .slice (some ⟨b1, o1, none⟩) l.length c0 := tAt (hd ⟨0, .data⟩ (by simp) rfl)
       have e1 : b'.tmps[11]?.getD undef = .int .i64 n := tAt (hd ⟨1, .data⟩ (by simp) rfl)
       have q := HLT.out
       clear hd hk
       go_step
       exact ⟨_, rfl, rfl, uZ⟩
      ·
       refine .inl ⟨rfl, ?_⟩
       have e2 : b'.tmps[12]?.getD undef = .pointer (some ⟨b1, o1 + n * 10, none⟩) := tAt (hd ⟨2, .data⟩ (by simp) rfl)
       have q := World.block_lt_of_cell? _ _ (HW1.out.cell HCX.out id)
       clear hd hk
       go_step
       exact ⟨_, rfl, rfl, uZ⟩
      ·
       refine .inl ⟨rfl, ?_⟩
       have e3 : b'.tmps[13]?.getD undef = .pointer (some ⟨b1, o1 + n * 10, none⟩) := tAt (hd ⟨3, .data⟩ (by simp) rfl)
       have q := HW1.out.cell HCX.out id
       clear hd hk
       go_step
       exact ⟨_, rfl, rfl, uZ⟩
      ·
       refine .inl ⟨rfl, ?_⟩
       have e4 : b'.tmps[14]?.getD undef = .int .u64 (x : Int) := tAt (hd ⟨4, .data⟩ (by simp) rfl)
       clear hd hk
       go_step
       exact ⟨_, rfl, (by show Value.bool _ = .bool _; simp; have := HZ.out; omega), uZ⟩
      ·
       refine .inl ⟨rfl, ?_⟩
       have e5 : b'.tmps[15]?.getD undef = .bool false := tAt (hd ⟨5, .data⟩ (by simp) rfl)
       clear hd hk
       go_step
       exact ⟨_, rfl, rfl, uZ⟩
      ·
       refine .inl ⟨gAt rfl rfl (hd ⟨6, .guard⟩ (by simp) rfl), ?_⟩
       have o3 : b'.tmps[3]?.getD undef = .int .i64 n := tAt (hk 3 (fun j oj _ e => (rvCDst_ne (by decide) e).elim))
       clear hd hk
       go_step
       exact ⟨_, rfl, rfl, uZ⟩
      ·
       refine .inl ⟨gAt rfl rfl (hd ⟨6, .guard⟩ (by simp) rfl), ?_⟩
       have e7 : b'.tmps[17]?.getD undef = .int .i64 n := tAt (hd ⟨7, .data⟩ (by simp) rfl)
       clear hd hk
       go_step
       exact ⟨_, rfl, (by show Value.bool _ = .bool _; simp; have := HMN.out; omega), uZ⟩
      ·
       refine .inl ⟨gAt rfl rfl (hd ⟨6, .guard⟩ (by simp) rfl), ?_⟩
       have e8 : b'.tmps[18]?.getD undef = .bool false := tAt (hd ⟨8, .data⟩ (by simp) rfl)
       clear hd hk
       go_step
       exact ⟨_, rfl, rfl, uZ⟩
      ·
       refine .inr ⟨gNot rfl rfl (hd ⟨9, .guard⟩ (by simp) rfl), rfl, rfl, uZ⟩
      ·
       refine .inr ⟨gNot rfl rfl (hd ⟨9, .guard⟩ (by simp) rfl), rfl, rfl, uZ⟩
      ·
       refine .inr ⟨gNot rfl rfl (hd ⟨9, .guard⟩ (by simp) rfl), rfl, rfl, uZ⟩
      ·
       refine .inr ⟨gNot rfl rfl (hd ⟨9, .guard⟩ (by simp) rfl), rfl, rfl, uZ⟩
      ·
       refine .inr ⟨gNot rfl rfl (hd ⟨9, .guard⟩ (by simp) rfl), rfl, rfl, uZ⟩
      ·
       refine .inr ⟨gNot rfl rfl (hd ⟨9, .guard⟩ (by simp) rfl), rfl, rfl, uZ⟩
      ·
       refine .inr ⟨gNot rfl rfl (hd ⟨9, .guard⟩ (by simp) rfl), rfl, rfl, uZ⟩
      ·
       refine .inr ⟨gNot rfl rfl (hd ⟨9, .guard⟩ (by simp) rfl), rfl, rfl, uZ⟩
      ·
       refine .inr ⟨gNot rfl rfl (hd ⟨9, .guard⟩ (by simp) rfl), rfl, rfl, uZ⟩
      ·
       refine .inr ⟨gNot rfl rfl (hd ⟨9, .guard⟩ (by simp) rfl), rfl, rfl, uZ⟩
      ·
       refine .inr ⟨gNot rfl rfl (hd ⟨9, .guard⟩ (by simp) rfl), rfl, rfl, uZ⟩
      ·
       refine .inr ⟨gNot rfl rfl (hd ⟨9, .guard⟩ (by simp) rfl), rfl, rfl, uZ⟩
      ·
       refine .inl ⟨gAt rfl rfl (hd ⟨6, .guard⟩ (by simp) rfl), ?_⟩
       have e9 : b'.tmps[19]?.getD undef = .bool false := tAt (hd ⟨9, .data⟩ (by simp) rfl)
       have e21 : b'.tmps[31]?.getD undef = undef := tAt (hd ⟨21, .data⟩ (by simp) rfl)
       clear hd hk
       go_step
       exact ⟨_, rfl, rfl, uZ⟩
      ·
       refine .inl ⟨rfl, ?_⟩
       have e6 : b'.tmps[16]?.getD undef = .bool false := tAt (hd ⟨6, .data⟩ (by simp) rfl)
       have e22 : b'.tmps[32]?.getD undef = .bool false := tAt (hd ⟨22, .data⟩ (by simp) rfl)
       clear hd hk
       go_step
       exact ⟨_, rfl, rfl, uZ⟩
      ·
       refine .inl ⟨rfl, ?_⟩
       have e23 : b'.tmps[33]?.getD undef = .bool false := tAt (hd ⟨23, .data⟩ (by simp) rfl)
       clear hd hk
       go_step
       exact ⟨_, rfl, rfl, uZ⟩
      ·
       refine .inl ⟨gAt rfl rfl (hd ⟨24, .guard⟩ (by simp) rfl), ?_⟩
       have o0 : b'.tmps[0]?.getD undef = .slice (some ⟨b1, o1, none⟩) l.length c0 := tAt (hk 0 (fun j oj _ e => (rvCDst_ne (by decide) e).elim))
       clear hd hk
       go_step
       exact ⟨_, rfl, rfl, uZ⟩
      ·
       refine .inl ⟨gAt rfl rfl (hd ⟨24, .guard⟩ (by simp) rfl), ?_⟩
       have o3 : b'.tmps[3]?.getD undef = .int .i64 n := tAt (hk 3 (fun j oj _ e => (rvCDst_ne (by decide) e).elim))
       clear hd hk
       go_step
       exact ⟨_, rfl, rfl, uZ⟩
      ·
       refine .inl ⟨gAt rfl rfl (hd ⟨24, .guard⟩ (by simp) rfl), ?_⟩
       have e25 : b'.tmps[35]?.getD undef = .slice (some ⟨b1, o1, none⟩) l.length c0 := tAt (hd ⟨25, .data⟩ (by simp) rfl)
       have e26 : b'.tmps[36]?.getD undef = .int .i64 n := tAt (hd ⟨26, .data⟩ (by simp) rfl)
       have q := HLT.out
       clear hd hk
       go_step
       exact ⟨_, rfl, rfl, uZ⟩
      ·
       refine .inl ⟨gAt rfl rfl (hd ⟨24, .guard⟩ (by simp) rfl), ?_⟩
       have o37 : b'.eval (.tmp 37) = .pointer (some ⟨b1, o1 + n * 10, none⟩) := by
        have := (show b'.tmps.getD 37 undef = .pointer (some ⟨b1, o1 + n * 10, none⟩) from hd ⟨27, .data⟩ (by simp) rfl)
        simpa [Act.eval] using this
       exact wp_load_mid (w := w1') 193 (.tmp 37) rfl b1 (o1 + n * 10) o37 [.int .u64 (x : Int), .int .u64 0, .int .u64 0, .int .u64 0, .int .u64 0, .int .u64 0, .int .u64 0, str s, .bool true, .bool false] _ (fun j u hj => HW1.out.cell (HCA.out j u hj) id) Tryz.underlying193 rfl (by kernel_rfl) ⟨_, rfl, rfl, uZ⟩
      ·
       refine .inl ⟨gAt rfl rfl (hd ⟨24, .guard⟩ (by simp) rfl), ?_⟩
       have e28 : b'.tmps[38]?.getD undef = .agg #[.int .u64 (x : Int), .int .u64 0, .int .u64 0, .int .u64 0, .int .u64 0, .int .u64 0, .int .u64 0, str s, .bool true, .bool false] := tAt (hd ⟨28, .data⟩ (by simp) rfl)
       clear hd hk
       go_step
       refine (rmade_any w1' x s).mono ?_
       rintro e w2 ⟨rfl, hu⟩
       exact ⟨_, rfl, rfl, hu⟩
      ·
       refine .inl ⟨gAt rfl rfl (hd ⟨24, .guard⟩ (by simp) rfl), ?_⟩
       have e29 : b'.tmps[39]?.getD undef = .int .u64 0 := tAt (hd ⟨29, .data⟩ (by simp) rfl)
       clear hd hk
       go_step
       exact ⟨_, rfl, rfl, uZ⟩
      ·
       refine .inl ⟨gAt rfl rfl (hd ⟨24, .guard⟩ (by simp) rfl), ?_⟩
       have e30 : b'.tmps[40]?.getD undef = .bool false := tAt (hd ⟨30, .data⟩ (by simp) rfl)
       clear hd hk
       go_step
       exact ⟨_, rfl, rfl, uZ⟩
      ·
       refine .inr ⟨gNot rfl rfl (hd ⟨31, .guard⟩ (by simp) rfl), rfl, rfl, uZ⟩
      ·
       refine .inr ⟨gNot rfl rfl (hd ⟨31, .guard⟩ (by simp) rfl), rfl, rfl, uZ⟩
      ·
       refine .inr ⟨gNot rfl rfl (hd ⟨31, .guard⟩ (by simp) rfl), rfl, rfl, uZ⟩
      ·
       refine .inr ⟨gNot rfl rfl (hd ⟨31, .guard⟩ (by simp) rfl), rfl, rfl, uZ⟩
      ·
       refine .inr ⟨gNot rfl rfl (hd ⟨31, .guard⟩ (by simp) rfl), rfl, rfl, uZ⟩
      ·
       refine .inr ⟨gNot rfl rfl (hd ⟨31, .guard⟩ (by simp) rfl), rfl, rfl, uZ⟩
      ·
       refine .inr ⟨gNot rfl rfl (hd ⟨31, .guard⟩ (by simp) rfl), rfl, rfl, uZ⟩
      ·
       refine .inr ⟨gNot rfl rfl (hd ⟨31, .guard⟩ (by simp) rfl), rfl, rfl, uZ⟩
      ·
       refine .inr ⟨gNot rfl rfl (hd ⟨31, .guard⟩ (by simp) rfl), rfl, rfl, uZ⟩
      ·
       refine .inl ⟨gAt rfl rfl (hd ⟨24, .guard⟩ (by simp) rfl), ?_⟩
       have e31 : b'.tmps[41]?.getD undef = .bool false := tAt (hd ⟨31, .data⟩ (by simp) rfl)
       have e40 : b'.tmps[50]?.getD undef = undef := tAt (hd ⟨40, .data⟩ (by simp) rfl)
       clear hd hk
       go_step
       exact ⟨_, rfl, rfl, uZ⟩
      ·
       refine .inl ⟨rfl, ?_⟩
       have e24 : b'.tmps[34]?.getD undef = .bool false := tAt (hd ⟨24, .data⟩ (by simp) rfl)
       have e41 : b'.tmps[51]?.getD undef = .bool false := tAt (hd ⟨41, .data⟩ (by simp) rfl)
       clear hd hk
       go_step
       exact ⟨_, rfl, rfl, uZ⟩
     ·intro v w1' hx1' hp
      have h42 : v 42 = .bool false := hp 42 (by decide)
      have HX8 := zq (HX3.out.trans hx1')
      have HM := zq (show ∀ m', n + 1 = m' + 1 -> ∃ h : m' < l.length, x = l[m'].1 from fun m' e => ⟨by have := HLT.out; omega, by have e2 : m' = n := (by omega); subst e2; exact HXN.out⟩)
      clear hp hx1'
      simp only [List.size_toArray, List.length_cons, List.length_nil, Nat.reduceAdd, fillAll, rvCDst]
      go_simp
      go_wp2
      go_roundw
      case rel => exact ⟨n + 1, x, by have := HLT.out; omega, by go_num, zq (fun e => (by omega)), HM, HU, HX8⟩
      case measure => have := HLT.out; simp [intOf]; omega
    ·obtain ⟨m, hmn⟩ : ∃ m, n = m + 1 := ⟨n - 1, by omega⟩
     have HMN := zq hmn
     have HCY := zq (HPREV.out m hmn)
     clear hn0 hmn hz
     by_cases hle : x <= last
     ·have HLE := zq hle
      have HB := zq (HDX.out hle)
      clear hle
      refine wp_region_invH Nothing (fun _ => Ext) 1000 rvBDst (rvBPhi n m b1 o1 l.length c0 x last s) 53 (by kernel_rfl) (by decide) (by decide) rfl (fun i hi => .inl ((by decide : ∀ i, i < 43 -> rvBDst i < 53) i hi)) (fun i w w' h => ⟨h, fun _ => h⟩) (fun i j v w w' _ _ _ _ h hu => h.ext hu) ?_ ?_
      ·intro i o b' w1' ho hx1' hd hk hE hSZ
       have hi : i < 43 := (Array.getElem?_eq_some_iff.1 ho).1
       have his : i = 0 \/ i = 1 \/ i = 2 \/ i = 3 \/ i = 4 \/ i = 5 \/ i = 6 \/ i = 7 \/ i = 8 \/ i = 9 \/ i = 10 \/ i = 11 \/ i = 12 \/ i = 13 \/ i = 14 \/ i = 15 \/ i = 16 \/ i = 17 \/ i = 18 \/ i = 19 \/ i = 20 \/ i = 21 \/ i = 22 \/ i = 23 \/ i = 24 \/ i = 25 \/ i = 26 \/ i = 27 \/ i = 28 \/ i = 29 \/ i = 30 \/ i = 31 \/ i = 32 \/ i = 33 \/ i = 34 \/ i = 35 \/ i = 36 \/ i = 37 \/ i = 38 \/ i = 39 \/ i = 40 \/ i = 41 \/ i = 42 := by omega
       clear hE hSZ
       have HW1 := zq hx1'
       clear hx1'
       rcases his with rfl | rfl | rfl | rfl | rfl | rfl | rfl | rfl | rfl | rfl | rfl | rfl | rfl | rfl | rfl | rfl | rfl | rfl | rfl | rfl | rfl | rfl | rfl | rfl | rfl | rfl | rfl | rfl | rfl | rfl | rfl | rfl | rfl | rfl | rfl | rfl | rfl | rfl | rfl | rfl | rfl | rfl | rfl
       all_goals (simp at ho; subst ho)
       ·
        refine .inl ⟨rfl, ?_⟩
        have o0 : b'.tmps[0]?.getD undef = .slice (some ⟨b1, o1, none⟩) l.length c0 := tAt (hk 0 (fun j oj _ e => (rvBDst_ne (by decide) e).elim))
        clear hd hk
        go_step
        exact ⟨_, rfl, rfl, uZ⟩
       ·
        refine .inl ⟨rfl, ?_⟩
        have o3 : b'.tmps[3]?.getD undef = .int .i64 n := tAt (hk 3 (fun j oj _ e => (rvBDst_ne (by decide) e).elim))
        clear hd hk
        go_step
        exact ⟨_, rfl, rfl, uZ⟩
       ·
        refine .inl ⟨rfl, ?_⟩
        have e0 : b'.tmps[10]?.getD undef = .slice (some ⟨b1, o1, none⟩) l.length c0 := tAt (hd ⟨0, .data⟩ (by simp) rfl)
        have e1 : b'.tmps[11]?.getD undef = .int .i64 n := tAt (hd ⟨1, .data⟩ (by simp) rfl)
        have q := HLT.out
        clear hd hk
        go_step
        exact ⟨_, rfl, rfl, uZ⟩
       ·
        refine .inl ⟨rfl, ?_⟩
        have e2 : b'.tmps[12]?.getD undef = .pointer (some ⟨b1, o1 + n * 10, none⟩) := tAt (hd ⟨2, .data⟩ (by simp) rfl)
        have q := World.block_lt_of_cell? _ _ (HW1.out.cell HCX.out id)
        clear hd hk
        go_step
        exact ⟨_, rfl, rfl, uZ⟩
       ·
        refine .inl ⟨rfl, ?_⟩
        have e3 : b'.tmps[13]?.getD undef = .pointer (some ⟨b1, o1 + n * 10, none⟩) := tAt (hd ⟨3, .data⟩ (by simp) rfl)
        have q := HW1.out.cell HCX.out id
        clear hd hk
        go_step
        exact ⟨_, rfl, rfl, uZ⟩
       ·
        refine .inl ⟨rfl, ?_⟩
        have e4 : b'.tmps[14]?.getD undef = .int .u64 (x : Int) := tAt (hd ⟨4, .data⟩ (by simp) rfl)
        clear hd hk
        go_step
        exact ⟨_, rfl, (by show Value.bool _ = .bool _; simp; have := HZ.out; omega), uZ⟩
       ·
        refine .inl ⟨rfl, ?_⟩
        have e5 : b'.tmps[15]?.getD undef = .bool false := tAt (hd ⟨5, .data⟩ (by simp) rfl)
        clear hd hk
        go_step
        exact ⟨_, rfl, rfl, uZ⟩
       ·
        refine .inl ⟨gAt rfl rfl (hd ⟨6, .guard⟩ (by simp) rfl), ?_⟩
        have o3 : b'.tmps[3]?.getD undef = .int .i64 n := tAt (hk 3 (fun j oj _ e => (rvBDst_ne (by decide) e).elim))
        clear hd hk
        go_step
        exact ⟨_, rfl, rfl, uZ⟩
       ·
        refine .inl ⟨gAt rfl rfl (hd ⟨6, .guard⟩ (by simp) rfl), ?_⟩
        have e7 : b'.tmps[17]?.getD undef = .int .i64 n := tAt (hd ⟨7, .data⟩ (by simp) rfl)
        clear hd hk
        go_step
        exact ⟨_, rfl, (by show Value.bool _ = .bool _; simp; have := HMN.out; omega), uZ⟩
       ·
        refine .inl ⟨gAt rfl rfl (hd ⟨6, .guard⟩ (by simp) rfl), ?_⟩
        have e8 : b'.tmps[18]?.getD undef = .bool true := tAt (hd ⟨8, .data⟩ (by simp) rfl)
        clear hd hk
        go_step
        exact ⟨_, rfl, rfl, uZ⟩
       ·
        refine .inl ⟨gAt rfl rfl (hd ⟨9, .guard⟩ (by simp) rfl), ?_⟩
        have o0 : b'.tmps[0]?.getD undef = .slice (some ⟨b1, o1, none⟩) l.length c0 := tAt (hk 0 (fun j oj _ e => (rvBDst_ne (by decide) e).elim))
        clear hd hk
        go_step
        exact ⟨_, rfl, rfl, uZ⟩
       ·
        refine .inl ⟨gAt rfl rfl (hd ⟨9, .guard⟩ (by simp) rfl), ?_⟩
        have o3 : b'.tmps[3]?.getD undef = .int .i64 n := tAt (hk 3 (fun j oj _ e => (rvBDst_ne (by decide) e).elim))
        clear hd hk
        go_step
        exact ⟨_, rfl, rfl, uZ⟩
       ·
        refine .inl ⟨gAt rfl rfl (hd ⟨9, .guard⟩ (by simp) rfl), ?_⟩
        have e10 : b'.tmps[20]?.getD undef = .slice (some ⟨b1, o1, none⟩) l.length c0 := tAt (hd ⟨10, .data⟩ (by simp) rfl)
        have e11 : b'.tmps[21]?.getD undef = .int .i64 n := tAt (hd ⟨11, .data⟩ (by simp) rfl)
        have q := HLT.out
        clear hd hk
        go_step
        exact ⟨_, rfl, rfl, uZ⟩
       ·
        refine .inl ⟨gAt rfl rfl (hd ⟨9, .guard⟩ (by simp) rfl), ?_⟩
        have e12 : b'.tmps[22]?.getD undef = .pointer (some ⟨b1, o1 + n * 10, none⟩) := tAt (hd ⟨12, .data⟩ (by simp) rfl)
        have q := World.block_lt_of_cell? _ _ (HW1.out.cell HCX.out id)
        clear hd hk
        go_step
        exact ⟨_, rfl, rfl, uZ⟩
       ·
        refine .inl ⟨gAt rfl rfl (hd ⟨9, .guard⟩ (by simp) rfl), ?_⟩
        have e13 : b'.tmps[23]?.getD undef = .pointer (some ⟨b1, o1 + n * 10, none⟩) := tAt (hd ⟨13, .data⟩ (by simp) rfl)
        have q := HW1.out.cell HCX.out id
        clear hd hk
        go_step
        exact ⟨_, rfl, rfl, uZ⟩
       ·
        refine .inl ⟨gAt rfl rfl (hd ⟨9, .guard⟩ (by simp) rfl), ?_⟩
        have o0 : b'.tmps[0]?.getD undef = .slice (some ⟨b1, o1, none⟩) l.length c0 := tAt (hk 0 (fun j oj _ e => (rvBDst_ne (by decide) e).elim))
        clear hd hk
        go_step
        exact ⟨_, rfl, rfl, uZ⟩
       ·
        refine .inl ⟨gAt rfl rfl (hd ⟨9, .guard⟩ (by simp) rfl), ?_⟩
        have o3 : b'.tmps[3]?.getD undef = .int .i64 n := tAt (hk 3 (fun j oj _ e => (rvBDst_ne (by decide) e).elim))
        clear hd hk
        go_step
        exact ⟨_, rfl, rfl, uZ⟩
       ·
        refine .inl ⟨gAt rfl rfl (hd ⟨9, .guard⟩ (by simp) rfl), ?_⟩
        have e16 : b'.tmps[26]?.getD undef = .int .i64 n := tAt (hd ⟨16, .data⟩ (by simp) rfl)
        have q2 := HMN.out
        clear hd hk
        go_step
        exact ⟨_, rfl, rfl, uZ⟩
       ·
        refine .inl ⟨gAt rfl rfl (hd ⟨9, .guard⟩ (by simp) rfl), ?_⟩
        have e15 : b'.tmps[25]?.getD undef = .slice (some ⟨b1, o1, none⟩) l.length c0 := tAt (hd ⟨15, .data⟩ (by simp) rfl)
        have e17 : b'.tmps[27]?.getD undef = .int .i64 (m : Int) := tAt (hd ⟨17, .data⟩ (by simp) rfl)
        have q : m < l.length := by have := HLT.out; have := HMN.out; omega
        clear hd hk
        go_step
        exact ⟨_, rfl, rfl, uZ⟩
       ·
        refine .inl ⟨gAt rfl rfl (hd ⟨9, .guard⟩ (by simp) rfl), ?_⟩
        have e18 : b'.tmps[28]?.getD undef = .pointer (some ⟨b1, o1 + m * 10, none⟩) := tAt (hd ⟨18, .data⟩ (by simp) rfl)
        have q := World.block_lt_of_cell? _ _ (HW1.out.cell HCY.out id)
        clear hd hk
        go_step
        exact ⟨_, rfl, rfl, uZ⟩
       ·
        refine .inl ⟨gAt rfl rfl (hd ⟨9, .guard⟩ (by simp) rfl), ?_⟩
        have e19 : b'.tmps[29]?.getD undef = .pointer (some ⟨b1, o1 + m * 10, none⟩) := tAt (hd ⟨19, .data⟩ (by simp) rfl)
        have q := HW1.out.cell HCY.out id
        clear hd hk
        go_step
        exact ⟨_, rfl, rfl, uZ⟩
       ·
        refine .inl ⟨gAt rfl rfl (hd ⟨9, .guard⟩ (by simp) rfl), ?_⟩
        have e14 : b'.tmps[24]?.getD undef = .int .u64 (x : Int) := tAt (hd ⟨14, .data⟩ (by simp) rfl)
        have e20 : b'.tmps[30]?.getD undef = .int .u64 (last : Int) := tAt (hd ⟨20, .data⟩ (by simp) rfl)
        clear hd hk
        go_step
        exact ⟨_, rfl, (by show Value.bool _ = .bool _; simp; have := HLE.out; omega), uZ⟩
       ·
        refine .inl ⟨gAt rfl rfl (hd ⟨6, .guard⟩ (by simp) rfl), ?_⟩
        have e9 : b'.tmps[19]?.getD undef = .bool true := tAt (hd ⟨9, .data⟩ (by simp) rfl)
        have e21 : b'.tmps[31]?.getD undef = .bool true := tAt (hd ⟨21, .data⟩ (by simp) rfl)
        clear hd hk
        go_step
        exact ⟨_, rfl, rfl, uZ⟩
       ·
        refine .inl ⟨rfl, ?_⟩
        have e6 : b'.tmps[16]?.getD undef = .bool false := tAt (hd ⟨6, .data⟩ (by simp) rfl)
        have e22 : b'.tmps[32]?.getD undef = .bool true := tAt (hd ⟨22, .data⟩ (by simp) rfl)
        clear hd hk
        go_step
        exact ⟨_, rfl, rfl, uZ⟩
       ·
        refine .inl ⟨rfl, ?_⟩
        have e23 : b'.tmps[33]?.getD undef = .bool true := tAt (hd ⟨23, .data⟩ (by simp) rfl)
        clear hd hk
        go_step
        exact ⟨_, rfl, rfl, uZ⟩
       ·
        refine .inr ⟨gNot rfl rfl (hd ⟨24, .guard⟩ (by simp) rfl), rfl, rfl, uZ⟩
       ·
        refine .inr ⟨gNot rfl rfl (hd ⟨24, .guard⟩ (by simp) rfl), rfl, rfl, uZ⟩
       ·
        refine .inr ⟨gNot rfl rfl (hd ⟨24, .guard⟩ (by simp) rfl), rfl, rfl, uZ⟩
       ·
        refine .inr ⟨gNot rfl rfl (hd ⟨24, .guard⟩ (by simp) rfl), rfl, rfl, uZ⟩
       ·
        refine .inr ⟨gNot rfl rfl (hd ⟨24, .guard⟩ (by simp) rfl), rfl, rfl, uZ⟩
       ·
        refine .inr ⟨gNot rfl rfl (hd ⟨24, .guard⟩ (by simp) rfl), rfl, rfl, uZ⟩
       ·
        refine .inr ⟨gNot rfl rfl (hd ⟨24, .guard⟩ (by simp) rfl), rfl, rfl, uZ⟩
       ·
        refine .inr ⟨gUn rfl rfl (hd ⟨31, .guard⟩ (by simp) rfl), rfl, rfl, uZ⟩
       ·
        refine .inr ⟨gUn rfl rfl (hd ⟨31, .guard⟩ (by simp) rfl), rfl, rfl, uZ⟩
       ·
        refine .inr ⟨gUn rfl rfl (hd ⟨31, .guard⟩ (by simp) rfl), rfl, rfl, uZ⟩
       ·
        refine .inr ⟨gUn rfl rfl (hd ⟨31, .guard⟩ (by simp) rfl), rfl, rfl, uZ⟩
       ·
        refine .inr ⟨gUn rfl rfl (hd ⟨31, .guard⟩ (by simp) rfl), rfl, rfl, uZ⟩
       ·
        refine .inr ⟨gUn rfl rfl (hd ⟨31, .guard⟩ (by simp) rfl), rfl, rfl, uZ⟩
       ·
        refine .inr ⟨gUn rfl rfl (hd ⟨31, .guard⟩ (by simp) rfl), rfl, rfl, uZ⟩
       ·
        refine .inr ⟨gUn rfl rfl (hd ⟨31, .guard⟩ (by simp) rfl), rfl, rfl, uZ⟩
       ·
        refine .inr ⟨gUn rfl rfl (hd ⟨31, .guard⟩ (by simp) rfl), rfl, rfl, uZ⟩
       ·
        refine .inr ⟨gNot rfl rfl (hd ⟨24, .guard⟩ (by simp) rfl), rfl, rfl, uZ⟩
       ·
        refine .inl ⟨rfl, ?_⟩
        have e24 : b'.tmps[34]?.getD undef = .bool true := tAt (hd ⟨24, .data⟩ (by simp) rfl)
        have e41 : b'.tmps[51]?.getD undef = undef := tAt (hd ⟨41, .data⟩ (by simp) rfl)
        clear hd hk
        go_step
        exact ⟨_, rfl, rfl, uZ⟩
      ·intro v w1' hx1' hp
       have h42 : v 42 = .bool true := hp 42 (by decide)
       have HX8 := zq (HX3.out.trans hx1')
       clear hp hx1'
       simp only [List.size_toArray, List.length_cons, List.length_nil, Nat.reduceAdd, fillAll, rvBDst]
       go_simp
       go_wp2
       go_ret
       exact ⟨by rw [HB.out]; rfl, HX8.out⟩
     ·have HLE := zq hle
      have HU := zq (HUX.out hle)
      clear hle
      refine wp_region_invH Nothing (fun _ => Ext) 1000 rvDDst (rvDPhi n m b1 o1 l.length c0 x last s) 53 (by kernel_rfl) (by decide) (by decide) rfl (fun i hi => .inl ((by decide : ∀ i, i < 43 -> rvDDst i < 53) i hi)) (fun i w w' h => ⟨h, fun _ => h⟩) (fun i j v w w' _ _ _ _ h hu => h.ext hu) ?_ ?_
      ·intro i o b' w1' ho hx1' hd hk hE hSZ
       have hi : i < 43 := (Array.getElem?_eq_some_iff.1 ho).1
       have his : i = 0 \/ i = 1 \/ i = 2 \/ i = 3 \/ i = 4 \/ i = 5 \/ i = 6 \/ i = 7 \/ i = 8 \/ i = 9 \/ i = 10 \/ i = 11 \/ i = 12 \/ i = 13 \/ i = 14 \/ i = 15 \/ i = 16 \/ i = 17 \/ i = 18 \/ i = 19 \/ i = 20 \/ i = 21 \/ i = 22 \/ i = 23 \/ i = 24 \/ i = 25 \/ i = 26 \/ i = 27 \/ i = 28 \/ i = 29 \/ i = 30 \/ i = 31 \/ i = 32 \/ i = 33 \/ i = 34 \/ i = 35 \/ i = 36 \/ i = 37 \/ i = 38 \/ i = 39 \/ i = 40 \/ i = 41 \/ i = 42 := by omega
       clear hE hSZ
       have HW1 := zq hx1'
       clear hx1'
       rcases his with rfl | rfl | rfl | rfl | rfl | rfl | rfl | rfl | rfl | rfl | rfl | rfl | rfl | rfl | rfl | rfl | rfl | rfl | rfl | rfl | rfl | rfl | rfl | rfl | rfl | rfl | rfl | rfl | rfl | rfl | rfl | rfl | rfl | rfl | rfl | rfl | rfl | rfl | rfl | rfl | rfl | rfl | rfl
       all_goals (simp at ho; subst ho)
       ·
        refine .inl ⟨rfl, ?_⟩
        have o0 : b'.tmps[0]?.getD undef = .slice (some ⟨b1, o1, none⟩) l.length c0 := tAt (hk 0 (fun j oj _ e => (rvDDst_ne (by decide) e).elim))
        clear hd hk
        go_step
        exact ⟨_, rfl, rfl, uZ⟩
       ·
        refine .inl ⟨rfl, ?_⟩
        have o3 : b'.tmps[3]?.getD undef = .int .i64 n := tAt (hk 3 (fun j oj _ e => (rvDDst_ne (by decide) e).elim))
        clear hd hk
        go_step
        exact ⟨_, rfl, rfl, uZ⟩
       ·
        refine .inl ⟨rfl, ?_⟩
        have e0 : b'.tmps[10]?.getD undef = .slice (some ⟨b1, o1, none⟩) l.length c0 := tAt (hd ⟨0, .data⟩ (by simp) rfl)
        have e1 : b'.tmps[11]?.getD undef = .int .i64 n := tAt (hd ⟨1, .data⟩ (by simp) rfl)
        have q := HLT.out
        clear hd hk
        go_step
        exact ⟨_, rfl, rfl, uZ⟩
       ·
        refine .inl ⟨rfl, ?_⟩
        have e2 : b'.tmps[12]?.getD undef = .pointer (some ⟨b1, o1 + n * 10, none⟩) := tAt (hd ⟨2, .data⟩ (by simp) rfl)
        have q := World.block_lt_of_cell? _ _ (HW1.out.cell HCX.out id)
        clear hd hk
        go_step
        exact ⟨_, rfl, rfl, uZ⟩
       ·
        refine .inl ⟨rfl, ?_⟩
        have e3 : b'.tmps[13]?.getD undef = .pointer (some ⟨b1, o1 + n * 10, none⟩) := tAt (hd ⟨3, .data⟩ (by simp) rfl)
        have q := HW1.out.cell HCX.out id
        clear hd hk
        go_step
        exact ⟨_, rfl, rfl, uZ⟩
       ·
        refine .inl ⟨rfl, ?_⟩
        have e4 : b'.tmps[14]?.getD undef = .int .u64 (x : Int) := tAt (hd ⟨4, .data⟩ (by simp) rfl)
        clear hd hk
        go_step
        exact ⟨_, rfl, (by show Value.bool _ = .bool _; simp; have := HZ.out; omega), uZ⟩
       ·
        refine .inl ⟨rfl, ?_⟩
        have e5 : b'.tmps[15]?.getD undef = .bool false := tAt (hd ⟨5, .data⟩ (by simp) rfl)
        clear hd hk
        go_step
        exact ⟨_, rfl, rfl, uZ⟩
       ·
        refine .inl ⟨gAt rfl rfl (hd ⟨6, .guard⟩ (by simp) rfl), ?_⟩
        have o3 : b'.tmps[3]?.getD undef = .int .i64 n := tAt (hk 3 (fun j oj _ e => (rvDDst_ne (by decide) e).elim))
        clear hd hk
        go_step
        exact ⟨_, rfl, rfl, uZ⟩
       ·
        refine .inl ⟨gAt rfl rfl (hd ⟨6, .guard⟩ (by simp) rfl), ?_⟩
        have e7 : b'.tmps[17]?.getD undef = .int .i64 n := tAt (hd ⟨7, .data⟩ (by simp) rfl)
        clear hd hk
        go_step
        exact ⟨_, rfl, (by show Value.bool _ = .bool _; simp; have := HMN.out; omega), uZ⟩
       ·
        refine .inl ⟨gAt rfl rfl (hd ⟨6, .guard⟩ (by simp) rfl), ?_⟩
        have e8 : b'.tmps[18]?.getD undef = .bool true := tAt (hd ⟨8, .data⟩ (by simp) rfl)
        clear hd hk
        go_step
        exact ⟨_, rfl, rfl, uZ⟩
       ·
        refine .inl ⟨gAt rfl rfl (hd ⟨9, .guard⟩ (by simp) rfl), ?_⟩
        have o0 : b'.tmps[0]?.getD undef = .slice (some ⟨b1, o1, none⟩) l.length c0 := tAt (hk 0 (fun j oj _ e => (rvDDst_ne (by decide) e).elim))
        clear hd hk
        go_step
        exact ⟨_, rfl, rfl, uZ⟩
       ·
        refine .inl ⟨gAt rfl rfl (hd ⟨9, .guard⟩ (by simp) rfl), ?_⟩
        have o3 : b'.tmps[3]?.getD undef = .int .i64 n := tAt (hk 3 (fun j oj _ e => (rvDDst_ne (by decide) e).elim))
        clear hd hk
        go_step
        exact ⟨_, rfl, rfl, uZ⟩
       ·
        refine .inl ⟨gAt rfl rfl (hd ⟨9, .guard⟩ (by simp) rfl), ?_⟩
        have e10 : b'.tmps[20]?.getD undef = .slice (some ⟨b1, o1, none⟩) l.length c0 := tAt (hd ⟨10, .data⟩ (by simp) rfl)
        have e11 : b'.tmps[21]?.getD undef = .int .i64 n := tAt (hd ⟨11, .data⟩ (by simp) rfl)
        have q := HLT.out
        clear hd hk
        go_step
        exact ⟨_, rfl, rfl, uZ⟩
       ·
        refine .inl ⟨gAt rfl rfl (hd ⟨9, .guard⟩ (by simp) rfl), ?_⟩
        have e12 : b'.tmps[22]?.getD undef = .pointer (some ⟨b1, o1 + n * 10, none⟩) := tAt (hd ⟨12, .data⟩ (by simp) rfl)
        have q := World.block_lt_of_cell? _ _ (HW1.out.cell HCX.out id)
        clear hd hk
        go_step
        exact ⟨_, rfl, rfl, uZ⟩
       ·
        refine .inl ⟨gAt rfl rfl (hd ⟨9, .guard⟩ (by simp) rfl), ?_⟩
        have e13 : b'.tmps[23]?.getD undef = .pointer (some ⟨b1, o1 + n * 10, none⟩) := tAt (hd ⟨13, .data⟩ (by simp) rfl)
        have q := HW1.out.cell HCX.out id
        clear hd hk
        go_step
        exact ⟨_, rfl, rfl, uZ⟩
       ·
        refine .inl ⟨gAt rfl rfl (hd ⟨9, .guard⟩ (by simp) rfl), ?_⟩
        have o0 : b'.tmps[0]?.getD undef = .slice (some ⟨b1, o1, none⟩) l.length c0 := tAt (hk 0 (fun j oj _ e => (rvDDst_ne (by decide) e).elim))
        clear hd hk
        go_step
        exact ⟨_, rfl, rfl, uZ⟩
       ·
        refine .inl ⟨gAt rfl rfl (hd ⟨9, .guard⟩ (by simp) rfl), ?_⟩
        have o3 : b'.tmps[3]?.getD undef = .int .i64 n := tAt (hk 3 (fun j oj _ e => (rvDDst_ne (by decide) e).elim))
        clear hd hk
        go_step
        exact ⟨_, rfl, rfl, uZ⟩
       ·
        refine .inl ⟨gAt rfl rfl (hd ⟨9, .guard⟩ (by simp) rfl), ?_⟩
        have e16 : b'.tmps[26]?.getD undef = .int .i64 n := tAt (hd ⟨16, .data⟩ (by simp) rfl)
        have q2 := HMN.out
        clear hd hk
        go_step
        exact ⟨_, rfl, rfl, uZ⟩
       ·
        refine .inl ⟨gAt rfl rfl (hd ⟨9, .guard⟩ (by simp) rfl), ?_⟩
        have e15 : b'.tmps[25]?.getD undef = .slice (some ⟨b1, o1, none⟩) l.length c0 := tAt (hd ⟨15, .data⟩ (by simp) rfl)
        have e17 : b'.tmps[27]?.getD undef = .int .i64 (m : Int) := tAt (hd ⟨17, .data⟩ (by simp) rfl)
        have q : m < l.length := by have := HLT.out; have := HMN.out; omega
        clear hd hk
        go_step
        exact ⟨_, rfl, rfl, uZ⟩
       ·
        refine .inl ⟨gAt rfl rfl (hd ⟨9, .guard⟩ (by simp) rfl), ?_⟩
        have e18 : b'.tmps[28]?.getD undef = .pointer (some ⟨b1, o1 + m * 10, none⟩) := tAt (hd ⟨18, .data⟩ (by simp) rfl)
        have q := World.block_lt_of_cell? _ _ (HW1.out.cell HCY.out id)
        clear hd hk
        go_step
        exact ⟨_, rfl, rfl, uZ⟩
       ·
        refine .inl ⟨gAt rfl rfl (hd ⟨9, .guard⟩ (by simp) rfl), ?_⟩
        have e19 : b'.tmps[29]?.getD undef = .pointer (some ⟨b1, o1 + m * 10, none⟩) := tAt (hd ⟨19, .data⟩ (by simp) rfl)
        have q := HW1.out.cell HCY.out id
        clear hd hk
        go_step
        exact ⟨_, rfl, rfl, uZ⟩
       ·
        refine .inl ⟨gAt rfl rfl (hd ⟨9, .guard⟩ (by simp) rfl), ?_⟩
        have e14 : b'.tmps[24]?.getD undef = .int .u64 (x : Int) := tAt (hd ⟨14, .data⟩ (by simp) rfl)
        have e20 : b'.tmps[30]?.getD undef = .int .u64 (last : Int) := tAt (hd ⟨20, .data⟩ (by simp) rfl)
        clear hd hk
        go_step
        exact ⟨_, rfl, (by show Value.bool _ = .bool _; simp; have := HLE.out; omega), uZ⟩
       ·
        refine .inl ⟨gAt rfl rfl (hd ⟨6, .guard⟩ (by simp) rfl), ?_⟩
        have e9 : b'.tmps[19]?.getD undef = .bool true := tAt (hd ⟨9, .data⟩ (by simp) rfl)
        have e21 : b'.tmps[31]?.getD undef = .bool false := tAt (hd ⟨21, .data⟩ (by simp) rfl)
        clear hd hk
        go_step
        exact ⟨_, rfl, rfl, uZ⟩
       ·
        refine .inl ⟨rfl, ?_⟩
        have e6 : b'.tmps[16]?.getD undef = .bool false := tAt (hd ⟨6, .data⟩ (by simp) rfl)
        have e22 : b'.tmps[32]?.getD undef = .bool false := tAt (hd ⟨22, .data⟩ (by simp) rfl)
        clear hd hk
        go_step
        exact ⟨_, rfl, rfl, uZ⟩
       ·
        refine .inl ⟨rfl, ?_⟩
        have e23 : b'.tmps[33]?.getD undef = .bool false := tAt (hd ⟨23, .data⟩ (by simp) rfl)
        clear hd hk
        go_step
        exact ⟨_, rfl, rfl, uZ⟩
       ·
        refine .inl ⟨gAt rfl rfl (hd ⟨24, .guard⟩ (by simp) rfl), ?_⟩
        have o0 : b'.tmps[0]?.getD undef = .slice (some ⟨b1, o1, none⟩) l.length c0 := tAt (hk 0 (fun j oj _ e => (rvDDst_ne (by decide) e).elim))
        clear hd hk
        go_step
        exact ⟨_, rfl, rfl, uZ⟩
       ·
        refine .inl ⟨gAt rfl rfl (hd ⟨24, .guard⟩ (by simp) rfl), ?_⟩
        have o3 : b'.tmps[3]?.getD undef = .int .i64 n := tAt (hk 3 (fun j oj _ e => (rvDDst_ne (by decide) e).elim))
        clear hd hk
        go_step
        exact ⟨_, rfl, rfl, uZ⟩
       ·
        refine .inl ⟨gAt rfl rfl (hd ⟨24, .guard⟩ (by simp) rfl), ?_⟩
        have e25 : b'.tmps[35]?.getD undef = .slice (some ⟨b1, o1, none⟩) l.length c0 := tAt (hd ⟨25, .data⟩ (by simp) rfl)
        have e26 : b'.tmps[36]?.getD undef = .int .i64 n := tAt (hd ⟨26, .data⟩ (by simp) rfl)
        have q := HLT.out
        clear hd hk
        go_step
        exact ⟨_, rfl, rfl, uZ⟩
       ·
        refine .inl ⟨gAt rfl rfl (hd ⟨24, .guard⟩ (by simp) rfl), ?_⟩
        have o37 : b'.eval (.tmp 37) = .pointer (some ⟨b1, o1 + n * 10, none⟩) := by
         have := (show b'.tmps.getD 37 undef = .pointer (some ⟨b1, o1 + n * 10, none⟩) from hd ⟨27, .data⟩ (by simp) rfl)
         simpa [Act.eval] using this
        exact wp_load_mid (w := w1') 193 (.tmp 37) rfl b1 (o1 + n * 10) o37 [.int .u64 (x : Int), .int .u64 0, .int .u64 0, .int .u64 0, .int .u64 0, .int .u64 0, .int .u64 0, str s, .bool true, .bool false] _ (fun j u hj => HW1.out.cell (HCA.out j u hj) id) Tryz.underlying193 rfl (by kernel_rfl) ⟨_, rfl, rfl, uZ⟩
       ·
        refine .inl ⟨gAt rfl rfl (hd ⟨24, .guard⟩ (by simp) rfl), ?_⟩
        have e28 : b'.tmps[38]?.getD undef = .agg #[.int .u64 (x : Int), .int .u64 0, .int .u64 0, .int .u64 0, .int .u64 0, .int .u64 0, .int .u64 0, str s, .bool true, .bool false] := tAt (hd ⟨28, .data⟩ (by simp) rfl)
        clear hd hk
        go_step
        refine (rmade_any w1' x s).mono ?_
        rintro e w2 ⟨rfl, hu⟩
        exact ⟨_, rfl, rfl, hu⟩
       ·
        refine .inl ⟨gAt rfl rfl (hd ⟨24, .guard⟩ (by simp) rfl), ?_⟩
        have e29 : b'.tmps[39]?.getD undef = .int .u64 0 := tAt (hd ⟨29, .data⟩ (by simp) rfl)
        clear hd hk
        go_step
        exact ⟨_, rfl, rfl, uZ⟩
       ·
        refine .inl ⟨gAt rfl rfl (hd ⟨24, .guard⟩ (by simp) rfl), ?_⟩
        have e30 : b'.tmps[40]?.getD undef = .bool false := tAt (hd ⟨30, .data⟩ (by simp) rfl)
        clear hd hk
        go_step
        exact ⟨_, rfl, rfl, uZ⟩
       ·
        refine .inr ⟨gNot rfl rfl (hd ⟨31, .guard⟩ (by simp) rfl), rfl, rfl, uZ⟩
       ·
        refine .inr ⟨gNot rfl rfl (hd ⟨31, .guard⟩ (by simp) rfl), rfl, rfl, uZ⟩
       ·
        refine .inr ⟨gNot rfl rfl (hd ⟨31, .guard⟩ (by simp) rfl), rfl, rfl, uZ⟩
       ·
        refine .inr ⟨gNot rfl rfl (hd ⟨31, .guard⟩ (by simp) rfl), rfl, rfl, uZ⟩
       ·
        refine .inr ⟨gNot rfl rfl (hd ⟨31, .guard⟩ (by simp) rfl), rfl, rfl, uZ⟩
       ·
        refine .inr ⟨gNot rfl rfl (hd ⟨31, .guard⟩ (by simp) rfl), rfl, rfl, uZ⟩
       ·
        refine .inr ⟨gNot rfl rfl (hd ⟨31, .guard⟩ (by simp) rfl), rfl, rfl, uZ⟩
       ·
        refine .inr ⟨gNot rfl rfl (hd ⟨31, .guard⟩ (by simp) rfl), rfl, rfl, uZ⟩
       ·
        refine .inr ⟨gNot rfl rfl (hd ⟨31, .guard⟩ (by simp) rfl), rfl, rfl, uZ⟩
       ·
        refine .inl ⟨gAt rfl rfl (hd ⟨24, .guard⟩ (by simp) rfl), ?_⟩
        have e31 : b'.tmps[41]?.getD undef = .bool false := tAt (hd ⟨31, .data⟩ (by simp) rfl)
        have e40 : b'.tmps[50]?.getD undef = undef := tAt (hd ⟨40, .data⟩ (by simp) rfl)
        clear hd hk
        go_step
        exact ⟨_, rfl, rfl, uZ⟩
       ·
        refine .inl ⟨rfl, ?_⟩
        have e24 : b'.tmps[34]?.getD undef = .bool false := tAt (hd ⟨24, .data⟩ (by simp) rfl)
        have e41 : b'.tmps[51]?.getD undef = .bool false := tAt (hd ⟨41, .data⟩ (by simp) rfl)
        clear hd hk
        go_step
        exact ⟨_, rfl, rfl, uZ⟩
      ·intro v w1' hx1' hp
       have h42 : v 42 = .bool false := hp 42 (by decide)
       have HX8 := zq (HX3.out.trans hx1')
       have HM := zq (show ∀ m', n + 1 = m' + 1 -> ∃ h : m' < l.length, x = l[m'].1 from fun m' e => ⟨by have := HLT.out; omega, by have e2 : m' = n := (by omega); subst e2; exact HXN.out⟩)
       clear hp hx1'
       simp only [List.size_toArray, List.length_cons, List.length_nil, Nat.reduceAdd, fillAll, rvDDst]
       go_simp
       go_wp2
       go_roundw
       case rel => exact ⟨n + 1, x, by have := HLT.out; omega, by go_num, zq (fun e => (by omega)), HM, HU, HX8⟩
       case measure => have := HLT.out; simp [intOf]; omega
  ·have hkl : n = l.length := by omega
   have hf : verRight l = true := verRight_ok (fun k h => HUP.out k h (by omega))
   have HF := zq hf
   clear hf hkl
   go_wp2
   go_ret
   exact ⟨by rw [HF.out]; rfl, HX.out⟩
end Go.Proofs.YtnkmpoplibnflaaGreatDoor.Wk
