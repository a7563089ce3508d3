/-
  CONTRACT of the versions' Right, at inline versions. Condition: at most 1000000 of them.
  CONTRACT of the versions' Parse. Condition: at most 1000000 bytes.
-/
import Derived.Test.YtnkmpoplibnflaaGreatDoorGAO
import Derived.Test.YtnkmpoplibnflaaGreatDoorGAB
import Derived.Deep.MidRow
import Derived.WalkKit
set_option maxRecDepth 100000
set_option maxHeartbeats 16000000
namespace Go.Proofs.YtnkmpoplibnflaaGreatDoor.Wk
open Go Go.Proofs.YtnkmpoplibnflaaGreatDoor Go.RowKit
def cellsV (e : Ver) : List Value := [.int .u64 (e.1 : Int), .int .u64 0, .int .u64 0, .int .u64 0, .int .u64 0, .int .u64 0, .int .u64 0, str e.2, .bool true, .bool false]
def flatV (es : List Ver) : List Value := (es.map cellsV).flatten
theorem flatV_snoc (es : List Ver) (e : Ver) : flatV (es ++ [e]) = flatV es ++ cellsV e := by simp [flatV]
theorem flatV_at : ∀ {es : List Ver} (k : Nat) (hk : k < es.length) (j : Nat), j < 10 -> (flatV es)[k * 10 + j]? = (cellsV es[k])[j]?
 | [], k, h, _, _ => by simp at h
 | t :: ts, 0, _, j, hj => by
  have hl : (cellsV t).length = 10 := rfl
  simp only [flatV, List.map_cons, List.flatten_cons, Nat.zero_mul, Nat.zero_add, List.getElem_cons_zero]
  rw [List.getElem?_append_left (by omega)]
 | t :: ts, k + 1, h, j, hj => by
  have := flatV_at (es := ts) k (by simpa using h) j hj
  have hl : (cellsV t).length = 10 := rfl
  simp only [flatV, List.map_cons, List.flatten_cons] at this ⊢
  rw [show (k + 1) * 10 + j = 10 + (k * 10 + j) by omega, List.getElem?_append_right (by omega)]
  simp only [hl]
  rw [show 10 + (k * 10 + j) - 10 = k * 10 + j by omega]
  exact this
abbrev Vers (S : Nat -> Prop) (w : World) (v : Value) (es : List Ver) : Prop := Row S w v es.length (flatV es)
theorem verRight_bad : ∀ {l : List Ver} {n last : Nat} (h : n < l.length), (n = 0 -> last = 0) -> (∀ m, n = m + 1 -> ∃ h : m < l.length, last = l[m].1) -> l[n].1 <= last -> verRight l = false := by
 intro l n last h h0 h1 hle
 have key : ∀ (l : List Nat) (b n last : Nat) (h : n < l.length), (n = 0 -> last = b) -> (∀ m, n = m + 1 -> ∃ h : m < l.length, last = l[m]) -> l[n] <= last -> riseN b l = false := by
  intro l
  induction l with
  | nil => intro b n last h; simp at h
  | cons a r ih =>
   intro b n last h h0 h1 hle
   unfold riseN
   cases n with
   | zero => have := h0 rfl; simp at hle; simp; omega
   | succ n =>
    have := ih a n last (by simpa using h) (fun e => by obtain ⟨_, h3⟩ := h1 0 (by omega); simpa using h3) (fun m e => by obtain ⟨h4, h3⟩ := h1 (m + 1) (by omega); exact ⟨by simpa using h4, by simpa using h3⟩) (by simpa using hle)
    rw [this]; simp
 unfold verRight
 exact key _ 0 n last (by simpa using h) h0 (fun m e => by obtain ⟨h4, h3⟩ := h1 m e; exact ⟨by simpa using h4, by simpa using h3⟩) (by simpa using hle)
theorem verRight_ok : ∀ {l : List Ver}, (∀ n (h : n < l.length), (n = 0 -> 0 < l[n].1) /\ ∀ m (hm : n = m + 1), ∃ h' : m < l.length, l[m].1 < l[n].1) -> verRight l = true := by
 intro l h
 have key : ∀ (l : List Nat) (b : Nat), (∀ n (h : n < l.length), (n = 0 -> b < l[n]) /\ ∀ m (hm : n = m + 1), ∃ h' : m < l.length, l[m] < l[n]) -> riseN b l = true := by
  intro l
  induction l with
  | nil => intro b _; rfl
  | cons a r ih =>
   intro b h
   unfold riseN
   have h1 := (h 0 (by simp)).1 rfl
   simp at h1
   rw [ih a (fun n hn => ⟨fun e => by obtain ⟨_, h3⟩ := (h (n + 1) (by simpa using hn)).2 n rfl; subst e; simpa using h3, fun m hm => by obtain ⟨h4, h3⟩ := (h (n + 1) (by simpa using hn)).2 (m + 1) (by omega); exact ⟨by simpa using h4, by simpa using h3⟩⟩)]
   simp [h1]
 unfold verRight
 exact key _ 0 (fun n hn => ⟨fun e => by simpa using (h n (by simpa using hn)).1 e, fun m hm => by obtain ⟨h4, h3⟩ := (h n (by simpa using hn)).2 m hm; exact ⟨by simpa using h4, by simpa using h3⟩⟩)
theorem vbase_any (w : World) (x : Nat) (s : List UInt8) :
  Calls Tryz.prog 172 #[.agg #[.int .u64 (x : Int), .int .u64 0, .int .u64 0, .int .u64 0, .int .u64 0, .int .u64 0, .int .u64 0, str s, .bool true, .bool false]] w fun e w' => e = .returned (.int .u64 0) /\ Ext w w' := by
 go_enter Tryz.func172, Tryz.ntmps172
 go_wp2
 go_ret
 exact ⟨rfl, uZ.alloc _⟩
def vrAVal (gv x last : Nat) (s : List UInt8) : Nat -> Value
 | 0 => .pointer (some ⟨gv, 0, none⟩)
 | 1 => .int .u64 (x : Int)
 | 2 => .int .u64 (last : Int)
 | 3 => .bool true
 | 4 => .bool true
 | 17 => .bool true
 | _ => undef
def vrADst (i : Nat) : Tmp := 13 + i
theorem vrADst_ne {j t : Nat} (ht : t = 3 \/ t = 5) (e : vrADst j = t) : False := by
 unfold vrADst at e
 have e : (13 + j : Nat) = t := e
 rcases ht with rfl | rfl <;> (repeat' (split at e)) <;> omega
def vrAPhi (gv x last : Nat) (s : List UInt8) (ix : Nat) (v : Value) (_ : World) : Prop := v = vrAVal gv x last s ix
theorem vrAPhi.ext {gv x last : Nat} {s : List UInt8} {ix : Nat} {v : Value} {w w' : World} (h : vrAPhi gv x last s ix v w) (_ : Ext w w') : vrAPhi gv x last s ix v w' := by
 unfold vrAPhi at h ⊢
 exact h
def vrBVal (gv x last : Nat) (s : List UInt8) : Nat -> Value
 | 0 => .pointer (some ⟨gv, 0, none⟩)
 | 1 => .int .u64 (x : Int)
 | 2 => .int .u64 (last : Int)
 | 3 => .bool false
 | 4 => .bool false
 | 5 => .agg #[.int .u64 (x : Int), .int .u64 0, .int .u64 0, .int .u64 0, .int .u64 0, .int .u64 0, .int .u64 0, str s, .bool true, .bool false]
 | 6 => .int .u64 0
 | 7 => .bool false
 | 8 => .bool false
 | 16 => .bool false
 | 17 => .bool false
 | _ => undef
def vrBDst (i : Nat) : Tmp := 13 + i
theorem vrBDst_ne {j t : Nat} (ht : t = 3 \/ t = 5) (e : vrBDst j = t) : False := by
 unfold vrBDst at e
 have e : (13 + j : Nat) = t := e
 rcases ht with rfl | rfl <;> (repeat' (split at e)) <;> omega
def vrBPhi (gv x last : Nat) (s : List UInt8) (ix : Nat) (v : Value) (_ : World) : Prop := v = vrBVal gv x last s ix
theorem vrBPhi.ext {gv x last : Nat} {s : List UInt8} {ix : Nat} {v : Value} {w w' : World} (h : vrBPhi gv x last s ix v w) (_ : Ext w w') : vrBPhi gv x last s ix v w' := by
 unfold vrBPhi at h ⊢
 exact h
theorem verRight_any {S : Nat -> Prop} (w : World) (v : Value) (l : List Ver) (h : Vers S w v l) (hlen : l.length <= 1000000) (h64 : ∀ e ∈ l, e.1 < 18446744073709551616) :
  Calls Tryz.prog 161 #[v] w fun e w' => e = .returned (.bool (verRight l)) /\ Ext w w' := by
 have H := zq h
 have H64 := zq h64
 obtain ⟨a0, c0, rfl, hn, hm, -⟩ := h
 unfold maxLen at hm
 clear h64
 go_enter Tryz.func161, Tryz.ntmps161
 go_wp2
 go_loopw [3, 8] (fun la t wr => ∃ n last : Nat, n <= l.length /\ la = .int .u64 (last : Int) /\ t = .int .i64 n /\ Hid (n = 0 -> last = 0) /\ Hid (∀ m, n = m + 1 -> ∃ h : m < l.length, last = l[m].1) /\ Hid (∀ k (h : k < l.length), k < n -> (k = 0 -> 0 < l[k].1) /\ ∀ m (hm : k = m + 1), ∃ h' : m < l.length, l[m].1 < l[k].1) /\ Hid (Ext w wr)) (fun _ t _ => l.length - (intOf t).toNat)
 case atStart => exact ⟨0, 0, Nat.zero_le _, rfl, rfl, zq (fun _ => rfl), zq (fun m e => (by omega)), zq (fun k _ h => (by omega)), zq uZ⟩
 case round =>
  obtain ⟨n, last, hn', rfl, rfl, HL0, HL1, HUP, HX⟩ := hrel
  by_cases hlt : n < l.length
  ·obtain ⟨b1, o1, c1, e1, -, -, -, hq1⟩ := (H.out.ext HX.out).addr (by omega)
   cases e1
   have q := flatV_at (es := l) n hlt
   have d0 : wr.cell? ⟨b1, o1 + n * 10, none⟩ = some (.int .u64 (l[n].1 : Int)) := hq1 _ _ (q 0 (by omega))
   have d1 : wr.cell? ⟨b1, o1 + n * 10 + 1, none⟩ = some (.int .u64 0) := hq1 _ _ (q 1 (by omega))
   have d2 : wr.cell? ⟨b1, o1 + n * 10 + 2, none⟩ = some (.int .u64 0) := hq1 _ _ (q 2 (by omega))
   have d3 : wr.cell? ⟨b1, o1 + n * 10 + 3, none⟩ = some (.int .u64 0) := hq1 _ _ (q 3 (by omega))
   have d4 : wr.cell? ⟨b1, o1 + n * 10 + 4, none⟩ = some (.int .u64 0) := hq1 _ _ (q 4 (by omega))
   have d5 : wr.cell? ⟨b1, o1 + n * 10 + 5, none⟩ = some (.int .u64 0) := hq1 _ _ (q 5 (by omega))
   have d6 : wr.cell? ⟨b1, o1 + n * 10 + 6, none⟩ = some (.int .u64 0) := hq1 _ _ (q 6 (by omega))
   have d7 : wr.cell? ⟨b1, o1 + n * 10 + 7, none⟩ = some (str l[n].2) := hq1 _ _ (q 7 (by omega))
   have d8 : wr.cell? ⟨b1, o1 + n * 10 + 8, none⟩ = some (.bool true) := hq1 _ _ (q 8 (by omega))
   have d9 : wr.cell? ⟨b1, o1 + n * 10 + 9, none⟩ = some (.bool false) := hq1 _ _ (q 9 (by omega))
   have hx64 : l[n].1 < 18446744073709551616 := H64.out _ (List.getElem_mem hlt)
   have HDEC := zq (show l[n].1 <= last -> verRight l = false from verRight_bad hlt HL0.out HL1.out)
   have HUP2 := zq (show ¬ l[n].1 <= last -> ∀ k (h : k < l.length), k < n + 1 -> (k = 0 -> 0 < l[k].1) /\ ∀ m (hm : k = m + 1), ∃ h' : m < l.length, l[m].1 < l[k].1 from fun hlt2 k h hk => by
    rcases Nat.lt_or_ge k n with g | g
    ·exact HUP.out k h g
    ·obtain rfl : k = n := by omega
     refine ⟨fun e => by have := HL0.out e; omega, fun m e => ?_⟩
     obtain ⟨h4, h5⟩ := HL1.out m e
     exact ⟨h4, by omega⟩)
   obtain ⟨x, hx⟩ : ∃ s, s = l[n].1 := ⟨_, rfl⟩
   obtain ⟨s, hs⟩ : ∃ s, s = l[n].2 := ⟨_, rfl⟩
   rw [<- hx] at d0 hx64
   rw [<- hs] at d7
   have HXN := zq hx
   rw [<- hx] at HDEC HUP2
   have HLT := zq hlt
   clear q hq1 hx hs
   obtain ⟨gv, hgv⟩ : ∃ gb, gb = wr.heap.size := ⟨_, rfl⟩
   obtain ⟨w3, hw3⟩ : ∃ u, u = wr.alloc (.cells #[.int .u64 (x : Int), .int .u64 0, .int .u64 0, .int .u64 0, .int .u64 0, .int .u64 0, .int .u64 0, str s, .bool true, .bool false] 279) := ⟨_, rfl⟩
   have hx3 : Ext wr w3 := by rw [hw3]; exact uZ.alloc _
   have hg3 : w3.heap[gv]? = some (.cells #[.int .u64 (x : Int), .int .u64 0, .int .u64 0, .int .u64 0, .int .u64 0, .int .u64 0, .int .u64 0, str s, .bool true, .bool false] 279 (0, 0)) := by rw [hw3, hgv]; exact newAt _ _
   have HX3 := zq (HX.out.trans hx3)
   have HW3 := zq hw3
   have HGV := zq hg3
   have HGE := zq hgv
   clear hw3 hx3 hg3 hgv
   go_upto_region 5 with fail
   rw [show wr.heap.size = gv from HGE.out.symm]
   rw [show (wr.alloc (.cells #[.int .u64 (x : Int), .int .u64 0, .int .u64 0, .int .u64 0, .int .u64 0, .int .u64 0, .int .u64 0, .string ⟨s.toArray⟩, .bool true, .bool false] 279)) = w3 from HW3.out.symm]
   clear d0 d1 d2 d3 d4 d5 d6 d7 d8 d9
   by_cases hle : x <= last
   ·have HLE := zq hle
    have HB := zq (HDEC.out hle)
    clear hle
    refine wp_region_invH Nothing (fun _ => Ext) 1000 vrADst (vrAPhi gv x last s) 34 (by kernel_rfl) (by decide) (by decide) rfl (fun i hi => .inl ((by decide : ∀ i, i < 18 -> vrADst i < 34) i hi)) (fun i w w' h => ⟨h, fun _ => h⟩) (fun i j v w w' _ _ _ _ h hu => h.ext hu) ?_ ?_
    ·intro i o b' w1' ho hx1' hd hk hE hSZ
     have hi : i < 18 := (Array.getElem?_eq_some_iff.1 ho).1
     have his : i = 0 \/ i = 1 \/ i = 2 \/ i = 3 \/ i = 4 \/ i = 5 \/ i = 6 \/ i = 7 \/ i = 8 \/ i = 9 \/ i = 10 \/ i = 11 \/ i = 12 \/ i = 13 \/ i = 14 \/ i = 15 \/ i = 16 \/ i = 17 := by omega
     clear hE hSZ
     have HW1 := zq hx1'
     clear hx1'
     rcases his with rfl | rfl | rfl | rfl | rfl | rfl | rfl | rfl | rfl | rfl | rfl | rfl | rfl | rfl | rfl | rfl | rfl | rfl
     all_goals (simp at ho; subst ho)
     ·
      refine .inl ⟨rfl, ?_⟩
      have o5 : b'.tmps[5]?.getD undef = .pointer (some ⟨gv, 0, none⟩) := tAt (hk 5 (fun j oj _ e => (vrADst_ne (by decide) e).elim))
      have q := lZ (HW1.out.at_ HGV.out id)
      clear hd hk
      go_step
      exact ⟨_, rfl, rfl, uZ⟩
     ·
      refine .inl ⟨rfl, ?_⟩
      have e0 : b'.tmps[13]?.getD undef = .pointer (some ⟨gv, 0, none⟩) := tAt (hd ⟨0, .data⟩ (by simp) rfl)
      have q := cZ (HW1.out.at_ HGV.out id) 0 _ rfl
      clear hd hk
      go_step
      exact ⟨_, rfl, rfl, uZ⟩
     ·
      refine .inl ⟨rfl, ?_⟩
      have o3 : b'.tmps[3]?.getD undef = .int .u64 (last : Int) := tAt (hk 3 (fun j oj _ e => (vrADst_ne (by decide) e).elim))
      clear hd hk
      go_step
      exact ⟨_, rfl, rfl, uZ⟩
     ·
      refine .inl ⟨rfl, ?_⟩
      have e1 : b'.tmps[14]?.getD undef = .int .u64 (x : Int) := tAt (hd ⟨1, .data⟩ (by simp) rfl)
      have e2 : b'.tmps[15]?.getD undef = .int .u64 (last : Int) := tAt (hd ⟨2, .data⟩ (by simp) rfl)
      clear hd hk
      go_step
      exact ⟨_, rfl, (by show Value.bool _ = .bool _; simp; have := HLE.out; omega), uZ⟩
     ·
      refine .inl ⟨rfl, ?_⟩
      have e3 : b'.tmps[16]?.getD undef = .bool true := tAt (hd ⟨3, .data⟩ (by simp) rfl)
      clear hd hk
      go_step
      exact ⟨_, rfl, rfl, uZ⟩
     ·
      refine .inr ⟨gNot rfl rfl (hd ⟨4, .guard⟩ (by simp) rfl), rfl, rfl, uZ⟩
     ·
      refine .inr ⟨gNot rfl rfl (hd ⟨4, .guard⟩ (by simp) rfl), rfl, rfl, uZ⟩
     ·
      refine .inr ⟨gNot rfl rfl (hd ⟨4, .guard⟩ (by simp) rfl), rfl, rfl, uZ⟩
     ·
      refine .inr ⟨gNot rfl rfl (hd ⟨4, .guard⟩ (by simp) rfl), rfl, rfl, uZ⟩
     ·
      refine .inr ⟨gUn rfl rfl (hd ⟨8, .guard⟩ (by simp) rfl), rfl, rfl, uZ⟩
     ·
      refine .inr ⟨gUn rfl rfl (hd ⟨8, .guard⟩ (by simp) rfl), rfl, rfl, uZ⟩
     ·
      refine .inr ⟨gUn rfl rfl (hd ⟨8, .guard⟩ (by simp) rfl), rfl, rfl, uZ⟩
     ·
      refine .inr ⟨gUn rfl rfl (hd ⟨8, .guard⟩ (by simp) rfl), rfl, rfl, uZ⟩
     ·
      refine .inr ⟨gUn rfl rfl (hd ⟨8, .guard⟩ (by simp) rfl), rfl, rfl, uZ⟩
     ·
      refine .inr ⟨gUn rfl rfl (hd ⟨8, .guard⟩ (by simp) rfl), rfl, rfl, uZ⟩
     ·
      refine .inr ⟨gUn rfl rfl (hd ⟨8, .guard⟩ (by simp) rfl), rfl, rfl, uZ⟩
     ·
      refine .inr ⟨gNot rfl rfl (hd ⟨4, .guard⟩ (by simp) rfl), rfl, rfl, uZ⟩
     ·
      refine .inl ⟨rfl, ?_⟩
      have e4 : b'.tmps[17]?.getD undef = .bool true := tAt (hd ⟨4, .data⟩ (by simp) rfl)
      have e16 : b'.tmps[29]?.getD undef = undef := tAt (hd ⟨16, .data⟩ (by simp) rfl)
      clear hd hk
      go_step
      exact ⟨_, rfl, rfl, uZ⟩
    ·intro v w1' hx1' hp
     have h17 : v 17 = .bool true := hp 17 (by decide)
     have HX8 := zq (HX3.out.trans hx1')
     have hg8 := hx1'.at_ HGV.out id
     have e1 := cZ hg8 0 _ rfl
     have hl8 := lZ hg8
     clear hp hx1' hg8
     simp only [List.size_toArray, List.length_cons, List.length_nil, Nat.reduceAdd, fillAll, vrADst]
     go_simp
     go_wp2
     go_ret
     exact ⟨by rw [HB.out]; rfl, HX8.out⟩
   ·have HLE := zq hle
    have HUP3 := zq (HUP2.out hle)
    clear hle
    refine wp_region_invH Nothing (fun _ => Ext) 1000 vrBDst (vrBPhi gv x last s) 34 (by kernel_rfl) (by decide) (by decide) rfl (fun i hi => .inl ((by decide : ∀ i, i < 18 -> vrBDst i < 34) i hi)) (fun i w w' h => ⟨h, fun _ => h⟩) (fun i j v w w' _ _ _ _ h hu => h.ext hu) ?_ ?_
    ·intro i o b' w1' ho hx1' hd hk hE hSZ
     have hi : i < 18 := (Array.getElem?_eq_some_iff.1 ho).1
     have his : i = 0 \/ i = 1 \/ i = 2 \/ i = 3 \/ i = 4 \/ i = 5 \/ i = 6 \/ i = 7 \/ i = 8 \/ i = 9 \/ i = 10 \/ i = 11 \/ i = 12 \/ i = 13 \/ i = 14 \/ i = 15 \/ i = 16 \/ i = 17 := by omega
     clear hE hSZ
     have HW1 := zq hx1'
     clear hx1'
     rcases his with rfl | rfl | rfl | rfl | rfl | rfl | rfl | rfl | rfl | rfl | rfl | rfl | rfl | rfl | rfl | rfl | rfl | rfl
     all_goals (simp at ho; subst ho)
     ·
      refine .inl ⟨rfl, ?_⟩
      have o5 : b'.tmps[5]?.getD undef = .pointer (some ⟨gv, 0, none⟩) := tAt (hk 5 (fun j oj _ e => (vrBDst_ne (by decide) e).elim))
      have q := lZ (HW1.out.at_ HGV.out id)
      clear hd hk
      go_step
      exact ⟨_, rfl, rfl, uZ⟩
     ·
      refine .inl ⟨rfl, ?_⟩
      have e0 : b'.tmps[13]?.getD undef = .pointer (some ⟨gv, 0, none⟩) := tAt (hd ⟨0, .data⟩ (by simp) rfl)
      have q := cZ (HW1.out.at_ HGV.out id) 0 _ rfl
      clear hd hk
      go_step
      exact ⟨_, rfl, rfl, uZ⟩
     ·
      refine .inl ⟨rfl, ?_⟩
      have o3 : b'.tmps[3]?.getD undef = .int .u64 (last : Int) := tAt (hk 3 (fun j oj _ e => (vrBDst_ne (by decide) e).elim))
      clear hd hk
      go_step
      exact ⟨_, rfl, rfl, uZ⟩
     ·
      refine .inl ⟨rfl, ?_⟩
      have e1 : b'.tmps[14]?.getD undef = .int .u64 (x : Int) := tAt (hd ⟨1, .data⟩ (by simp) rfl)
      have e2 : b'.tmps[15]?.getD undef = .int .u64 (last : Int) := tAt (hd ⟨2, .data⟩ (by simp) rfl)
      clear hd hk
      go_step
      exact ⟨_, rfl, (by show Value.bool _ = .bool _; simp; have := HLE.out; omega), uZ⟩
     ·
      refine .inl ⟨rfl, ?_⟩
      have e3 : b'.tmps[16]?.getD undef = .bool false := tAt (hd ⟨3, .data⟩ (by simp) rfl)
      clear hd hk
      go_step
      exact ⟨_, rfl, rfl, uZ⟩
     ·
      refine .inl ⟨gAt rfl rfl (hd ⟨4, .guard⟩ (by simp) rfl), ?_⟩
      have o5 : b'.eval (.tmp 5) = .pointer (some ⟨gv, 0, none⟩) := by
       have := hk 5 (fun j oj _ e => (vrBDst_ne (by decide) e).elim)
       simpa [Act.eval] using this
      have hg := HW1.out.at_ HGV.out id
      exact wp_load_mid (w := w1') 279 (.tmp 5) rfl gv 0 o5 [.int .u64 (x : Int), .int .u64 0, .int .u64 0, .int .u64 0, .int .u64 0, .int .u64 0, .int .u64 0, str s, .bool true, .bool false] _ (fun j u hj => by have := cZ hg j u (by simpa using hj); simpa using this) Tryz.underlying279 rfl (by kernel_rfl) ⟨_, rfl, rfl, uZ⟩
     ·
      refine .inl ⟨gAt rfl rfl (hd ⟨4, .guard⟩ (by simp) rfl), ?_⟩
      have e5 : b'.tmps[18]?.getD undef = .agg #[.int .u64 (x : Int), .int .u64 0, .int .u64 0, .int .u64 0, .int .u64 0, .int .u64 0, .int .u64 0, str s, .bool true, .bool false] := tAt (hd ⟨5, .data⟩ (by simp) rfl)
      clear hd hk
      go_step
      refine (vbase_any w1' x s).mono ?_
      rintro e w2 ⟨rfl, hu⟩
      exact ⟨_, rfl, rfl, hu⟩
     ·
      refine .inl ⟨gAt rfl rfl (hd ⟨4, .guard⟩ (by simp) rfl), ?_⟩
      have e6 : b'.tmps[19]?.getD undef = .int .u64 0 := tAt (hd ⟨6, .data⟩ (by simp) rfl)
      clear hd hk
      go_step
      exact ⟨_, rfl, rfl, uZ⟩
     ·
      refine .inl ⟨gAt rfl rfl (hd ⟨4, .guard⟩ (by simp) rfl), ?_⟩
      have e7 : b'.tmps[20]?.getD undef = .bool false := tAt (hd ⟨7, .data⟩ (by simp) rfl)
      clear hd hk
      go_step
      exact ⟨_, rfl, rfl, uZ⟩
     ·
      refine .inr ⟨gNot rfl rfl (hd ⟨8, .guard⟩ (by simp) rfl), rfl, rfl, uZ⟩
     ·
      refine .inr ⟨gNot rfl rfl (hd ⟨8, .guard⟩ (by simp) rfl), rfl, rfl, uZ⟩
     ·
      refine .inr ⟨gNot rfl rfl (hd ⟨8, .guard⟩ (by simp) rfl), rfl, rfl, uZ⟩
     ·
      refine .inr ⟨gNot rfl rfl (hd ⟨8, .guard⟩ (by simp) rfl), rfl, rfl, uZ⟩
     ·
      refine .inr ⟨gNot rfl rfl (hd ⟨8, .guard⟩ (by simp) rfl), rfl, rfl, uZ⟩
     ·
      refine .inr ⟨gNot rfl rfl (hd ⟨8, .guard⟩ (by simp) rfl), rfl, rfl, uZ⟩
     ·
      refine .inr ⟨gNot rfl rfl (hd ⟨8, .guard⟩ (by simp) rfl), rfl, rfl, uZ⟩
     ·
      refine .inl ⟨gAt rfl rfl (hd ⟨4, .guard⟩ (by simp) rfl), ?_⟩
      have e8 : b'.tmps[21]?.getD undef = .bool false := tAt (hd ⟨8, .data⟩ (by simp) rfl)
      have e15 : b'.tmps[28]?.getD undef = undef := tAt (hd ⟨15, .data⟩ (by simp) rfl)
      clear hd hk
      go_step
      exact ⟨_, rfl, rfl, uZ⟩
     ·
      refine .inl ⟨rfl, ?_⟩
      have e4 : b'.tmps[17]?.getD undef = .bool false := tAt (hd ⟨4, .data⟩ (by simp) rfl)
      have e16 : b'.tmps[29]?.getD undef = .bool false := tAt (hd ⟨16, .data⟩ (by simp) rfl)
      clear hd hk
      go_step
      exact ⟨_, rfl, rfl, uZ⟩
    ·intro v w1' hx1' hp
     have h17 : v 17 = .bool false := hp 17 (by decide)
     have HX8 := zq (HX3.out.trans hx1')
     have hg8 := hx1'.at_ HGV.out id
     have e1 := cZ hg8 0 _ rfl
     have hl8 := lZ hg8
     clear hp hx1' hg8
     simp only [List.size_toArray, List.length_cons, List.length_nil, Nat.reduceAdd, fillAll, vrBDst]
     go_simp
     go_wp2
     go_roundw
     have HM := zq (show ∀ m, n + 1 = m + 1 -> ∃ h : m < l.length, x = l[m].1 from fun m e => ⟨by have := HLT.out; omega, by have e2 : m = n := (by omega); subst e2; exact HXN.out⟩)
     case rel => exact ⟨n + 1, x, by have := HLT.out; omega, rfl, by go_num, zq (fun e => (by omega)), HM, HUP3, HX8⟩
     case measure => have := HLT.out; simp [intOf]; omega
  ·have hkl : n = l.length := by omega
   have hf : verRight l = true := verRight_ok (fun k h => HUP.out k h (by omega))
   have HF := zq hf
   clear hf hkl
   go_wp2
   go_ret
   exact ⟨by rw [HF.out]; rfl, HX.out⟩
end Go.Proofs.YtnkmpoplibnflaaGreatDoor.Wk
set_option maxRecDepth 100000
set_option maxHeartbeats 16000000
namespace Go.Proofs.YtnkmpoplibnflaaGreatDoor.Wk
open Go Go.Proofs.YtnkmpoplibnflaaGreatDoor Go.RowKit
theorem Tryz.versT : SliceT Tryz.prog 207 279 10 80 := sliceT_of Tryz.underlying207 (by kernel_rfl) (by decide)
def VerPost (w : World) (l : List UInt8) (e : Ending) (w' : World) : Prop := Ext w w' ∧
 (∀ es, versO l = some es -> ∃ v, e = .returned (.tuple #[v, .int .i64 0]) /\ Vers (From w.heap.size) w' v es) ∧
 (versO l = none -> ∃ E : Int, E ≠ 0 /\ e = .returned (.tuple #[.slice none 0 0, .int .i64 E]))
theorem verParse_any {S : Nat -> Prop} (w : World) (v : Value) (l : List UInt8) (h : Bytes S w v l) (hl : l.length <= 1000000) :
  Calls Tryz.prog 149 #[v] w (VerPost w l) := by
 have H := zq h
 obtain ⟨a0, c0, rfl, hn, hm, -⟩ := h
 go_enter Tryz.func149, Tryz.ntmps149
 go_wp2_with (go_at_call 145; fail)
 refine (vNum_any w _ l H.out 0 (Nat.zero_le _)).mono ?_
 intro e w1 hp
 obtain ⟨M, a1, E1, rfl, hok, hbad, hx1⟩ := hp.form
 have HX1 := zq hx1
 have HOK := zq hok
 have HA := zq (show E1 = 0 -> a1 <= l.length /\ M < 18446744073709551616 from fun e => by have := numO_le (Nat.zero_le _) (hok e); exact ⟨this.2.1, this.2.2⟩)
 have HJ0 := zq (show E1 = 0 -> manyO (verO l) M a1 = joinO [] (manyO (verO l) (M - 0) a1) from fun _ => (joinO_nil _).symm)
 have HNO := zq (show E1 ≠ 0 -> versO l = none from fun e => versO_no (hbad e))
 clear hp hok hbad hx1
 go_wp2
 go_loopw [5, 6, 7, 8] (fun at' e out i wr => ∃ (a k : Nat) (E : Int) (dn : List Ver), at' = .int .i64 (a : Int) /\ e = .int .i64 E /\ i = .int .u64 (k : Int) /\ k <= 1000000 ∧
   wr.ownsRow w.heap.size 279 10 out dn.length (flatV dn) /\ Ext w wr /\ Hid (E = 0 -> E1 = 0 /\ a <= l.length /\ k <= M /\ k = dn.length /\ dn.length <= a /\ manyO (verO l) M a1 = joinO dn (manyO (verO l) (M - k) a)) /\ Hid (E ≠ 0 -> versO l = none) /\ Hid (E = 0 -> ∀ e ∈ dn, e.1 < 18446744073709551616)) (fun _ _ _ i _ => M - (intOf i).toNat)
 case atStart => exact ⟨a1, 0, E1, [], rfl, rfl, rfl, by omega, World.ownsRow_nil _ _ _ _, HX1.out, zq (fun e => ⟨e, (HA.out e).1, Nat.zero_le _, rfl, by simp, HJ0.out e⟩), HNO, zq (by simp)⟩
 case round =>
  obtain ⟨a, k, E, dn, rfl, rfl, rfl, hk, hown, hx, HE0, HE1, HLT⟩ := hrel
  obtain ⟨ra, rc, rfl⟩ := ownsFormN hown
  have HOWN := zq hown
  have HX := zq hx
  have hxs := hx.size
  clear hown hx
  by_cases hE : E = 0
  case neg =>
   have hb : (E != 0) = true := by simpa using hE
   have hb2 : (E == 0) = false := by simpa using hE
   have HB := zq (HE1.out hE)
   have HEE := zq hE
   clear hE
   go_wp2
   all_goals go_ret2
   all_goals exact ⟨HX.out, fun es e => (by rw [HB.out] at e; cases e), fun _ => ⟨E, HEE.out, rfl⟩⟩
  obtain ⟨hE1, ha, hkM, hkd, hda, hj⟩ := HE0.out hE
  subst hE
  have HJ := zq hj
  have HNUM := zq (HOK.out hE1)
  have HE1Z := zq hE1
  replace HLT := zq (HLT.out rfl)
  clear hj HE0 HE1 hE1 HA HOK HNO HJ0
  by_cases hlt : k < M
  ·have hlti : (k : Int) < (M : Int) := by omega
   obtain ⟨w4, hw4⟩ : ∃ u, u = wr.alloc (.cells #[.int .u64 0, .int .u64 0, .int .u64 0, .int .u64 0, .int .u64 0, .int .u64 0, .int .u64 0, str [], .bool false, .bool false] 279) := ⟨_, rfl⟩
   have hx4 : Ext wr w4 := by rw [hw4]; exact uZ.alloc _
   have hg4 : w4.heap[wr.heap.size]? = some (.cells #[.int .u64 0, .int .u64 0, .int .u64 0, .int .u64 0, .int .u64 0, .int .u64 0, .int .u64 0, str [], .bool false, .bool false] 279 (0, 0)) := by rw [hw4]; exact newAt _ _
   have HX4 := zq (HX.out.trans hx4)
   have HO4 := zq (hx4.ownsRow HOWN.out (fun _ _ e => e))
   have hw4s : wr.heap.size < w4.heap.size := lZ hg4
   have HLO := zq (show ∀ k, (Value.slice ra dn.length rc).ownBlock = some k -> k < wr.heap.size from fun k hk => (HOWN.out.lt k hk).2)
   have HG4 := zq hg4
   have HW4 := zq hw4
   clear hx4 hg4 hw4
   go_wp2_with (go_at_call 145; fail)
   rw [show wr.alloc (.cells #[.int .u64 0, .int .u64 0, .int .u64 0, .int .u64 0, .int .u64 0, .int .u64 0, .int .u64 0, str [], .bool false, .bool false] 279) = w4 from HW4.out.symm]
   refine (vNum_any w4 _ l (H.out.ext HX4.out) a ha).mono ?_
   intro e w5 hp
   obtain ⟨n2, q, E2, rfl, hok2, hbad2, hx5⟩ := hp.form
   have HX5 := zq (HX4.out.trans hx5)
   have HO5 := zq (hx5.ownsRow HO4.out (fun _ _ e => e))
   have HG5 := zq (hx5.at_ HG4.out id)
   have HOK2 := zq hok2
   have HBAD2 := zq hbad2
   have b0 := cZ HG5.out 0 _ rfl
   have f0 := freeAt HG5.out 0
   have l0 := lZ HG5.out
   have b8 := cZ HG5.out 8 _ rfl
   have f8 := freeAt HG5.out 8
   have hxs5 := HX5.out.size
   clear hp hok2 hbad2 hx5 HO4 HG4 HX4
   obtain ⟨w6, hw6⟩ : ∃ u, u = (w5.setCell ⟨wr.heap.size, 0, none⟩ (.int .u64 (n2 : Int))).setCell ⟨wr.heap.size, 8, none⟩ (.bool true) := ⟨_, rfl⟩
   have hu6 : Upd (At wr.heap.size) w5 w6 := by rw [hw6]; exact (Upd.own _ _ _ _).trans (Upd.own _ _ _ _)
   have hg6 : w6.heap[wr.heap.size]? = some (.cells #[.int .u64 (n2 : Int), .int .u64 0, .int .u64 0, .int .u64 0, .int .u64 0, .int .u64 0, .int .u64 0, str [], .bool true, .bool false] 279 (0, 0)) := by rw [hw6]; exact setAt (setAt HG5.out)
   have HX6 := zq (HX5.out.step hu6 (fun i hi e => by unfold At at e; omega))
   have HO6 := zq (hu6.ownsRow HO5.out (fun k hk e => by have := HLO.out k hk; have e : k = wr.heap.size := e; omega))
   have HG6 := zq hg6
   have HW6 := zq hw6
   clear hu6 hg6 hw6
   by_cases hE2 : E2 = 0
   case neg =>
    have hb : (E2 != 0) = true := by simpa using hE2
    have HB := zq (versO_bad HNUM.out (joinO_bad' HJ.out (by omega) (verO_no1 (HBAD2.out hE2))))
    have HEE := zq hE2
    clear hE2
    have HXB := zq (show Ext w (w5.setCell ⟨wr.heap.size, 0, none⟩ (.int .u64 (n2 : Int))) from HX5.out.step (Upd.own _ _ _ _) (fun i hi e => by unfold At at e; omega))
    go_wp2
    go_ret2
    exact ⟨HXB.out, fun es e => (by rw [HB.out] at e; cases e), fun _ => ⟨E2, HEE.out, rfl⟩⟩
   subst hE2
   have htx := HOK2.out rfl
   have HTX := zq htx
   have hq := (numO_le ha htx).2.1
   have hqa := (numO_le ha htx).1
   clear HOK2 HBAD2 htx
   go_wp2_with (go_at_call 146; fail)
   rw [<- HW6.out]
   clear b0 f0 l0 b8 f8
   refine (vTxt_any w6 _ l (H.out.ext HX6.out) q hq (by omega)).mono ?_
   intro e w7 hp
   obtain ⟨s, q2, E3, rfl, hok3, hbad3, hx7⟩ := hp.form
   have HX7 := zq (HX6.out.trans hx7)
   have HO7 := zq (hx7.ownsRow HO6.out (fun _ _ e => e))
   have hg7 := hx7.at_ HG6.out id
   have HG7 := zq hg7
   have HOK3 := zq hok3
   have HBAD3 := zq hbad3
   have b1 := cZ hg7 7 _ rfl
   have f1 := freeAt hg7 7
   have l1 := lZ hg7
   clear hp hok3 hbad3 hx7 HO6 HG6 HX6
   obtain ⟨w8, hw8⟩ : ∃ u, u = w7.setCell ⟨wr.heap.size, 7, none⟩ (str s) := ⟨_, rfl⟩
   have hu8 : Upd (At wr.heap.size) w7 w8 := by rw [hw8]; exact Upd.own _ _ _ _
   have hg8 : w8.heap[wr.heap.size]? = some (.cells #[.int .u64 (n2 : Int), .int .u64 0, .int .u64 0, .int .u64 0, .int .u64 0, .int .u64 0, .int .u64 0, str s, .bool true, .bool false] 279 (0, 0)) := by rw [hw8]; exact setAt HG7.out
   have HX8 := zq (HX7.out.step hu8 (fun i hi e => by unfold At at e; omega))
   have HO8 := zq (hu8.ownsRow HO7.out (fun k hk e => by have := HLO.out k hk; have e : k = wr.heap.size := e; omega))
   have HG8 := zq hg8
   have HW8 := zq hw8
   clear hu8 hg8 hw8
   go_upto_region 11 with fail
   rw [<- HW8.out]
   have hc8 := HG8.out
   have c0 := cZ hc8 0 _ rfl
   have c1 := cZ hc8 1 _ rfl
   have c2 := cZ hc8 2 _ rfl
   have c3 := cZ hc8 3 _ rfl
   have c4 := cZ hc8 4 _ rfl
   have c5 := cZ hc8 5 _ rfl
   have c6 := cZ hc8 6 _ rfl
   have c7 := cZ hc8 7 _ rfl
   have c8 := cZ hc8 8 _ rfl
   have c9 := cZ hc8 9 _ rfl
   clear hc8
   have hst : E3 = 0 -> verO l a = some ((n2, s), q2) /\ a < q2 /\ q2 <= l.length /\ n2 < 18446744073709551616 := fun e => ⟨verO_of HTX.out (HOK3.out e), by have := (textO_le hq (HOK3.out e)).1; omega, (textO_le hq (HOK3.out e)).2.1, (numO_le ha HTX.out).2.2⟩
   have hbd : E3 ≠ 0 -> versO l = none := fun e => versO_bad HNUM.out (joinO_bad' HJ.out (by omega) (verO_no2 HTX.out (HBAD3.out e)))
   have HST := zq hst
   have HBD := zq hbd
   have hone : OneCells (#[.int .u64 (n2 : Int), .int .u64 0, .int .u64 0, .int .u64 0, .int .u64 0, .int .u64 0, .int .u64 0, str s, .bool true, .bool false] : Array Value).toList := by intro u hu; simp at hu; rcases hu with rfl | rfl | rfl | rfl | rfl | rfl | rfl | rfl | rfl | rfl <;> rfl
   have hbase : w.heap.size <= w8.heap.size := HX8.out.size
   have hdl : dn.length <= 1000000 := by omega
   clear hst hbd HOK3 HBAD3 HTX b1 f1 l1
   go_wp2_with (at_builtin; go_must (refine wpList_append_row rfl _ _ _ rfl Tryz.versT rfl (HO8.out.alloc _) rfl (row_new _ _ _ 1 _ (by decide) (by simp)) rfl hone ?c3 ?c4 ?c5 ?_))
   case c3 => unfold maxLen; omega
   case c4 => omega
   case c5 => first | omega | (simp; omega)
   intro v9 w9 hown9 hg9 _
   have hx9 : Ext w w9 := (HX8.out.alloc _).grown hg9 (fun j hj h => by have := (HOWN.out.lt j hj).1; omega)
   have HX9 := zq hx9
   have HO9 := zq hown9
   clear hx9 hown9 hg9
   go_wp2
   go_roundw
   case rel =>
    refine ⟨q2, k + 1, E3, dn ++ [(n2, s)], rfl, rfl, by go_num, by omega, ?_, HX9.out, zq (fun e => ?_), zq HBD.out, zq (fun e => ?_)⟩
    ·rw [flatV_snoc, List.length_append]; exact HO9.out
    ·obtain ⟨h1, h2, h3, h4⟩ := HST.out e
     exact ⟨HE1Z.out, h3, by omega, by simp; omega, by simp; omega, joinO_step' HJ.out hlt h1⟩
    ·intro u hu
     rcases List.mem_append.1 hu with hu | hu
     ·exact HLT.out u hu
     ·rw [List.mem_singleton.1 hu]; exact (HST.out e).2.2.2
   case measure => simp [intOf]; omega
  ·have hlti : ¬ (k : Int) < (M : Int) := by omega
   have hE := joinO_end HJ.out hlt
   have HE := zq hE
   have HIS := zq (versO_is HNUM.out hE)
   clear hE hlt
   by_cases hal : a = l.length
   ·have hb : ((a : Int) != (l.length : Int)) = false := by simp [hal]
    have HAL := zq hal
    clear hal
    go_wp2_with (go_at_call 161; fail)
    refine (verRight_any _ _ dn (Row.of_owns HOWN.out) (by omega) HLT.out).mono ?_
    rintro e w2 ⟨rfl, hx2⟩
    have HX2 := zq (HX.out.trans hx2)
    have HR2 := zq ((Row.of_owns HOWN.out).ext hx2)
    clear hx2
    cases hr : verRight dn with
    | true =>
     have HIS2 := zq (show versO l = some dn by rw [HIS.out, if_pos ⟨HAL.out, hr⟩])
     clear hr
     go_wp2
     go_ret2
     refine ⟨HX2.out, fun es e => ?_, fun e => (by rw [HIS2.out] at e; cases e)⟩
     rw [HIS2.out] at e
     cases e
     exact ⟨_, rfl, HR2.out⟩
    | false =>
     have HIS2 := zq (show versO l = none by rw [HIS.out, if_neg (fun h => by rw [hr] at h; cases h.2)])
     clear hr
     go_wp2
     go_ret2
     exact ⟨HX2.out, fun es e => (by rw [HIS2.out] at e; cases e), fun _ => ⟨2, by decide, rfl⟩⟩
   ·have hb : ((a : Int) != (l.length : Int)) = true := by simp; omega
    have HIS2 := zq (show versO l = none by rw [HIS.out, if_neg (fun h => hal h.1)])
    clear hal
    go_wp2
    go_ret2
    exact ⟨HX.out, fun es e => (by rw [HIS2.out] at e; cases e), fun _ => ⟨2, by decide, rfl⟩⟩
end Go.Proofs.YtnkmpoplibnflaaGreatDoor.Wk
