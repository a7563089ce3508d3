/-
  CONTRACT of the reference's Put of a state. Condition: its bytes are at most 60000.
-/
import Derived.Test.YtnkmpoplibnflaaGreatDoorGBG
set_option maxRecDepth 100000
set_option maxHeartbeats 16000000
namespace Go.Proofs.YtnkmpoplibnflaaGreatDoor.Wk
open Go Go.Proofs.YtnkmpoplibnflaaGreatDoor Go.RowKit
def contF (ch : Nat) (es : List Ent) (d : DocP) : List UInt8 := if ch = 0 then encCat es else encDoc d
def blankD : DocP := ⟨0, 0, 0, 0, 0, 0, [], []⟩
def swVal (gs n b1 o1 L c1 : Nat) (x y : Tr) : Nat -> Value
 | 0 => .pointer (some ⟨gs, 11, none⟩)
 | 1 => .slice (some ⟨b1, o1, none⟩) L c1
 | 2 => .int .i64 ((n + 1 : Nat) : Int)
 | 3 => .int .i64 (n : Int)
 | 4 => .pointer (some ⟨b1, o1 + n * 3, none⟩)
 | 5 => .agg #[.int .u64 (x.1 : Int), .int .u64 (x.2.1 : Int), .int .u64 (x.2.2 : Int)]
 | 6 => .pointer (some ⟨gs, 11, none⟩)
 | 7 => .slice (some ⟨b1, o1, none⟩) L c1
 | 8 => .int .i64 ((n + 1 : Nat) : Int)
 | 9 => .pointer (some ⟨b1, o1 + (n + 1) * 3, none⟩)
 | 10 => .agg #[.int .u64 (y.1 : Int), .int .u64 (y.2.1 : Int), .int .u64 (y.2.2 : Int)]
 | 11 => .bool (trLt x y)
 | 12 => .bool (!trLt x y)
 | _ => undef
def swDst (i : Nat) : Tmp := 19 + i
theorem swDst_ne {j t : Nat} (ht : t = 1 \/ t = 4) (e : swDst j = t) : False := by
 unfold swDst at e
 have e : (19 + j : Nat) = t := e
 rcases ht with rfl | rfl <;> (repeat' (split at e)) <;> omega
def swPhi (gs n b1 o1 L c1 : Nat) (x y : Tr) (ix : Nat) (v : Value) (_ : World) : Prop := v = swVal gs n b1 o1 L c1 x y ix
theorem swPhi.ext {gs n b1 o1 L c1 : Nat} {x y : Tr} {ix : Nat} {v : Value} {w w' : World} (h : swPhi gs n b1 o1 L c1 x y ix v w) (_ : Ext w w') : swPhi gs n b1 o1 L c1 x y ix v w' := by
 unfold swPhi at h ⊢
 exact h
abbrev NumsB (B x y z : Nat) (v : Value) (w : World) : Prop := Nums (From B) w v [x, y, z]
abbrev BytsB (B x y z : Nat) (v : Value) (w : World) : Prop := Bytes (From B) w v (vputs [x, y, z])
abbrev OutB (B : Nat) (PL : List UInt8) (x y z : Nat) (v : Value) (w : World) : Prop := w.ownsRow B 5 1 v (PL.length + (vputs [x, y, z]).length) (PL.map YtnkmpoplibnflaaGreatDoor.u8 ++ (vputs [x, y, z]).map YtnkmpoplibnflaaGreatDoor.u8)
theorem NumsB.ext {B x y z : Nat} {v : Value} {w w' : World} (h : NumsB B x y z v w) (hu : Ext w w') : NumsB B x y z v w' := Row.ext h hu
theorem BytsB.ext {B x y z : Nat} {v : Value} {w w' : World} (h : BytsB B x y z v w) (hu : Ext w w') : BytsB B x y z v w' := Row.ext h hu
theorem OutB.ext {B : Nat} {PL : List UInt8} {x y z : Nat} {v : Value} {w w' : World} (h : OutB B PL x y z v w) (hu : Ext w w') : OutB B PL x y z v w' := hu.ownsRow h (fun _ _ e => e)
def wsVal (gs n b1 o1 L c1 pn rc B0 Bs x y z : Nat) (ra : Option Addr) (PL : List UInt8) : Nat -> Value
 | 0 => .slice ra pn rc
 | 1 => .pointer (some ⟨gs, 11, none⟩)
 | 2 => .slice (some ⟨b1, o1, none⟩) L c1
 | 3 => .int .i64 (n : Int)
 | 4 => .pointer (some ⟨b1, o1 + n * 3, none⟩)
 | 5 => .pointer (some ⟨b1, o1 + n * 3, none⟩)
 | 6 => .int .u64 (x : Int)
 | 7 => .pointer (some ⟨gs, 11, none⟩)
 | 8 => .slice (some ⟨b1, o1, none⟩) L c1
 | 9 => .int .i64 (n : Int)
 | 10 => .pointer (some ⟨b1, o1 + n * 3, none⟩)
 | 11 => .pointer (some ⟨b1, o1 + n * 3 + 1, none⟩)
 | 12 => .int .u64 (y : Int)
 | 13 => .pointer (some ⟨gs, 11, none⟩)
 | 14 => .slice (some ⟨b1, o1, none⟩) L c1
 | 15 => .int .i64 (n : Int)
 | 16 => .pointer (some ⟨b1, o1 + n * 3, none⟩)
 | 17 => .pointer (some ⟨b1, o1 + n * 3 + 2, none⟩)
 | 18 => .int .u64 (z : Int)
 | _ => undef
def wsDst (i : Nat) : Tmp := if i = 22 then 5 else 49 + i
theorem wsDst_ne {j t : Nat} (ht : t = 1 \/ t = 6) (e : wsDst j = t) : False := by
 unfold wsDst at e
 have e : (if j = 22 then 5 else 49 + j : Nat) = t := e
 rcases ht with rfl | rfl <;> (repeat' (split at e)) <;> omega
def wsPhi (gs n b1 o1 L c1 pn rc B0 Bs x y z : Nat) (ra : Option Addr) (PL : List UInt8) (ix : Nat) (v : Value) (w : World) : Prop := if ix = 19 then NumsB B0 x y z v w else if ix = 20 then BytsB B0 x y z v w else if ix = 21 then OutB Bs PL x y z v w else if ix = 22 then OutB Bs PL x y z v w else v = wsVal gs n b1 o1 L c1 pn rc B0 Bs x y z ra PL ix
theorem wsPhi.ext {gs n b1 o1 L c1 pn rc B0 Bs x y z : Nat} {ra : Option Addr} {PL : List UInt8} {ix : Nat} {v : Value} {w w' : World} (h : wsPhi gs n b1 o1 L c1 pn rc B0 Bs x y z ra PL ix v w) (hu : Ext w w') : wsPhi gs n b1 o1 L c1 pn rc B0 Bs x y z ra PL ix v w' := by
 unfold wsPhi at h ⊢
 by_cases c : ix = 19
 ·rw [if_pos c] at h ⊢; exact h.ext hu
 ·rw [if_neg c] at h ⊢
  by_cases c : ix = 20
  ·rw [if_pos c] at h ⊢; exact h.ext hu
  ·rw [if_neg c] at h ⊢
   by_cases c : ix = 21
   ·rw [if_pos c] at h ⊢; exact h.ext hu
   ·rw [if_neg c] at h ⊢
    by_cases c : ix = 22
    ·rw [if_pos c] at h ⊢; exact h.ext hu
    ·rw [if_neg c] at h ⊢
     exact h
theorem wsPhi.pass {gs n b1 o1 L c1 pn rc B0 Bs x y z : Nat} {ra : Option Addr} {PL : List UInt8} {i j : Nat} {v : Value} {w w' : World} (hi : i < 23) (hj : j < 23) (hne : i ≠ j) (hlast : i = 21 -> j = 22 -> False) (hS : ∀ k, (Value.slice ra PL.length rc).ownBlock = some k -> k < B0)
  (h : wsPhi gs n b1 o1 L c1 pn rc B0 Bs x y z ra PL j v w) (hu : Upd (fun k => (Value.slice ra PL.length rc).ownBlock = some k) w w' /\ (i ≠ 21 -> Ext w w')) : wsPhi gs n b1 o1 L c1 pn rc B0 Bs x y z ra PL j v w' := by
 by_cases e : i = 21
 ·unfold wsPhi at h ⊢
  by_cases c : j = 19
  ·rw [if_pos c] at h ⊢; exact Row.upd h hu.1 (fun k hk hs => by have hk : B0 <= k := hk; have := hS k hs; omega)
  ·rw [if_neg c] at h ⊢
   by_cases c : j = 20
   ·rw [if_pos c] at h ⊢; exact Row.upd h hu.1 (fun k hk hs => by have hk : B0 <= k := hk; have := hS k hs; omega)
   ·rw [if_neg c] at h ⊢
    rw [if_neg (by omega), if_neg (fun c => hlast e c)] at h ⊢
    exact h
 ·exact h.ext (hu.2 e)
theorem rstPut_any {S : Nat -> Prop} (w : World) (ch tl : Nat) (d : DocP) (es : List Ent) (l : List Tr) (pa va ca la : Option Addr) (pc vc cn lc : Nat) (hch : ch < 18446744073709551616) (htl : tl < 18446744073709551616) (hD : DocB d) (hE : catRight es = true) (hE64 : ∀ e ∈ es, e.2 < 18446744073709551616)
  (hl64 : ∀ e ∈ l, e.1 < 18446744073709551616 /\ e.2.1 < 18446744073709551616 /\ e.2.2 < 18446744073709551616) (h0 : ch = 0 -> d = blankD /\ pa = none /\ va = none /\ pc = 0 /\ vc = 0) (h1 : ch ≠ 0 -> es = [])
  (hp : Row S w (.slice pa d.pins.length pc) d.pins.length (flatT d.pins)) (hv : Vers S w (.slice va d.vers.length vc) d.vers) (hc : Ents S w (.slice ca es.length cn) es) (hr : Row S w (.slice la l.length lc) l.length (flatT l))
  (hb1 : (encCat es).length <= 60000) (hb2 : (encDoc d).length <= 60000) (hb3 : ((l.map encTr).flatten).length <= 60000) (hb4 : (vputs [ch, tl, l.length] ++ ((l.map encTr).flatten ++ contF ch es d)).length <= 60000) :
  Calls Tryz.prog 60 #[.agg #[.int .u64 (ch : Int), .int .u64 (tl : Int), .int .u64 (d.epoch : Int), .int .u64 (d.proc : Int), .int .u64 (d.inc : Int), .int .u64 (d.until_ : Int), .bool ((d.held : Int) == 1), .slice pa d.pins.length pc, .slice va d.vers.length vc, .bool ((d.sealed_ : Int) == 1), .slice ca es.length cn, .slice la l.length lc]] w fun e w' => Ext w w' /\ ((riseL l = true /\ ∃ v', e = .returned (.tuple #[v', .int .i64 0]) /\ w'.ownsRow w.heap.size 5 1 v' (frameF 12 (vputs [ch, tl, l.length] ++ ((l.map encTr).flatten ++ contF ch es d))).length ((frameF 12 (vputs [ch, tl, l.length] ++ ((l.map encTr).flatten ++ contF ch es d))).map u8)) ∨
   (riseL l = false /\ e = .returned (.tuple #[.slice none 0 0, .int .i64 2]))) := by
 have HP := zq hp
 have HV := zq hv
 have HC := zq hc
 have HL := zq hr
 have HDB := zq hD
 have HL64 := zq hl64
 have HZ := zq (And.intro h0 h1)
 have hcnt : l.length <= 60000 := by have h1 := flat_count encTr (fun e => by have := vput_len1 e.1; simp [encTr]; omega) l; omega
 obtain ⟨gs, hgs⟩ : ∃ g, g = w.heap.size := ⟨_, rfl⟩
 obtain ⟨w1, hw1⟩ : ∃ u, u = w.alloc (.cells #[.int .u64 (ch : Int), .int .u64 (tl : Int), .int .u64 (d.epoch : Int), .int .u64 (d.proc : Int), .int .u64 (d.inc : Int), .int .u64 (d.until_ : Int), .bool ((d.held : Int) == 1), .slice pa d.pins.length pc, .slice va d.vers.length vc, .bool ((d.sealed_ : Int) == 1), .slice ca es.length cn, .slice la l.length lc] 96) := ⟨_, rfl⟩
 have hx1 : Ext w w1 := by rw [hw1]; exact uZ.alloc _
 have hg1 : w1.heap[gs]? = some (.cells #[.int .u64 (ch : Int), .int .u64 (tl : Int), .int .u64 (d.epoch : Int), .int .u64 (d.proc : Int), .int .u64 (d.inc : Int), .int .u64 (d.until_ : Int), .bool ((d.held : Int) == 1), .slice pa d.pins.length pc, .slice va d.vers.length vc, .bool ((d.sealed_ : Int) == 1), .slice ca es.length cn, .slice la l.length lc] 96 (0, 0)) := by rw [hw1, hgs]; exact newAt _ _
 have HX1 := zq hx1
 have HG1 := zq hg1
 have HW1 := zq hw1
 have HGG := zq hgs
 clear hx1 hg1 hw1 hgs hp hv hc hr hD hl64 h0 h1
 go_enter Tryz.func60, Tryz.ntmps60
 go_upto_region 1 with fail
 rw [show w.alloc (.cells #[.int .u64 (ch : Int), .int .u64 (tl : Int), .int .u64 (d.epoch : Int), .int .u64 (d.proc : Int), .int .u64 (d.inc : Int), .int .u64 (d.until_ : Int), .bool ((d.held : Int) == 1), .slice pa d.pins.length pc, .slice va d.vers.length vc, .bool ((d.sealed_ : Int) == 1), .slice ca es.length cn, .slice la l.length lc] 96) = w1 from HW1.out.symm, show w.heap.size = gs from HGG.out.symm]
 clear HW1
 go_wp2
 go_loopw [4] (fun t wr => ∃ n : Nat, n <= l.length + 1 /\ t = .int .i64 ((n + 1 : Nat) : Int) /\ Hid (∀ m (h : m + 1 < l.length), m < n -> trLt l[m] l[m + 1] = true) /\ Hid (Ext w1 wr)) (fun t _ => l.length + 2 - (intOf t).toNat)
 case atStart => exact ⟨0, Nat.zero_le _, rfl, zq (fun m _ h => (by omega)), zq uZ⟩
 case round =>
  obtain ⟨n, hn', rfl, HUP, HX⟩ := hrel
  have HGS := zq (HX.out.at_ HG1.out id)
  have g11 := cZ HGS.out 11 _ rfl
  have gl := lZ HGS.out
  by_cases hlt : n + 1 < l.length
  ·obtain ⟨b1, o1, c1, e1, -, -, -, hq1⟩ := (HL.out.ext (HX1.out.trans HX.out)).addr (by omega)
   cases e1
   obtain ⟨x, hx⟩ : ∃ x, x = (l[n]'(Nat.lt_of_succ_lt hlt)) := ⟨_, rfl⟩
   obtain ⟨y, hy⟩ : ∃ x, x = l[n + 1] := ⟨_, rfl⟩
   have HCX := zq (show ∀ j u, [Value.int .u64 (x.1 : Int), .int .u64 (x.2.1 : Int), .int .u64 (x.2.2 : Int)][j]? = some u -> wr.cell? ⟨b1, o1 + n * 3 + j, none⟩ = some u from who_cells hq1 (Nat.lt_of_succ_lt hlt) hx)
   have HCY := zq (show ∀ j u, [Value.int .u64 (y.1 : Int), .int .u64 (y.2.1 : Int), .int .u64 (y.2.2 : Int)][j]? = some u -> wr.cell? ⟨b1, o1 + (n + 1) * 3 + j, none⟩ = some u from who_cells hq1 hlt hy)
   have HTT := zq (show trLt (l[n]'(Nat.lt_of_succ_lt hlt)) l[n + 1] = trLt x y by rw [hx, hy])
   have HBAD := zq (show trLt x y = false -> riseL l = false from fun h => by rw [riseL_by]; exact rise_bad hlt (by subst hx hy; exact h))
   have HLT := zq hlt
   clear hq1 hx hy
   go_upto_region 4 with fail
   clear g11 gl
   refine wp_region_invH Nothing (fun _ => Ext) 1000 swDst (swPhi gs n b1 o1 l.length lc x y) 129 (by kernel_rfl) (by decide) (by decide) rfl (fun i hi => .inl ((by decide : ∀ i, i < 13 -> swDst i < 129) i hi)) (fun i w w' h => ⟨h, fun _ => h⟩) (fun i j v w w' _ _ _ _ h hu => h.ext hu) ?_ ?_
   ·intro i o b' w1' ho hx1' hd hk hE hSZ
    have hi : i < 13 := (Array.getElem?_eq_some_iff.1 ho).1
    have his : i = 0 \/ i = 1 \/ i = 2 \/ i = 3 \/ i = 4 \/ i = 5 \/ i = 6 \/ i = 7 \/ i = 8 \/ i = 9 \/ i = 10 \/ i = 11 \/ i = 12 := by omega
    clear hE hSZ
    have HW1 := zq hx1'
    clear hx1'
    rcases his with rfl | rfl | rfl | rfl | rfl | rfl | rfl | rfl | rfl | rfl | rfl | rfl | rfl
    all_goals (simp at ho; subst ho)
    ·
     refine .inl ⟨rfl, ?_⟩
     have o1 : b'.tmps[1]?.getD undef = .pointer (some ⟨gs, 0, none⟩) := tAt (hk 1 (fun j oj _ e => (swDst_ne (by decide) e).elim))
     have q := lZ (HW1.out.at_ HGS.out id)
     clear hd hk
     go_step
     exact ⟨_, rfl, rfl, uZ⟩
    ·
     refine .inl ⟨rfl, ?_⟩
     have e0 : b'.tmps[19]?.getD undef = .pointer (some ⟨gs, 11, none⟩) := tAt (hd ⟨0, .data⟩ (by simp) rfl)
     have q := cZ (HW1.out.at_ HGS.out id) 11 _ rfl
     clear hd hk
     go_step
     exact ⟨_, rfl, rfl, uZ⟩
    ·
     refine .inl ⟨rfl, ?_⟩
     have o4 : b'.tmps[4]?.getD undef = .int .i64 ((n + 1 : Nat) : Int) := tAt (hk 4 (fun j oj _ e => (swDst_ne (by decide) e).elim))
     clear hd hk
     go_step
     exact ⟨_, rfl, rfl, uZ⟩
    ·
     refine .inl ⟨rfl, ?_⟩
     have e2 : b'.tmps[21]?.getD undef = .int .i64 ((n + 1 : Nat) : Int) := tAt (hd ⟨2, .data⟩ (by simp) rfl)
     clear hd hk
     go_step
     exact ⟨_, rfl, (by show Value.int .i64 _ = .int .i64 (n : Int); first | rfl | (congr 1; omega) | (congr 1)), uZ⟩
    ·
     refine .inl ⟨rfl, ?_⟩
     have e1 : b'.tmps[20]?.getD undef = .slice (some ⟨b1, o1, none⟩) l.length lc := tAt (hd ⟨1, .data⟩ (by simp) rfl)
     have e3 : b'.tmps[22]?.getD undef = .int .i64 (n : Int) := tAt (hd ⟨3, .data⟩ (by simp) rfl)
     have q : n < l.length := by have := HLT.out; omega
     clear hd hk
     go_step
     exact ⟨_, rfl, rfl, uZ⟩
    ·
     refine .inl ⟨rfl, ?_⟩
     have o23 : b'.eval (.tmp 23) = .pointer (some ⟨b1, o1 + n * 3, none⟩) := by
      have := (show b'.tmps.getD 23 undef = .pointer (some ⟨b1, o1 + n * 3, none⟩) from hd ⟨4, .data⟩ (by simp) rfl)
      simpa [Act.eval] using this
     exact wp_load_mid (w := w1') 116 (.tmp 23) rfl b1 (o1 + n * 3) o23 [.int .u64 (x.1 : Int), .int .u64 (x.2.1 : Int), .int .u64 (x.2.2 : Int)] _ (fun j u hj => HW1.out.cell (HCX.out j u hj) id) Tryz.underlying116 rfl (by kernel_rfl) ⟨_, rfl, rfl, uZ⟩
    ·
     refine .inl ⟨rfl, ?_⟩
     have o1 : b'.tmps[1]?.getD undef = .pointer (some ⟨gs, 0, none⟩) := tAt (hk 1 (fun j oj _ e => (swDst_ne (by decide) e).elim))
     have q := lZ (HW1.out.at_ HGS.out id)
     clear hd hk
     go_step
     exact ⟨_, rfl, rfl, uZ⟩
    ·
     refine .inl ⟨rfl, ?_⟩
     have e6 : b'.tmps[25]?.getD undef = .pointer (some ⟨gs, 11, none⟩) := tAt (hd ⟨6, .data⟩ (by simp) rfl)
     have q := cZ (HW1.out.at_ HGS.out id) 11 _ rfl
     clear hd hk
     go_step
     exact ⟨_, rfl, rfl, uZ⟩
    ·
     refine .inl ⟨rfl, ?_⟩
     have o4 : b'.tmps[4]?.getD undef = .int .i64 ((n + 1 : Nat) : Int) := tAt (hk 4 (fun j oj _ e => (swDst_ne (by decide) e).elim))
     clear hd hk
     go_step
     exact ⟨_, rfl, rfl, uZ⟩
    ·
     refine .inl ⟨rfl, ?_⟩
     have e7 : b'.tmps[26]?.getD undef = .slice (some ⟨b1, o1, none⟩) l.length lc := tAt (hd ⟨7, .data⟩ (by simp) rfl)
     have e8 : b'.tmps[27]?.getD undef = .int .i64 ((n + 1 : Nat) : Int) := tAt (hd ⟨8, .data⟩ (by simp) rfl)
     have q : n + 1 < l.length := HLT.out
     clear hd hk
     go_step
     exact ⟨_, rfl, rfl, uZ⟩
    ·
     refine .inl ⟨rfl, ?_⟩
     have o28 : b'.eval (.tmp 28) = .pointer (some ⟨b1, o1 + (n + 1) * 3, none⟩) := by
      have := (show b'.tmps.getD 28 undef = .pointer (some ⟨b1, o1 + (n + 1) * 3, none⟩) from hd ⟨9, .data⟩ (by simp) rfl)
      simpa [Act.eval] using this
     exact wp_load_mid (w := w1') 116 (.tmp 28) rfl b1 (o1 + (n + 1) * 3) o28 [.int .u64 (y.1 : Int), .int .u64 (y.2.1 : Int), .int .u64 (y.2.2 : Int)] _ (fun j u hj => HW1.out.cell (HCY.out j u hj) id) Tryz.underlying116 rfl (by kernel_rfl) ⟨_, rfl, rfl, uZ⟩
    ·
     refine .inl ⟨rfl, ?_⟩
     have e5 : b'.tmps[24]?.getD undef = .agg #[.int .u64 (x.1 : Int), .int .u64 (x.2.1 : Int), .int .u64 (x.2.2 : Int)] := tAt (hd ⟨5, .data⟩ (by simp) rfl)
     have e10 : b'.tmps[29]?.getD undef = .agg #[.int .u64 (y.1 : Int), .int .u64 (y.2.1 : Int), .int .u64 (y.2.2 : Int)] := tAt (hd ⟨10, .data⟩ (by simp) rfl)
     clear hd hk
     go_step
     refine (rahead_any w1' x y).mono ?_
     rintro e w2 ⟨rfl, hu⟩
     exact ⟨_, rfl, rfl, hu⟩
    ·
     refine .inl ⟨rfl, ?_⟩
     have e11 : b'.tmps[30]?.getD undef = .bool (trLt x y) := tAt (hd ⟨11, .data⟩ (by simp) rfl)
     clear hd hk
     go_step
     exact ⟨_, rfl, rfl, uZ⟩
   ·intro v w1' hx1' hp
    cases hxy : trLt x y with
    | true =>
     have hfin : v 12 = .bool false := by rw [show v 12 = .bool (!trLt x y) from hp 12 (by decide), hxy]; rfl
     have HT := zq hxy
     have HX8 := zq (HX.out.trans hx1')
     clear hp hx1' hxy
     simp only [List.size_toArray, List.length_cons, List.length_nil, Nat.reduceAdd, fillAll, swDst]
     go_simp
     go_wp2
     go_roundw
     case rel =>
      refine ⟨n + 1, by have := HLT.out; omega, by go_num, zq (fun k h hk => ?_), HX8⟩
      rcases Nat.lt_or_ge k n with g | g
      ·exact HUP.out k h g
      ·have e2 : k = n := by omega
       subst e2
       exact HTT.out.trans HT.out
     case measure => have := HLT.out; simp [intOf]; omega
    | false =>
     have hfin : v 12 = .bool true := by rw [show v 12 = .bool (!trLt x y) from hp 12 (by decide), hxy]; rfl
     have HB := zq (HBAD.out hxy)
     have HX8 := zq (HX.out.trans hx1')
     clear hp hx1' hxy
     simp only [List.size_toArray, List.length_cons, List.length_nil, Nat.reduceAdd, fillAll, swDst]
     go_simp
     go_wp2
     go_ret2
     exact ⟨HX1.out.trans HX8.out, .inr ⟨HB.out, rfl⟩⟩
  ·have HB := zq (show riseL l = true by rw [riseL_by]; exact rise_ok (fun m h => HUP.out m h (by omega)))
   have hlti : ¬ ((n : Int) + 1 < (l.length : Int)) := by omega
   clear hlt
   go_upto_region 6 with fail
   obtain ⟨w3, hw3⟩ : ∃ u, u = (wr.alloc (.cells #[.int .u64 (ch : Int), .int .u64 (tl : Int), .int .u64 (l.length : Int)] 22)) := ⟨_, rfl⟩
   have hx3 : Ext wr w3 := by rw [hw3]; exact uZ.alloc _
   have hrow3 : Nums (At wr.heap.size) w3 (.slice (some ⟨wr.heap.size, 0, none⟩) 3 3) [ch, tl, l.length] := by
    rw [hw3]; exact row_new wr #[.int .u64 (ch : Int), .int .u64 (tl : Int), .int .u64 (l.length : Int)] 22 3 wr.heap.size (by decide) rfl
   have hnums : ∀ m ∈ [ch, tl, l.length], m < 18446744073709551616 := by
    intro m hm
    simp at hm
    rcases hm with rfl | rfl | rfl
    ·exact hch
    ·exact htl
    ·omega
   have hvs : (vputs [ch, tl, l.length]).length <= 30 := vputs_len hnums
   have HX3 := zq ((HX1.out.trans HX.out).trans hx3)
   have HG3 := zq (hx3.at_ HGS.out id)
   have HW3 := zq hw3
   have g0 := cZ HGS.out 0 _ rfl
   have g1 := cZ HGS.out 1 _ rfl
   clear hx3 hw3
   go_wp2_with (go_at_call 73; fail)
   rw [show wr.alloc (.cells #[.int .u64 (ch : Int), .int .u64 (tl : Int), .int .u64 (l.length : Int)] 22) = w3 from HW3.out.symm]
   refine (rAll_any w3 _ [ch, tl, l.length] hrow3 (by simp) hnums).mono ?_
   rintro e w5 ⟨v5, rfl, hown5, hx5⟩
   have HX5 := zq (HX3.out.trans hx5)
   have HG5 := zq (hx5.at_ HG3.out id)
   have HO5 := zq (show w5.ownsRow w1.heap.size 5 1 v5 (vputs [ch, tl, l.length] ++ ((l.take 0).map encTr).flatten).length ((vputs [ch, tl, l.length] ++ ((l.take 0).map encTr).flatten).map YtnkmpoplibnflaaGreatDoor.u8) by simpa using hown5.mono_base (HX.out.trans ((by rw [HW3.out]; exact uZ.alloc _) : Ext wr w3)).size)
   have HX15 := zq ((HX.out.trans ((by rw [HW3.out]; exact uZ.alloc _) : Ext wr w3)).trans hx5)
   clear hown5 hx5 hrow3 g0 g1 g11 gl
   go_wp2
   go_loopw [5, 6] (fun out t wr => ∃ n : Nat, n <= l.length /\ t = .int .i64 n /\ Hid (wr.ownsRow w1.heap.size 5 1 out (vputs [ch, tl, l.length] ++ ((l.take n).map encTr).flatten).length ((vputs [ch, tl, l.length] ++ ((l.take n).map encTr).flatten).map YtnkmpoplibnflaaGreatDoor.u8)) /\ Hid (Ext w1 wr)) (fun _ t _ => l.length - (intOf t).toNat)
   case atStart => exact ⟨0, Nat.zero_le _, rfl, HO5, HX15⟩
   case round =>
    obtain ⟨n, hn', rfl, HOWN, HX⟩ := hrel
    obtain ⟨PL, hPL⟩ : ∃ p, p = vputs [ch, tl, l.length] ++ ((l.take n).map encTr).flatten := ⟨_, rfl⟩
    have HPL := zq hPL
    have hplen : PL.length <= 60030 := by rw [hPL, List.length_append]; have h1 := flat_take_le encTr l n; omega
    rw [<- hPL] at HOWN
    clear hPL
    obtain ⟨ra, rc, rfl⟩ := ownsFormN HOWN.out
    have hxs := HX.out.size
    have HGS := zq (HX.out.at_ HG1.out id)
    have g11 := cZ HGS.out 11 (.slice la l.length lc) rfl
    have gl := lZ HGS.out
    by_cases hlt : n < l.length
    ·obtain ⟨b1, o1, c1, e1, -, -, -, hq1⟩ := (HL.out.ext (HX1.out.trans HX.out)).addr (by omega)
     cases e1
     have HLO := zq (show ∀ j, (Value.slice ra PL.length rc).ownBlock = some j -> w1.heap.size <= j from fun j hj => (HOWN.out.lt j hj).1)
     obtain ⟨x, hx⟩ : ∃ x, x = l[n].1 := ⟨_, rfl⟩
     obtain ⟨y, hy⟩ : ∃ x, x = l[n].2.1 := ⟨_, rfl⟩
     obtain ⟨z, hz⟩ : ∃ x, x = l[n].2.2 := ⟨_, rfl⟩
     have hxyz := HL64.out l[n] (List.getElem_mem hlt)
     have hnm : ∀ m ∈ [x, y, z], m < 18446744073709551616 := by
      intro m hm
      simp at hm
      rcases hm with rfl | rfl | rfl
      ·rw [hx]; exact hxyz.1
      ·rw [hy]; exact hxyz.2.1
      ·rw [hz]; exact hxyz.2.2
     have d0 : wr.cell? ⟨b1, o1 + n * 3, none⟩ = some (.int .u64 (x : Int)) := by rw [hx]; exact hq1 _ _ (flatT_at n hlt).1
     have d1 : wr.cell? ⟨b1, o1 + n * 3 + 1, none⟩ = some (.int .u64 (y : Int)) := by rw [hy]; exact hq1 _ _ (flatT_at n hlt).2.1
     have d2 : wr.cell? ⟨b1, o1 + n * 3 + 2, none⟩ = some (.int .u64 (z : Int)) := by rw [hz]; exact hq1 _ _ (flatT_at n hlt).2.2
     have hen : encTr l[n] = vputs [x, y, z] := by rw [<- encTr_nums, hx, hy, hz]
     have hvs2 : (vputs [x, y, z]).length <= 30 := vputs_len hnm
     have hv1 : 0 < (vputs [x, y, z]).length := by have := vput_len1 x; simp [vputs]; omega
     have HEN := zq hen
     have HTK := zq (show l.take (n + 1) = l.take n ++ [l[n]] from List.take_succ_eq_append_getElem hlt)
     have hlen1 : ((vputs [x, y, z]).map YtnkmpoplibnflaaGreatDoor.u8).length = (vputs [x, y, z]).length * 1 := by simp
     have q4 : PL.length + (vputs [x, y, z]).length <= maxLen := by unfold maxLen; omega
     have q5 : (PL.length + (vputs [x, y, z]).length) * 1 <= 140737488355328 := by omega
     clear hq1 hx hy hz hen hxyz
     have HSB := zq (show ∀ k, (Value.slice ra PL.length rc).ownBlock = some k -> k < wr.heap.size from fun k hk => (HOWN.out.lt k hk).2)
     have HBS := zq (show w1.heap.size <= wr.heap.size from hxs)
     have HNM := zq hnm
     have HQ := zq (And.intro hv1 (And.intro q4 q5))
     have HD := zq (And.intro d0 (And.intro d1 d2))
     clear hlen1 hnm hvs2
     go_upto_region 10 with fail
     clear d0 d1 d2 g11 gl q4 q5 hv1
     refine wp_region_invH (fun k => (Value.slice ra PL.length rc).ownBlock = some k) (fun i w w' => Upd (fun k => (Value.slice ra PL.length rc).ownBlock = some k) w w' /\ (i ≠ 21 -> Ext w w')) 21 wsDst (wsPhi gs n b1 o1 l.length lc PL.length rc wr.heap.size w1.heap.size x y z ra PL) 129 (by kernel_rfl) (by decide) (by decide) rfl (fun i hi => .inl ((by decide : ∀ i, i < 23 -> wsDst i < 129) i hi)) (fun i w w' h => h) (fun i j v w w' hi hj hne ha h hu => wsPhi.pass hi hj hne (fun e1 e2 => by subst e1; subst e2; exact absurd ha (by decide)) HSB.out h hu) ?_ ?_
     ·intro i o b' w1' ho hx1' hd hk hE hSZ
      have hi : i < 23 := (Array.getElem?_eq_some_iff.1 ho).1
      have his : i = 0 \/ i = 1 \/ i = 2 \/ i = 3 \/ i = 4 \/ i = 5 \/ i = 6 \/ i = 7 \/ i = 8 \/ i = 9 \/ i = 10 \/ i = 11 \/ i = 12 \/ i = 13 \/ i = 14 \/ i = 15 \/ i = 16 \/ i = 17 \/ i = 18 \/ i = 19 \/ i = 20 \/ i = 21 \/ i = 22 := by omega
      have HEE := zq hE
      have HSZ := zq hSZ
      clear hE hSZ
      have HW1 := zq hx1'
      clear hx1'
      rcases his with rfl | rfl | rfl | rfl | rfl | rfl | rfl | rfl | rfl | rfl | rfl | rfl | rfl | rfl | rfl | rfl | rfl | rfl | rfl | rfl | rfl | rfl | rfl
      all_goals (simp at ho; subst ho)
      ·
       refine .inl ⟨rfl, ?_⟩
       have o5 : b'.tmps[5]?.getD undef = .slice ra PL.length rc := by
        have := hk 5 (fun j oj ho2 e => by
         have ej : j = 22 := by unfold wsDst at e; have e : ((if j = 22 then 5 else 49 + j : Nat)) = 5 := e; split at e <;> omega
         subst ej
         simp at ho2
         subst ho2
         exact .inr ⟨⟨0, .phase⟩, by simp, rfl, rfl⟩)
        simpa using this
       clear hd hk
       go_step
       exact ⟨_, rfl, rfl, uZ, (by first | exact uZ | exact fun _ => uZ)⟩
      ·
       refine .inl ⟨rfl, ?_⟩
       have o1 : b'.tmps[1]?.getD undef = .pointer (some ⟨gs, 0, none⟩) := tAt (hk 1 (fun j oj _ e => (wsDst_ne (by decide) e).elim))
       have HE1 := HEE.out (.inr (by kernel_rfl))
       have qg := lZ (HE1.at_ HGS.out id)
       clear HE1
       clear hd hk
       go_step
       exact ⟨_, rfl, rfl, uZ, (by first | exact uZ | exact fun _ => uZ)⟩
      ·
       refine .inl ⟨rfl, ?_⟩
       have e1 : b'.tmps[50]?.getD undef = .pointer (some ⟨gs, 11, none⟩) := tAt (hd ⟨1, .data⟩ (by simp) rfl)
       have HE1 := HEE.out (.inr (by kernel_rfl))
       have qg := cZ (HE1.at_ HGS.out id) 11 (.slice (some ⟨b1, o1, none⟩) l.length lc) rfl
       clear HE1
       clear hd hk
       go_step
       exact ⟨_, rfl, rfl, uZ, (by first | exact uZ | exact fun _ => uZ)⟩
      ·
       refine .inl ⟨rfl, ?_⟩
       have o6 : b'.tmps[6]?.getD undef = .int .i64 (n : Int) := tAt (hk 6 (fun j oj _ e => (wsDst_ne (by decide) e).elim))
       clear hd hk
       go_step
       exact ⟨_, rfl, (by show Value.int .i64 _ = .int .i64 (n : Int); first | rfl | (congr 1; omega) | (congr 1)), uZ, (by first | exact uZ | exact fun _ => uZ)⟩
      ·
       refine .inl ⟨rfl, ?_⟩
       have e2 : b'.tmps[51]?.getD undef = .slice (some ⟨b1, o1, none⟩) l.length lc := tAt (hd ⟨2, .data⟩ (by simp) rfl)
       have e3 : b'.tmps[52]?.getD undef = .int .i64 (n : Int) := tAt (hd ⟨3, .data⟩ (by simp) rfl)
       clear hd hk
       go_step
       exact ⟨_, rfl, rfl, uZ, (by first | exact uZ | exact fun _ => uZ)⟩
      ·
       refine .inl ⟨rfl, ?_⟩
       have e4 : b'.tmps[53]?.getD undef = .pointer (some ⟨b1, o1 + n * 3, none⟩) := tAt (hd ⟨4, .data⟩ (by simp) rfl)
       clear hd hk
       go_step
       exact ⟨_, rfl, rfl, uZ, (by first | exact uZ | exact fun _ => uZ)⟩
      ·
       refine .inl ⟨rfl, ?_⟩
       have e5 : b'.tmps[54]?.getD undef = .pointer (some ⟨b1, o1 + n * 3, none⟩) := tAt (hd ⟨5, .data⟩ (by simp) rfl)
       have HE1 := HEE.out (.inr (by kernel_rfl))
       have qd := HE1.cell HD.out.1 id
       clear HE1
       clear hd hk
       go_step
       exact ⟨_, rfl, rfl, uZ, (by first | exact uZ | exact fun _ => uZ)⟩
      ·
       refine .inl ⟨rfl, ?_⟩
       have o1 : b'.tmps[1]?.getD undef = .pointer (some ⟨gs, 0, none⟩) := tAt (hk 1 (fun j oj _ e => (wsDst_ne (by decide) e).elim))
       have HE1 := HEE.out (.inr (by kernel_rfl))
       have qg := lZ (HE1.at_ HGS.out id)
       clear HE1
       clear hd hk
       go_step
       exact ⟨_, rfl, rfl, uZ, (by first | exact uZ | exact fun _ => uZ)⟩
      ·
       refine .inl ⟨rfl, ?_⟩
       have e7 : b'.tmps[56]?.getD undef = .pointer (some ⟨gs, 11, none⟩) := tAt (hd ⟨7, .data⟩ (by simp) rfl)
       have HE1 := HEE.out (.inr (by kernel_rfl))
       have qg := cZ (HE1.at_ HGS.out id) 11 (.slice (some ⟨b1, o1, none⟩) l.length lc) rfl
       clear HE1
       clear hd hk
       go_step
       exact ⟨_, rfl, rfl, uZ, (by first | exact uZ | exact fun _ => uZ)⟩
      ·
       refine .inl ⟨rfl, ?_⟩
       have o6 : b'.tmps[6]?.getD undef = .int .i64 (n : Int) := tAt (hk 6 (fun j oj _ e => (wsDst_ne (by decide) e).elim))
       clear hd hk
       go_step
       exact ⟨_, rfl, (by show Value.int .i64 _ = .int .i64 (n : Int); first | rfl | (congr 1; omega) | (congr 1)), uZ, (by first | exact uZ | exact fun _ => uZ)⟩
      ·
       refine .inl ⟨rfl, ?_⟩
       have e8 : b'.tmps[57]?.getD undef = .slice (some ⟨b1, o1, none⟩) l.length lc := tAt (hd ⟨8, .data⟩ (by simp) rfl)
       have e9 : b'.tmps[58]?.getD undef = .int .i64 (n : Int) := tAt (hd ⟨9, .data⟩ (by simp) rfl)
       clear hd hk
       go_step
       exact ⟨_, rfl, rfl, uZ, (by first | exact uZ | exact fun _ => uZ)⟩
      ·
       refine .inl ⟨rfl, ?_⟩
       have e10 : b'.tmps[59]?.getD undef = .pointer (some ⟨b1, o1 + n * 3, none⟩) := tAt (hd ⟨10, .data⟩ (by simp) rfl)
       clear hd hk
       go_step
       exact ⟨_, rfl, rfl, uZ, (by first | exact uZ | exact fun _ => uZ)⟩
      ·
       refine .inl ⟨rfl, ?_⟩
       have e11 : b'.tmps[60]?.getD undef = .pointer (some ⟨b1, o1 + n * 3 + 1, none⟩) := tAt (hd ⟨11, .data⟩ (by simp) rfl)
       have HE1 := HEE.out (.inr (by kernel_rfl))
       have qd := HE1.cell HD.out.2.1 id
       clear HE1
       clear hd hk
       go_step
       exact ⟨_, rfl, rfl, uZ, (by first | exact uZ | exact fun _ => uZ)⟩
      ·
       refine .inl ⟨rfl, ?_⟩
       have o1 : b'.tmps[1]?.getD undef = .pointer (some ⟨gs, 0, none⟩) := tAt (hk 1 (fun j oj _ e => (wsDst_ne (by decide) e).elim))
       have HE1 := HEE.out (.inr (by kernel_rfl))
       have qg := lZ (HE1.at_ HGS.out id)
       clear HE1
       clear hd hk
       go_step
       exact ⟨_, rfl, rfl, uZ, (by first | exact uZ | exact fun _ => uZ)⟩
      ·
       refine .inl ⟨rfl, ?_⟩
       have e13 : b'.tmps[62]?.getD undef = .pointer (some ⟨gs, 11, none⟩) := tAt (hd ⟨13, .data⟩ (by simp) rfl)
       have HE1 := HEE.out (.inr (by kernel_rfl))
       have qg := cZ (HE1.at_ HGS.out id) 11 (.slice (some ⟨b1, o1, none⟩) l.length lc) rfl
       clear HE1
       clear hd hk
       go_step
       exact ⟨_, rfl, rfl, uZ, (by first | exact uZ | exact fun _ => uZ)⟩
      ·
       refine .inl ⟨rfl, ?_⟩
       have o6 : b'.tmps[6]?.getD undef = .int .i64 (n : Int) := tAt (hk 6 (fun j oj _ e => (wsDst_ne (by decide) e).elim))
       clear hd hk
       go_step
       exact ⟨_, rfl, (by show Value.int .i64 _ = .int .i64 (n : Int); first | rfl | (congr 1; omega) | (congr 1)), uZ, (by first | exact uZ | exact fun _ => uZ)⟩
      ·
       refine .inl ⟨rfl, ?_⟩
       have e14 : b'.tmps[63]?.getD undef = .slice (some ⟨b1, o1, none⟩) l.length lc := tAt (hd ⟨14, .data⟩ (by simp) rfl)
       have e15 : b'.tmps[64]?.getD undef = .int .i64 (n : Int) := tAt (hd ⟨15, .data⟩ (by simp) rfl)
       clear hd hk
       go_step
       exact ⟨_, rfl, rfl, uZ, (by first | exact uZ | exact fun _ => uZ)⟩
      ·
       refine .inl ⟨rfl, ?_⟩
       have e16 : b'.tmps[65]?.getD undef = .pointer (some ⟨b1, o1 + n * 3, none⟩) := tAt (hd ⟨16, .data⟩ (by simp) rfl)
       clear hd hk
       go_step
       exact ⟨_, rfl, rfl, uZ, (by first | exact uZ | exact fun _ => uZ)⟩
      ·
       refine .inl ⟨rfl, ?_⟩
       have e17 : b'.tmps[66]?.getD undef = .pointer (some ⟨b1, o1 + n * 3 + 2, none⟩) := tAt (hd ⟨17, .data⟩ (by simp) rfl)
       have HE1 := HEE.out (.inr (by kernel_rfl))
       have qd := HE1.cell HD.out.2.2 id
       clear HE1
       clear hd hk
       go_step
       exact ⟨_, rfl, rfl, uZ, (by first | exact uZ | exact fun _ => uZ)⟩
      ·
       refine .inl ⟨rfl, ?_⟩
       have e6 : b'.tmps[55]?.getD undef = .int .u64 (x : Int) := tAt (hd ⟨6, .data⟩ (by simp) rfl)
       have e12 : b'.tmps[61]?.getD undef = .int .u64 (y : Int) := tAt (hd ⟨12, .data⟩ (by simp) rfl)
       have e18 : b'.tmps[67]?.getD undef = .int .u64 (z : Int) := tAt (hd ⟨18, .data⟩ (by simp) rfl)
       clear hd hk
       go_step
       exact ⟨_, rfl, (row_new w1' #[.int .u64 (x : Int), .int .u64 (y : Int), .int .u64 (z : Int)] 22 3 w1'.heap.size (by decide) rfl).mono (fun k e => by have e : k = w1'.heap.size := e; have := HW1.out.size; show wr.heap.size <= k; omega), uZ.alloc _, (by first | exact uZ.alloc _ | exact fun _ => uZ.alloc _)⟩
      ·
       refine .inl ⟨rfl, ?_⟩
       have h19 := hd ⟨19, .data⟩ (by simp) rfl
       have h19 : NumsB wr.heap.size x y z (b'.tmps.getD 68 undef) w1' := h19
       have h19' := h19
       obtain ⟨a19, c19, q19, -, -, -⟩ := h19'
       have q19 : b'.tmps.getD 68 undef = .slice a19 3 c19 := q19
       have e19 : b'.tmps[68]?.getD undef = .slice a19 3 c19 := by simpa using q19
       rw [q19] at h19
       clear hd hk
       go_step
       refine (rAll_any w1' _ [x, y, z] h19 (by simp) HNM.out).mono ?_
       rintro e w8 ⟨v8, rfl, hown8, hx8⟩
       exact ⟨_, rfl, (Row.of_owns hown8).mono (fun k e => by have e : w1'.heap.size <= k := e; have := HW1.out.size; show wr.heap.size <= k; omega), hx8.mono (fun _ _ e => e.elim), (by first | exact hx8 | exact fun _ => hx8)⟩
      ·
       refine .inl ⟨rfl, ?_⟩
       have o49 : b'.eval (.tmp 49) = .slice ra PL.length rc := by
        have := (show b'.tmps.getD 49 undef = .slice ra PL.length rc from hd ⟨0, .data⟩ (by simp) rfl)
        simpa [Act.eval] using this
       have h20 := hd ⟨20, .data⟩ (by simp) rfl
       have h20 : BytsB wr.heap.size x y z (b'.tmps.getD 69 undef) w1' := h20
       have HE1 := HEE.out (.inl rfl)
       have hbs := Nat.le_trans HBS.out HE1.size
       refine wp_append_row (.tmp 49) (.tmp 69) 23 rfl Tryz.bytesT o49 (HE1.ownsRow HOWN.out (fun _ _ e => e)) rfl h20 (by simp) (u8_one _) HQ.out.2.1 HQ.out.2.2 hbs ?_
       intro v9 w9 hown9 hg9 _
       have hu9 : Upd (fun k => (Value.slice ra PL.length rc).ownBlock = some k) w1' w9 := (grownUpd hg9)
       exact ⟨v9, rfl, hown9, hu9, (by first | exact fun e => absurd rfl e | trivial)⟩
      ·
       refine .inl ⟨rfl, ?_⟩
       have h21 := hd ⟨21, .data⟩ (by simp) rfl
       have h21 : OutB w1.heap.size PL x y z (b'.tmps.getD 70 undef) w1' := h21
       clear hd hk
       go_step
       exact ⟨_, rfl, (by have h := h21; simp only [Array.getD_eq_getD_getElem?] at h; exact h), uZ, (by first | exact uZ | exact fun _ => uZ)⟩
     ·intro v w1' hx1' hp
      have h22 := hp 22 (by decide)
      have HO9 := zq (show w1'.ownsRow w1.heap.size 5 1 (v 22) (PL.length + (vputs [x, y, z]).length) (PL.map YtnkmpoplibnflaaGreatDoor.u8 ++ (vputs [x, y, z]).map YtnkmpoplibnflaaGreatDoor.u8) from h22)
      have HX9 := zq (HX.out.step hx1' (fun k hk e => by have := HLO.out k e; omega))
      obtain ⟨v9, hv9⟩ : ∃ u, u = v 22 := ⟨_, rfl⟩
      rw [<- hv9] at HO9
      clear hp h22 hx1'
      simp only [List.size_toArray, List.length_cons, List.length_nil, Nat.reduceAdd, fillAll, wsDst]
      rw [<- hv9]
      clear hv9
      go_simp
      go_wp2
      go_roundw
      case rel =>
       refine ⟨n + 1, by omega, by go_num, zq ?_, HX9⟩
       have e : vputs [ch, tl, l.length] ++ ((l.take (n + 1)).map encTr).flatten = PL ++ vputs [x, y, z] := by
        rw [HTK.out, List.map_append, List.flatten_append, HPL.out, List.append_assoc]
        simp only [List.map_cons, List.map_nil, List.flatten_cons, List.flatten_nil, List.append_nil]
        exact congrArg (fun z => vputs [ch, tl, l.length] ++ ((List.map encTr (List.take n l)).flatten ++ z)) HEN.out
       rw [e, List.length_append, List.map_append]
       exact HO9.out
      case measure => simp [intOf]; omega
    ·have hkl : n = l.length := by omega
     have HF := zq (show PL = vputs [ch, tl, l.length] ++ (l.map encTr).flatten by rw [HPL.out, hkl, List.take_length])
     clear hkl
     go_upto_region 11 with fail
     have g10 := cZ HGS.out 10 (.slice ca es.length cn) rfl
     have HLO := zq (show ∀ j, (Value.slice ra PL.length rc).ownBlock = some j -> w1.heap.size <= j from fun j hj => (HOWN.out.lt j hj).1)
     have hw1s := HX1.out.size
     clear g11
     go_wp2_with (go_at_call 74; fail)
     refine (rcatPut_any wr _ es (HC.out.ext (HX1.out.trans HX.out)) hE hE64 (by omega)).mono ?_
     rintro e w7 ⟨v7, rfl, hown7, hx7⟩
     obtain ⟨r7, c7, rfl⟩ := ownsFormN hown7
     have HX7 := zq ((HX1.out.trans HX.out).trans hx7)
     have HG7 := zq (hx7.at_ HGS.out id)
     have HO7 := zq (hx7.ownsRow HOWN.out (fun _ _ e => e))
     have HK7 := zq hown7
     have HSZ7 := zq hx7.size
     clear hown7 hx7 g10 gl
     have z0 := cZ HG7.out 0 _ rfl
     have z2 := cZ HG7.out 2 _ rfl
     have z3 := cZ HG7.out 3 _ rfl
     have z4 := cZ HG7.out 4 _ rfl
     have z5 := cZ HG7.out 5 _ rfl
     have z6 := cZ HG7.out 6 _ rfl
     have z7 := cZ HG7.out 7 _ rfl
     have z8 := cZ HG7.out 8 _ rfl
     have z9 := cZ HG7.out 9 _ rfl
     have zl := lZ HG7.out
     go_wp2_with (go_at_call 75; fail)
     refine (rdocPut_any w7 d pa va pc vc HDB.out (HP.out.ext HX7.out) (HV.out.ext HX7.out) (by omega)).mono ?_
     rintro e w8 ⟨v8, rfl, hown8, hx8⟩
     obtain ⟨r8, c8, rfl⟩ := ownsFormN hown8
     have HX8 := zq (HX7.out.trans hx8)
     have HG8 := zq (hx8.at_ HG7.out id)
     have HO8 := zq (hx8.ownsRow HO7.out (fun _ _ e => e))
     have HK8 := zq (hx8.ownsRow HK7.out (fun _ _ e => e))
     have HD8 := zq hown8
     have HS18 := zq (Nat.le_trans HX.out.size (Nat.le_trans (show wr.heap.size <= w7.heap.size from (HSZ7).out) hx8.size))
     clear hown8 hx8 z0 z2 z3 z4 z5 z6 z7 z8 z9 zl
     by_cases hc0 : ch = 0
     ·obtain ⟨hd, hpa, hva, hpc, hvc⟩ := HZ.out.1 hc0
      have hb : ((ch : Int) == 0) = true := by simp [hc0]
      have HCT := zq (show contF ch es d = encCat es by unfold contF; rw [if_pos hc0])
      clear hc0
      have z0 := cZ HG8.out 0 _ rfl
      have z2 := cZ HG8.out 2 _ rfl
      have z3 := cZ HG8.out 3 _ rfl
      have z4 := cZ HG8.out 4 _ rfl
      have z5 := cZ HG8.out 5 _ rfl
      have z6 := cZ HG8.out 6 _ rfl
      have z7 := cZ HG8.out 7 _ rfl
      have z8 := cZ HG8.out 8 _ rfl
      have z9 := cZ HG8.out 9 _ rfl
      have zl := lZ HG8.out
      go_wp2_with (go_at_call 76; fail)
      refine (rdocSame_blank w8).mono ?_
      rintro e w8b ⟨rfl, hx8b⟩
      replace HX8 := zq (HX8.out.trans hx8b)
      replace HO8 := zq (hx8b.ownsRow HO8.out (fun _ _ e => e))
      replace HK8 := zq (hx8b.ownsRow HK8.out (fun _ _ e => e))
      have hb8 : w1.heap.size <= w8b.heap.size := Nat.le_trans HS18.out hx8b.size
      clear hx8b hd hpa hva hpc hvc z0 z2 z3 z4 z5 z6 z7 z8 z9 zl
      go_wp2_with (at_builtin; go_must (refine wpList_append_row rfl _ _ _ rfl Tryz.bytesT rfl HO8.out rfl (Row.of_owns HK8.out) (by simp) (u8_one _) ?x3 ?x4 hb8 ?_))
      case x3 => unfold maxLen; omega
      case x4 => omega
      intro v9 w9 hown9 hg9 _
      have HX9 := zq (HX8.out.grown hg9 (fun j hj h => by have := HLO.out j hj; omega))
      obtain ⟨r9, c9, rfl⟩ := ownsFormN hown9
      obtain ⟨BD, hBD⟩ : ∃ b, b = vputs [ch, tl, l.length] ++ ((l.map encTr).flatten ++ contF ch es d) := ⟨_, rfl⟩
      have hBL : BD.length = PL.length + (encCat es).length := by rw [hBD, HF.out, HCT.out]; simp; omega
      have HO9 := zq (show w9.ownsRow w1.heap.size 5 1 (.slice r9 (PL.length + (encCat es).length) c9) BD.length (BD.map YtnkmpoplibnflaaGreatDoor.u8) by
       rw [hBL, hBD, <- List.append_assoc, <- HF.out, HCT.out, List.map_append]; exact hown9)
      have hN : PL.length + (encCat es).length <= 65535 := by rw [<- hBL, hBD]; omega
      have HBDQ := zq hBD
      have HBL := zq hBL
      clear hown9 hg9 hb8 hBL hBD
      go_wp2
      go_loopw [5, 11] (fun b q wr => b = .slice r9 (PL.length + (encCat es).length) c9 /\ q = .slice none 0 0 /\ Hid (Ext w9 wr)) (fun _ _ _ => 0)
      case atStart => exact ⟨rfl, rfl, zq uZ⟩
      case round =>
       obtain ⟨rfl, rfl, HXR⟩ := hrel
       have HOR := zq (HXR.out.ownsRow HO9.out (fun _ _ e => e))
       have hNi : ¬ (65535 : Int) < ((PL.length + (encCat es).length : Nat) : Int) := by omega
       have hNi2 : ¬ (65535 : Int) < (PL.length : Int) + ((encCat es).length : Int) := by omega
       have hbz : w.heap.size <= wr.heap.size := (HX9.out.trans HXR.out).size
       have hone : OneCells (#[.int .u8 12, .slice r9 (PL.length + (encCat es).length) c9] : Array Value).toList := by intro u hu; simp at hu; rcases hu with rfl | rfl <;> rfl
       go_wp2_with (at_builtin; go_must (refine wpList_append_row rfl _ _ _ rfl Tryz.rfrsT rfl (World.ownsRow_nil _ w.heap.size _ _) rfl (row_new wr #[.int .u8 12, .slice r9 (PL.length + (encCat es).length) c9] _ 1 _ (by decide) (by simp)) rfl hone (by decide) (by decide) ?x5 ?_))
       case x5 => first | omega | (simp; omega)
       intro v10 w10 hown10 hg10 _
       have hx10 : Ext wr w10 := ((Upd.refl Nothing wr).alloc _).grown hg10 (fun j hj h => by simp [Value.ownBlock] at hj)
       have HX10 := zq ((HX9.out.trans HXR.out).trans hx10)
       have hB10 : Bytes (From w1.heap.size) w10 (.slice r9 (PL.length + (encCat es).length) c9) BD := by
        have h := Row.of_owns (hx10.ownsRow HOR.out (fun _ _ e => e))
        exact h
       have HB10 := zq hB10
       have HR10 := zq (show Row (From w.heap.size) w10 v10 1 [.int .u8 12, .slice r9 (PL.length + (encCat es).length) c9] from Row.of_owns (by simpa using hown10))
       clear hown10 hg10 hx10 hB10
       go_wp2_with (go_at_call 77; fail)
       refine (rjoin1_any w10 v10 _ 12 BD HR10.out HB10.out (by rw [HBL.out]; omega)).mono ?_
       rintro e w11 ⟨v11, rfl, hown11, hx11⟩
       have HX11 := zq (HX10.out.trans hx11)
       have HO11 := zq (hown11.mono_base HX10.out.size)
       clear hown11 hx11
       go_wp2
       go_ret2
       refine ⟨HX11.out, .inl ⟨HB.out, _, rfl, ?_⟩⟩
       rw [<- HBDQ.out]
       exact HO11.out
     ·have hes := HZ.out.2 hc0
      have hb : ((ch : Int) == 0) = false := by simp; omega
      have HCT := zq (show contF ch es d = encDoc d by unfold contF; rw [if_neg hc0])
      have hel : ¬ (0 : Int) < (es.length : Int) := by rw [hes]; simp
      have g10 := cZ HG8.out 10 (.slice ca es.length cn) rfl
      have g0 := cZ HG8.out 0 (.int .u64 (ch : Int)) rfl
      have gl := lZ HG8.out
      have hb8 : w1.heap.size <= w8.heap.size := HS18.out
      clear hc0 hes
      go_wp2_with (at_builtin; go_must (refine wpList_append_row rfl _ _ _ rfl Tryz.bytesT rfl HO8.out rfl (Row.of_owns HD8.out) (by simp) (u8_one _) ?y3 ?y4 hb8 ?_))
      case y3 => unfold maxLen; omega
      case y4 => omega
      intro v9 w9 hown9 hg9 _
      have HX9 := zq (HX8.out.grown hg9 (fun j hj h => by have := HLO.out j hj; omega))
      obtain ⟨r9, c9, rfl⟩ := ownsFormN hown9
      obtain ⟨BD, hBD⟩ : ∃ b, b = vputs [ch, tl, l.length] ++ ((l.map encTr).flatten ++ contF ch es d) := ⟨_, rfl⟩
      have hBL : BD.length = PL.length + (encDoc d).length := by rw [hBD, HF.out, HCT.out]; simp; omega
      have HO9 := zq (show w9.ownsRow w1.heap.size 5 1 (.slice r9 (PL.length + (encDoc d).length) c9) BD.length (BD.map YtnkmpoplibnflaaGreatDoor.u8) by
       rw [hBL, hBD, <- List.append_assoc, <- HF.out, HCT.out, List.map_append]; exact hown9)
      have hN : PL.length + (encDoc d).length <= 65535 := by rw [<- hBL, hBD]; omega
      have HBDQ := zq hBD
      have HBL := zq hBL
      clear hown9 hg9 hb8 hBL hBD
      go_wp2
      go_loopw [5, 11] (fun b q wr => b = .slice r9 (PL.length + (encDoc d).length) c9 /\ q = .slice none 0 0 /\ Hid (Ext w9 wr)) (fun _ _ _ => 0)
      case atStart => exact ⟨rfl, rfl, zq uZ⟩
      case round =>
       obtain ⟨rfl, rfl, HXR⟩ := hrel
       have HOR := zq (HXR.out.ownsRow HO9.out (fun _ _ e => e))
       have hNi : ¬ (65535 : Int) < ((PL.length + (encDoc d).length : Nat) : Int) := by omega
       have hNi2 : ¬ (65535 : Int) < (PL.length : Int) + ((encDoc d).length : Int) := by omega
       have hbz : w.heap.size <= wr.heap.size := (HX9.out.trans HXR.out).size
       have hone : OneCells (#[.int .u8 12, .slice r9 (PL.length + (encDoc d).length) c9] : Array Value).toList := by intro u hu; simp at hu; rcases hu with rfl | rfl <;> rfl
       go_wp2_with (at_builtin; go_must (refine wpList_append_row rfl _ _ _ rfl Tryz.rfrsT rfl (World.ownsRow_nil _ w.heap.size _ _) rfl (row_new wr #[.int .u8 12, .slice r9 (PL.length + (encDoc d).length) c9] _ 1 _ (by decide) (by simp)) rfl hone (by decide) (by decide) ?y5 ?_))
       case y5 => first | omega | (simp; omega)
       intro v10 w10 hown10 hg10 _
       have hx10 : Ext wr w10 := ((Upd.refl Nothing wr).alloc _).grown hg10 (fun j hj h => by simp [Value.ownBlock] at hj)
       have HX10 := zq ((HX9.out.trans HXR.out).trans hx10)
       have hB10 : Bytes (From w1.heap.size) w10 (.slice r9 (PL.length + (encDoc d).length) c9) BD := by
        have h := Row.of_owns (hx10.ownsRow HOR.out (fun _ _ e => e))
        exact h
       have HB10 := zq hB10
       have HR10 := zq (show Row (From w.heap.size) w10 v10 1 [.int .u8 12, .slice r9 (PL.length + (encDoc d).length) c9] from Row.of_owns (by simpa using hown10))
       clear hown10 hg10 hx10 hB10
       go_wp2_with (go_at_call 77; fail)
       refine (rjoin1_any w10 v10 _ 12 BD HR10.out HB10.out (by rw [HBL.out]; omega)).mono ?_
       rintro e w11 ⟨v11, rfl, hown11, hx11⟩
       have HX11 := zq (HX10.out.trans hx11)
       have HO11 := zq (hown11.mono_base HX10.out.size)
       clear hown11 hx11
       go_wp2
       go_ret2
       refine ⟨HX11.out, .inl ⟨HB.out, _, rfl, ?_⟩⟩
       rw [<- HBDQ.out]
       exact HO11.out
end Go.Proofs.YtnkmpoplibnflaaGreatDoor.Wk
