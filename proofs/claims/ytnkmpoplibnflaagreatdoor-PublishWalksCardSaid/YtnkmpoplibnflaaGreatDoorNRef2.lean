/-
  CONTRACT of the reference's split. Condition: a text of few bytes.
-/
import Derived.Test.YtnkmpoplibnflaaGreatDoorGAZ
set_option maxRecDepth 100000
set_option maxHeartbeats 16000000
namespace Go.Proofs.YtnkmpoplibnflaaGreatDoor
open Go.RowKit
theorem splitF_stroke : ∀ t : List UInt8, splitF (t ++ [45]) = splitF t ++ [[]]
 | [] => by simp [splitF]
 | b :: r => by
  have ih := splitF_stroke r
  obtain ⟨w, ws, e⟩ := splitF_cons r
  rw [List.cons_append, splitF, splitF, ih, e]
  split <;> simp
theorem splitF_more : ∀ (t : List UInt8) (c : UInt8), c ≠ 45 -> ∃ d y, splitF t = d ++ [y] /\ splitF (t ++ [c]) = d ++ [y ++ [c]]
 | [], c, h => ⟨[], [], by simp [splitF], by simp [splitF, h]⟩
 | b :: r, c, h => by
  obtain ⟨d, y, h1, h2⟩ := splitF_more r c h
  rw [List.cons_append, splitF, splitF, h2, h1]
  by_cases hb : b = 45
  ·rw [if_pos hb, if_pos hb]
   exact ⟨[] :: d, y, rfl, rfl⟩
  ·rw [if_neg hb, if_neg hb]
   cases d with
   | nil => exact ⟨[], b :: y, by simp, by simp⟩
   | cons a d => exact ⟨(b :: a) :: d, y, by simp, by simp⟩
theorem splitF_len (s : List UInt8) : 1 <= (splitF s).length /\ (splitF s).length <= s.length + 1 := by
 have h := (split_is s).2
 have := Lib.countB_le ⟨#[45]⟩ (by decide) s.length ⟨s.toArray⟩ (Nat.le_refl _)
 have : Lib.count s [45] <= s.length := this
 omega
def SplRow (B g m cap : Nat) (xs : List Value) (_ : Value) (w : World) : Prop := w.ownsRow B 9 1 (.slice (some ⟨g, 0, none⟩) m cap) m xs
theorem SplRow.ext {B g m cap : Nat} {xs : List Value} {v : Value} {w w' : World} (h : SplRow B g m cap xs v w) (hu : Ext w w') : SplRow B g m cap xs v w' := hu.ownsRow h (fun _ _ e => e)
def splVal (g m cap k p B : Nat) (y s : List UInt8) (c : UInt8) (xs : List Value) : Nat -> Value
 | 0 => .slice (some ⟨g, 0, none⟩) m cap
 | 1 => .slice (some ⟨g, 0, none⟩) m cap
 | 2 => .int .i64 (m : Int)
 | 3 => .int .i64 (p : Int)
 | 4 => .slice (some ⟨g, 0, none⟩) m cap
 | 5 => .slice (some ⟨g, 0, none⟩) m cap
 | 6 => .int .i64 (m : Int)
 | 7 => .int .i64 (p : Int)
 | 8 => .pointer (some ⟨g, p, none⟩)
 | 9 => str y
 | 10 => str s
 | 11 => .int .i64 (k : Int)
 | 12 => .int .i64 (k : Int)
 | 13 => .int .i64 ((k : Int) + 1)
 | 14 => str [c]
 | 15 => str (y ++ [c])
 | 16 => .pointer (some ⟨g, p, none⟩)
 | _ => undef
def splDst (i : Nat) : Tmp := if i = 17 then 1017 else 19 + i
theorem splDst_ne {j t : Nat} (ht : t = 0 \/ t = 3 \/ t = 4) (e : splDst j = t) : False := by
 unfold splDst at e
 have e : (if j = 17 then 1017 else 19 + j : Nat) = t := e
 rcases ht with rfl | rfl | rfl <;> (repeat' (split at e)) <;> omega
def splPhi (g m cap k p B : Nat) (y s : List UInt8) (c : UInt8) (xs : List Value) (i : Nat) (v : Value) (w : World) : Prop := if i = 17 then SplRow B g m cap xs v w else v = splVal g m cap k p B y s c xs i
theorem splPhi.ext {g m cap k p B : Nat} {y s : List UInt8} {c : UInt8} {xs : List Value} {i : Nat} {v : Value} {w w' : World} (h : splPhi g m cap k p B y s c xs i v w) (hu : Ext w w') : splPhi g m cap k p B y s c xs i v w' := by
 unfold splPhi at h ⊢
 by_cases c : i = 17
 ·rw [if_pos c] at h ⊢; exact h.ext hu
 ·rw [if_neg c] at h ⊢
  exact h
theorem splPhi.pure {g m cap k p B : Nat} {y s : List UInt8} {c : UInt8} {xs : List Value} {i : Nat} {v : Value} {w w' : World} (e : ¬ i = 17) (h : splPhi g m cap k p B y s c xs i v w) : splPhi g m cap k p B y s c xs i v w' := by
 unfold splPhi at h ⊢; rw [if_neg e] at h ⊢; exact h
theorem owns_last {w : World} {B e g m cap : Nat} {d : List Value} {x y : Value} (h : w.ownsRow B e 1 (.slice (some ⟨g, 0, none⟩) m cap) m (d ++ [x])) (hm : m = d.length + 1) :
  (w.setCell ⟨g, d.length, none⟩ y).ownsRow B e 1 (.slice (some ⟨g, 0, none⟩) m cap) m (d ++ [y]) /\ w.cell? ⟨g, d.length, none⟩ = some x /\ w.frozen? ⟨g, d.length, none⟩ = false /\ B <= g /\ g < w.heap.size /\ m <= cap /\ cap <= maxLen := by
 obtain ⟨h1, ⟨h2, -⟩ | ⟨g', cap', cur, e1, h3, h4, h5, h6, h7, h8⟩⟩ := h
 ·cases h2
 ·cases e1
  have hd : d.length < cur.size := by omega
  have hat : cur[d.length]? = some x := by
   have : (cur.toList.take (m * 1))[d.length]? = some x := by rw [h8]; simp
   rw [List.getElem?_take] at this
   rw [if_pos (by omega)] at this
   simpa using this
  refine ⟨⟨by simp at h1 ⊢; omega, .inr ⟨g, cap, cur.setIfInBounds d.length y, rfl, h3, setAt h4, h5, h6, by simp; omega, ?_⟩⟩, cZ h4 _ _ hat, freeAt h4 _, h3, lZ h4, h5, h6⟩
  rw [Array.toList_setIfInBounds, List.take_set, h8]
  simp
theorem rsplit_any (w : World) (s : List UInt8) (hs : s.length <= 1000000) :
  Calls Tryz.prog 48 #[str s] w fun e w' => ∃ v, e = .returned v /\ w'.ownsRow w.heap.size 9 1 v (splitF s).length (strs (splitF s)) /\ Ext w w' := by
 have h0 := own_lit w #[str []] 9 1 w.heap.size w.heap.size (by unfold maxLen; omega) rfl (Nat.le_refl _) rfl
 have H0 := zq h0
 obtain ⟨B, hB⟩ : ∃ B, B = w.heap.size := ⟨_, rfl⟩
 have HB := zq hB
 clear h0 hB
 go_enter Tryz.func48, Tryz.ntmps48
 go_wp2
 go_loopw [3, 4] (fun v i wr => ∃ k : Nat, k <= s.length /\ i = .int .i64 k /\ wr.ownsRow B 9 1 v (splitF (s.take k)).length (strs (splitF (s.take k))) /\ Ext w wr) (fun _ i _ => s.length - (intOf i).toNat)
 case atStart => exact ⟨0, Nat.zero_le _, rfl, by rw [HB.out]; exact H0.out, uZ.alloc _⟩
 case round =>
  obtain ⟨k, hk, rfl, hown, hx⟩ := hrel
  have HX := zq hx
  have hBw : B <= wr.heap.size := by rw [HB.out]; exact hx.size
  obtain ⟨ad, n0, cap, rfl⟩ := ownsForm hown
  have hsz : (⟨s.toArray⟩ : ByteArray).size = s.length := rfl
  by_cases hlt : k < s.length
  ·have hsn : s.take (k + 1) = s.take k ++ [s[k]] := List.take_succ_eq_append_getElem hlt
   obtain ⟨c, hc⟩ : ∃ c, c = s[k] := ⟨_, rfl⟩
   rw [<- hc] at hsn
   have hix := index_str (P := Tryz.prog) (T := 9) Tryz.underlying9 (ps := s) (k := k) (c := c) (m := c.toNat) (by rw [hc]; simp [hlt]) rfl
   have hl := splitF_len (s.take k)
   rw [List.length_take] at hl
   have HSN := zq hsn
   clear hx hsz
   by_cases h45 : c = 45
   ·have hst := splitF_stroke (s.take k)
    rw [show s.take k ++ [45] = s.take (k + 1) from by rw [HSN.out, h45]] at hst
    have HST := zq hst
    subst h45
    have hl1 : (splitF (s.take k)).length <= 1000001 := by omega
    clear hst hc hl
    obtain ⟨m, hm⟩ : ∃ m, m = (splitF (s.take k)).length := ⟨_, rfl⟩
    obtain ⟨xs, hxs⟩ : ∃ xs, xs = splitF (s.take k) := ⟨_, rfl⟩
    rw [<- hxs] at hm hown hl1 HST
    have HM := zq hm
    have HXS := zq hxs
    rw [<- hm] at hown hl1
    clear hm hxs
    go_wp2_with (at_builtin; go_must (refine wpList_append_row rfl _ _ _ rfl Tryz.textsT rfl (hown.alloc _) rfl (row_new _ _ _ 1 _ (by decide) (by simp)) rfl (by intro u hu; simp at hu; subst hu; rfl) ?c3 ?c4 ?c5 ?_))
    case c3 => unfold maxLen; omega
    case c4 => omega
    case c5 => first | omega | (simp; omega)
    intro v' w6 hown6 hg _
    have hx6 := (HX.out.alloc _).grown hg (fun j hj h => by have := (hown.lt j hj).1; have := HB.out; omega)
    have HX6 := zq hx6
    have HO6 := zq hown6
    clear hx6 hg hown6 hown
    go_wp2
    go_roundw
    case rel =>
     refine ⟨k + 1, by omega, by go_num, ?_, HX6.out⟩
     rw [HST.out, List.length_append, show strs (xs ++ [[]]) = strs xs ++ [str []] from by simp]
     rw [<- HM.out]
     exact HO6.out
    case measure => simp [intOf]; omega
   ·obtain ⟨d, y, h1, h2⟩ := splitF_more (s.take k) c h45
    rw [<- HSN.out] at h2
    rw [h1] at hown hl
    have hn : n0 = (d ++ [y]).length := by
     obtain ⟨-, ⟨h2, h3⟩ | ⟨g', cap', cur, e1, -⟩⟩ := hown
     ·simp at h3
     ·cases e1; rfl
    obtain ⟨m, hm⟩ : ∃ m, m = (d ++ [y]).length := ⟨_, rfl⟩
    rw [<- hm] at hown hn hl
    have hn' := hn.symm
    subst hn'
    have hmd : m = d.length + 1 := by rw [hm]; simp
    obtain ⟨g, had⟩ : ∃ g, ad = some ⟨g, 0, none⟩ := by
     obtain ⟨-, ⟨h2, h3⟩ | ⟨g', cap', cur, e1, -⟩⟩ := hown
     ·omega
     ·cases e1; exact ⟨g', rfl⟩
    subst had
    rw [show strs (d ++ [y]) = strs d ++ [str y] from by simp] at hown
    have hdl : (strs d).length = d.length := by simp
    have hnew := owns_last (y := str (y ++ [c])) hown (by rw [hdl]; exact hmd)
    rw [hdl] at hnew
    obtain ⟨n1, n2, n3, n4, n5, n6, n7⟩ := hnew
    have HO := zq hown
    have HMD := zq hmd
    have HM2 := zq hm
    have H2 := zq h2
    have hcb : ((c.toNat : Int) == 45) = false := by
     rw [beq_eq_false_iff_ne]; intro e; apply h45
     exact UInt8.toNat_inj.1 (by
      have : c.toNat = 45 := by omega
      exact this)
    have N2 := zq n2
    obtain ⟨p, hp⟩ : ∃ p, p = d.length := ⟨_, rfl⟩
    rw [<- hp] at n1 n2 n3 hmd
    have HP := zq hp
    have hc1 : m <= 1000001 := by omega
    have hp1 : m <= p + 1 := by omega
    have hp2 : p + 1 <= m := by omega
    have hpm : p < m := by omega
    have hyl : y.length <= 1000000 := by
     have := split_len (s.take k) y (by rw [h1]; simp)
     rw [List.length_take] at this; omega
    have hyc : ¬ 9223372036854775807 < y.length + 1 := by omega
    have N1 := zq n1
    have N2 := zq n2
    have N3 := zq n3
    have hcx : (s.drop k).take 1 = [c] := by rw [hc, List.drop_eq_getElem_cons hlt]; rfl
    have HCX := zq hcx
    have hsl : ∀ W, (Instr.sliceAt 9 (str s) (some (.int .i64 (k : Int))) (some (.int .i64 ((k : Int) + 1))) none).run Tryz.prog W = .ok (str [c]) W := fun W => by
     have u9 := Tryz.underlying9
     have hb1 : ¬ ((k : Int) + 1 < (k : Int)) := by omega
     have hsz' : (⟨s.toArray⟩ : ByteArray).size = s.length := rfl
     go_simp
     rw [if_pos ⟨by omega, by omega⟩, if_pos (by omega), <- hc]
     congr 2
     apply ByteArray.ext
     apply Array.ext'
     rw [Lib.extract_data]
     rw [show k + 1 - k = 1 by omega]
     exact hcx
    have HSL := zq hsl
    clear hown h1 h2 hm hp hmd hn n1 n2 n3 h45 hc hcx hsl hdl hl
    unfold maxLen at n7
    go_upto_region 7 with (fail)
    refine wp_region_invH (At g) (fun i w w' => if i = 17 then Upd (At g) w w' else Ext w w') 17 splDst (splPhi g m cap k p B y s c (strs (d ++ [y ++ [c]]))) 37 (by kernel_rfl) (by decide) (by decide) rfl (fun i hi => if e : i = 17 then .inr (fun v v' w h => by subst e; exact h) else .inl ((by decide : ∀ i, i < 18 -> i ≠ 17 -> splDst i < 37) i hi e)) (fun i w w' h => by by_cases e : i = 17; (rw [if_pos e] at h; exact ⟨h, fun he => absurd e he⟩); (rw [if_neg e] at h; exact ⟨h.mono (fun _ _ e => e.elim), fun _ => h⟩)) (fun i j v w w' _ _ hne _ h hu => by by_cases e : j = 17; (rw [if_neg (by omega)] at hu; exact h.ext hu); (exact splPhi.pure e h)) ?_ ?_
    ·intro i o b' w1' ho hx1' hd hk hE hSZ
     have hi : i < 18 := (Array.getElem?_eq_some_iff.1 ho).1
     have his : i = 0 \/ i = 1 \/ i = 2 \/ i = 3 \/ i = 4 \/ i = 5 \/ i = 6 \/ i = 7 \/ i = 8 \/ i = 9 \/ i = 10 \/ i = 11 \/ i = 12 \/ i = 13 \/ i = 14 \/ i = 15 \/ i = 16 \/ i = 17 := by omega
     have HEE := zq hE
     have HSZ := zq hSZ
     clear hE hSZ
     have HW1 := zq hx1'
     clear hx1'
     rcases his with rfl | rfl | rfl | rfl | rfl | rfl | rfl | rfl | rfl | rfl | rfl | rfl | rfl | rfl | rfl | rfl | rfl | rfl
     all_goals (simp at ho; subst ho)
     case inl =>
      refine .inl ⟨rfl, ?_⟩
      have o3 : b'.tmps[3]?.getD undef = .slice (some ⟨g, 0, none⟩) m cap := tAt (hk 3 (fun j oj _ e => (splDst_ne (by decide) e).elim))
      clear hd hk
      go_step
      exact ⟨_, rfl, rfl, uZ⟩
     ·
      refine .inl ⟨rfl, ?_⟩
      have o3 : b'.tmps[3]?.getD undef = .slice (some ⟨g, 0, none⟩) m cap := tAt (hk 3 (fun j oj _ e => (splDst_ne (by decide) e).elim))
      clear hd hk
      go_step
      exact ⟨_, rfl, rfl, uZ⟩
     ·
      refine .inl ⟨rfl, ?_⟩
      have e1 : b'.tmps[20]?.getD undef = .slice (some ⟨g, 0, none⟩) m cap := tAt (hd ⟨1, .data⟩ (by simp) rfl)
      clear hd hk
      go_step
      exact ⟨_, rfl, rfl, uZ⟩
     ·
      refine .inl ⟨rfl, ?_⟩
      have e2 : b'.tmps[21]?.getD undef = .int .i64 (m : Int) := tAt (hd ⟨2, .data⟩ (by simp) rfl)
      clear hd hk
      go_step
      exact ⟨_, rfl, (show Value.int .i64 ((m : Int) - 1) = .int .i64 (p : Int) from congrArg _ (by omega)), uZ⟩
     ·
      refine .inl ⟨rfl, ?_⟩
      have o3 : b'.tmps[3]?.getD undef = .slice (some ⟨g, 0, none⟩) m cap := tAt (hk 3 (fun j oj _ e => (splDst_ne (by decide) e).elim))
      clear hd hk
      go_step
      exact ⟨_, rfl, rfl, uZ⟩
     ·
      refine .inl ⟨rfl, ?_⟩
      have o3 : b'.tmps[3]?.getD undef = .slice (some ⟨g, 0, none⟩) m cap := tAt (hk 3 (fun j oj _ e => (splDst_ne (by decide) e).elim))
      clear hd hk
      go_step
      exact ⟨_, rfl, rfl, uZ⟩
     ·
      refine .inl ⟨rfl, ?_⟩
      have e5 : b'.tmps[24]?.getD undef = .slice (some ⟨g, 0, none⟩) m cap := tAt (hd ⟨5, .data⟩ (by simp) rfl)
      clear hd hk
      go_step
      exact ⟨_, rfl, rfl, uZ⟩
     ·
      refine .inl ⟨rfl, ?_⟩
      have e6 : b'.tmps[25]?.getD undef = .int .i64 (m : Int) := tAt (hd ⟨6, .data⟩ (by simp) rfl)
      clear hd hk
      go_step
      exact ⟨_, rfl, (show Value.int .i64 ((m : Int) - 1) = .int .i64 (p : Int) from congrArg _ (by omega)), uZ⟩
     ·
      refine .inl ⟨rfl, ?_⟩
      have e4 : b'.tmps[23]?.getD undef = .slice (some ⟨g, 0, none⟩) m cap := tAt (hd ⟨4, .data⟩ (by simp) rfl)
      have e7 : b'.tmps[26]?.getD undef = .int .i64 (p : Int) := tAt (hd ⟨7, .data⟩ (by simp) rfl)
      clear hd hk
      go_step
      exact ⟨_, rfl, rfl, uZ⟩
     ·
      refine .inl ⟨rfl, ?_⟩
      have e8 : b'.tmps[27]?.getD undef = .pointer (some ⟨g, p, none⟩) := tAt (hd ⟨8, .data⟩ (by simp) rfl)
      clear hd hk
      have hxe := HEE.out (.inr (by kernel_rfl))
      have hc9 := hxe.cell N2.out id
      clear hxe
      go_step
      exact ⟨_, rfl, rfl, uZ⟩
     ·
      refine .inl ⟨rfl, ?_⟩
      have o0 : b'.tmps[0]?.getD undef = str s := tAt (hk 0 (fun j oj _ e => (splDst_ne (by decide) e).elim))
      clear hd hk
      go_step
      exact ⟨_, rfl, rfl, uZ⟩
     ·
      refine .inl ⟨rfl, ?_⟩
      have o4 : b'.tmps[4]?.getD undef = .int .i64 (k : Int) := tAt (hk 4 (fun j oj _ e => (splDst_ne (by decide) e).elim))
      clear hd hk
      go_step
      exact ⟨_, rfl, rfl, uZ⟩
     ·
      refine .inl ⟨rfl, ?_⟩
      have o4 : b'.tmps[4]?.getD undef = .int .i64 (k : Int) := tAt (hk 4 (fun j oj _ e => (splDst_ne (by decide) e).elim))
      clear hd hk
      go_step
      exact ⟨_, rfl, rfl, uZ⟩
     ·
      refine .inl ⟨rfl, ?_⟩
      have e12 : b'.tmps[31]?.getD undef = .int .i64 (k : Int) := tAt (hd ⟨12, .data⟩ (by simp) rfl)
      clear hd hk
      go_step
      exact ⟨_, rfl, rfl, uZ⟩
     ·
      refine .inl ⟨rfl, ?_⟩
      have e10 : b'.tmps[29]?.getD undef = str s := tAt (hd ⟨10, .data⟩ (by simp) rfl)
      have e11 : b'.tmps[30]?.getD undef = .int .i64 (k : Int) := tAt (hd ⟨11, .data⟩ (by simp) rfl)
      have e13 : b'.tmps[32]?.getD undef = .int .i64 ((k : Int) + 1) := tAt (hd ⟨13, .data⟩ (by simp) rfl)
      clear hd hk
      have hs14 := HSL.out
      go_step
      exact ⟨_, rfl, rfl, uZ⟩
     ·
      refine .inl ⟨rfl, ?_⟩
      have e9 : b'.tmps[28]?.getD undef = str y := tAt (hd ⟨9, .data⟩ (by simp) rfl)
      have e14 : b'.tmps[33]?.getD undef = str [c] := tAt (hd ⟨14, .data⟩ (by simp) rfl)
      clear hd hk
      go_step
      exact ⟨_, rfl, (show Value.string _ = _ from by congr 1; first | done | (apply ByteArray.ext; simp)), uZ⟩
     ·
      refine .inl ⟨rfl, ?_⟩
      have e0 : b'.tmps[19]?.getD undef = .slice (some ⟨g, 0, none⟩) m cap := tAt (hd ⟨0, .data⟩ (by simp) rfl)
      have e3 : b'.tmps[22]?.getD undef = .int .i64 (p : Int) := tAt (hd ⟨3, .data⟩ (by simp) rfl)
      clear hd hk
      go_step
      exact ⟨_, rfl, rfl, uZ⟩
     ·
      refine .inl ⟨rfl, ?_⟩
      have e15 : b'.tmps[34]?.getD undef = str (y ++ [c]) := tAt (hd ⟨15, .data⟩ (by simp) rfl)
      have e16 : b'.tmps[35]?.getD undef = .pointer (some ⟨g, p, none⟩) := tAt (hd ⟨16, .data⟩ (by simp) rfl)
      clear hd hk
      have hxe := HEE.out (.inl rfl)
      have ho := hxe.ownsRow HO.out (fun _ _ e => e)
      have hnew := owns_last (y := str (y ++ [c])) ho (by rw [HMD.out]; simp)
      rw [show (strs d).length = p from by simp [HP.out]] at hnew
      obtain ⟨n1, n2, n3, n4, n5, -, -⟩ := hnew
      have N1' := zq n1
      clear ho n1 hxe
      go_step
      refine ⟨undef, put_past (by rw [HSZ.out]; show 37 <= splDst 17; decide), ?_, Upd.own _ _ _ _⟩
      show SplRow B g m cap (strs d ++ [str (y ++ [c])]) undef _
      exact N1'.out
    ·intro v w1' hx1' hp
     have h17 : SplRow B g m cap (strs (d ++ [y ++ [c]])) (v 17) w1' := hp 17 (by decide)
     have HX7 := zq (HX.out.step hx1' (fun i hi e => by unfold At at e; have := HB.out; omega))
     have H17 := zq h17
     clear hp hx1' h17
     simp only [List.size_toArray, List.length_cons, List.length_nil, Nat.reduceAdd, fillAll, splDst]
     go_simp
     go_wp2
     go_roundw
     case rel =>
      refine ⟨k + 1, by omega, by go_num, ?_, HX7.out⟩
      rw [H2.out]
      have : (d ++ [y ++ [c]]).length = m := by rw [HMD.out]; simp
      rw [this]
      exact H17.out
     case measure => simp [intOf]; omega
  ·have hkl : k = s.length := by omega
   subst hkl
   have HO := zq hown
   clear hown hsz
   go_wp2
   go_ret
   refine ⟨_, rfl, ?_, HX.out⟩
   have := HO.out
   rwa [List.take_length, HB.out] at this
end Go.Proofs.YtnkmpoplibnflaaGreatDoor
