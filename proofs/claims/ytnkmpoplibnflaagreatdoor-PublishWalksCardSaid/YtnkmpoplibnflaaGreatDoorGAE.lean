/-
  CONTRACT of name.Parse. Conditions: a text of few bytes; the library's variables lie as they are laid.
  PLAIN VIEWS: what a listing tells of a chain, and which names are left over. No program in sight; no condition.
  PLAIN VIEWS, second part: what a name more, or a name less, does to a view. No program in sight; no condition.
-/
import Derived.Test.YtnkmpoplibnflaaGreatDoorGAD
import Derived.Test.YtnkmpoplibnflaaGreatDoorGAB
import Derived.Lib.SlicesCompact
import Derived.Lib.SlBy
set_option maxRecDepth 100000
set_option maxHeartbeats 16000000
namespace Go.Proofs.YtnkmpoplibnflaaGreatDoor
open Go.RowKit
structure Env (w : World) : Prop where
 tab : Tab w
 max : ∃ m, w.cell? ⟨1, 0, none⟩ = some (.int .i64 m)
 syn : ∃ ev, w.cell? ⟨4, 0, none⟩ = some ev /\ (ev = .nilIface \/ ∃ t p, ev = .iface t p)
 rng : ∃ ev, w.cell? ⟨5, 0, none⟩ = some ev /\ (ev = .nilIface \/ ∃ t p, ev = .iface t p)
theorem Env.ext {w w' : World} (h : Env w) (hu : Ext w w') : Env w' := by
 obtain ⟨h1, ⟨m, h2⟩, ⟨e1, h3, k3⟩, ⟨e2, h4, k4⟩⟩ := h
 exact ⟨tab_ext h1 hu, ⟨m, hu.cell h2 id⟩, ⟨e1, hu.cell h3 id, k3⟩, ⟨e2, hu.cell h4 id, k4⟩⟩
theorem ext_below {w w' : World} (h : Below w.heap.size w w') : Ext w w' := ⟨h.os, h.tape, h.output, h.size, fun k hk _ => h.block k hk⟩
theorem bytesWorld_ext (w : World) (t : TypeId) (s : ByteArray) : Ext w (Lib.bytesWorld w t s) := ext_below (Lib.bytesWorld_below _ _ _)
theorem pUint_ok (w : World) (s : List UInt8) (u : Nat) (hs : s.length <= 1000000) (h : Lib.parseUintB 64 s = .ok u) :
  Calls Tryz.prog 119 #[str s, .int .i64 10, .int .i64 64] w fun e w' => e = .returned (.tuple #[.int .u64 u, .nilIface]) /\ Ext w w' := by
 refine (Tryz.strconv_ParseUint_10_at64_ok ⟨s.toArray⟩ (by show s.length <= _; omega) u h w).mono ?_
 rintro e w' ⟨rfl, rfl | rfl⟩
 ·exact ⟨rfl, uZ⟩
 ·exact ⟨rfl, bytesWorld_ext _ _ _⟩
theorem pUint_bad (w : World) (s : List UInt8) (hs : s.length <= 1000000) (h : ∀ u, Lib.parseUintB 64 s ≠ .ok u) (hE : Env w) :
  Calls Tryz.prog 119 #[str s, .int .i64 10, .int .i64 64] w fun e w' => ∃ n t p, e = .returned (.tuple #[.int .u64 n, .iface t p]) /\ Ext w w' := by
 obtain ⟨e1, h3, k3⟩ := hE.syn
 obtain ⟨e2, h4, k4⟩ := hE.rng
 cases hp : Lib.parseUintB 64 s with
 | ok u => exact absurd hp (h u)
 | «syntax» =>
  refine (Tryz.strconv_ParseUint_10_at64_syntax ⟨s.toArray⟩ (by show s.length <= _; omega) hp _ w h3 k3).mono ?_
  rintro e w' ⟨N, rfl, -, -, hb⟩
  exact ⟨_, _, _, rfl, ext_below hb⟩
 | range =>
  refine (Tryz.strconv_ParseUint_10_at64_range ⟨s.toArray⟩ (by show s.length <= _; omega) hp _ w h4 k4).mono ?_
  rintro e w' ⟨N, rfl, -, -, hb⟩
  exact ⟨_, _, _, rfl, ext_below hb⟩
theorem split_any (w : World) (s : List UInt8) (hs : s.length <= 1000000) (hE : Env w) :
  Calls Tryz.prog 117 #[str s, str [45]] w fun e w' => e = .returned (.slice (some ⟨w.heap.size, 0, none⟩) (splitF s).length (splitF s).length) /\ w' = w.alloc (.cells (strs (splitF s)).toArray 9) := by
 obtain ⟨m, hm⟩ := hE.max
 refine (Tryz.strings_Split ⟨s.toArray⟩ ⟨#[45]⟩ m w (by show s.length < _; omega) hm (by decide)).mono ?_
 rintro e w' ⟨rfl, rfl⟩
 obtain ⟨h1, h2⟩ := split_is s
 have hc : Lib.countB ⟨s.toArray⟩ ⟨#[45]⟩ = Lib.count s [45] := rfl
 have hd := Lib.splitB_data ⟨#[45]⟩ 0 (Lib.countB ⟨s.toArray⟩ ⟨#[45]⟩) ⟨s.toArray⟩
 rw [show (⟨s.toArray⟩ : ByteArray).data.toList = s from rfl, show (⟨#[45]⟩ : ByteArray).data.toList = [45] from rfl, hc, h1] at hd
 refine ⟨by rw [hc, <- h2], ?_⟩
 rw [hc, <- hd]
 congr 3
 unfold strs
 rw [List.map_map]
 exact List.map_congr_left fun b _ => rfl
def heads4 : List (List UInt8) := [[115], [98], [116], [106]]
theorem idx_kind (x : List UInt8) : idxF x heads4 = (kindF x : Int) - 1 := by
 unfold heads4 kindF
 by_cases h1 : x = [115]
 ·subst h1; decide
 ·by_cases h2 : x = [98]
  ·subst h2; decide
  ·by_cases h3 : x = [116]
   ·subst h3; decide
   ·by_cases h4 : x = [106]
    ·subst h4; decide
    ·rw [if_neg h1, if_neg h2, if_neg h3, if_neg h4]
     rw [idxF_none (fun k hk => by
      have hk' : k < 4 := hk
      have e : k = 0 \/ k = 1 \/ k = 2 \/ k = 3 := by omega
      rcases e with rfl | rfl | rfl | rfl
      ·exact fun e => h1 e.symm
      ·exact fun e => h2 e.symm
      ·exact fun e => h3 e.symm
      ·exact fun e => h4 e.symm)]; rfl
theorem kindF_le (x : List UInt8) : kindF x <= 4 := by unfold kindF; (repeat' split) <;> omega
theorem counts_int {k : Nat} (h1 : 1 <= k) (h2 : k <= 4) (W : World) : (Instr.index 106 (.agg countsV) (.int .i64 (k : Int))).run Tryz.prog W = .ok (.int .i64 (countF k : Int)) W := by
 have : k = 1 \/ k = 2 \/ k = 3 \/ k = 4 := by omega
 have u := Tryz.underlying106
 rcases this with rfl | rfl | rfl | rfl <;> (unfold countsV countF; simp [Instr.index, run_underlying u, asIntOf, go_sem])
theorem row_words (w : World) (l : List (List UInt8)) (n : Nat) (hl : l.length <= maxLen) (hn : n = w.heap.size) : Texts (At n) (w.alloc (.cells (strs l).toArray 9)) (.slice (some ⟨n, 0, none⟩) l.length l.length) l := by
 have := row_new w (strs l).toArray 9 l.length n hl hn
 simpa using this
theorem row_heads {w : World} {g : Nat} (h : w.heap[g]? = some (.cells headsV 102)) : Texts (At g) w (.slice (some ⟨g, 1, none⟩) 4 4) heads4 := by
 refine ⟨_, _, rfl, Nat.le_refl _, by unfold maxLen; omega, fun e => (by cases e), fun x e _ => (by cases e; exact ⟨rfl, rfl⟩), fun b o hbo j u hj => ?_⟩
 cases hbo
 have hj' : j < 4 := by have := (List.getElem?_eq_some_iff.1 hj).1; simpa [heads4] using this
 have e : j = 0 \/ j = 1 \/ j = 2 \/ j = 3 := by omega
 rcases e with rfl | rfl | rfl | rfl <;> (simp [heads4] at hj; subst hj; exact cZ h _ _ rfl)
def npAVal (g4 g5 n K : Nat) (w0 : List UInt8) : Nat -> Value
 | 0 => .slice (some ⟨g5, 1, none⟩) 4 4
 | 1 => .slice (some ⟨g4, 0, none⟩) n n
 | 2 => .pointer (some ⟨g4, 0, none⟩)
 | 3 => str w0
 | 4 => .int .i64 ((K : Int) - 1)
 | 5 => .int .i64 (K : Int)
 | 6 => .int .i64 (K : Int)
 | _ => undef
def npADst (i : Nat) : Tmp := if i = 6 then 6 else 15 + i
theorem npADst_ne {j t : Nat} (ht : t = 4 \/ t = 5) (e : npADst j = t) : False := by
 unfold npADst at e
 have e : (if j = 6 then 6 else 15 + j : Nat) = t := e
 rcases ht with rfl | rfl <;> (repeat' (split at e)) <;> omega
def npAPhi (g4 g5 n K : Nat) (w0 : List UInt8) (i : Nat) (v : Value) (w : World) : Prop := v = npAVal g4 g5 n K w0 i
theorem npAPhi.ext {g4 g5 n K : Nat} {w0 : List UInt8} {i : Nat} {v : Value} {w w' : World} (h : npAPhi g4 g5 n K w0 i v w) (hu : Ext w w') : npAPhi g4 g5 n K w0 i v w' := by
 unfold npAPhi at h ⊢
 exact h
theorem ext_res {w wx : World} {g : Nat} {cs : Array Value} (h : Ext w wx) (hg : g = w.heap.size) : Ext w (wx.setRow g cs) := h.step (Upd.row wx g cs) fun i hi e => by
 unfold At at e; omega
theorem split_len : ∀ s : List UInt8, ∀ w ∈ splitF s, w.length <= s.length
 | [] => by simp [splitF]
 | c :: r => by
  have ih := split_len r
  obtain ⟨w, ws, e⟩ := splitF_cons r
  unfold splitF
  rw [e] at ih ⊢
  split
  ·intro x hx
   simp only [List.mem_cons] at hx
   rcases hx with rfl | hx
   ·simp
   ·have := ih x (by simpa using hx); simp; omega
  ·intro x hx
   simp only [List.headD_cons, List.tail_cons, List.mem_cons] at hx
   rcases hx with rfl | hx
   ·have := ih w (by simp); simp; omega
   ·have := ih x (by simp [hx]); simp; omega
theorem Tryz.fourT {l : List Nat} : StructT Tryz.prog 104 (four l).size := ⟨_, Tryz.underlying104, rfl, by kernel_rfl⟩
theorem numsP_snoc : ∀ {ws : List (List UInt8)} {dn : List Nat} {x : List UInt8} {u : Nat}, numsP ws = some dn -> numF x = some u -> numsP (ws ++ [x]) = some (dn ++ [u])
 | [], dn, x, u, h, hu => by simp only [numsP, Option.some.injEq] at h; subst h; simp [numsP, hu]
 | v :: r, dn, x, u, h, hu => by
  unfold numsP at h
  split at h
  ·rename_i a l ha hl
   cases h
   rw [List.cons_append, numsP, ha, numsP_snoc hl hu]; rfl
  ·cases h
theorem numsP_bad : ∀ {ws : List (List UInt8)} {k : Nat} (hk : k < ws.length), numF ws[k] = none -> numsP ws = none
 | v :: r, 0, _, h => by
  have h : numF v = none := h
  unfold numsP; rw [h]
 | v :: r, k + 1, hk, h => by
  have h' : numF (r[k]'(by simpa using hk)) = none := by simpa using h
  unfold numsP
  rw [numsP_bad (by simpa using hk) h']
  cases numF v <;> rfl
theorem four_set {dn : List Nat} {k : Nat} (hk : dn.length = k) (h4 : k < 4) (u : Nat) : (four dn).setIfInBounds k (u64 u) = four (dn ++ [u]) := by
 have e : k = 0 \/ k = 1 \/ k = 2 \/ k = 3 := by omega
 rcases e with rfl | rfl | rfl | rfl
 ·obtain rfl : dn = [] := List.eq_nil_of_length_eq_zero hk
  rfl
 ·match dn, hk with
  | [a], _ => rfl
 ·match dn, hk with
  | [a, b], _ => rfl
 ·match dn, hk with
  | [a, b, c], _ => rfl
def ParsePost (s : List UInt8) (w : World) (e : Ending) (w' : World) : Prop := e = .returned (.tuple #[.agg (nmCells (parseF s).1), .bool (parseF s).2]) /\ Ext w w'
theorem parse_any (w : World) (s : List UInt8) (hs : s.length <= 1000000) (hE : Env w) :
  Calls Tryz.prog 106 #[str s] w (ParsePost s w) := by
 obtain ⟨w0, ws, hsp⟩ := splitF_cons s
 have hpf : parseF s = parseW (w0 :: ws) := by unfold parseF; rw [hsp]
 have HSP := zq hsp
 have HPF := zq hpf
 have hx0 : Ext w (w.alloc (.cells #[.int .u8 0, .int .u64 0, .int .u64 0, .int .u64 0, .int .u64 0, .int .u64 0] 78)) := uZ.alloc _
 have hb0 := newAt w (.cells #[.int .u8 0, .int .u64 0, .int .u64 0, .int .u64 0, .int .u64 0, .int .u64 0] 78)
 obtain ⟨wa, hwa⟩ : ∃ u, u = w.alloc (.cells #[.int .u8 0, .int .u64 0, .int .u64 0, .int .u64 0, .int .u64 0, .int .u64 0] 78) := ⟨_, rfl⟩
 obtain ⟨g2, hg2⟩ : ∃ u, u = w.heap.size := ⟨_, rfl⟩
 rw [<- hwa] at hx0 hb0
 rw [<- hg2] at hb0
 have HX0 := zq hx0
 have HR0 := zq hb0
 have HWA := zq hwa
 have HG2 := zq hg2
 have HE := zq hE
 have HS := zq hs
 clear hsp hpf hx0 hb0 hwa hg2 hE hs
 go_enter Tryz.func106, Tryz.ntmps106
 go_upto_region 1 with (fail)
 rw [show w.alloc (.cells #[.int .u8 0, .int .u64 0, .int .u64 0, .int .u64 0, .int .u64 0, .int .u64 0] 78) = wa from HWA.out.symm, show w.heap.size = g2 from HG2.out.symm]
 go_wp2_with (go_at_call 117; fail)
 refine (split_any wa s HS.out (HE.out.ext HX0.out)).mono ?_
 rintro e w1 ⟨rfl, hw1⟩
 have hlen : (splitF s).length = ws.length + 1 := by rw [HSP.out]; rfl
 have hlb : ws.length + 1 <= 1000001 := by
  have := (split_is s).2
  have hcl := Lib.countB_le ⟨#[45]⟩ (by decide) s.length ⟨s.toArray⟩ (Nat.le_refl _)
  have : Lib.count s [45] <= s.length := hcl
  have := HS.out; omega
 have hrow := row_words wa (splitF s) wa.heap.size (by rw [hlen]; unfold maxLen; omega) rfl
 rw [<- hw1] at hrow
 rw [hlen] at hrow ⊢
 rw [HSP.out] at hrow
 obtain ⟨g4, hg4⟩ : ∃ u, u = wa.heap.size := ⟨_, rfl⟩
 rw [<- hg4] at hrow ⊢
 have hx1 : Ext wa w1 := by rw [hw1]; exact uZ.alloc _
 have HX1 := zq (HX0.out.trans hx1)
 have HR1 := zq (hx1.at_ HR0.out id)
 have HROW1 := zq hrow
 have HLB := zq hlb
 have hg21 : g2 < w1.heap.size := lZ HR1.out
 clear hw1 hlen hrow hg4 hx1 hlb hg21
 go_wp2_with (go_at_call 41; fail)
 refine (heads_any w1).mono ?_
 rintro e w2 ⟨rfl, hx2⟩
 have hN := newAt w2 (.cells headsV 102)
 have hx3 : Ext w2 (w2.alloc (.cells headsV 102)) := uZ.alloc _
 obtain ⟨w3, hw3⟩ : ∃ u, u = w2.alloc (.cells headsV 102) := ⟨_, rfl⟩
 obtain ⟨g5, hg5⟩ : ∃ u, u = w2.heap.size := ⟨_, rfl⟩
 rw [<- hw3] at hN hx3
 rw [<- hg5] at hN
 have HN := zq hN
 have HW3 := zq hw3
 have HG5 := zq hg5
 have HX3 := zq (HX1.out.trans (hx2.trans hx3))
 have HR3 := zq ((hx2.trans hx3).at_ HR1.out id)
 have HROW3 := zq (HROW1.out.ext (hx2.trans hx3))
 have HH4 := zq (row_heads hN)
 clear hN hx3 hw3 hg5 hx2
 rw [show headsV = #[str [], str [115], str [98], str [116], str [106]] from rfl]
 go_upto_region 3 with (fail)
 rw [show w2.alloc (.cells #[str [], str [115], str [98], str [116], str [106]] 102) = w3 from HW3.out.symm, show w2.heap.size = g5 from HG5.out.symm]
 obtain ⟨K, hK⟩ : ∃ K, K = kindF w0 := ⟨_, rfl⟩
 have HK := zq hK
 have hki := idx_kind w0
 rw [<- hK] at hki
 have HKI := zq hki
 have hk4 : K <= 4 := by rw [hK]; exact kindF_le _
 clear hki hK
 refine wp_region_invH Nothing (fun _ => Ext) 1000 npADst (npAPhi g4 g5 (ws.length + 1) K w0) 63 (by kernel_rfl) (by decide) (by decide) rfl (fun i hi => .inl ((by decide : ∀ i, i < 7 -> npADst i < 63) i hi)) (fun i w w' h => ⟨h, fun _ => h⟩) (fun i j v w w' _ _ _ _ h hu => h.ext hu) ?_ ?_
 ·intro i o b' w1' ho hx1' hd hk hE hSZ
  have hi : i < 7 := (Array.getElem?_eq_some_iff.1 ho).1
  have his : i = 0 \/ i = 1 \/ i = 2 \/ i = 3 \/ i = 4 \/ i = 5 \/ i = 6 := by omega
  clear hE hSZ
  have HW1 := zq hx1'
  clear hx1'
  rcases his with rfl | rfl | rfl | rfl | rfl | rfl | rfl
  all_goals (simp at ho; subst ho)
  case inl =>
   refine .inl ⟨rfl, ?_⟩
   have o5 : b'.tmps[5]?.getD undef = .pointer (some ⟨g5, 0, none⟩) := tAt (hk 5 (fun j oj _ e => (npADst_ne (by decide) e).elim))
   clear hd hk
   go_step
   exact ⟨_, rfl, rfl, uZ⟩
  ·
   refine .inl ⟨rfl, ?_⟩
   have o4 : b'.tmps[4]?.getD undef = .slice (some ⟨g4, 0, none⟩) (ws.length + 1) (ws.length + 1) := tAt (hk 4 (fun j oj _ e => (npADst_ne (by decide) e).elim))
   clear hd hk
   go_step
   exact ⟨_, rfl, rfl, uZ⟩
  ·
   refine .inl ⟨rfl, ?_⟩
   have e1 : b'.tmps[16]?.getD undef = .slice (some ⟨g4, 0, none⟩) (ws.length + 1) (ws.length + 1) := tAt (hd ⟨1, .data⟩ (by simp) rfl)
   clear hd hk
   go_step
   exact ⟨_, rfl, rfl, uZ⟩
  ·
   refine .inl ⟨rfl, ?_⟩
   have e2 : b'.tmps[17]?.getD undef = .pointer (some ⟨g4, 0, none⟩) := tAt (hd ⟨2, .data⟩ (by simp) rfl)
   clear hd hk
   have hc := (HROW3.out.ext HW1.out).addr (by simp)
   obtain ⟨b1, o1, c1, e1, -, -, -, hq1⟩ := hc
   cases e1
   have hc0 := texts_cell (l := w0 :: ws) hq1 0 (by simp)
   simp only [Nat.add_zero, List.getElem_cons_zero] at hc0
   go_step
   exact ⟨_, rfl, rfl, uZ⟩
  ·
   refine .inl ⟨rfl, ?_⟩
   have e0 : b'.tmps[15]?.getD undef = .slice (some ⟨g5, 1, none⟩) 4 4 := tAt (hd ⟨0, .data⟩ (by simp) rfl)
   have e3 : b'.tmps[18]?.getD undef = str w0 := tAt (hd ⟨3, .data⟩ (by simp) rfl)
   clear hd hk
   go_step
   rw [show (str w0) = str w0 from rfl]
   refine (index_any w1' _ heads4 w0 (HH4.out.ext HW1.out)).mono ?_
   rintro e w2 ⟨rfl, hu⟩
   exact ⟨_, rfl, by rw [HKI.out]; rfl, hu⟩
  ·
   refine .inl ⟨rfl, ?_⟩
   have e4 : b'.tmps[19]?.getD undef = .int .i64 ((K : Int) - 1) := tAt (hd ⟨4, .data⟩ (by simp) rfl)
   clear hd hk
   go_step
   exact ⟨_, rfl, rfl, uZ⟩
  ·
   refine .inl ⟨rfl, ?_⟩
   have e5 : b'.tmps[20]?.getD undef = .int .i64 (K : Int) := tAt (hd ⟨5, .data⟩ (by simp) rfl)
   clear hd hk
   go_step
   exact ⟨_, rfl, rfl, uZ⟩
 ·intro v w1' hx1' hp
  have h6 : v 6 = .int .i64 (K : Int) := hp 6 (by decide)
  have HX4 := zq (HX3.out.trans hx1')
  have HR4 := zq (hx1'.at_ HR3.out id)
  have HROW4 := zq (HROW3.out.ext hx1')
  clear hp hx1'
  simp only [List.size_toArray, List.length_cons, List.length_nil, Nat.reduceAdd, fillAll, npADst]
  go_simp
  clear h6
  by_cases hk0 : K = 0
  ·subst hk0
   have hp : parseF s = (Nm.zero, false) := by rw [HPF.out]; unfold parseW; exact if_pos (.inl HK.out.symm)
   have HP := zq hp
   clear hp
   go_wp2_with (refine wpList_store_blk rfl _ _ _ rfl rfl (cells := nmCells Nm.zero) rfl HR4.out (Tryz.nmT _) rfl (nmCells_one _) ?_)
   go_wp2
   refine bodyPost_blk2 rfl rfl rfl (setRow_heap _ _ _ _ _ _ HR4.out) (Tryz.nmT _) ?_
   exact ⟨by rw [HP.out]; rfl, ext_res HX4.out HG2.out⟩
  ·have hk1 : 1 <= K := by omega
   have f0 : ((K : Int) == 0) = false := by simp; omega
   have HCI := zq (counts_int hk1 hk4)
   have HK0 := zq hk0
   clear hk0
   go_wp2_with (go_at_call 43; fail)
   refine (counts_any _).mono ?_
   rintro e w5 ⟨rfl, hx5⟩
   have hci := HCI.out w5
   have HX5 := zq (HX4.out.trans hx5)
   have HR5 := zq (hx5.at_ HR4.out id)
   have HROW5 := zq (HROW4.out.ext hx5)
   have hcl := countF_le K
   clear hx5
   by_cases hl : ws.length = countF K
   case neg =>
    have hp : parseF s = (Nm.zero, false) := by rw [HPF.out]; unfold parseW; exact if_pos (.inr (by rw [<- HK.out]; exact hl))
    have HP := zq hp
    have fl : (((ws.length : Int) + 1) != ((countF K : Int) + 1)) = true := by simp; omega
    clear hp hl
    go_wp2_with (refine wpList_store_blk rfl _ _ _ rfl rfl (cells := nmCells Nm.zero) rfl HR5.out (Tryz.nmT _) rfl (nmCells_one _) ?_)
    go_wp2
    refine bodyPost_blk2 rfl rfl rfl (setRow_heap _ _ _ _ _ _ HR5.out) (Tryz.nmT _) ?_
    exact ⟨by rw [HP.out]; rfl, ext_res HX5.out HG2.out⟩
   have fl : (((ws.length : Int) + 1) != ((countF K : Int) + 1)) = false := by simp; omega
   have hws2 : 2 <= ws.length := by omega
   have hws4 : ws.length <= 4 := by omega
   have hwne : ¬ ws = [] := by intro e; rw [e] at hws2; simp at hws2
   have HL := zq hl
   clear hl
   have hN6 := newAt w5 (.cells (four []) 104)
   have hx6 : Ext w5 (w5.alloc (.cells (four []) 104)) := uZ.alloc _
   obtain ⟨w6, hw6⟩ : ∃ u, u = w5.alloc (.cells (four []) 104) := ⟨_, rfl⟩
   obtain ⟨ga, hga⟩ : ∃ u, u = w5.heap.size := ⟨_, rfl⟩
   rw [<- hw6] at hN6 hx6
   rw [<- hga] at hN6
   have hg4lt : g4 < w5.heap.size := by
    obtain ⟨b1, o1, c1, e1, -, -, -, hq1⟩ := HROW5.out.addr (by simp)
    cases e1
    exact World.block_lt_of_cell? w5 ⟨g4, 0 + 0, none⟩ (texts_cell (l := w0 :: ws) hq1 0 (by simp))
   have hg2lt : g2 < w5.heap.size := lZ HR5.out
   have HGA := zq hga
   have HN6 := zq hN6
   have HW6 := zq hw6
   have HX6 := zq (HX5.out.trans hx6)
   have HR6 := zq (hx6.at_ HR5.out id)
   have HROW6 := zq (HROW5.out.ext hx6)
   have HG4 := zq (show ¬ g4 = ga by omega)
   have HG2A := zq (show ¬ g2 = ga by omega)
   clear hN6 hx6 hw6 hga hg4lt hg2lt
   go_upto_region 7 with (fail)
   clear hcl
   rw [show w5.alloc (.cells #[.int .u64 0, .int .u64 0, .int .u64 0, .int .u64 0] 104) = w6 from HW6.out.symm, show w5.heap.size = ga from HGA.out.symm]
   go_wp2
   go_loopw [36] (fun i wr => ∃ (k : Nat) (dn : List Nat), k <= ws.length /\ i = .int .i64 k /\ dn.length = k /\ numsP (ws.take k) = some dn /\ wr.heap[ga]? = some (.cells (four dn) 104) /\ Upd (At ga) w6 wr) (fun i _ => ws.length - (intOf i).toNat)
   case atStart => exact ⟨0, [], Nat.zero_le _, rfl, rfl, rfl, HN6.out, uZ⟩
   case round =>
    obtain ⟨k, dn, hk, rfl, hdl, hnp, hga, hx⟩ := hrel
    have HNP := zq hnp
    have HGAB := zq hga
    have HDL := zq hdl
    have HXR := zq (show Ext w wr from HX6.out.step hx (fun i hi e => by unfold At at e; have := HGA.out; have := HX5.out.size; omega))
    have HRR := zq (hx.at_ HR6.out (fun e => HG2A.out e))
    have HX := zq hx
    by_cases hlt : k < ws.length
    ·obtain ⟨b1, o1, c1, e1, -, -, -, hq1⟩ := (HROW6.out.upd hx (fun j hj e => by unfold At at hj e; exact HG4.out (by omega))).addr (by simp)
     cases e1
     have hc := texts_cell (l := w0 :: ws) hq1 (k + 1) (by simp; omega)
     simp only [List.getElem_cons_succ] at hc
     rw [show 0 + (k + 1) = 1 + k by omega] at hc
     have hxl : (ws[k]).length <= 1000000 := by
      have := split_len s (ws[k]) (by rw [HSP.out]; simp)
      have := HS.out; omega
     have hsn : ws.take (k + 1) = ws.take k ++ [ws[k]] := List.take_succ_eq_append_getElem hlt
     have hbad := numsP_bad (ws := ws) hlt
     obtain ⟨x, hxe⟩ : ∃ x, x = ws[k] := ⟨_, rfl⟩
     rw [<- hxe] at hc hxl hsn hbad
     have HXL := zq hxl
     have HSN := zq hsn
     have HBAD := zq (show numF x = none -> parseF s = (Nm.zero, false) from fun h => by
      rw [HPF.out]
      rcases parseW_cases w0 ws with ⟨l, hn, -⟩ | hp
      ·rw [hbad h] at hn; cases hn
      ·exact hp)
     clear hx hq1 hxl hsn hbad hnp hga hdl hxe
     by_cases hpu : ∃ u, Lib.parseUintB 64 x = .ok u
     case neg =>
      have hb : ∀ u, Lib.parseUintB 64 x ≠ .ok u := fun u e => hpu ⟨u, e⟩
      have HB := zq hb
      have HN := zq (show numF x = none by
       unfold numF
       split
       ·rename_i u hu; exact absurd hu (hb u)
       ·rfl)
      clear hpu hb
      go_wp2_with (go_at_call 119; fail)
      refine (pUint_bad _ x HXL.out HB.out (HE.out.ext HXR.out)).mono ?_
      rintro e w7 ⟨n7, t7, p7, rfl, hx7⟩
      have HR7 := zq (hx7.at_ HRR.out id)
      have HX7 := zq (HXR.out.trans hx7)
      clear hx7
      go_wp2_with (refine wpList_store_blk rfl _ _ _ rfl rfl (cells := nmCells Nm.zero) rfl HR7.out (Tryz.nmT _) rfl (nmCells_one _) ?_)
      go_wp2
      refine bodyPost_blk2 rfl rfl rfl (setRow_heap _ _ _ _ _ _ HR7.out) (Tryz.nmT _) ?_
      exact ⟨by rw [HBAD.out HN.out]; rfl, ext_res HX7.out HG2.out⟩
     obtain ⟨u, hu⟩ := hpu
     have HU := zq hu
     have hu64 : u < 18446744073709551616 := by
      unfold Lib.parseUintB at hu
      split at hu
      ·cases hu
      ·have := Lib.parseUintM_le _ _ _ _ (by omega) hu
       have h64 : (2 : Nat) ^ 64 - 1 = 18446744073709551615 := by decide
       omega
     clear hu
     go_wp2_with (go_at_call 119; fail)
     refine (pUint_ok _ x u HXL.out HU.out).mono ?_
     rintro e w7 ⟨rfl, hx7⟩
     have HX7 := zq (HXR.out.trans hx7)
     have HXA := zq (HX.out.ext hx7)
     have HR7 := zq (hx7.at_ HRR.out id)
     have HGA7 := zq (hx7.at_ HGAB.out id)
     clear hx7
     go_wp2_with (go_at_call 44; fail)
     refine (fmtUint_any _ u hu64 (HE.out.ext HX7.out).tab).mono ?_
     rintro e w8 ⟨rfl, hx8⟩
     have HX8 := zq (HX7.out.trans hx8)
     have HXA8 := zq (HXA.out.ext hx8)
     have HR8 := zq (hx8.at_ HR7.out id)
     have HGA8 := zq (hx8.at_ HGA7.out id)
     clear hx8
     obtain ⟨D, hD⟩ : ∃ D, D = Lib.decDigits u := ⟨_, rfl⟩
     rw [<- hD]
     have HD := zq hD
     clear hD
     by_cases hdx : D = x
     case neg =>
      have hb : ((⟨D.toArray⟩ : ByteArray).toList != (⟨x.toArray⟩ : ByteArray).toList) = true := by
       rw [bne_iff_ne, bytes_toList, bytes_toList]; exact hdx
      have hb2 : (D == x) = false := by rw [beq_eq_false_iff_ne]; exact hdx
      have HN := zq (show numF x = none by
       unfold numF; rw [HU.out]; dsimp only; rw [if_neg (by rw [<- HD.out]; exact hdx)])
      clear hdx
      go_wp2_with (refine wpList_store_blk rfl _ _ _ rfl rfl (cells := nmCells Nm.zero) rfl HR8.out (Tryz.nmT _) rfl (nmCells_one _) ?_)
      go_wp2
      refine bodyPost_blk2 rfl rfl rfl (setRow_heap _ _ _ _ _ _ HR8.out) (Tryz.nmT _) ?_
      exact ⟨by rw [HBAD.out HN.out]; rfl, ext_res HX8.out HG2.out⟩
     have HNF := zq (show numF x = some u by unfold numF; rw [HU.out]; dsimp only; rw [if_pos (by rw [<- HD.out]; exact hdx)])
     subst hdx
     have hk4 : k < 4 := by omega
     have hfz := freeAt HGA8.out k
     have hcell := cZ HGA8.out k _ (show (four dn)[k]? = some ((four dn)[k]'(by show k < 4; exact hk4)) from Array.getElem?_eq_getElem _)
     have hgal := lZ HGA8.out
     go_wp2
     go_roundw
     case rel =>
      refine ⟨k + 1, dn ++ [u], by omega, by go_num, by rw [List.length_append, HDL.out]; rfl, by rw [HSN.out]; exact numsP_snoc HNP.out HNF.out, ?_, HXA8.out.setCell (p := ⟨ga, k, none⟩) (fun _ => rfl) _⟩
      rw [<- four_set HDL.out hk4]
      exact setAt HGA8.out
     case measure => simp [intOf]; omega
    ·have hkl : k = ws.length := by omega
     subst hkl
     rw [List.take_length] at hnp
     have hp : parseF s = (ofF K dn, true) := by
      rw [HPF.out]
      show (if kindF w0 = 0 \/ ws.length ≠ countF (kindF w0) then (Nm.zero, false) else match numsP ws with | some l => (ofF (kindF w0) l, true) | none => (Nm.zero, false)) = _
      rw [if_neg (by rw [<- HK.out]; intro h; rcases h with h | h; exact HK0.out h; exact h HL.out), hnp, <- HK.out]
     have HP := zq hp
     have hof := of_any wr K (dn.getD 0 0) (dn.getD 1 0) (dn.getD 2 0) (dn.getD 3 0)
     have he : ofF K [dn.getD 0 0, dn.getD 1 0, dn.getD 2 0, dn.getD 3 0] = ofF K dn := by
      unfold ofF; split
      ·simp
      ·split <;> simp
     rw [he] at hof
     have HOF := zq hof
     clear hp hof he hnp hx hga hdl
     go_wp2_with (first | (refine wpList_load_blk rfl _ _ rfl rfl HGAB.out Tryz.fourT ?_) | (go_at_call 51; fail))
     refine HOF.out.mono ?_
     rintro e w7 ⟨rfl, hx7⟩
     have HR7 := zq (hx7.at_ HRR.out id)
     have HX7 := zq (HXR.out.trans hx7)
     clear hx7
     go_wp2_with (refine wpList_store_blk rfl _ _ _ rfl rfl (cells := nmCells (ofF K dn)) rfl HR7.out (Tryz.nmT _) rfl (nmCells_one _) ?_)
     go_wp2
     refine bodyPost_blk2 rfl rfl rfl (setRow_heap _ _ _ _ _ _ HR7.out) (Tryz.nmT _) ?_
     exact ⟨by rw [HP.out]; rfl, ext_res HX7.out HG2.out⟩
end Go.Proofs.YtnkmpoplibnflaaGreatDoor
set_option maxRecDepth 100000
set_option maxHeartbeats 16000000
namespace Go.Proofs.YtnkmpoplibnflaaGreatDoor
open Go
structure Vw where
 chain : Nat
 floor : Nat
 tail : Nat
deriving DecidableEq
def hasF (l : List (List UInt8)) (kind chain n : Nat) : Bool := l.any fun s => (parseF s).2 && decide ((parseF s).1.kind = kind) && decide ((parseF s).1.doc = chain) && decide ((parseF s).1.n = n)
def floorStep (chain f : Nat) (s : List UInt8) : Nat := if (parseF s).2 = true /\ (parseF s).1.kind = 2 /\ (parseF s).1.doc = chain then max f (parseF s).1.n else f
def floorF (chain : Nat) (l : List (List UInt8)) : Nat := l.foldl (floorStep chain) 0
theorem floor_snoc (chain : Nat) (l : List (List UInt8)) (s : List UInt8) : floorF chain (l ++ [s]) = floorStep chain (floorF chain l) s := by simp [floorF]
theorem has_snoc (l : List (List UInt8)) (s : List UInt8) (kind chain n : Nat) : hasF (l ++ [s]) kind chain n = (hasF l kind chain n || ((parseF s).2 && decide ((parseF s).1.kind = kind) && decide ((parseF s).1.doc = chain) && decide ((parseF s).1.n = n))) := by simp [hasF]
theorem has_iff {l : List (List UInt8)} {kind chain n : Nat} : hasF l kind chain n = true ↔ ∃ s ∈ l, (parseF s).2 = true /\ (parseF s).1.kind = kind /\ (parseF s).1.doc = chain /\ (parseF s).1.n = n := by
 simp [hasF, and_assoc]
structure IsTail (p : Nat -> Bool) (floor t : Nat) : Prop where
 le : floor <= t
 lt : t < 18446744073709551616
 all : ∀ j, floor < j -> j <= t -> p j = true
 stop : t = 18446744073709551615 \/ p (t + 1) = false
theorem floor_iff (chain : Nat) : ∀ (l : List (List UInt8)) (f m : Nat), m < l.foldl (floorStep chain) f ↔ m < f \/ ∃ s ∈ l, (parseF s).2 = true /\ (parseF s).1.kind = 2 /\ (parseF s).1.doc = chain /\ m < (parseF s).1.n
 | [], f, m => by simp
 | s :: r, f, m => by
  rw [List.foldl_cons, floor_iff chain r]
  unfold floorStep
  constructor
  ·rintro (h | ⟨x, hx, h⟩)
   ·split at h
    ·rename_i hc
     rcases Nat.lt_or_ge m f with g | g
     ·exact .inl g
     ·exact .inr ⟨s, by simp, hc.1, hc.2.1, hc.2.2, by omega⟩
    ·exact .inl h
   ·exact .inr ⟨x, by simp [hx], h⟩
  ·rintro (h | ⟨x, hx, h⟩)
   ·left; split
    ·exact Nat.lt_of_lt_of_le h (Nat.le_max_left _ _)
    ·exact h
   ·rcases List.mem_cons.1 hx with rfl | hx
    ·left; rw [if_pos ⟨h.1, h.2.1, h.2.2.1⟩]; exact Nat.lt_of_lt_of_le h.2.2.2 (Nat.le_max_right _ _)
    ·exact .inr ⟨x, hx, h⟩
theorem floor_lt (chain : Nat) (l : List (List UInt8)) : floorF chain l < 18446744073709551616 := by
 by_cases h : 18446744073709551615 < floorF chain l
 ·rcases (floor_iff chain l 0 _).1 h with h | ⟨s, -, hs, -, -, hn⟩
  ·omega
  ·have := (put_parse hs).2.1.n; omega
 ·omega
end Go.Proofs.YtnkmpoplibnflaaGreatDoor
set_option maxRecDepth 100000
set_option maxHeartbeats 16000000
namespace Go.Proofs.YtnkmpoplibnflaaGreatDoor
open Go
end Go.Proofs.YtnkmpoplibnflaaGreatDoor
