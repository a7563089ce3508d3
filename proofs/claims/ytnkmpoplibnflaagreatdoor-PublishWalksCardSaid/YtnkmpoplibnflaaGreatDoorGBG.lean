/-
  CONTRACT of the reference's Put of a document. Condition: its bytes are at most 1000000.
  CONTRACT of the reference's ahead. No condition.
  CONTRACTS of the reference's Same of pins, of documents, at what is blank. No condition.
  CONTRACTS of the reference's frames: Put; Join of one frame. Condition: at most 65535 bytes.
-/
import Derived.Test.YtnkmpoplibnflaaGreatDoorGBD
import Derived.Test.YtnkmpoplibnflaaGreatDoorGBF
import Derived.Test.YtnkmpoplibnflaaGreatDoorGAS
import Derived.Test.YtnkmpoplibnflaaGreatDoorGAN
set_option maxRecDepth 100000
set_option maxHeartbeats 16000000
namespace Go.Proofs.YtnkmpoplibnflaaGreatDoor.Wk
open Go Go.Proofs.YtnkmpoplibnflaaGreatDoor Go.RowKit
def NumsP (l : List Nat) (v : Value) (w : World) : Prop := Nums (fun _ => True) w v l
theorem NumsP.ext {l : List Nat} {v : Value} {w w' : World} (h : NumsP l v w) (hu : Ext w w') : NumsP l v w' := by
 unfold NumsP at h ⊢
 exact Row.ext h hu
def OwnP (B : Nat) (l : List UInt8) (v : Value) (w : World) : Prop := w.ownsRow B 5 1 v l.length (l.map u8)
theorem OwnP.ext {B : Nat} {l : List UInt8} {v : Value} {w w' : World} (h : OwnP B l v w) (hu : Ext w w') : OwnP B l v w' := by
 unfold OwnP at h ⊢
 exact hu.ownsRow h (fun _ _ e => e)
theorem rflag_any (w : World) (n : Nat) (h : n <= 1) :
  Calls Tryz.prog 100 #[.bool ((n : Int) == 1)] w fun e w' => e = .returned (.int .u64 (n : Int)) /\ Ext w w' := by
 by_cases h1 : n = 1
 ·subst h1
  have hb : (((1 : Nat) : Int) == 1) = true := rfl
  rw [hb]
  go_enter Tryz.func100, Tryz.ntmps100
  go_wp2
  go_ret
  exact ⟨rfl, uZ⟩
 ·obtain rfl : n = 0 := by omega
  have hb : (((0 : Nat) : Int) == 1) = false := rfl
  rw [hb]
  go_enter Tryz.func100, Tryz.ntmps100
  go_wp2
  go_ret
  exact ⟨rfl, uZ⟩
def dwVal (B gd : Nat) (d : DocP) : Nat -> Value
 | 0 => .pointer (some ⟨gd, 0, none⟩)
 | 1 => .pointer (some ⟨gd, 0, none⟩)
 | 2 => .int .u64 (d.epoch : Int)
 | 3 => .pointer (some ⟨gd, 0, none⟩)
 | 4 => .pointer (some ⟨gd, 1, none⟩)
 | 5 => .int .u64 (d.proc : Int)
 | 6 => .pointer (some ⟨gd, 0, none⟩)
 | 7 => .pointer (some ⟨gd, 2, none⟩)
 | 8 => .int .u64 (d.inc : Int)
 | 9 => .pointer (some ⟨gd, 0, none⟩)
 | 10 => .pointer (some ⟨gd, 3, none⟩)
 | 11 => .int .u64 (d.until_ : Int)
 | 12 => .pointer (some ⟨gd, 0, none⟩)
 | 13 => .pointer (some ⟨gd, 4, none⟩)
 | 14 => .bool ((d.held : Int) == 1)
 | 15 => .int .u64 (d.held : Int)
 | 16 => .pointer (some ⟨gd, 7, none⟩)
 | 17 => .bool ((d.sealed_ : Int) == 1)
 | 18 => .int .u64 (d.sealed_ : Int)
 | _ => undef
def dwDst (i : Nat) : Tmp := if i = 21 then 6 else 21 + i
theorem dwDst_ne {j t : Nat} (ht : t = 1) (e : dwDst j = t) : False := by
 unfold dwDst at e
 have e : (if j = 21 then 6 else 21 + j : Nat) = t := e
 rcases ht with rfl <;> (repeat' (split at e)) <;> omega
def dwPhi (B gd : Nat) (d : DocP) (ix : Nat) (v : Value) (w : World) : Prop := if ix = 19 then NumsP d.nums v w else if ix = 20 then OwnP B (vputs d.nums) v w else if ix = 21 then OwnP B (vputs d.nums) v w else v = dwVal B gd d ix
theorem dwPhi.ext {B gd : Nat} {d : DocP} {ix : Nat} {v : Value} {w w' : World} (h : dwPhi B gd d ix v w) (hu : Ext w w') : dwPhi B gd d ix v w' := by
 unfold dwPhi at h ⊢
 by_cases c : ix = 19
 ·rw [if_pos c] at h ⊢; exact h.ext hu
 ·rw [if_neg c] at h ⊢
  by_cases c : ix = 20
  ·rw [if_pos c] at h ⊢; exact h.ext hu
  ·rw [if_neg c] at h ⊢
   by_cases c : ix = 21
   ·rw [if_pos c] at h ⊢; exact h.ext hu
   ·rw [if_neg c] at h ⊢
    exact h
structure DocB (d : DocP) : Prop where
 nums : ∀ n ∈ d.nums, n < 18446744073709551616
 pins : ∀ e ∈ d.pins, e.1 < 18446744073709551616 /\ e.2.1 < 18446744073709551616 /\ e.2.2 < 18446744073709551616
 vers : ∀ e ∈ d.vers, e.1 < 18446744073709551616
 held : d.held <= 1
 sealed_ : d.sealed_ <= 1
 rise : riseT d.pins = true
 right : verRight d.vers = true
theorem rdocPut_any {S1 S2 : Nat -> Prop} (w : World) (d : DocP) (pa va : Option Addr) (pc vc : Nat) (hB : DocB d) (hp : Row S1 w (.slice pa d.pins.length pc) d.pins.length (flatT d.pins)) (hv : Vers S2 w (.slice va d.vers.length vc) d.vers) (hlen : (encDoc d).length <= 1000000) :
  Calls Tryz.prog 75 #[.agg #[.int .u64 (d.epoch : Int), .int .u64 (d.proc : Int), .int .u64 (d.inc : Int), .int .u64 (d.until_ : Int), .bool ((d.held : Int) == 1), .slice pa d.pins.length pc, .slice va d.vers.length vc, .bool ((d.sealed_ : Int) == 1)]] w fun e w' => ∃ v', e = .returned (.tuple #[v', .int .i64 0]) /\ w'.ownsRow w.heap.size 5 1 v' (encDoc d).length ((encDoc d).map u8) /\ Ext w w' := by
 have HP := zq hp
 have HV := zq hv
 have HBB := zq hB
 have HENC := zq (show encDoc d = vputs d.nums ++ (encPins d.pins ++ vtext (encVers d.vers)) from rfl)
 have hl1 : (vputs d.nums).length + (encPins d.pins).length + (vtext (encVers d.vers)).length <= 1000000 := by
  have := congrArg List.length HENC.out; simp only [List.length_append] at this; omega
 have hl2 : (encVers d.vers).length <= 1000000 := by
  have : (vtext (encVers d.vers)).length = (vput (encVers d.vers).length).length + (encVers d.vers).length := by simp [vtext]
  omega
 have hpc : d.pins.length <= 1000000 := by
  have h1 := flat_count encTr (fun e => by have := vput_len1 e.1; simp [encTr]; omega) d.pins
  have : (encPins d.pins).length = (vput d.pins.length).length + ((d.pins.map encTr).flatten).length := by simp [encPins]
  omega
 obtain ⟨gd, hgd⟩ : ∃ g, g = w.heap.size := ⟨_, rfl⟩
 obtain ⟨w1, hw1⟩ : ∃ u, u = w.alloc (.cells #[.int .u64 (d.epoch : Int), .int .u64 (d.proc : Int), .int .u64 (d.inc : Int), .int .u64 (d.until_ : Int), .bool ((d.held : Int) == 1), .slice pa d.pins.length pc, .slice va d.vers.length vc, .bool ((d.sealed_ : Int) == 1)] 92) := ⟨_, rfl⟩
 have hx1 : Ext w w1 := by rw [hw1]; exact uZ.alloc _
 have hg1 : w1.heap[gd]? = some (.cells #[.int .u64 (d.epoch : Int), .int .u64 (d.proc : Int), .int .u64 (d.inc : Int), .int .u64 (d.until_ : Int), .bool ((d.held : Int) == 1), .slice pa d.pins.length pc, .slice va d.vers.length vc, .bool ((d.sealed_ : Int) == 1)] 92 (0, 0)) := by rw [hw1, hgd]; exact newAt _ _
 have HX1 := zq hx1
 have HG1 := zq hg1
 have HW1 := zq hw1
 have HGG := zq hgd
 clear hx1 hg1 hw1 hgd hlen hB hp hv
 go_enter Tryz.func75, Tryz.ntmps75
 go_upto_region 1 with fail
 rw [show w.alloc (.cells #[.int .u64 (d.epoch : Int), .int .u64 (d.proc : Int), .int .u64 (d.inc : Int), .int .u64 (d.until_ : Int), .bool ((d.held : Int) == 1), .slice pa d.pins.length pc, .slice va d.vers.length vc, .bool ((d.sealed_ : Int) == 1)] 92) = w1 from HW1.out.symm, show w.heap.size = gd from HGG.out.symm]
 have g6 := cZ HG1.out 6 _ rfl
 have gl := lZ HG1.out
 go_wp2_with (go_at_call 98; fail)
 refine (rverPut_any w1 _ d.vers (HV.out.ext HX1.out) HBB.out.right HBB.out.vers hl2).mono ?_
 rintro e w2 ⟨vv, rfl, hov, hx2⟩
 obtain ⟨sa, sc, rfl⟩ := ownsFormN hov
 have HX2 := zq (HX1.out.trans hx2)
 have HG2 := zq (hx2.at_ HG1.out id)
 have HOV := zq hov
 have g5 := cZ HG2.out 5 _ rfl
 have gl2 := lZ HG2.out
 clear hx2 hov g6 gl
 go_wp2_with (go_at_call 99; fail)
 refine (rpinsRight_any w2 _ d.pins (HP.out.ext HX2.out) hpc).mono ?_
 rintro e w3 ⟨rfl, hx3⟩
 rw [HBB.out.rise]
 have HX3 := zq (HX2.out.trans hx3)
 have HGD := zq (hx3.at_ HG2.out id)
 have HOV3 := zq (hx3.ownsRow HOV.out (fun _ _ e => e))
 have HH := zq HBB.out.held
 have HS := zq HBB.out.sealed_
 have HNB := zq HBB.out.nums
 obtain ⟨B, hBq⟩ : ∃ B, B = w3.heap.size := ⟨_, rfl⟩
 have HBS := zq (show B <= w3.heap.size by rw [hBq]; exact Nat.le_refl _)
 have HBQ := zq (And.intro (show w.heap.size <= B by rw [hBq]; exact HX3.out.size) (show w2.heap.size <= B by rw [hBq]; exact hx3.size))
 clear hx3 g5 gl2 hBq
 go_upto_region 4 with fail
 refine wp_region_invH Nothing (fun _ => Ext) 1000 dwDst (dwPhi B gd d) 52 (by kernel_rfl) (by decide) (by decide) rfl (fun i hi => .inl ((by decide : ∀ i, i < 22 -> dwDst i < 52) i hi)) (fun i w w' h => ⟨h, fun _ => h⟩) (fun i j v w w' _ _ _ _ h hu => h.ext hu) ?_ ?_
 ·intro i o b' w1' ho hx1' hd hk hE hSZ
  have hi : i < 22 := (Array.getElem?_eq_some_iff.1 ho).1
  have his : i = 0 \/ i = 1 \/ i = 2 \/ i = 3 \/ i = 4 \/ i = 5 \/ i = 6 \/ i = 7 \/ i = 8 \/ i = 9 \/ i = 10 \/ i = 11 \/ i = 12 \/ i = 13 \/ i = 14 \/ i = 15 \/ i = 16 \/ i = 17 \/ i = 18 \/ i = 19 \/ i = 20 \/ i = 21 := by omega
  clear hE hSZ
  have HW1 := zq hx1'
  clear hx1'
  rcases his with rfl | rfl | rfl | rfl | rfl | rfl | rfl | rfl | rfl | rfl | rfl | rfl | rfl | rfl | rfl | rfl | rfl | rfl | rfl | rfl | rfl | rfl
  all_goals (simp at ho; subst ho)
  ·
   refine .inl ⟨rfl, ?_⟩
   have o1 : b'.tmps[1]?.getD undef = .pointer (some ⟨gd, 0, none⟩) := tAt (hk 1 (fun j oj _ e => (dwDst_ne (by decide) e).elim))
   have q := lZ (HW1.out.at_ HGD.out id)
   clear hd hk
   go_step
   exact ⟨_, rfl, rfl, uZ⟩
  ·
   refine .inl ⟨rfl, ?_⟩
   have e0 : b'.tmps[21]?.getD undef = .pointer (some ⟨gd, 0, none⟩) := tAt (hd ⟨0, .data⟩ (by simp) rfl)
   have q := lZ (HW1.out.at_ HGD.out id)
   clear hd hk
   go_step
   exact ⟨_, rfl, rfl, uZ⟩
  ·
   refine .inl ⟨rfl, ?_⟩
   have e1 : b'.tmps[22]?.getD undef = .pointer (some ⟨gd, 0, none⟩) := tAt (hd ⟨1, .data⟩ (by simp) rfl)
   have q := cZ (HW1.out.at_ HGD.out id) 0 _ rfl
   clear hd hk
   go_step
   exact ⟨_, rfl, rfl, uZ⟩
  ·
   refine .inl ⟨rfl, ?_⟩
   have o1 : b'.tmps[1]?.getD undef = .pointer (some ⟨gd, 0, none⟩) := tAt (hk 1 (fun j oj _ e => (dwDst_ne (by decide) e).elim))
   have q := lZ (HW1.out.at_ HGD.out id)
   clear hd hk
   go_step
   exact ⟨_, rfl, rfl, uZ⟩
  ·
   refine .inl ⟨rfl, ?_⟩
   have e3 : b'.tmps[24]?.getD undef = .pointer (some ⟨gd, 0, none⟩) := tAt (hd ⟨3, .data⟩ (by simp) rfl)
   have q := lZ (HW1.out.at_ HGD.out id)
   clear hd hk
   go_step
   exact ⟨_, rfl, rfl, uZ⟩
  ·
   refine .inl ⟨rfl, ?_⟩
   have e4 : b'.tmps[25]?.getD undef = .pointer (some ⟨gd, 1, none⟩) := tAt (hd ⟨4, .data⟩ (by simp) rfl)
   have q := cZ (HW1.out.at_ HGD.out id) 1 _ rfl
   clear hd hk
   go_step
   exact ⟨_, rfl, rfl, uZ⟩
  ·
   refine .inl ⟨rfl, ?_⟩
   have o1 : b'.tmps[1]?.getD undef = .pointer (some ⟨gd, 0, none⟩) := tAt (hk 1 (fun j oj _ e => (dwDst_ne (by decide) e).elim))
   have q := lZ (HW1.out.at_ HGD.out id)
   clear hd hk
   go_step
   exact ⟨_, rfl, rfl, uZ⟩
  ·
   refine .inl ⟨rfl, ?_⟩
   have e6 : b'.tmps[27]?.getD undef = .pointer (some ⟨gd, 0, none⟩) := tAt (hd ⟨6, .data⟩ (by simp) rfl)
   have q := lZ (HW1.out.at_ HGD.out id)
   clear hd hk
   go_step
   exact ⟨_, rfl, rfl, uZ⟩
  ·
   refine .inl ⟨rfl, ?_⟩
   have e7 : b'.tmps[28]?.getD undef = .pointer (some ⟨gd, 2, none⟩) := tAt (hd ⟨7, .data⟩ (by simp) rfl)
   have q := cZ (HW1.out.at_ HGD.out id) 2 _ rfl
   clear hd hk
   go_step
   exact ⟨_, rfl, rfl, uZ⟩
  ·
   refine .inl ⟨rfl, ?_⟩
   have o1 : b'.tmps[1]?.getD undef = .pointer (some ⟨gd, 0, none⟩) := tAt (hk 1 (fun j oj _ e => (dwDst_ne (by decide) e).elim))
   have q := lZ (HW1.out.at_ HGD.out id)
   clear hd hk
   go_step
   exact ⟨_, rfl, rfl, uZ⟩
  ·
   refine .inl ⟨rfl, ?_⟩
   have e9 : b'.tmps[30]?.getD undef = .pointer (some ⟨gd, 0, none⟩) := tAt (hd ⟨9, .data⟩ (by simp) rfl)
   have q := lZ (HW1.out.at_ HGD.out id)
   clear hd hk
   go_step
   exact ⟨_, rfl, rfl, uZ⟩
  ·
   refine .inl ⟨rfl, ?_⟩
   have e10 : b'.tmps[31]?.getD undef = .pointer (some ⟨gd, 3, none⟩) := tAt (hd ⟨10, .data⟩ (by simp) rfl)
   have q := cZ (HW1.out.at_ HGD.out id) 3 _ rfl
   clear hd hk
   go_step
   exact ⟨_, rfl, rfl, uZ⟩
  ·
   refine .inl ⟨rfl, ?_⟩
   have o1 : b'.tmps[1]?.getD undef = .pointer (some ⟨gd, 0, none⟩) := tAt (hk 1 (fun j oj _ e => (dwDst_ne (by decide) e).elim))
   have q := lZ (HW1.out.at_ HGD.out id)
   clear hd hk
   go_step
   exact ⟨_, rfl, rfl, uZ⟩
  ·
   refine .inl ⟨rfl, ?_⟩
   have e12 : b'.tmps[33]?.getD undef = .pointer (some ⟨gd, 0, none⟩) := tAt (hd ⟨12, .data⟩ (by simp) rfl)
   have q := lZ (HW1.out.at_ HGD.out id)
   clear hd hk
   go_step
   exact ⟨_, rfl, rfl, uZ⟩
  ·
   refine .inl ⟨rfl, ?_⟩
   have e13 : b'.tmps[34]?.getD undef = .pointer (some ⟨gd, 4, none⟩) := tAt (hd ⟨13, .data⟩ (by simp) rfl)
   have q := cZ (HW1.out.at_ HGD.out id) 4 _ rfl
   clear hd hk
   go_step
   exact ⟨_, rfl, rfl, uZ⟩
  ·
   refine .inl ⟨rfl, ?_⟩
   have e14 : b'.tmps[35]?.getD undef = .bool ((d.held : Int) == 1) := tAt (hd ⟨14, .data⟩ (by simp) rfl)
   clear hd hk
   go_step
   refine (rflag_any w1' d.held HH.out).mono ?_
   rintro e w2 ⟨rfl, hu⟩
   exact ⟨_, rfl, rfl, hu⟩
  ·
   refine .inl ⟨rfl, ?_⟩
   have o1 : b'.tmps[1]?.getD undef = .pointer (some ⟨gd, 0, none⟩) := tAt (hk 1 (fun j oj _ e => (dwDst_ne (by decide) e).elim))
   have q := lZ (HW1.out.at_ HGD.out id)
   clear hd hk
   go_step
   exact ⟨_, rfl, rfl, uZ⟩
  ·
   refine .inl ⟨rfl, ?_⟩
   have e16 : b'.tmps[37]?.getD undef = .pointer (some ⟨gd, 7, none⟩) := tAt (hd ⟨16, .data⟩ (by simp) rfl)
   have q := cZ (HW1.out.at_ HGD.out id) 7 _ rfl
   clear hd hk
   go_step
   exact ⟨_, rfl, rfl, uZ⟩
  ·
   refine .inl ⟨rfl, ?_⟩
   have e17 : b'.tmps[38]?.getD undef = .bool ((d.sealed_ : Int) == 1) := tAt (hd ⟨17, .data⟩ (by simp) rfl)
   clear hd hk
   go_step
   refine (rflag_any w1' d.sealed_ HS.out).mono ?_
   rintro e w2 ⟨rfl, hu⟩
   exact ⟨_, rfl, rfl, hu⟩
  ·
   refine .inl ⟨rfl, ?_⟩
   have e2 : b'.tmps[23]?.getD undef = .int .u64 (d.epoch : Int) := tAt (hd ⟨2, .data⟩ (by simp) rfl)
   have e5 : b'.tmps[26]?.getD undef = .int .u64 (d.proc : Int) := tAt (hd ⟨5, .data⟩ (by simp) rfl)
   have e8 : b'.tmps[29]?.getD undef = .int .u64 (d.inc : Int) := tAt (hd ⟨8, .data⟩ (by simp) rfl)
   have e11 : b'.tmps[32]?.getD undef = .int .u64 (d.until_ : Int) := tAt (hd ⟨11, .data⟩ (by simp) rfl)
   have e15 : b'.tmps[36]?.getD undef = .int .u64 (d.held : Int) := tAt (hd ⟨15, .data⟩ (by simp) rfl)
   have e18 : b'.tmps[39]?.getD undef = .int .u64 (d.sealed_ : Int) := tAt (hd ⟨18, .data⟩ (by simp) rfl)
   clear hd hk
   go_step
   exact ⟨_, rfl, (row_new w1' #[.int .u64 (d.epoch : Int), .int .u64 (d.proc : Int), .int .u64 (d.inc : Int), .int .u64 (d.until_ : Int), .int .u64 (d.held : Int), .int .u64 (d.sealed_ : Int)] 22 6 _ (by decide) rfl).mono (fun _ _ => trivial), uZ.alloc _⟩
  ·
   refine .inl ⟨rfl, ?_⟩
   have h19 := hd ⟨19, .data⟩ (by simp) rfl
   have h19 : NumsP d.nums (b'.tmps.getD 40 undef) w1' := h19
   obtain ⟨u40, hu40⟩ : ∃ u, u = b'.tmps[40]?.getD undef := ⟨_, rfl⟩
   rw [show b'.tmps.getD 40 undef = u40 by rw [hu40]; simp] at h19
   have e40 : b'.tmps[40]?.getD undef = u40 := hu40.symm
   clear hu40
   clear hd hk
   go_step
   refine (rAll_any w1' u40 d.nums (show Row (fun _ => True) w1' u40 6 _ from h19) (by simp [DocP.nums]) HNB.out).mono ?_
   rintro e w2 ⟨v2, rfl, ho, hu⟩
   exact ⟨_, rfl, ho.mono_base (by have := HW1.out.size; have := HBS.out; omega), hu⟩
  ·
   refine .inl ⟨rfl, ?_⟩
   have h20 := hd ⟨20, .data⟩ (by simp) rfl
   have h20 : OwnP B (vputs d.nums) (b'.tmps.getD 41 undef) w1' := h20
   obtain ⟨u41, hu41⟩ : ∃ u, u = b'.tmps[41]?.getD undef := ⟨_, rfl⟩
   rw [show b'.tmps.getD 41 undef = u41 by rw [hu41]; simp] at h20
   have e41 : b'.tmps[41]?.getD undef = u41 := hu41.symm
   clear hu41
   clear hd hk
   go_step
   exact ⟨_, rfl, h20, uZ⟩
 ·intro v w1' hx1' hp
  have h21 : OwnP B (vputs d.nums) (v 21) w1' := hp 21 (by decide)
  have HX5 := zq (HX3.out.trans hx1')
  have hx1s := hx1'
  have HG5 := zq (hx1'.at_ HGD.out id)
  have HOV5 := zq (hx1'.ownsRow HOV3.out (fun _ _ e => e))
  have g5 := cZ HG5.out 5 _ rfl
  have gl := lZ HG5.out
  clear hp hx1'
  have HX1S := zq hx1s
  clear hx1s
  simp only [List.size_toArray, List.length_cons, List.length_nil, Nat.reduceAdd, fillAll, dwDst]
  go_simp
  generalize v 21 = y6 at h21 ⊢
  unfold OwnP at h21
  obtain ⟨ra, rc, rfl⟩ := ownsFormN h21
  have HO5 := zq h21
  clear h21
  go_wp2_with (go_at_call 101; fail)
  refine (rpinsPut_any w1' _ d.pins (HP.out.ext HX5.out) HBB.out.pins (by omega)).mono ?_
  rintro e w6 ⟨v6, rfl, hown6, hx6⟩
  have hbase6 : B <= w6.heap.size := Nat.le_trans HBS.out (HX1S.out.trans hx6).size
  go_wp2_with (at_builtin; go_must (refine wpList_append_row rfl _ _ _ rfl Tryz.bytesT rfl (hx6.ownsRow HO5.out (fun _ _ e => e)) rfl (Row.of_owns hown6) (by simp) (u8_one _) ?c3 ?c4 hbase6 ?_))
  case c3 => unfold maxLen; omega
  case c4 => omega
  intro v7 w7 hown7 hg7 _
  have HX7 := zq ((HX5.out.trans hx6).grown hg7 (fun j hj h => by have := (HO5.out.lt j hj).1; have := HBQ.out.1; omega))
  have HU7 := zq (show Upd (fun k => (Value.slice ra (vputs d.nums).length rc).ownBlock = some k) w1' w7 from (hx6.mono (fun _ _ e => e.elim)).grown hg7 (fun k hk _ => hk))
  have HO7 := zq hown7
  have HOV7 := zq (HU7.out.ownsRow HOV5.out (fun k hk e => by have h1 := (HOV.out.lt k hk).2; have h2 := (HO5.out.lt k e).1; have := HBQ.out.2; omega))
  have hcv := row_string (P := Tryz.prog) (Row.of_owns HOV7.out) Tryz.underlying23 Tryz.underlying5 Tryz.underlying9
  obtain ⟨r7, c7, rfl⟩ := ownsFormN HO7.out
  have HLO7 := zq (show ∀ j, (Value.slice r7 ((vputs d.nums).length + (encPins d.pins).length) c7).ownBlock = some j -> B <= j from fun j hj => (HO7.out.lt j hj).1)
  have hbase7 : B <= w7.heap.size := Nat.le_trans hbase6 hg7.size
  clear hown6 hx6 hown7 hg7 hbase6 g5 gl
  go_wp2_with (go_at_call 97; fail)
  refine (rText_any w7 (encVers d.vers) (by omega)).mono ?_
  rintro e w8 ⟨v8, rfl, hown8, hx8⟩
  have hbase8 : B <= w8.heap.size := Nat.le_trans hbase7 hx8.size
  go_wp2_with (at_builtin; go_must (refine wpList_append_row rfl _ _ _ rfl Tryz.bytesT rfl (hx8.ownsRow HO7.out (fun _ _ e => e)) rfl (Row.of_owns hown8) (by simp) (u8_one _) ?c3 ?c4 hbase8 ?_))
  case c3 => unfold maxLen; omega
  case c4 => omega
  intro v9 w9 hown9 hg9 _
  have HX9 := zq ((HX7.out.trans hx8).grown hg9 (fun j hj h => by have := HLO7.out j hj; have := HBQ.out.1; omega))
  have HO9 := zq hown9
  clear hown8 hx8 hown9 hg9 hbase8 hbase7 hcv
  go_wp2
  go_ret2
  refine ⟨_, rfl, ?_, HX9.out⟩
  have h9 := HO9.out.mono_base HBQ.out.1
  rw [<- List.map_append, <- List.map_append] at h9
  try rw [List.append_assoc] at h9
  rw [HENC.out]
  rw [show (vputs d.nums ++ (encPins d.pins ++ vtext (encVers d.vers))).length = (vputs d.nums).length + (encPins d.pins).length + (vtext (encVers d.vers)).length by simp; omega]
  exact h9
end Go.Proofs.YtnkmpoplibnflaaGreatDoor.Wk
set_option maxRecDepth 100000
set_option maxHeartbeats 16000000
namespace Go.Proofs.YtnkmpoplibnflaaGreatDoor.Wk
open Go Go.Proofs.YtnkmpoplibnflaaGreatDoor Go.RowKit
theorem rahead_any (w : World) (x y : Tr) :
  Calls Tryz.prog 72 #[.agg #[.int .u64 (x.1 : Int), .int .u64 (x.2.1 : Int), .int .u64 (x.2.2 : Int)], .agg #[.int .u64 (y.1 : Int), .int .u64 (y.2.1 : Int), .int .u64 (y.2.2 : Int)]] w fun e w' => e = .returned (.bool (trLt x y)) /\ Ext w w' := by
 obtain ⟨a, b, c⟩ := x
 obtain ⟨a', b', c'⟩ := y
 show Calls Tryz.prog 72 #[.agg #[.int .u64 (a : Int), .int .u64 (b : Int), .int .u64 (c : Int)], .agg #[.int .u64 (a' : Int), .int .u64 (b' : Int), .int .u64 (c' : Int)]] w _
 have HV := zq (show trLt (a, b, c) (a', b', c') = (decide (a < a') || (decide (a = a') && decide (b < b'))) from rfl)
 by_cases h1 : a < a'
 ·have e1 : (a : Int) < (a' : Int) := by omega
  have HR := zq (show trLt (a, b, c) (a', b', c') = true by rw [HV.out]; simp [h1])
  clear h1 HV
  go_enter Tryz.func72, Tryz.ntmps72
  go_wp2
  go_ret
  exact ⟨by rw [HR.out]; rfl, (uZ.alloc _).alloc _⟩
 ·have e1 : ¬ (a : Int) < (a' : Int) := by omega
  by_cases h2 : a = a'
  ·have e2 : ((a : Int) == (a' : Int)) = true := by simp [h2]
   by_cases h3 : b < b'
   ·have e3 : (b : Int) < (b' : Int) := by omega
    have HR := zq (show trLt (a, b, c) (a', b', c') = true by rw [HV.out]; simp [h2, h3])
    clear h1 h2 h3 HV
    go_enter Tryz.func72, Tryz.ntmps72
    go_wp2
    go_ret
    exact ⟨by rw [HR.out]; rfl, (uZ.alloc _).alloc _⟩
   ·have e3 : ¬ (b : Int) < (b' : Int) := by omega
    have HR := zq (show trLt (a, b, c) (a', b', c') = false by rw [HV.out]; simp [h1, h3])
    clear h1 h2 h3 HV
    go_enter Tryz.func72, Tryz.ntmps72
    go_wp2
    go_ret
    exact ⟨by rw [HR.out]; rfl, (uZ.alloc _).alloc _⟩
  ·have e2 : ((a : Int) == (a' : Int)) = false := by simp; omega
   have HR := zq (show trLt (a, b, c) (a', b', c') = false by rw [HV.out]; simp [h1, h2])
   clear h1 h2 HV
   go_enter Tryz.func72, Tryz.ntmps72
   go_wp2
   go_ret
   exact ⟨by rw [HR.out]; rfl, (uZ.alloc _).alloc _⟩
end Go.Proofs.YtnkmpoplibnflaaGreatDoor.Wk
set_option maxRecDepth 100000
set_option maxHeartbeats 16000000
namespace Go.Proofs.YtnkmpoplibnflaaGreatDoor.Wk
open Go Go.Proofs.YtnkmpoplibnflaaGreatDoor Go.RowKit
theorem leaseNe (w : World) : (binOp .neq 88 (.agg #[.int .u64 0, .int .u64 0, .int .u64 0, .int .u64 0, .bool false]) (.agg #[.int .u64 0, .int .u64 0, .int .u64 0, .int .u64 0, .bool false])).run Tryz.prog w = .ok (.bool false) w := by kernel_rfl
theorem rpinsSame_nil (w : World) :
  Calls Tryz.prog 102 #[.slice none 0 0, .slice none 0 0] w fun e w' => e = .returned (.bool true) /\ Ext w w' := by
 go_enter Tryz.func102, Tryz.ntmps102
 go_wp2
 go_loopw [5] (fun t wr => t = .int .i64 0 /\ Ext w wr) (fun _ _ => 0)
 case atStart => exact ⟨rfl, uZ⟩
 case round =>
  obtain ⟨rfl, hx⟩ := hrel
  go_wp2
  go_ret
  exact ⟨rfl, hx⟩
theorem rdocSame_blank (w : World) :
  Calls Tryz.prog 76 #[.agg #[.int .u64 0, .int .u64 0, .int .u64 0, .int .u64 0, .bool false, .slice none 0 0, .slice none 0 0, .bool false], .agg #[.int .u64 0, .int .u64 0, .int .u64 0, .int .u64 0, .bool false, .slice none 0 0, .slice none 0 0, .bool false]] w fun e w' => e = .returned (.bool true) /\ Ext w w' := by
 have hne := leaseNe
 go_enter Tryz.func76, Tryz.ntmps76
 go_upto_region 1 with fail
 obtain ⟨w1, hw1⟩ : ∃ u, u = (w.alloc (.cells #[.int .u64 0, .int .u64 0, .int .u64 0, .int .u64 0, .bool false, .slice none 0 0, .slice none 0 0, .bool false] 92)).alloc (.cells #[.int .u64 0, .int .u64 0, .int .u64 0, .int .u64 0, .bool false, .slice none 0 0, .slice none 0 0, .bool false] 92) := ⟨_, rfl⟩
 have hx1 : Ext w w1 := by rw [hw1]; exact (uZ.alloc _).alloc _
 have hA : w1.heap[w.heap.size]? = some (.cells docZ 92 (0, 0)) := by rw [hw1]; exact (Upd.refl Nothing _).alloc _ |>.at_ (newAt _ _) id
 have hB : w1.heap[w.heap.size + 1]? = some (.cells docZ 92 (0, 0)) := by
  rw [hw1]
  have := newAt (w.alloc (.cells docZ 92)) (.cells docZ 92)
  rw [show (w.alloc (.cells docZ 92)).heap.size = w.heap.size + 1 by simp] at this
  exact this
 rw [<- hw1]
 have HA := zq hA
 have HB := zq hB
 have HX1 := zq hx1
 clear hw1 hA hB hx1
 have a0 := cZ HA.out 0 (.int .u64 0) rfl
 have a1 := cZ HA.out 1 (.int .u64 0) rfl
 have a2 := cZ HA.out 2 (.int .u64 0) rfl
 have a3 := cZ HA.out 3 (.int .u64 0) rfl
 have a4 := cZ HA.out 4 (.bool false) rfl
 have a5 := cZ HA.out 5 (.slice none 0 0) rfl
 have a6 := cZ HA.out 6 (.slice none 0 0) rfl
 have a7 := cZ HA.out 7 (.bool false) rfl
 have b0 := cZ HB.out 0 (.int .u64 0) rfl
 have b1 := cZ HB.out 1 (.int .u64 0) rfl
 have b2 := cZ HB.out 2 (.int .u64 0) rfl
 have b3 := cZ HB.out 3 (.int .u64 0) rfl
 have b4 := cZ HB.out 4 (.bool false) rfl
 have b5 := cZ HB.out 5 (.slice none 0 0) rfl
 have b6 := cZ HB.out 6 (.slice none 0 0) rfl
 have b7 := cZ HB.out 7 (.bool false) rfl
 have al := lZ HA.out
 have bl := lZ HB.out
 go_wp2_with (go_at_call 102; fail)
 refine (rpinsSame_nil w1).mono ?_
 rintro e w2 ⟨rfl, hx2⟩
 have HX2 := zq (HX1.out.trans hx2)
 have hA2 := hx2.at_ HA.out id
 have hB2 := hx2.at_ HB.out id
 have HA2 := zq hA2
 clear a0 a1 a2 a3 a4 a5 a6 a7 b0 b1 b2 b3 b4 b5 b6 b7 al bl hx2
 have a6 := cZ hA2 6 (.slice none 0 0) rfl
 have b6 := cZ hB2 6 (.slice none 0 0) rfl
 have al := lZ hA2
 have bl := lZ hB2
 clear hA2 hB2
 go_wp2
 go_loopw [5] (fun t wr => t = .int .i64 0 /\ Ext w2 wr) (fun _ _ => 0)
 case atStart => exact ⟨rfl, uZ⟩
 case round =>
  obtain ⟨rfl, hx⟩ := hrel
  have a6 := cZ (hx.at_ HA2.out id) 6 (.slice none 0 0) rfl
  have al := lZ (hx.at_ HA2.out id)
  go_wp2
  go_ret
  exact ⟨rfl, HX2.out.trans hx⟩
end Go.Proofs.YtnkmpoplibnflaaGreatDoor.Wk
set_option maxRecDepth 100000
set_option maxHeartbeats 16000000
namespace Go.Proofs.YtnkmpoplibnflaaGreatDoor.Wk
open Go Go.Proofs.YtnkmpoplibnflaaGreatDoor Go.RowKit
theorem rfput_any {S : Nat -> Prop} (w : World) (kd : UInt8) (vb : Value) (bd : List UInt8) (h : Bytes S w vb bd) (hl : bd.length <= 65535) :
  Calls Tryz.prog 103 #[.agg #[.int .u8 kd.toNat, vb]] w fun e w' => ∃ v, e = .returned (.tuple #[v, .int .i64 0]) /\ Bytes (From w.heap.size) w' v (frameF kd bd) /\ Ext w w' := by
 have H := zq h
 obtain ⟨a, c, rfl, hn, hm, -⟩ := h
 obtain ⟨w1, hw1⟩ : ∃ u, u = w.alloc (.cells #[.int .u8 kd.toNat, .slice a bd.length c] 131) := ⟨_, rfl⟩
 have hx1 : Ext w w1 := by rw [hw1]; exact uZ.alloc _
 have hg1 : w1.heap[w.heap.size]? = some (.cells #[.int .u8 kd.toNat, .slice a bd.length c] 131 (0, 0)) := by rw [hw1]; exact newAt _ _
 have HX1 := zq hx1
 have HW1 := zq hw1
 have g0 := cZ hg1 0 _ rfl
 have g1 := cZ hg1 1 _ rfl
 have gl := lZ hg1
 have hli : ¬ (65535 : Int) < (bd.length : Int) := by omega
 clear hx1 hg1 hw1
 go_enter Tryz.func103, Tryz.ntmps103
 go_upto_region 1 with fail
 rw [show w.alloc (.cells #[.int .u8 kd.toNat, .slice a bd.length c] 131) = w1 from HW1.out.symm]
 go_wp2_with (go_at_call 91; fail)
 refine (rbytes_any w1 kd _ bd (H.out.ext HX1.out) (by omega)).mono ?_
 rintro e w2 ⟨v2, rfl, hown, hx2⟩
 have HX2 := zq (HX1.out.trans hx2)
 have HO2 := zq (hown.mono (T := From w.heap.size) (fun k h => by have h : w1.heap.size <= k := h; have := HX1.out.size; show w.heap.size <= k; omega))
 obtain ⟨a2, c2, rfl, -⟩ := id hown
 clear hown hx2
 go_wp2
 go_ret2
 exact ⟨_, rfl, HO2.out, HX2.out⟩
theorem rjoin1_any {S T : Nat -> Prop} (w : World) (v vb : Value) (kd : UInt8) (bd : List UInt8) (hr : Row T w v 1 [.int .u8 kd.toNat, vb]) (h : Bytes S w vb bd) (hl : bd.length <= 65535) :
  Calls Tryz.prog 77 #[v] w fun e w' => ∃ v', e = .returned (.tuple #[v', .int .i64 0]) /\ w'.ownsRow w.heap.size 5 1 v' (frameF kd bd).length ((frameF kd bd).map u8) /\ Ext w w' := by
 have H := zq h
 obtain ⟨b1, o1, c1, rfl, -, hn1, hm1, hq⟩ := hr.addr (by omega)
 obtain ⟨a, c, rfl, hn, hm, -⟩ := h
 have d0 := hq 0 _ rfl
 have d1 := hq 1 _ rfl
 have HD := zq (And.intro d0 d1)
 have hfl : (frameF kd bd).length <= 65560 := by rw [frameF_len]; have := vput_len_le (n := bd.length) (by omega); omega
 clear hq hr d0 d1
 go_enter Tryz.func77, Tryz.ntmps77
 go_wp2
 go_loopw [4, 5] (fun out t wr => Hid (Ext w wr) /\ ((t = .int .i64 0 /\ out = .slice none 0 0) \/ (t = .int .i64 1 /\ Hid (wr.ownsRow w.heap.size 5 1 out (frameF kd bd).length ((frameF kd bd).map u8))))) (fun _ t _ => 1 - (intOf t).toNat)
 case atStart => exact ⟨zq uZ, .inl ⟨rfl, rfl⟩⟩
 case round =>
  obtain ⟨HX, ⟨rfl, rfl⟩ | ⟨rfl, HO⟩⟩ := hrel
  ·obtain ⟨d0, d1⟩ := HD.out
   replace d0 := HX.out.cell d0 id
   replace d1 := HX.out.cell d1 id
   have d0 : wr.cell? ⟨b1, o1, none⟩ = some (.int .u8 kd.toNat) := d0
   have d0' : wr.cell? ⟨b1, o1 + 0 * 2, none⟩ = some (.int .u8 kd.toNat) := by simpa using d0
   have d1' : wr.cell? ⟨b1, o1 + 0 * 2 + 1, none⟩ = some (.slice a bd.length c) := by simpa using d1
   go_wp2_with (go_at_call 103; fail)
   refine (rfput_any wr kd _ bd (H.out.ext HX.out) hl).mono ?_
   rintro e w2 ⟨v2, rfl, hown, hx2⟩
   obtain ⟨r2, c2, rfl, -⟩ := id hown
   have HX2 := zq (HX.out.trans hx2)
   have hsrc := hown
   have hb2 := HX2.out.size
   clear hx2 d0 d1 d0' d1'
   go_wp2_with (at_builtin; go_must (refine wpList_append_row rfl _ _ _ rfl Tryz.bytesT rfl (World.ownsRow_nil w2 w.heap.size _ _) rfl hsrc (by simp) (u8_one _) ?c3 ?c4 hb2 ?_))
   case c3 => unfold maxLen; omega
   case c4 => omega
   intro v3 w3 hown3 hg3 _
   have HX3 := zq (HX2.out.grown hg3 (fun j hj h => by simp [Value.ownBlock] at hj))
   have HO3 := zq (show w3.ownsRow w.heap.size 5 1 v3 (frameF kd bd).length ((frameF kd bd).map YtnkmpoplibnflaaGreatDoor.u8) by simpa using hown3)
   clear hown3 hg3 hown hsrc hb2
   go_wp2
   go_roundw
   case rel => exact ⟨HX3, .inr ⟨rfl, HO3⟩⟩
   case measure => simp [intOf]
  ·go_wp2
   go_ret2
   exact ⟨_, rfl, HO.out, HX.out⟩
end Go.Proofs.YtnkmpoplibnflaaGreatDoor.Wk
