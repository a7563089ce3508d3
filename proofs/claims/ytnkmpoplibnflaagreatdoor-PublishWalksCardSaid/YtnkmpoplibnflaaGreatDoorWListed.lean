/-
  CONTRACT of a publication's listed. Condition: it is there; few names.
-/
import Derived.Test.YtnkmpoplibnflaaGreatDoorGAV
set_option maxRecDepth 100000
set_option maxHeartbeats 16000000
namespace Go.Proofs.YtnkmpoplibnflaaGreatDoor.Wk
open Go Go.Proofs.YtnkmpoplibnflaaGreatDoor Go.RowKit
theorem field_vw (a b t : Int) (w : World) : (Instr.field 168 (.agg #[.int .u64 a, .int .u64 b, .int .u64 t]) 1).run Tryz.prog w = .ok (.int .u64 b) w := by kernel_rfl
def LsPost (B bm c n p i s : Nat) (tx sx bx : List UInt8) (bv : Value) (done linked : Bool) (err e : Int) (bf f : Nat) (_ : Value) (w' : World) : Prop := BoxM w' B bm /\ B < bf /\ w'.heap[bf]? = some (.cells #[.int .u64 (f : Int)] 22 (0, 0)) /\ PM w' B (macC c n p i s tx sx bv 8 bx [] (.slice none 0 0) (.func (.func 88) #[] #[.pointer (some ⟨bm, 0, none⟩), .pointer (some ⟨bf, 0, none⟩)]) done err linked)
theorem LsPost.ext {B bm c n p i s : Nat} {tx sx bx : List UInt8} {bv : Value} {done linked : Bool} {err e : Int} {bf f : Nat} {v : Value} {w w' : World} (h : LsPost B bm c n p i s tx sx bx bv done linked err e bf f v w) (hu : Ext w w') : LsPost B bm c n p i s tx sx bx bv done linked err e bf f v w' := ⟨h.1.ext hu, h.2.1, hu.at_ h.2.2.1 id, hu.at_ h.2.2.2 id⟩
def lsVal (B bm c n p i s : Nat) (tx sx bx : List UInt8) (bv : Value) (done linked : Bool) (err e : Int) (bf f : Nat) (na ba : Option Addr) (ln nc bn bc : Nat) : Nat -> Value
 | 0 => .pointer (some ⟨B, 0, none⟩)
 | 1 => .agg #[.int .i64 0, .slice na ln nc, .slice ba bn bc]
 | 2 => .pointer (some ⟨B, 0, none⟩)
 | 3 => .pointer (some ⟨B, 0, none⟩)
 | 4 => .pointer (some ⟨B, 0, none⟩)
 | 5 => .pointer (some ⟨B, 0, none⟩)
 | 6 => .int .u64 (c : Int)
 | 7 => .int .u64 (f : Int)
 | 8 => str bx
 | 9 => .agg #[.int .u8 8, str bx, .string ⟨#[]⟩, .slice none 0 0]
 | 10 => .func (.func 88) #[] #[.pointer (some ⟨bm, 0, none⟩), .pointer (some ⟨bf, 0, none⟩)]
 | _ => undef
def lsDst (i : Nat) : Tmp := 24 + i
theorem lsDst_ne {j t : Nat} (ht : t = 2 \/ t = 3 \/ t = 4) (e : lsDst j = t) : False := by
 unfold lsDst at e
 have e : (24 + j : Nat) = t := e
 rcases ht with rfl | rfl | rfl <;> (repeat' (split at e)) <;> omega
def lsPhi (B bm c n p i s : Nat) (tx sx bx : List UInt8) (bv : Value) (done linked : Bool) (err e : Int) (bf f : Nat) (na ba : Option Addr) (ln nc bn bc : Nat) (ix : Nat) (v : Value) (w : World) : Prop := if ix = 11 then LsPost B bm c n p i s tx sx bx bv done linked err e bf f v w else v = lsVal B bm c n p i s tx sx bx bv done linked err e bf f na ba ln nc bn bc ix
theorem lsPhi.ext {B bm c n p i s : Nat} {tx sx bx : List UInt8} {bv : Value} {done linked : Bool} {err e : Int} {bf f : Nat} {na ba : Option Addr} {ln nc bn bc : Nat} {ix : Nat} {v : Value} {w w' : World} (h : lsPhi B bm c n p i s tx sx bx bv done linked err e bf f na ba ln nc bn bc ix v w) (hu : Ext w w') : lsPhi B bm c n p i s tx sx bx bv done linked err e bf f na ba ln nc bn bc ix v w' := by
 unfold lsPhi at h ⊢
 by_cases c : ix = 11
 ·rw [if_pos c] at h ⊢; exact h.ext hu
 ·rw [if_neg c] at h ⊢
  exact h
theorem lsPhi.pass {B bm c n p i s : Nat} {tx sx bx : List UInt8} {bv : Value} {done linked : Bool} {err e : Int} {bf f : Nat} {na ba : Option Addr} {ln nc bn bc : Nat} {i' j : Nat} {v : Value} {w w' : World} (hj : j < 12) (hne : i' ≠ j) (h : lsPhi B bm c n p i s tx sx bx bv done linked err e bf f na ba ln nc bn bc j v w) (hu : Upd (At B) w w' /\ (i' ≠ 11 -> Ext w w')) : lsPhi B bm c n p i s tx sx bx bv done linked err e bf f na ba ln nc bn bc j v w' := by
 by_cases e1 : i' = 11
 ·unfold lsPhi at h ⊢
  rw [if_neg (by omega)] at h ⊢
  exact h
 ·exact h.ext (hu.2 e1)
theorem mlisted_ok {S : Nat -> Prop} {w : World} {B c n p i s k : Nat} {tx sx nm tt : List UInt8} {bv cb fn : Value} {done linked : Bool} {err : Int} (h : PM w B (macC c n p i s tx sx bv k nm tt cb fn done err linked)) (na ba : Option Addr) (nc bn bc : Nat) (l : List (List UInt8)) (hr : Texts S w (.slice na l.length nc) l) (hl : l.length <= 1000000) (hb : ∀ s ∈ l, s.length <= 1000000) (hE : Env w) (hc : c < 18446744073709551616) :
  Calls Tryz.prog 67 #[.pointer (some ⟨B, 0, none⟩), .agg #[.int .i64 0, .slice na l.length nc, .slice ba bn bc]] w fun r w' => r = .returned (.tuple #[]) /\ Upd (At B) w w' /\ ((floorF c l < n /\ ∃ bm, BoxM w' B bm /\ PM w' B (macC c n p i s tx sx bv 4 [] [] (.slice none 0 0) (.func (.func 108) #[] #[.pointer (some ⟨bm, 0, none⟩)]) done err linked)) \/ (n <= floorF c l /\ ∃ bm bf, BoxM w' B bm /\ B < bf /\ w'.heap[bf]? = some (.cells #[.int .u64 (floorF c l : Int)] 22 (0, 0)) /\ PM w' B (macC c n p i s tx sx bv 8 (putF ⟨2, c, floorF c l, 0, 0, 0⟩) [] (.slice none 0 0) (.func (.func 88) #[] #[.pointer (some ⟨bm, 0, none⟩), .pointer (some ⟨bf, 0, none⟩)]) done err linked))) := by
 obtain ⟨w1, hw1⟩ : ∃ u, u = (w.alloc (.cells #[.pointer (some ⟨B, 0, none⟩)] 31)).alloc (.cells #[.int .i64 0, .slice na l.length nc, .slice ba bn bc] 47) := ⟨_, rfl⟩
 have h2 := allocs2 w (.cells #[.pointer (some ⟨B, 0, none⟩)] 31) (.cells #[.int .i64 0, .slice na l.length nc, .slice ba bn bc] 47)
 rw [<- hw1] at h2
 obtain ⟨hA, hC, hx1⟩ := h2
 obtain ⟨bm, hbm⟩ : ∃ g, g = w.heap.size := ⟨_, rfl⟩
 rw [<- hbm] at hA hC
 have HBM := zq hbm
 have HX1 := zq hx1
 have HBL := zq (lZ h)
 have hm1 := hx1.at_ h id
 have HM := zq hm1
 have HA := zq hA
 have HC := zq hC
 have HW1 := zq hw1
 have HCC := zq hc
 have HEE := zq hE
 have hf64 := floor_lt c l
 obtain ⟨f, hf⟩ : ∃ f, f = floorF c l := ⟨_, rfl⟩
 have HFF := zq hf
 rw [<- hf] at hf64
 have HF64 := zq hf64
 have HCON := zq (show ∀ wq, Ext w wq -> Calls Tryz.prog 85 #[.int .u64 c, .slice na l.length nc] wq fun e w' => ∃ t : Nat, e = .returned (.agg #[.int .u64 (c : Int), .int .u64 (f : Int), .int .u64 (t : Int)]) /\ Ext wq w' from fun wq hq => (viewOf_any wq c _ l (hr.ext hq) hl hb (hE.ext hq)).mono fun e w' ⟨t, h1, _, h3⟩ => ⟨t, by rw [hf]; exact h1, h3⟩)
 have hfl := field_vw
 have a0 := cZ hA 0 _ rfl
 have la := lZ hA
 have c0 := cZ hC 0 _ rfl
 have c1 := cZ hC 1 _ rfl
 have c2 := cZ hC 2 _ rfl
 have lc := lZ hC
 have m0 := cZ hm1 0 (.int .u64 (c : Int)) rfl
 have lb := lZ hm1
 clear hx1 hA hC hw1 h hm1 hr hb hE hf hbm hf64 hc
 go_enter Tryz.func67, Tryz.ntmps67
 go_upto_region 1 with fail
 rw [show (w.alloc (.cells #[.pointer (some ⟨B, 0, none⟩)] 31)).alloc (.cells #[.int .i64 0, .slice na l.length nc, .slice ba bn bc] 47) = w1 from HW1.out.symm, <- HBM.out]
 go_cut [4] from 5 to 13 (fun s wc => ∃ bf : Nat, s = .pointer (some ⟨bf, 0, none⟩) /\ Hid (Ext w1 wc /\ B < bf /\ wc.heap[bf]? = some (.cells #[.int .u64 (f : Int)] 22 (0, 0))))
 case first =>
  have HLB := zq (lZ HM.out)
  go_region_law (go_simp; go_at_call 85; (first | (refine (HCON.out _ HX1.out.drew).mono ?_; rintro r w2 ⟨t, rfl, hx2⟩; have hxw := (Upd.refl Nothing w1).drew.trans hx2; have hlt := Nat.lt_of_lt_of_le HLB.out hxw.size) | (refine (HCON.out _ (HX1.out.drew.alloc _)).mono ?_; rintro r w2 ⟨t, rfl, hx2⟩; have hxw := ((Upd.refl Nothing w1).drew.alloc _).trans hx2; have hlt := HLB.out; have hz := (show w2.heap[w1.heap.size]? = some (.cells #[.int .u64 0] 22 (0, 0)) from hx2.at_ (newAt w1.drew (.cells #[.int .u64 0] 22)) id); have z0 := cZ hz 0 _ rfl; have zf := freeAt hz 0; have zl := lZ hz)))
  all_goals
   go_wp2_with fail
   go_meet
   case rel =>
    refine ⟨_, rfl, zq ⟨?_, ?_, ?_⟩⟩
    ·first | exact hxw.alloc _ | exact hxw.step (T := At w1.heap.size) (Upd.own _ _ _ _) (fun i hi e => by have e : i = w1.heap.size := e; omega)
    ·exact hlt
    ·first | exact setAt hz | exact newAt _ _
 case rest =>
 obtain ⟨bf, rfl, HF⟩ := hcut
 have HXC := zq (HX1.out.trans HF.out.1)
 have HMC := zq (HF.out.1.at_ HM.out id)
 have HAC := zq (HF.out.1.at_ HA.out id)
 have HCC2 := zq (HF.out.1.at_ HC.out id)
 have HFB := zq HF.out.2.2
 have HBF := zq HF.out.2.1
 have HBB := zq (show B < bm by rw [HBM.out]; exact HBL.out)
 clear a0 la c0 c1 c2 lc m0 lb hfl
 have a0 := cZ HAC.out 0 _ rfl
 have la := lZ HAC.out
 have c0 := cZ HCC2.out 0 _ rfl
 have c1 := cZ HCC2.out 1 _ rfl
 have c2 := cZ HCC2.out 2 _ rfl
 have lc := lZ HCC2.out
 have m0 := cZ HMC.out 0 (.int .u64 (c : Int)) rfl
 have m1 := cZ HMC.out 1 (.int .u64 (n : Int)) rfl
 have lb := lZ HMC.out
 have f0 := cZ HFB.out 0 _ rfl
 have lf := lZ HFB.out
 by_cases hlt : f < n
 ·have hi : ((f : Int) < (n : Int)) := by omega
  have HLT := zq hlt
  clear hlt
  go_upto_region 2 with fail
  go_region
  go_upto_region 3 with fail
  go_wp2_with (go_at_call 86; fail)
  refine (mwon_ok (w := wc.drew) HMC.out na ba l.length nc bn bc).mono ?_
  rintro r w3 ⟨rfl, hu, hp⟩
  have HU := zq hu
  have HP := zq hp
  clear hu hp
  go_wp2
  refine bodyPost_ret (results_none rfl _ _ _) rfl ?_
  refine ⟨rfl, (HXC.out.drew.mono (fun _ _ e => e.elim)).trans HU.out, ?_⟩
  exact .inl ⟨by rw [<- HFF.out]; exact HLT.out, HP.out⟩
 ·have hi : ¬ ((f : Int) < (n : Int)) := by omega
  have HLT := zq hlt
  clear hlt
  go_upto_region 2 with fail
  go_region
  go_upto_region 4 with fail
  obtain ⟨bx, hbx⟩ : ∃ s, putF ⟨2, c, f, 0, 0, 0⟩ = s := ⟨_, rfl⟩
  have HBX := zq hbx
  have HEE2 := HEE
  clear hbx a0 la c0 c1 c2 lc m0 m1 lb f0 lf
  obtain ⟨wd, hwd⟩ : ∃ u, u = wc.drew := ⟨_, rfl⟩
  rw [<- hwd]
  have hcd : Ext wc wd := by rw [hwd]; exact uZ.drew
  replace HXC := zq (HXC.out.trans hcd)
  replace HMC := zq (hcd.at_ HMC.out id)
  replace HAC := zq (hcd.at_ HAC.out id)
  replace HCC2 := zq (hcd.at_ HCC2.out id)
  replace HFB := zq (hcd.at_ HFB.out id)
  clear hwd hcd
  refine wp_region_invH (At B) (fun i w w' => Upd (At B) w w' /\ (i ≠ 11 -> Ext w w')) 11 lsDst (lsPhi B bm c n p i s tx sx bx bv done linked err 0 bf f na ba l.length nc bn bc) 36 (by kernel_rfl) (by decide) (by decide) rfl (fun i hi => .inl ((by decide : ∀ i, i < 12 -> lsDst i < 36) i hi)) (fun i w w' h => h) (fun i j v w w' hi hj hne ha h hu => lsPhi.pass hj hne h hu) ?_ ?_
  ·intro i o b' w1' ho hx1' hd hk hE hSZ
   have hi : i < 12 := (Array.getElem?_eq_some_iff.1 ho).1
   have his : i = 0 \/ i = 1 \/ i = 2 \/ i = 3 \/ i = 4 \/ i = 5 \/ i = 6 \/ i = 7 \/ i = 8 \/ i = 9 \/ i = 10 \/ i = 11 := by omega
   have HEE := zq hE
   have HSZ := zq hSZ
   clear hE hSZ
   have HW1 := zq hx1'
   clear hx1'
   rcases his with rfl | rfl | rfl | rfl | rfl | rfl | rfl | rfl | rfl | rfl | rfl | rfl
   all_goals (simp at ho; subst ho)
   ·
    refine .inl ⟨rfl, ?_⟩
    have o2 : b'.tmps[2]?.getD undef = .pointer (some ⟨bm, 0, none⟩) := tAt (hk 2 (fun j oj _ e => (lsDst_ne (by decide) e).elim))
    have HE1 := HEE.out (.inr (by kernel_rfl))
    have q0 := HE1.cell (cZ HAC.out 0 _ rfl) id
    have ql := lZ (HE1.at_ HAC.out id)
    clear HE1
    clear hd hk
    go_step
    exact ⟨_, rfl, rfl, uZ, (by first | exact uZ | exact fun _ => uZ)⟩
   ·
    refine .inl ⟨rfl, ?_⟩
    have o3 : b'.tmps[3]?.getD undef = .pointer (some ⟨bm + 1, 0, none⟩) := tAt (hk 3 (fun j oj _ e => (lsDst_ne (by decide) e).elim))
    have HE1 := HEE.out (.inr (by kernel_rfl))
    have q0 := HE1.cell (cZ HCC2.out 0 _ rfl) id
    have q1 := HE1.cell (cZ HCC2.out 1 _ rfl) id
    have q2 := HE1.cell (cZ HCC2.out 2 _ rfl) id
    have ql := lZ (HE1.at_ HCC2.out id)
    clear HE1
    clear hd hk
    go_step
    exact ⟨_, rfl, rfl, uZ, (by first | exact uZ | exact fun _ => uZ)⟩
   ·
    refine .inl ⟨rfl, ?_⟩
    have o2 : b'.tmps[2]?.getD undef = .pointer (some ⟨bm, 0, none⟩) := tAt (hk 2 (fun j oj _ e => (lsDst_ne (by decide) e).elim))
    have HE1 := HEE.out (.inr (by kernel_rfl))
    have q0 := HE1.cell (cZ HAC.out 0 _ rfl) id
    have ql := lZ (HE1.at_ HAC.out id)
    clear HE1
    clear hd hk
    go_step
    exact ⟨_, rfl, rfl, uZ, (by first | exact uZ | exact fun _ => uZ)⟩
   ·
    refine .inl ⟨rfl, ?_⟩
    have e2 : b'.tmps[26]?.getD undef = .pointer (some ⟨B, 0, none⟩) := tAt (hd ⟨2, .data⟩ (by simp) rfl)
    clear hd hk
    go_step
    exact ⟨_, rfl, rfl, uZ, (by first | exact uZ | exact fun _ => uZ)⟩
   ·
    refine .inl ⟨rfl, ?_⟩
    have e3 : b'.tmps[27]?.getD undef = .pointer (some ⟨B, 0, none⟩) := tAt (hd ⟨3, .data⟩ (by simp) rfl)
    clear hd hk
    go_step
    exact ⟨_, rfl, rfl, uZ, (by first | exact uZ | exact fun _ => uZ)⟩
   ·
    refine .inl ⟨rfl, ?_⟩
    have e4 : b'.tmps[28]?.getD undef = .pointer (some ⟨B, 0, none⟩) := tAt (hd ⟨4, .data⟩ (by simp) rfl)
    clear hd hk
    go_step
    exact ⟨_, rfl, rfl, uZ, (by first | exact uZ | exact fun _ => uZ)⟩
   ·
    refine .inl ⟨rfl, ?_⟩
    have e5 : b'.tmps[29]?.getD undef = .pointer (some ⟨B, 0, none⟩) := tAt (hd ⟨5, .data⟩ (by simp) rfl)
    have HE1 := HEE.out (.inr (by kernel_rfl))
    have q0 := HE1.cell (cZ HMC.out 0 (.int .u64 (c : Int)) rfl) id
    have ql := lZ (HE1.at_ HMC.out id)
    clear HE1
    clear hd hk
    go_step
    exact ⟨_, rfl, rfl, uZ, (by first | exact uZ | exact fun _ => uZ)⟩
   ·
    refine .inl ⟨rfl, ?_⟩
    have o4 : b'.tmps[4]?.getD undef = .pointer (some ⟨bf, 0, none⟩) := tAt (hk 4 (fun j oj _ e => (lsDst_ne (by decide) e).elim))
    have HE1 := HEE.out (.inr (by kernel_rfl))
    have q0 := HE1.cell (cZ HFB.out 0 _ rfl) id
    have ql := lZ (HE1.at_ HFB.out id)
    clear HE1
    clear hd hk
    go_step
    exact ⟨_, rfl, rfl, uZ, (by first | exact uZ | exact fun _ => uZ)⟩
   ·
    refine .inl ⟨rfl, ?_⟩
    have e6 : b'.tmps[30]?.getD undef = .int .u64 (c : Int) := tAt (hd ⟨6, .data⟩ (by simp) rfl)
    have e7 : b'.tmps[31]?.getD undef = .int .u64 (f : Int) := tAt (hd ⟨7, .data⟩ (by simp) rfl)
    have HE1 := HEE.out (.inr (by kernel_rfl))
    have hob := ofBase_any w1' c f HCC.out HF64.out (tab_ext HEE2.out.tab (HXC.out.trans HE1))
    have HOB := zq hob
    clear HE1 hob
    clear hd hk
    go_step
    refine HOB.out.mono ?_
    rintro r w4 ⟨rfl, hx4⟩
    exact ⟨_, rfl, (by show Value.string _ = str bx; rw [HBX.out]), hx4.mono (fun _ _ e => e.elim), (by first | exact hx4 | exact fun _ => hx4)⟩
   ·
    refine .inl ⟨rfl, ?_⟩
    have e8 : b'.tmps[32]?.getD undef = str bx := tAt (hd ⟨8, .data⟩ (by simp) rfl)
    clear hd hk
    go_step
    exact ⟨_, rfl, rfl, uZ, (by first | exact uZ | exact fun _ => uZ)⟩
   ·
    refine .inl ⟨rfl, ?_⟩
    have o2 : b'.tmps[2]?.getD undef = .pointer (some ⟨bm, 0, none⟩) := tAt (hk 2 (fun j oj _ e => (lsDst_ne (by decide) e).elim))
    have o4 : b'.tmps[4]?.getD undef = .pointer (some ⟨bf, 0, none⟩) := tAt (hk 4 (fun j oj _ e => (lsDst_ne (by decide) e).elim))
    clear hd hk
    go_step
    exact ⟨_, rfl, rfl, uZ, (by first | exact uZ | exact fun _ => uZ)⟩
   ·
    refine .inl ⟨rfl, ?_⟩
    have e0 : b'.tmps[24]?.getD undef = .pointer (some ⟨B, 0, none⟩) := tAt (hd ⟨0, .data⟩ (by simp) rfl)
    have e1 : b'.tmps[25]?.getD undef = .agg #[.int .i64 0, .slice na l.length nc, .slice ba bn bc] := tAt (hd ⟨1, .data⟩ (by simp) rfl)
    have e9 : b'.tmps[33]?.getD undef = .agg #[.int .u8 8, str bx, .string ⟨#[]⟩, .slice none 0 0] := tAt (hd ⟨9, .data⟩ (by simp) rfl)
    have e10 : b'.tmps[34]?.getD undef = .func (.func 88) #[] #[.pointer (some ⟨bm, 0, none⟩), .pointer (some ⟨bf, 0, none⟩)] := tAt (hd ⟨10, .data⟩ (by simp) rfl)
    have HE1 := HEE.out (.inl rfl)
    have HX7 := zq HE1
    have hm7 := HE1.at_ HMC.out id
    have HM7 := zq hm7
    clear HE1 hm7
    clear hd hk
    go_step
    refine (mgoes_ok HM7.out na ba none l.length nc bn bc 0 0 8 bx [] _ _ _).mono ?_
    rintro r w5 ⟨rfl, hu, hp⟩
    exact ⟨_, rfl, ⟨⟨HBB.out, hu.at_ (HX7.out.at_ HAC.out id) (fun e => by have e : bm = B := e; have := HBB.out; omega)⟩, HBF.out, hu.at_ (HX7.out.at_ HFB.out id) (fun e => by have e : bf = B := e; have := HBF.out; omega), hp⟩, hu⟩
  ·intro v w1' hx1' hp
   have h11 := hp 11 (by decide)
   have HP := zq (show LsPost B bm c n p i s tx sx bx bv done linked err 0 bf f (v 11) w1' from h11)
   have HU := zq hx1'
   clear hp h11 hx1'
   simp only [List.size_toArray, List.length_cons, List.length_nil, Nat.reduceAdd, fillAll, lsDst]
   go_simp
   go_wp2
   go_end0
   refine ⟨rfl, (HXC.out.mono (fun _ _ e => e.elim)).trans HU.out, ?_⟩
   rw [<- HFF.out]
   have hbx : putF ⟨2, c, f, 0, 0, 0⟩ = bx := HBX.out
   rw [hbx]
   obtain ⟨p1, p2, p3, p4⟩ := HP.out
   first | exact .inr ⟨Nat.le_of_not_lt HLT.out, bm, bf, p1, p2, p3, p4⟩ | exact .inr ⟨Nat.le_of_not_lt HLT.out, bm, p1, bf, p2, p3, p4⟩
def LsPostB (B bm c n p i s : Nat) (tx sx bx : List UInt8) (bv : Value) (done linked : Bool) (err e : Int) (bf f : Nat) (_ : Value) (w' : World) : Prop := ∃ fn', ThenEnds w' B fn' e /\ PM w' B (macC c n p i s tx sx bv 6 tx [] (.slice none 0 0) fn' done err linked)
theorem LsPostB.ext {B bm c n p i s : Nat} {tx sx bx : List UInt8} {bv : Value} {done linked : Bool} {err e : Int} {bf f : Nat} {v : Value} {w w' : World} (h : LsPostB B bm c n p i s tx sx bx bv done linked err e bf f v w) (hu : Ext w w') : LsPostB B bm c n p i s tx sx bx bv done linked err e bf f v w' := by
 obtain ⟨fn', ⟨be, bm', h1, h2, h3, h4, h5⟩, h6⟩ := h
 exact ⟨fn', ⟨be, bm', h1, h2, h3, hu.at_ h4 id, hu.at_ h5 id⟩, hu.at_ h6 id⟩
def lbVal (B bm c n p i s : Nat) (tx sx bx : List UInt8) (bv : Value) (done linked : Bool) (err e : Int) (bf f : Nat) (na ba : Option Addr) (ln nc bn bc : Nat) : Nat -> Value
 | 0 => .pointer (some ⟨B, 0, none⟩)
 | 1 => .agg #[.int .i64 e, .slice na ln nc, .slice ba bn bc]
 | 2 => .pointer (some ⟨B, 0, none⟩)
 | 3 => .pointer (some ⟨B, 0, none⟩)
 | 4 => .pointer (some ⟨B, 0, none⟩)
 | 5 => .pointer (some ⟨B, 0, none⟩)
 | 6 => .int .u64 (c : Int)
 | 7 => .int .u64 (f : Int)
 | 8 => str bx
 | 9 => .agg #[.int .u8 8, str bx, .string ⟨#[]⟩, .slice none 0 0]
 | 10 => .func (.func 88) #[] #[.pointer (some ⟨bm, 0, none⟩), .pointer (some ⟨bf, 0, none⟩)]
 | _ => undef
def lbDst (i : Nat) : Tmp := 24 + i
theorem lbDst_ne {j t : Nat} (ht : t = 2 \/ t = 3 \/ t = 4) (e : lbDst j = t) : False := by
 unfold lbDst at e
 have e : (24 + j : Nat) = t := e
 rcases ht with rfl | rfl | rfl <;> (repeat' (split at e)) <;> omega
def lbPhi (B bm c n p i s : Nat) (tx sx bx : List UInt8) (bv : Value) (done linked : Bool) (err e : Int) (bf f : Nat) (na ba : Option Addr) (ln nc bn bc : Nat) (ix : Nat) (v : Value) (w : World) : Prop := if ix = 11 then LsPostB B bm c n p i s tx sx bx bv done linked err e bf f v w else v = lbVal B bm c n p i s tx sx bx bv done linked err e bf f na ba ln nc bn bc ix
theorem lbPhi.ext {B bm c n p i s : Nat} {tx sx bx : List UInt8} {bv : Value} {done linked : Bool} {err e : Int} {bf f : Nat} {na ba : Option Addr} {ln nc bn bc : Nat} {ix : Nat} {v : Value} {w w' : World} (h : lbPhi B bm c n p i s tx sx bx bv done linked err e bf f na ba ln nc bn bc ix v w) (hu : Ext w w') : lbPhi B bm c n p i s tx sx bx bv done linked err e bf f na ba ln nc bn bc ix v w' := by
 unfold lbPhi at h ⊢
 by_cases c : ix = 11
 ·rw [if_pos c] at h ⊢; exact h.ext hu
 ·rw [if_neg c] at h ⊢
  exact h
theorem lbPhi.pass {B bm c n p i s : Nat} {tx sx bx : List UInt8} {bv : Value} {done linked : Bool} {err e : Int} {bf f : Nat} {na ba : Option Addr} {ln nc bn bc : Nat} {i' j : Nat} {v : Value} {w w' : World} (hj : j < 12) (hne : i' ≠ j) (h : lbPhi B bm c n p i s tx sx bx bv done linked err e bf f na ba ln nc bn bc j v w) (hu : Upd (At B) w w' /\ (i' ≠ 11 -> Ext w w')) : lbPhi B bm c n p i s tx sx bx bv done linked err e bf f na ba ln nc bn bc j v w' := by
 by_cases e1 : i' = 11
 ·unfold lbPhi at h ⊢
  rw [if_neg (by omega)] at h ⊢
  exact h
 ·exact h.ext (hu.2 e1)
theorem mlisted_bad {S : Nat -> Prop} {w : World} {B c n p i s k : Nat} {tx sx nm tt : List UInt8} {bv cb fn : Value} {done linked : Bool} {err : Int} (h : PM w B (macC c n p i s tx sx bv k nm tt cb fn done err linked)) (e : Int) (he : e ≠ 0) (na ba : Option Addr) (nc bn bc : Nat) (l : List (List UInt8)) (hr : Texts S w (.slice na l.length nc) l) (hl : l.length <= 1000000) (hb : ∀ s ∈ l, s.length <= 1000000) (hE : Env w) (hc : c < 18446744073709551616) :
  Calls Tryz.prog 67 #[.pointer (some ⟨B, 0, none⟩), .agg #[.int .i64 e, .slice na l.length nc, .slice ba bn bc]] w fun r w' => r = .returned (.tuple #[]) /\ Upd (At B) w w' /\ ∃ fn', ThenEnds w' B fn' e /\ PM w' B (macC c n p i s tx sx bv 6 tx [] (.slice none 0 0) fn' done err linked) := by
 obtain ⟨w1, hw1⟩ : ∃ u, u = (w.alloc (.cells #[.pointer (some ⟨B, 0, none⟩)] 31)).alloc (.cells #[.int .i64 e, .slice na l.length nc, .slice ba bn bc] 47) := ⟨_, rfl⟩
 have h2 := allocs2 w (.cells #[.pointer (some ⟨B, 0, none⟩)] 31) (.cells #[.int .i64 e, .slice na l.length nc, .slice ba bn bc] 47)
 rw [<- hw1] at h2
 obtain ⟨hA, hC, hx1⟩ := h2
 obtain ⟨bm, hbm⟩ : ∃ g, g = w.heap.size := ⟨_, rfl⟩
 rw [<- hbm] at hA hC
 have HBM := zq hbm
 have HX1 := zq hx1
 have HBL := zq (lZ h)
 have hm1 := hx1.at_ h id
 have HM := zq hm1
 have HA := zq hA
 have HC := zq hC
 have HW1 := zq hw1
 have HCC := zq hc
 have HEE := zq hE
 have hf64 := floor_lt c l
 obtain ⟨f, hf⟩ : ∃ f, f = floorF c l := ⟨_, rfl⟩
 have HFF := zq hf
 rw [<- hf] at hf64
 have HF64 := zq hf64
 have HCON := zq (show ∀ wq, Ext w wq -> Calls Tryz.prog 85 #[.int .u64 c, .slice na l.length nc] wq fun e w' => ∃ t : Nat, e = .returned (.agg #[.int .u64 (c : Int), .int .u64 (f : Int), .int .u64 (t : Int)]) /\ Ext wq w' from fun wq hq => (viewOf_any wq c _ l (hr.ext hq) hl hb (hE.ext hq)).mono fun e w' ⟨t, h1, _, h3⟩ => ⟨t, by rw [hf]; exact h1, h3⟩)
 have hfl := field_vw
 have a0 := cZ hA 0 _ rfl
 have la := lZ hA
 have c0 := cZ hC 0 _ rfl
 have c1 := cZ hC 1 _ rfl
 have c2 := cZ hC 2 _ rfl
 have lc := lZ hC
 have m0 := cZ hm1 0 (.int .u64 (c : Int)) rfl
 have lb := lZ hm1
 clear hx1 hA hC hw1 h hm1 hr hb hE hf hbm hf64 hc
 go_enter Tryz.func67, Tryz.ntmps67
 go_upto_region 1 with fail
 rw [show (w.alloc (.cells #[.pointer (some ⟨B, 0, none⟩)] 31)).alloc (.cells #[.int .i64 e, .slice na l.length nc, .slice ba bn bc] 47) = w1 from HW1.out.symm, <- HBM.out]
 go_cut [4] from 5 to 13 (fun s wc => ∃ bf : Nat, s = .pointer (some ⟨bf, 0, none⟩) /\ Hid (Ext w1 wc /\ B < bf /\ wc.heap[bf]? = some (.cells #[.int .u64 (f : Int)] 22 (0, 0))))
 case first =>
  have HLB := zq (lZ HM.out)
  go_region_law (go_simp; go_at_call 85; (first | (refine (HCON.out _ HX1.out.drew).mono ?_; rintro r w2 ⟨t, rfl, hx2⟩; have hxw := (Upd.refl Nothing w1).drew.trans hx2; have hlt := Nat.lt_of_lt_of_le HLB.out hxw.size) | (refine (HCON.out _ (HX1.out.drew.alloc _)).mono ?_; rintro r w2 ⟨t, rfl, hx2⟩; have hxw := ((Upd.refl Nothing w1).drew.alloc _).trans hx2; have hlt := HLB.out; have hz := (show w2.heap[w1.heap.size]? = some (.cells #[.int .u64 0] 22 (0, 0)) from hx2.at_ (newAt w1.drew (.cells #[.int .u64 0] 22)) id); have z0 := cZ hz 0 _ rfl; have zf := freeAt hz 0; have zl := lZ hz)))
  all_goals
   go_wp2_with fail
   go_meet
   case rel =>
    refine ⟨_, rfl, zq ⟨?_, ?_, ?_⟩⟩
    ·first | exact hxw.alloc _ | exact hxw.step (T := At w1.heap.size) (Upd.own _ _ _ _) (fun i hi e => by have e : i = w1.heap.size := e; omega)
    ·exact hlt
    ·first | exact setAt hz | exact newAt _ _
 case rest =>
 obtain ⟨bf, rfl, HF⟩ := hcut
 have HXC := zq (HX1.out.trans HF.out.1)
 have HMC := zq (HF.out.1.at_ HM.out id)
 have HAC := zq (HF.out.1.at_ HA.out id)
 have HCC2 := zq (HF.out.1.at_ HC.out id)
 have HFB := zq HF.out.2.2
 have HBF := zq HF.out.2.1
 have HBB := zq (show B < bm by rw [HBM.out]; exact HBL.out)
 clear a0 la c0 c1 c2 lc m0 lb hfl
 have a0 := cZ HAC.out 0 _ rfl
 have la := lZ HAC.out
 have c0 := cZ HCC2.out 0 _ rfl
 have c1 := cZ HCC2.out 1 _ rfl
 have c2 := cZ HCC2.out 2 _ rfl
 have lc := lZ HCC2.out
 have m0 := cZ HMC.out 0 (.int .u64 (c : Int)) rfl
 have m1 := cZ HMC.out 1 (.int .u64 (n : Int)) rfl
 have lb := lZ HMC.out
 have f0 := cZ HFB.out 0 _ rfl
 have lf := lZ HFB.out
 by_cases hlt : f < n
 ·have hi : ((f : Int) < (n : Int)) := by omega
  have HLT := zq hlt
  clear hlt
  go_upto_region 2 with fail
  go_region
  go_upto_region 3 with fail
  go_wp2_with (go_at_call 86; fail)
  refine (mwon_bad (w := wc.drew) HMC.out e he na ba l.length nc bn bc).mono ?_
  rintro r w3 ⟨rfl, hu, hp⟩
  have HU := zq hu
  have HP := zq hp
  clear hu hp
  go_wp2
  refine bodyPost_ret (results_none rfl _ _ _) rfl ?_
  refine ⟨rfl, (HXC.out.drew.mono (fun _ _ e => e.elim)).trans HU.out, ?_⟩
  exact HP.out
 ·have hi : ¬ ((f : Int) < (n : Int)) := by omega
  have HLT := zq hlt
  clear hlt
  go_upto_region 2 with fail
  go_region
  go_upto_region 4 with fail
  obtain ⟨bx, hbx⟩ : ∃ s, putF ⟨2, c, f, 0, 0, 0⟩ = s := ⟨_, rfl⟩
  have HBX := zq hbx
  have HEE2 := HEE
  clear hbx a0 la c0 c1 c2 lc m0 m1 lb f0 lf
  obtain ⟨wd, hwd⟩ : ∃ u, u = wc.drew := ⟨_, rfl⟩
  rw [<- hwd]
  have hcd : Ext wc wd := by rw [hwd]; exact uZ.drew
  replace HXC := zq (HXC.out.trans hcd)
  replace HMC := zq (hcd.at_ HMC.out id)
  replace HAC := zq (hcd.at_ HAC.out id)
  replace HCC2 := zq (hcd.at_ HCC2.out id)
  replace HFB := zq (hcd.at_ HFB.out id)
  clear hwd hcd
  refine wp_region_invH (At B) (fun i w w' => Upd (At B) w w' /\ (i ≠ 11 -> Ext w w')) 11 lbDst (lbPhi B bm c n p i s tx sx bx bv done linked err e bf f na ba l.length nc bn bc) 36 (by kernel_rfl) (by decide) (by decide) rfl (fun i hi => .inl ((by decide : ∀ i, i < 12 -> lbDst i < 36) i hi)) (fun i w w' h => h) (fun i j v w w' hi hj hne ha h hu => lbPhi.pass hj hne h hu) ?_ ?_
  ·intro i o b' w1' ho hx1' hd hk hE hSZ
   have hi : i < 12 := (Array.getElem?_eq_some_iff.1 ho).1
   have his : i = 0 \/ i = 1 \/ i = 2 \/ i = 3 \/ i = 4 \/ i = 5 \/ i = 6 \/ i = 7 \/ i = 8 \/ i = 9 \/ i = 10 \/ i = 11 := by omega
   have HEE := zq hE
   have HSZ := zq hSZ
   clear hE hSZ
   have HW1 := zq hx1'
   clear hx1'
   rcases his with rfl | rfl | rfl | rfl | rfl | rfl | rfl | rfl | rfl | rfl | rfl | rfl
   all_goals (simp at ho; subst ho)
   ·
    refine .inl ⟨rfl, ?_⟩
    have o2 : b'.tmps[2]?.getD undef = .pointer (some ⟨bm, 0, none⟩) := tAt (hk 2 (fun j oj _ e => (lbDst_ne (by decide) e).elim))
    have HE1 := HEE.out (.inr (by kernel_rfl))
    have q0 := HE1.cell (cZ HAC.out 0 _ rfl) id
    have ql := lZ (HE1.at_ HAC.out id)
    clear HE1
    clear hd hk
    go_step
    exact ⟨_, rfl, rfl, uZ, (by first | exact uZ | exact fun _ => uZ)⟩
   ·
    refine .inl ⟨rfl, ?_⟩
    have o3 : b'.tmps[3]?.getD undef = .pointer (some ⟨bm + 1, 0, none⟩) := tAt (hk 3 (fun j oj _ e => (lbDst_ne (by decide) e).elim))
    have HE1 := HEE.out (.inr (by kernel_rfl))
    have q0 := HE1.cell (cZ HCC2.out 0 _ rfl) id
    have q1 := HE1.cell (cZ HCC2.out 1 _ rfl) id
    have q2 := HE1.cell (cZ HCC2.out 2 _ rfl) id
    have ql := lZ (HE1.at_ HCC2.out id)
    clear HE1
    clear hd hk
    go_step
    exact ⟨_, rfl, rfl, uZ, (by first | exact uZ | exact fun _ => uZ)⟩
   ·
    refine .inl ⟨rfl, ?_⟩
    have o2 : b'.tmps[2]?.getD undef = .pointer (some ⟨bm, 0, none⟩) := tAt (hk 2 (fun j oj _ e => (lbDst_ne (by decide) e).elim))
    have HE1 := HEE.out (.inr (by kernel_rfl))
    have q0 := HE1.cell (cZ HAC.out 0 _ rfl) id
    have ql := lZ (HE1.at_ HAC.out id)
    clear HE1
    clear hd hk
    go_step
    exact ⟨_, rfl, rfl, uZ, (by first | exact uZ | exact fun _ => uZ)⟩
   ·
    refine .inl ⟨rfl, ?_⟩
    have e2 : b'.tmps[26]?.getD undef = .pointer (some ⟨B, 0, none⟩) := tAt (hd ⟨2, .data⟩ (by simp) rfl)
    clear hd hk
    go_step
    exact ⟨_, rfl, rfl, uZ, (by first | exact uZ | exact fun _ => uZ)⟩
   ·
    refine .inl ⟨rfl, ?_⟩
    have e3 : b'.tmps[27]?.getD undef = .pointer (some ⟨B, 0, none⟩) := tAt (hd ⟨3, .data⟩ (by simp) rfl)
    clear hd hk
    go_step
    exact ⟨_, rfl, rfl, uZ, (by first | exact uZ | exact fun _ => uZ)⟩
   ·
    refine .inl ⟨rfl, ?_⟩
    have e4 : b'.tmps[28]?.getD undef = .pointer (some ⟨B, 0, none⟩) := tAt (hd ⟨4, .data⟩ (by simp) rfl)
    clear hd hk
    go_step
    exact ⟨_, rfl, rfl, uZ, (by first | exact uZ | exact fun _ => uZ)⟩
   ·
    refine .inl ⟨rfl, ?_⟩
    have e5 : b'.tmps[29]?.getD undef = .pointer (some ⟨B, 0, none⟩) := tAt (hd ⟨5, .data⟩ (by simp) rfl)
    have HE1 := HEE.out (.inr (by kernel_rfl))
    have q0 := HE1.cell (cZ HMC.out 0 (.int .u64 (c : Int)) rfl) id
    have ql := lZ (HE1.at_ HMC.out id)
    clear HE1
    clear hd hk
    go_step
    exact ⟨_, rfl, rfl, uZ, (by first | exact uZ | exact fun _ => uZ)⟩
   ·
    refine .inl ⟨rfl, ?_⟩
    have o4 : b'.tmps[4]?.getD undef = .pointer (some ⟨bf, 0, none⟩) := tAt (hk 4 (fun j oj _ e => (lbDst_ne (by decide) e).elim))
    have HE1 := HEE.out (.inr (by kernel_rfl))
    have q0 := HE1.cell (cZ HFB.out 0 _ rfl) id
    have ql := lZ (HE1.at_ HFB.out id)
    clear HE1
    clear hd hk
    go_step
    exact ⟨_, rfl, rfl, uZ, (by first | exact uZ | exact fun _ => uZ)⟩
   ·
    refine .inl ⟨rfl, ?_⟩
    have e6 : b'.tmps[30]?.getD undef = .int .u64 (c : Int) := tAt (hd ⟨6, .data⟩ (by simp) rfl)
    have e7 : b'.tmps[31]?.getD undef = .int .u64 (f : Int) := tAt (hd ⟨7, .data⟩ (by simp) rfl)
    have HE1 := HEE.out (.inr (by kernel_rfl))
    have hob := ofBase_any w1' c f HCC.out HF64.out (tab_ext HEE2.out.tab (HXC.out.trans HE1))
    have HOB := zq hob
    clear HE1 hob
    clear hd hk
    go_step
    refine HOB.out.mono ?_
    rintro r w4 ⟨rfl, hx4⟩
    exact ⟨_, rfl, (by show Value.string _ = str bx; rw [HBX.out]), hx4.mono (fun _ _ e => e.elim), (by first | exact hx4 | exact fun _ => hx4)⟩
   ·
    refine .inl ⟨rfl, ?_⟩
    have e8 : b'.tmps[32]?.getD undef = str bx := tAt (hd ⟨8, .data⟩ (by simp) rfl)
    clear hd hk
    go_step
    exact ⟨_, rfl, rfl, uZ, (by first | exact uZ | exact fun _ => uZ)⟩
   ·
    refine .inl ⟨rfl, ?_⟩
    have o2 : b'.tmps[2]?.getD undef = .pointer (some ⟨bm, 0, none⟩) := tAt (hk 2 (fun j oj _ e => (lbDst_ne (by decide) e).elim))
    have o4 : b'.tmps[4]?.getD undef = .pointer (some ⟨bf, 0, none⟩) := tAt (hk 4 (fun j oj _ e => (lbDst_ne (by decide) e).elim))
    clear hd hk
    go_step
    exact ⟨_, rfl, rfl, uZ, (by first | exact uZ | exact fun _ => uZ)⟩
   ·
    refine .inl ⟨rfl, ?_⟩
    have e0 : b'.tmps[24]?.getD undef = .pointer (some ⟨B, 0, none⟩) := tAt (hd ⟨0, .data⟩ (by simp) rfl)
    have e1 : b'.tmps[25]?.getD undef = .agg #[.int .i64 e, .slice na l.length nc, .slice ba bn bc] := tAt (hd ⟨1, .data⟩ (by simp) rfl)
    have e9 : b'.tmps[33]?.getD undef = .agg #[.int .u8 8, str bx, .string ⟨#[]⟩, .slice none 0 0] := tAt (hd ⟨9, .data⟩ (by simp) rfl)
    have e10 : b'.tmps[34]?.getD undef = .func (.func 88) #[] #[.pointer (some ⟨bm, 0, none⟩), .pointer (some ⟨bf, 0, none⟩)] := tAt (hd ⟨10, .data⟩ (by simp) rfl)
    have HE1 := HEE.out (.inl rfl)
    have HX7 := zq HE1
    have hm7 := HE1.at_ HMC.out id
    have HM7 := zq hm7
    clear HE1 hm7
    clear hd hk
    go_step
    refine (mgoes_bad HM7.out e he na ba none l.length nc bn bc 0 0 8 bx [] _ _ _).mono ?_
    rintro r w5 ⟨rfl, hu, hp⟩
    exact ⟨_, rfl, hp, hu⟩
  ·intro v w1' hx1' hp
   have h11 := hp 11 (by decide)
   have HP := zq (show LsPostB B bm c n p i s tx sx bx bv done linked err e bf f (v 11) w1' from h11)
   have HU := zq hx1'
   clear hp h11 hx1'
   simp only [List.size_toArray, List.length_cons, List.length_nil, Nat.reduceAdd, fillAll, lbDst]
   go_simp
   go_wp2
   go_end0
   refine ⟨rfl, (HXC.out.mono (fun _ _ e => e.elim)).trans HU.out, ?_⟩
   exact HP.out
end Go.Proofs.YtnkmpoplibnflaaGreatDoor.Wk
