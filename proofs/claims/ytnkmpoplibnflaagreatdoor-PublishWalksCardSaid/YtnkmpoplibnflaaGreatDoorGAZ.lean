/-
  CONTRACTS of a publication's Feed. Condition: it is there.
  CONTRACT of a publication's created. Condition: it is there.
  CONTRACTS of the reference's Digits and number. No condition but that the number is one of 64 bits, the text of few bytes.
-/
import Derived.Test.YtnkmpoplibnflaaGreatDoorGAJ
import Derived.Test.YtnkmpoplibnflaaGreatDoorGAE
set_option maxRecDepth 100000
set_option maxHeartbeats 16000000
namespace Go.Proofs.YtnkmpoplibnflaaGreatDoor.Wk
open Go Go.Proofs.YtnkmpoplibnflaaGreatDoor Go.RowKit
theorem mfeed_done {w : World} {B c n p i s k : Nat} {tx sx nm tt : List UInt8} {bv cb fn : Value} {linked : Bool} {err : Int} (h : PM w B (macC c n p i s tx sx bv k nm tt cb fn true err linked)) (e : Int) (na ba : Option Addr) (nn nc bn bc : Nat) :
  Calls Tryz.prog 15 #[.pointer (some ⟨B, 0, none⟩), .agg #[.int .i64 e, .slice na nn nc, .slice ba bn bc]] w fun r w' => r = .returned (.tuple #[]) /\ Ext w w' := by
 obtain ⟨w1, hw1⟩ : ∃ u, u = w.alloc (.cells #[.int .i64 e, .slice na nn nc, .slice ba bn bc] 47) := ⟨_, rfl⟩
 have hx1 : Ext w w1 := by rw [hw1]; exact uZ.alloc _
 have HG := zq (show w1.heap[w.heap.size]? = some (.cells #[.int .i64 e, .slice na nn nc, .slice ba bn bc] 47 (0, 0)) by rw [hw1]; exact newAt _ _)
 have HX1 := zq hx1
 have HM := zq (hx1.at_ h id)
 have HW1 := zq hw1
 clear hx1 hw1 h
 go_enter Tryz.func15, Tryz.ntmps15
 go_wp2_with (go_at_call 10; fail)
 rw [show w.alloc (.cells #[.int .i64 e, .slice na nn nc, .slice ba bn bc] 47) = w1 from HW1.out.symm]
 refine (mdone_any HM.out).mono ?_
 rintro r w2 ⟨rfl, hx2⟩
 have HX2 := zq (HX1.out.trans hx2)
 clear hx2
 go_wp2
 go_end0
 exact ⟨rfl, HX2.out⟩
theorem mfeed_bound {w : World} {B c n p i s k : Nat} {tx sx nm tt : List UInt8} {bv cb fn : Value} {linked : Bool} {err : Int} (h : PM w B (macC c n p i s tx sx bv k nm tt cb fn false err linked)) (e : Int) (na ba : Option Addr) (nn nc bn bc : Nat) (g : FuncId) (hfn : fn = .func (.func g) #[.pointer (some ⟨B, 0, none⟩)] #[]) (eg : ∀ args w, (callFunc g args).run Tryz.prog w = .ok (.enter g args) w) (R : World -> Prop) (hc : ∀ w1, Ext w w1 -> Calls Tryz.prog g #[.pointer (some ⟨B, 0, none⟩), .agg #[.int .i64 e, .slice na nn nc, .slice ba bn bc]] w1 fun r w' => r = .returned (.tuple #[]) /\ R w') :
  Calls Tryz.prog 15 #[.pointer (some ⟨B, 0, none⟩), .agg #[.int .i64 e, .slice na nn nc, .slice ba bn bc]] w fun r w' => r = .returned (.tuple #[]) /\ R w' := by
 obtain ⟨w1, hw1⟩ : ∃ u, u = w.alloc (.cells #[.int .i64 e, .slice na nn nc, .slice ba bn bc] 47) := ⟨_, rfl⟩
 have hx1 : Ext w w1 := by rw [hw1]; exact uZ.alloc _
 have HG := zq (show w1.heap[w.heap.size]? = some (.cells #[.int .i64 e, .slice na nn nc, .slice ba bn bc] 47 (0, 0)) by rw [hw1]; exact newAt _ _)
 have HX1 := zq hx1
 have HM := zq (hx1.at_ h id)
 have HW1 := zq hw1
 clear hx1 hw1 h
 go_enter Tryz.func15, Tryz.ntmps15
 go_wp2_with (go_at_call 10; fail)
 rw [show w.alloc (.cells #[.int .i64 e, .slice na nn nc, .slice ba bn bc] 47) = w1 from HW1.out.symm]
 refine (mdone_any HM.out).mono ?_
 rintro r w2 ⟨rfl, hx2⟩
 have HX2 := zq (HX1.out.trans hx2)
 have HM2 := zq (hx2.at_ HM.out id)
 have HG2 := zq (hx2.at_ HG.out id)
 clear hx2
 subst hfn
 have q12 := cZ HM2.out 12 (.func (.func g) #[.pointer (some ⟨B, 0, none⟩)] #[]) rfl
 have lb := lZ HM2.out
 have d0 := cZ HG2.out 0 _ rfl
 have d1 := cZ HG2.out 1 _ rfl
 have d2 := cZ HG2.out 2 _ rfl
 have dl := lZ HG2.out
 have ha := hc w2.drew HX2.out.drew
 have HC := zq ha
 clear hc ha
 go_upto_region 2 with fail
 go_region_law (go_simp; refine HC.out.mono ?_; rintro r w3 ⟨rfl, hr⟩)
 all_goals
  have HR := zq hr
  clear hr
  go_wp2
  go_end0
  exact ⟨rfl, HR.out⟩
theorem mfeed_lit1 {w : World} {B c n p i s k : Nat} {tx sx nm tt : List UInt8} {bv cb fn : Value} {linked : Bool} {err : Int} (h : PM w B (macC c n p i s tx sx bv k nm tt cb fn false err linked)) (e : Int) (na ba : Option Addr) (nn nc bn bc : Nat) (g : FuncId) (b1 : Nat) (hfn : fn = .func (.func g) #[] #[.pointer (some ⟨b1, 0, none⟩)]) (eg : ∀ args w, (callFunc g args).run Tryz.prog w = .ok (.enter g args) w) (R : World -> Prop) (hc : ∀ w1, Ext w w1 -> Calls Tryz.prog g #[.agg #[.int .i64 e, .slice na nn nc, .slice ba bn bc], .pointer (some ⟨b1, 0, none⟩)] w1 fun r w' => r = .returned (.tuple #[]) /\ R w') :
  Calls Tryz.prog 15 #[.pointer (some ⟨B, 0, none⟩), .agg #[.int .i64 e, .slice na nn nc, .slice ba bn bc]] w fun r w' => r = .returned (.tuple #[]) /\ R w' := by
 obtain ⟨w1, hw1⟩ : ∃ u, u = w.alloc (.cells #[.int .i64 e, .slice na nn nc, .slice ba bn bc] 47) := ⟨_, rfl⟩
 have hx1 : Ext w w1 := by rw [hw1]; exact uZ.alloc _
 have HG := zq (show w1.heap[w.heap.size]? = some (.cells #[.int .i64 e, .slice na nn nc, .slice ba bn bc] 47 (0, 0)) by rw [hw1]; exact newAt _ _)
 have HX1 := zq hx1
 have HM := zq (hx1.at_ h id)
 have HW1 := zq hw1
 clear hx1 hw1 h
 go_enter Tryz.func15, Tryz.ntmps15
 go_wp2_with (go_at_call 10; fail)
 rw [show w.alloc (.cells #[.int .i64 e, .slice na nn nc, .slice ba bn bc] 47) = w1 from HW1.out.symm]
 refine (mdone_any HM.out).mono ?_
 rintro r w2 ⟨rfl, hx2⟩
 have HX2 := zq (HX1.out.trans hx2)
 have HM2 := zq (hx2.at_ HM.out id)
 have HG2 := zq (hx2.at_ HG.out id)
 clear hx2
 subst hfn
 have q12 := cZ HM2.out 12 (.func (.func g) #[] #[.pointer (some ⟨b1, 0, none⟩)]) rfl
 have lb := lZ HM2.out
 have d0 := cZ HG2.out 0 _ rfl
 have d1 := cZ HG2.out 1 _ rfl
 have d2 := cZ HG2.out 2 _ rfl
 have dl := lZ HG2.out
 have ha := hc w2.drew HX2.out.drew
 have HC := zq ha
 clear hc ha
 go_upto_region 2 with fail
 go_region_law (go_simp; refine HC.out.mono ?_; rintro r w3 ⟨rfl, hr⟩)
 all_goals
  have HR := zq hr
  clear hr
  go_wp2
  go_end0
  exact ⟨rfl, HR.out⟩
theorem mfeed_lit2 {w : World} {B c n p i s k : Nat} {tx sx nm tt : List UInt8} {bv cb fn : Value} {linked : Bool} {err : Int} (h : PM w B (macC c n p i s tx sx bv k nm tt cb fn false err linked)) (e : Int) (na ba : Option Addr) (nn nc bn bc : Nat) (g : FuncId) (b1 b2 : Nat) (hfn : fn = .func (.func g) #[] #[.pointer (some ⟨b1, 0, none⟩), .pointer (some ⟨b2, 0, none⟩)]) (eg : ∀ args w, (callFunc g args).run Tryz.prog w = .ok (.enter g args) w) (R : World -> Prop) (hc : ∀ w1, Ext w w1 -> Calls Tryz.prog g #[.agg #[.int .i64 e, .slice na nn nc, .slice ba bn bc], .pointer (some ⟨b1, 0, none⟩), .pointer (some ⟨b2, 0, none⟩)] w1 fun r w' => r = .returned (.tuple #[]) /\ R w') :
  Calls Tryz.prog 15 #[.pointer (some ⟨B, 0, none⟩), .agg #[.int .i64 e, .slice na nn nc, .slice ba bn bc]] w fun r w' => r = .returned (.tuple #[]) /\ R w' := by
 obtain ⟨w1, hw1⟩ : ∃ u, u = w.alloc (.cells #[.int .i64 e, .slice na nn nc, .slice ba bn bc] 47) := ⟨_, rfl⟩
 have hx1 : Ext w w1 := by rw [hw1]; exact uZ.alloc _
 have HG := zq (show w1.heap[w.heap.size]? = some (.cells #[.int .i64 e, .slice na nn nc, .slice ba bn bc] 47 (0, 0)) by rw [hw1]; exact newAt _ _)
 have HX1 := zq hx1
 have HM := zq (hx1.at_ h id)
 have HW1 := zq hw1
 clear hx1 hw1 h
 go_enter Tryz.func15, Tryz.ntmps15
 go_wp2_with (go_at_call 10; fail)
 rw [show w.alloc (.cells #[.int .i64 e, .slice na nn nc, .slice ba bn bc] 47) = w1 from HW1.out.symm]
 refine (mdone_any HM.out).mono ?_
 rintro r w2 ⟨rfl, hx2⟩
 have HX2 := zq (HX1.out.trans hx2)
 have HM2 := zq (hx2.at_ HM.out id)
 have HG2 := zq (hx2.at_ HG.out id)
 clear hx2
 subst hfn
 have q12 := cZ HM2.out 12 (.func (.func g) #[] #[.pointer (some ⟨b1, 0, none⟩), .pointer (some ⟨b2, 0, none⟩)]) rfl
 have lb := lZ HM2.out
 have d0 := cZ HG2.out 0 _ rfl
 have d1 := cZ HG2.out 1 _ rfl
 have d2 := cZ HG2.out 2 _ rfl
 have dl := lZ HG2.out
 have ha := hc w2.drew HX2.out.drew
 have HC := zq ha
 clear hc ha
 go_upto_region 2 with fail
 go_region_law (go_simp; refine HC.out.mono ?_; rintro r w3 ⟨rfl, hr⟩)
 all_goals
  have HR := zq hr
  clear hr
  go_wp2
  go_end0
  exact ⟨rfl, HR.out⟩
end Go.Proofs.YtnkmpoplibnflaaGreatDoor.Wk
set_option maxRecDepth 100000
set_option maxHeartbeats 16000000
namespace Go.Proofs.YtnkmpoplibnflaaGreatDoor.Wk
open Go Go.Proofs.YtnkmpoplibnflaaGreatDoor Go.RowKit
theorem mcreated_ok {w : World} {B c n p i s k : Nat} {tx sx nm tt : List UInt8} {cb fn : Value} {va : Option Addr} {vn vc : Nat} {done linked : Bool} {err : Int} (h : PM w B (macC c n p i s tx sx (.slice va vn vc) k nm tt cb fn done err linked)) (na ba : Option Addr) (nn nc bn bc : Nat) :
  Calls Tryz.prog 27 #[.pointer (some ⟨B, 0, none⟩), .agg #[.int .i64 0, .slice na nn nc, .slice ba bn bc]] w fun r w' => r = .returned (.tuple #[]) /\ Upd (At B) w w' /\ PM w' B (macC c n p i s tx sx (.slice va vn vc) 2 tx [] (.slice va vn vc) (.func (.func 33) #[.pointer (some ⟨B, 0, none⟩)] #[]) done err linked) := by
 have hb : ((0 : Int) != 0) = false := rfl
 obtain ⟨w1, hw1⟩ : ∃ u, u = w.alloc (.cells #[.int .i64 0, .slice na nn nc, .slice ba bn bc] 47) := ⟨_, rfl⟩
 have hx1 : Ext w w1 := by rw [hw1]; exact uZ.alloc _
 have hA : w1.heap[w.heap.size]? = some (.cells #[.int .i64 0, .slice na nn nc, .slice ba bn bc] 47 (0, 0)) := by rw [hw1]; exact newAt _ _
 have HX1 := zq hx1
 have HBL := zq (lZ h)
 have hm1 := hx1.at_ h id
 have HM := zq hm1
 have HW1 := zq hw1
 have a0 := cZ hA 0 _ rfl
 have a1 := cZ hA 1 _ rfl
 have a2 := cZ hA 2 _ rfl
 have la := lZ hA
 have HMD := zq (show PM w1.drew B _ from hm1)
 have m5 := cZ hm1 5 (str tx) rfl
 have m7 := cZ hm1 7 (.slice va vn vc) rfl
 have lb := lZ hm1
 clear hx1 hA hw1 h hm1
 go_enter Tryz.func27, Tryz.ntmps27
 go_upto_region 1 with fail
 rw [show w.alloc (.cells #[.int .i64 0, .slice na nn nc, .slice ba bn bc] 47) = w1 from HW1.out.symm]
 go_upto_region 3 with fail
 go_region_law (go_simp; go_at_call 32; refine (mgoes_ok HMD.out na ba va nn nc bn bc vn vc 2 tx [] _ _ _).mono ?_; rintro r w2 ⟨rfl, hu, hp⟩)
 all_goals
  have HU := zq hu
  have HP := zq hp
  clear hu hp
  go_wp2
  go_end0
  exact ⟨rfl, (HX1.out.drew.mono (fun _ _ e => e.elim)).trans HU.out, HP.out⟩
theorem mcreated_bad {w : World} {B c n p i s k : Nat} {tx sx nm tt : List UInt8} {bv cb fn : Value} {done linked : Bool} {err : Int} (h : PM w B (macC c n p i s tx sx bv k nm tt cb fn done err linked)) (e : Int) (he : e ≠ 0) (na ba : Option Addr) (nn nc bn bc : Nat) :
  Calls Tryz.prog 27 #[.pointer (some ⟨B, 0, none⟩), .agg #[.int .i64 e, .slice na nn nc, .slice ba bn bc]] w fun r w' => r = .returned (.tuple #[]) /\ Upd (At B) w w' /\ PM w' B (macC c n p i s tx sx bv k nm tt cb fn true e linked) := by
 have hb : (e != 0) = true := by simpa using he
 obtain ⟨w1, hw1⟩ : ∃ u, u = w.alloc (.cells #[.int .i64 e, .slice na nn nc, .slice ba bn bc] 47) := ⟨_, rfl⟩
 have hx1 : Ext w w1 := by rw [hw1]; exact uZ.alloc _
 have hA : w1.heap[w.heap.size]? = some (.cells #[.int .i64 e, .slice na nn nc, .slice ba bn bc] 47 (0, 0)) := by rw [hw1]; exact newAt _ _
 have HX1 := zq hx1
 have HBL := zq (lZ h)
 have hm1 := hx1.at_ h id
 have HM := zq hm1
 have HW1 := zq hw1
 have a0 := cZ hA 0 _ rfl
 have a1 := cZ hA 1 _ rfl
 have a2 := cZ hA 2 _ rfl
 have la := lZ hA
 have q13 := cZ hm1 13 (.bool done) rfl
 have q14 := cZ hm1 14 (.int .i64 err) rfl
 have f13 := freeAt hm1 13
 have f14 := freeAt hm1 14
 have lb := lZ hm1
 clear he hx1 hA hw1 h hm1
 go_enter Tryz.func27, Tryz.ntmps27
 go_upto_region 1 with fail
 rw [show w.alloc (.cells #[.int .i64 e, .slice na nn nc, .slice ba bn bc] 47) = w1 from HW1.out.symm]
 go_upto_region 2 with fail
 go_region
 go_wp2
 refine bodyPost_ret (results_none rfl _ _ _) rfl ?_
 exact ⟨rfl, (HX1.out.mono (fun _ _ e => e.elim)).trans (((Upd.own _ _ _ _).trans (Upd.own _ _ _ _)).drew), by rw [PM, drew_heapM]; exact setAt (setAt HM.out)⟩
end Go.Proofs.YtnkmpoplibnflaaGreatDoor.Wk
set_option maxRecDepth 100000
set_option maxHeartbeats 16000000
namespace Go.Proofs.YtnkmpoplibnflaaGreatDoor
open Go.RowKit
def DigInv (u m : Nat) (t : List UInt8) : Prop := (t = [] /\ m = u) \/ (t ≠ [] /\ Lib.decDigits u = (if m = 0 then [] else Lib.decDigits m) ++ t)
theorem DigInv.step {u m : Nat} {t : List UInt8} (h : DigInv u m t) (hc : 0 < m \/ t = []) : DigInv u (m / 10) (UInt8.ofNat (48 + m % 10) :: t) := by
 have key : Lib.decDigits m = (if m / 10 = 0 then [] else Lib.decDigits (m / 10)) ++ [UInt8.ofNat (48 + m % 10)] := by
  rw [Lib.decDigits]
  split
  ·rename_i h10
   rw [if_pos (by omega), Nat.mod_eq_of_lt h10]; rfl
  ·rename_i h10
   rw [if_neg (by omega)]
 refine .inr ⟨by simp, ?_⟩
 rcases h with ⟨rfl, rfl⟩ | ⟨h1, h2⟩
 ·rw [key]
 ·have hm : ¬ m = 0 := by rcases hc with hc | hc; omega; exact absurd hc h1
  rw [h2, if_neg hm, key, List.append_assoc]; rfl
theorem DigInv.done {u m : Nat} {t : List UInt8} (h : DigInv u m t) (hm : m = 0) (ht : t ≠ []) : Lib.decDigits u = t := by
 rcases h with ⟨h1, -⟩ | ⟨-, h2⟩
 ·exact absurd h1 ht
 ·rw [h2, if_pos hm]; rfl
def digM (a b : Value) : Nat := 2 * (intOf a).toNat + (match b with | .string s => if s.size = 0 then 1 else 0 | _ => 0)
theorem digM_le (a b : Value) : 2 * (intOf a).toNat <= digM a b /\ digM a b <= 2 * (intOf a).toNat + 1 := by
 unfold digM
 split
 ·split <;> omega
 ·omega
theorem digits_any (w : World) (u : Nat) (hu : u < 18446744073709551616) :
  Calls Tryz.prog 35 #[.int .u64 u] w fun e w' => e = .returned (str (Lib.decDigits u)) /\ Ext w w' := by
 go_enter Tryz.func35, Tryz.ntmps35
 go_wp2
 go_loopw [0, 3] (fun a b wr => ∃ (m : Nat) (t : List UInt8), m <= u /\ a = .int .u64 m /\ b = str t /\ t.length <= 20 /\ DigInv u m t /\ Ext w wr) (fun a b _ => digM a b)
 case atStart => exact ⟨u, [], Nat.le_refl _, rfl, rfl, by simp, .inl ⟨rfl, rfl⟩, uZ⟩
 case round =>
  obtain ⟨m, t, hm, rfl, rfl, htl, hinv, hx⟩ := hrel
  have hm64 : m < 18446744073709551616 := by omega
  have HI := zq hinv
  have HX := zq hx
  have hl : Hid (0 < m \/ t = [] -> (UInt8.ofNat (48 + m % 10) :: t).length <= 20) := zq (fun hc => by
   have := hinv.step hc
   rcases this with ⟨h, -⟩ | ⟨-, h⟩
   ·cases h
   ·have hd := dec_len hu
    rw [h, List.length_append] at hd
    simp only [List.length_cons] at hd ⊢; omega)
  clear hinv hx
  have body : ∀ (hc : 0 < m \/ t = []), Bytes (At wr.heap.size) (wr.alloc (.cells #[.int .u8 (48 + (m : Int) % 10)] 5)) (.slice (some ⟨wr.heap.size, 0, none⟩) 1 1) [UInt8.ofNat (48 + m % 10)] := fun _ => by
   have := row_new wr #[.int .u8 (48 + (m : Int) % 10)] 5 1 wr.heap.size (by decide) rfl
   rw [show (#[.int .u8 (48 + (m : Int) % 10)] : Array Value).toList = [UInt8.ofNat (48 + m % 10)].map YtnkmpoplibnflaaGreatDoor.u8 from by
    simp only [List.map_cons, List.map_nil, YtnkmpoplibnflaaGreatDoor.u8]
    rw [digit_toNat (Nat.mod_lt _ (by decide))]
    show [Value.int .u8 (48 + (m : Int) % 10)] = [Value.int .u8 ((48 + m % 10 : Nat) : Int)]
    congr 2] at this
   exact this
  obtain ⟨c, hc⟩ : ∃ c, c = UInt8.ofNat (48 + m % 10) := ⟨_, rfl⟩
  rw [<- hc] at body hl
  have HC := zq hc
  clear hc
  by_cases hgo : 0 < m \/ t = []
  ·have hcv := row_string (P := Tryz.prog) (body hgo) Tryz.underlying23 Tryz.underlying5 Tryz.underlying9
   have HGO := zq hgo
   clear body hgo
   by_cases hm0 : 0 < m
   ·go_wp2
    go_roundw
    case rel =>
     refine ⟨m / 10, c :: t, by omega, congrArg (Value.int .u64) (by omega), ?_, hl.out HGO.out, by rw [HC.out]; exact HI.out.step HGO.out, HX.out.alloc _⟩
     show Value.string _ = _
     congr 1
     first | done | (apply ByteArray.ext; simp)
    case measure => exact Nat.lt_of_le_of_lt (digM_le _ _).2 (Nat.lt_of_lt_of_le (by simp [intOf]; omega) (digM_le _ _).1)
   ·have ht : t = [] := by rcases HGO.out with h | h; omega; exact h
    subst ht
    go_wp2
    go_roundw
    case rel =>
     refine ⟨m / 10, [c], by omega, congrArg (Value.int .u64) (by omega), ?_, by simp, by rw [HC.out]; exact HI.out.step HGO.out, HX.out.alloc _⟩
     first | rfl | (show Value.string _ = _; congr 1; first | done | (apply ByteArray.ext; simp))
    case measure =>
     have e2 : (m : Int) = 0 := by omega
     simp [digM, intOf, e2]
     rw [if_neg (show ¬ ((⟨#[c]⟩ : ByteArray) = ByteArray.empty /\ (⟨#[]⟩ : ByteArray) = ByteArray.empty) from fun h => absurd (show 1 = 0 from congrArg ByteArray.size h.1) (by decide)), if_pos (show (⟨#[]⟩ : ByteArray) = ByteArray.empty from rfl)]; decide
  ·clear body
   have hm0 : m = 0 := by omega
   have ht : t ≠ [] := fun e => hgo (.inr e)
   have HT := zq ht
   have hb : ((⟨t.toArray⟩ : ByteArray).toList == (⟨#[]⟩ : ByteArray).toList) = false := by
    rw [beq_eq_false_iff_ne, bytes_toList]; intro e; exact ht (e.trans (bytes_toList []))
   have hb2 : t.isEmpty = false := by simpa using ht
   have hb3 : (t == []) = false := by simpa using ht
   subst hm0
   clear hgo ht
   go_wp2
   go_ret
   exact ⟨by rw [HI.out.done rfl HT.out]; rfl, HX.out⟩
def numS (n : Nat) (c : UInt8) : Nat := (10 * n + (c.toNat + 208) % 256) % 18446744073709551616
def valF (s : List UInt8) : Nat := (s.take 20).foldl numS 0
theorem foldl_lt : ∀ (l : List UInt8) (n : Nat), n < 18446744073709551616 -> l.foldl numS n < 18446744073709551616
 | [], _, h => h
 | c :: r, n, _ => foldl_lt r _ (Nat.mod_lt _ (by decide))
theorem valF_lt (s : List UInt8) : valF s < 18446744073709551616 := foldl_lt _ 0 (by decide)
theorem fold_digits : ∀ u : Nat, u < 18446744073709551616 -> (Lib.decDigits u).foldl numS 0 = u := by
 intro u
 induction u using Nat.strongRecOn with
 | ind u ih =>
  intro hu
  rw [Lib.decDigits]
  split
  ·rename_i h
   have hd := digit_toNat h
   show numS 0 _ = u
   unfold numS; rw [hd]; omega
  ·rename_i h
   have hd := digit_toNat (show u % 10 < 10 from Nat.mod_lt _ (by decide))
   rw [List.foldl_append, ih (u / 10) (by omega) (by omega)]
   show numS (u / 10) _ = u
   unfold numS; rw [hd]; omega
theorem valF_digits {u : Nat} (hu : u < 18446744073709551616) : valF (Lib.decDigits u) = u := by
 unfold valF
 rw [List.take_of_length_le (dec_len hu), fold_digits u hu]
theorem numF_val (s : List UInt8) : (Lib.decDigits (valF s) = s ↔ numF s = some (valF s)) /\ (∀ u, numF s = some u -> valF s = u) := by
 have h2 : ∀ u, numF s = some u -> valF s = u := fun u h => by
  obtain ⟨h1, h2, -⟩ := numF_some h
  rw [<- h1]; exact valF_digits h2
 refine ⟨⟨fun h => ?_, fun h => (numF_some h).1⟩, h2⟩
 have := numF_digits (valF_lt s)
 rwa [h] at this
def okF (s : List UInt8) : Bool := eqB (Lib.decDigits (valF s)) s
theorem take_snoc {s : List UInt8} {k : Nat} (h : k < s.length) : s.take (k + 1) = s.take k ++ [s[k]] := List.take_succ_eq_append_getElem h
theorem number_any (w : World) (s : List UInt8) (hs : s.length <= 1000000) :
  Calls Tryz.prog 49 #[str s] w fun e w' => e = .returned (.tuple #[.int .u64 (valF s), .bool (okF s)]) /\ Ext w w' := by
 go_enter Tryz.func49, Tryz.ntmps49
 go_wp2
 go_loop [4, 5] (fun a b => ∃ (n k : Nat), k <= s.length /\ k <= 20 /\ a = .int .u64 n /\ b = .int .i64 k /\ n < 18446744073709551616 /\ n = (s.take k).foldl numS 0) (fun _ b => 20 - (intOf b).toNat)
 case atStart => exact ⟨0, 0, Nat.zero_le _, by omega, rfl, rfl, by decide, rfl⟩
 case round =>
  obtain ⟨n, k, hk, hk20, rfl, rfl, hn, hval⟩ := hrel
  have HV := zq hval
  have HN := zq hn
  clear hval hn
  have hsz : (⟨s.toArray⟩ : ByteArray).size = s.length := rfl
  by_cases hlt : k < s.length /\ k < 20
  ·obtain ⟨h1, h2⟩ := hlt
   obtain ⟨c, hc⟩ : ∃ c, c = s[k] := ⟨_, rfl⟩
   have hix := index_str (P := Tryz.prog) (T := 9) Tryz.underlying9 (ps := s) (k := k) (c := c) (m := c.toNat) (by rw [hc]; simp [h1]) rfl
   have hcl : (c.toNat : Int) < 256 := by have := c.toNat_lt; omega
   have HC := zq hc
   have hst : (s.take (k + 1)).foldl numS 0 = numS n c := by rw [take_snoc h1, List.foldl_append, <- HV.out, <- hc]; rfl
   have HS := zq hst
   clear hc hst hsz
   go_wp2
   go_round
   case rel =>
    refine ⟨numS n c, k + 1, by omega, by omega, ?_, by go_num, Nat.mod_lt _ (by decide), HS.out.symm⟩
    congr 1
    simp only [IntKind.wrap_u64]
    unfold numS
    omega
   case measure => simp [intOf]; omega
  ·have hv : n = valF s := by
    rw [HV.out]; unfold valF
    by_cases h1 : k < s.length
    ·rw [show k = 20 by omega]
    ·rw [List.take_of_length_le (by omega), List.take_of_length_le (by omega)]
   have HN2 := zq (show n < 18446744073709551616 from HN.out)
   have hfin : ∀ wx, wx = w -> True := fun _ _ => trivial
   have tail : Hid (∀ (D : List UInt8), D = Lib.decDigits n -> okF s = eqB D s) := zq (fun D hD => by unfold okF; rw [hD, hv])
   have HVV := zq hv
   clear hv hfin
   by_cases h1 : k < s.length
   all_goals
    go_wp2_with (go_at_call 35; fail)
    refine (digits_any _ n HN2.out).mono ?_
    rintro e w1 ⟨rfl, hx1⟩
    have HX1 := zq hx1
    obtain ⟨D, hD⟩ : ∃ D, D = Lib.decDigits n := ⟨_, rfl⟩
    rw [<- hD]
    have HT := zq (tail.out D hD)
    clear hx1 hD
    by_cases he : D = s
    ·have HE := zq he
     subst he
     go_wp2
     go_ret2
     exact ⟨by rw [HT.out, eqB_self, <- HVV.out]; rfl, HX1.out⟩
    ·have hb : (D == s) = false := by rw [beq_eq_false_iff_ne]; exact he
     have hb2 : ((⟨D.toArray⟩ : ByteArray).toList == (⟨s.toArray⟩ : ByteArray).toList) = false := by rw [beq_eq_false_iff_ne, bytes_toList, bytes_toList]; exact he
     have HE := zq he
     clear he
     go_wp2
     go_ret2
     exact ⟨by rw [HT.out, eqB_ne HE.out, <- HVV.out]; rfl, HX1.out⟩
end Go.Proofs.YtnkmpoplibnflaaGreatDoor
