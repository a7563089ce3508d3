/-
  CONTRACTS of a publication's Done, Err, Linked. Condition: it is there.
  CONTRACT of a publication's ends. Condition: it is there.
  CONTRACT of a publication's goes. Condition: it is there.
  CONTRACT of a publication's tied. Condition: it is there.
  CONTRACTS of a publication's written, synced. Condition: it is there.
  CONTRACT of what a publication's ends leads to. Condition: it is there.
-/
import Derived.Test.YtnkmpoplibnflaaGreatDoorGAI
set_option maxRecDepth 100000
set_option maxHeartbeats 16000000
namespace Go.Proofs.YtnkmpoplibnflaaGreatDoor.Wk
open Go Go.Proofs.YtnkmpoplibnflaaGreatDoor Go.RowKit
abbrev PM (w : World) (B : Nat) (cs : Array Value) : Prop := w.heap[B]? = some (.cells cs 66 (0, 0))
section
variable {w : World} {B c n p i s k : Nat} {tx sx nm tt : List UInt8} {bv cb fn : Value} {done linked : Bool} {err : Int}
theorem mdone_any (h : PM w B (macC c n p i s tx sx bv k nm tt cb fn done err linked)) :
  Calls Tryz.prog 10 #[.pointer (some ⟨B, 0, none⟩)] w fun e w' => e = .returned (.bool done) /\ Ext w w' := by
 have g := cZ h 13 (.bool done) rfl
 have gl := lZ h
 clear h
 go_enter Tryz.func10, Tryz.ntmps10
 go_wp2
 go_ret
 exact ⟨rfl, uZ⟩
theorem merr_any (h : PM w B (macC c n p i s tx sx bv k nm tt cb fn done err linked)) :
  Calls Tryz.prog 11 #[.pointer (some ⟨B, 0, none⟩)] w fun e w' => e = .returned (.int .i64 err) /\ Ext w w' := by
 have g := cZ h 14 (.int .i64 err) rfl
 have gl := lZ h
 clear h
 go_enter Tryz.func11, Tryz.ntmps11
 go_wp2
 go_ret
 exact ⟨rfl, uZ⟩
theorem mlinked_any (h : PM w B (macC c n p i s tx sx bv k nm tt cb fn done err linked)) :
  Calls Tryz.prog 12 #[.pointer (some ⟨B, 0, none⟩)] w fun e w' => e = .returned (.bool linked) /\ Ext w w' := by
 have g := cZ h 15 (.bool linked) rfl
 have gl := lZ h
 clear h
 go_enter Tryz.func12, Tryz.ntmps12
 go_wp2
 go_ret
 exact ⟨rfl, uZ⟩
end
end Go.Proofs.YtnkmpoplibnflaaGreatDoor.Wk
set_option maxRecDepth 100000
set_option maxHeartbeats 16000000
namespace Go.Proofs.YtnkmpoplibnflaaGreatDoor.Wk
open Go Go.Proofs.YtnkmpoplibnflaaGreatDoor Go.RowKit
def ThenEnds (w : World) (B : Nat) (fn : Value) (e : Int) : Prop := ∃ be bm, fn = .func (.func 56) #[] #[.pointer (some ⟨be, 0, none⟩), .pointer (some ⟨bm, 0, none⟩)] /\ B < be /\ B < bm ∧
 w.heap[be]? = some (.cells #[.int .i64 e] 36 (0, 0)) /\ w.heap[bm]? = some (.cells #[.pointer (some ⟨B, 0, none⟩)] 31 (0, 0))
theorem drew_heapM (w : World) : w.drew.heap = w.heap := rfl
theorem now_stores {w : World} {B c n p i s k : Nat} {tx sx nm tt : List UInt8} {bv cb fn : Value} {done linked : Bool} {err : Int} (h : PM w B (macC c n p i s tx sx bv k nm tt cb fn done err linked)) (v8 v9 v10 v11 v12 : Value) :
  ((((( w.setCell ⟨B, 8, none⟩ v8).setCell ⟨B, 9, none⟩ v9).setCell ⟨B, 10, none⟩ v10).setCell ⟨B, 11, none⟩ v11).setCell ⟨B, 12, none⟩ v12).heap[B]? = some (.cells #[.int .u64 (c : Int), .int .u64 (n : Int), .int .u64 (p : Int), .int .u64 (i : Int), .int .u64 (s : Int), str tx, str sx, bv, v8, v9, v10, v11, v12, .bool done, .int .i64 err, .bool linked] 66 (0, 0)) ∧
   Upd (At B) w ((((( w.setCell ⟨B, 8, none⟩ v8).setCell ⟨B, 9, none⟩ v9).setCell ⟨B, 10, none⟩ v10).setCell ⟨B, 11, none⟩ v11).setCell ⟨B, 12, none⟩ v12) :=
 ⟨setAt (setAt (setAt (setAt (setAt h)))), ((((Upd.own _ _ _ _).trans (Upd.own _ _ _ _)).trans (Upd.own _ _ _ _)).trans (Upd.own _ _ _ _)).trans (Upd.own _ _ _ _)⟩
theorem mends_any {w : World} {B c n p i s k : Nat} {tx sx nm tt : List UInt8} {bv cb fn : Value} {done linked : Bool} {err : Int} (h : PM w B (macC c n p i s tx sx bv k nm tt cb fn done err linked)) (e : Int) :
  Calls Tryz.prog 46 #[.pointer (some ⟨B, 0, none⟩), .int .i64 e] w fun r w' => r = .returned (.tuple #[]) /\ Upd (At B) w w' /\ ∃ fn', ThenEnds w' B fn' e /\ PM w' B (macC c n p i s tx sx bv 6 tx [] (.slice none 0 0) fn' done err linked) := by
 have hBl := lZ h
 obtain ⟨w1, hw1⟩ : ∃ u, u = (w.alloc (.cells #[.pointer (some ⟨B, 0, none⟩)] 31)).alloc (.cells #[.int .i64 e] 36) := ⟨_, rfl⟩
 have hx1 : Ext w w1 := by rw [hw1]; exact (uZ.alloc _).alloc _
 have hA : w1.heap[w.heap.size]? = some (.cells #[.pointer (some ⟨B, 0, none⟩)] 31 (0, 0)) := by rw [hw1]; exact (Upd.refl Nothing _).alloc _ |>.at_ (newAt _ _) id
 have hB : w1.heap[w.heap.size + 1]? = some (.cells #[.int .i64 e] 36 (0, 0)) := by
  rw [hw1]
  have := newAt (w.alloc (.cells #[.pointer (some ⟨B, 0, none⟩)] 31)) (.cells #[.int .i64 e] 36)
  rw [show (w.alloc (.cells #[.pointer (some ⟨B, 0, none⟩)] 31)).heap.size = w.heap.size + 1 by simp] at this
  exact this
 have HX1 := zq hx1
 have HA := zq hA
 have HB := zq hB
 have HM := zq (hx1.at_ h id)
 have HW1 := zq hw1
 have HBL := zq hBl
 clear hx1 hA hB hw1 h
 have m5 := cZ HM.out 5 (str tx) rfl
 have q8 := cZ HM.out 8 (.int .u8 (k : Int)) rfl
 have q9 := cZ HM.out 9 (str nm) rfl
 have q10 := cZ HM.out 10 (str tt) rfl
 have q11 := cZ HM.out 11 cb rfl
 have q12 := cZ HM.out 12 fn rfl
 have f8 := freeAt HM.out 8
 have f9 := freeAt HM.out 9
 have f10 := freeAt HM.out 10
 have f11 := freeAt HM.out 11
 have f12 := freeAt HM.out 12
 have lb := lZ HM.out
 have a0 := cZ HA.out 0 _ rfl
 have la := lZ HA.out
 have b0 := cZ HB.out 0 _ rfl
 have hsf : ∀ w' : World, (store ⟨B, 12, none⟩ (.func (.func 56) #[] #[.pointer (some ⟨w.heap.size + 1, 0, none⟩), .pointer (some ⟨w.heap.size, 0, none⟩)])).run Tryz.prog w' = stored Tryz.prog w' ⟨B, 12, none⟩ (.func (.func 56) #[] #[.pointer (some ⟨w.heap.size + 1, 0, none⟩), .pointer (some ⟨w.heap.size, 0, none⟩)]) .plain := fun w' => run_store Tryz.prog w' _ _ _ rfl
 go_enter Tryz.func46, Tryz.ntmps46
 go_upto_region 1 with fail
 rw [show (w.alloc (.cells #[.pointer (some ⟨B, 0, none⟩)] 31)).alloc (.cells #[.int .i64 e] 36) = w1 from HW1.out.symm]
 go_region
 obtain ⟨w9, hw9⟩ : ∃ u, u = (((((w1.setCell ⟨B, 8, none⟩ (.int .u8 6)).setCell ⟨B, 9, none⟩ (.string ⟨tx.toArray⟩)).setCell ⟨B, 10, none⟩ (.string ⟨#[]⟩)).setCell ⟨B, 11, none⟩ (.slice none 0 0)).setCell ⟨B, 12, none⟩ (.func (.func 56) #[] #[.pointer (some ⟨w.heap.size + 1, 0, none⟩), .pointer (some ⟨w.heap.size, 0, none⟩)])).drew := ⟨_, rfl⟩
 rw [<- hw9]
 have hst := now_stores HM.out (.int .u8 6) (str tx) (str []) (.slice none 0 0) (.func (.func 56) #[] #[.pointer (some ⟨w.heap.size + 1, 0, none⟩), .pointer (some ⟨w.heap.size, 0, none⟩)])
 have hg9 : w9.heap[B]? = some (.cells (macC c n p i s tx sx bv 6 tx [] (.slice none 0 0) (.func (.func 56) #[] #[.pointer (some ⟨w.heap.size + 1, 0, none⟩), .pointer (some ⟨w.heap.size, 0, none⟩)]) done err linked) 66 (0, 0)) := by rw [hw9, drew_heapM]; exact hst.1
 have hu9 : Upd (At B) w1 w9 := by rw [hw9]; exact hst.2.drew
 have HG9 := zq hg9
 have HU9 := zq hu9
 clear hst hg9 hu9 hw9 m5 q8 q9 q10 q11 q12 f8 f9 f10 f11 f12 lb a0 la b0 hsf
 go_wp2
 go_end0
 refine ⟨rfl, (HX1.out.mono (fun _ _ e => e.elim)).trans HU9.out, _, ⟨w.heap.size + 1, w.heap.size, rfl, by have := HBL.out; omega, HBL.out, ?_, ?_⟩, HG9.out⟩
 ·exact HU9.out.at_ HB.out (fun e => by have e : w.heap.size + 1 = B := e; have := HBL.out; omega)
 ·exact HU9.out.at_ HA.out (fun e => by have e : w.heap.size = B := e; have := HBL.out; omega)
end Go.Proofs.YtnkmpoplibnflaaGreatDoor.Wk
set_option maxRecDepth 100000
set_option maxHeartbeats 16000000
namespace Go.Proofs.YtnkmpoplibnflaaGreatDoor.Wk
open Go Go.Proofs.YtnkmpoplibnflaaGreatDoor Go.RowKit
theorem mgoes_bad {w : World} {B c n p i s k : Nat} {tx sx nm tt : List UInt8} {bv cb fn : Value} {done linked : Bool} {err : Int} (h : PM w B (macC c n p i s tx sx bv k nm tt cb fn done err linked)) (e : Int) (he : e ≠ 0) (na ba ca : Option Addr) (nn nc bn bc cn cc k' : Nat) (nm' tt' : List UInt8) (f : Fn) (x1 x2 : Array Value) :
  Calls Tryz.prog 32 #[.pointer (some ⟨B, 0, none⟩), .agg #[.int .i64 e, .slice na nn nc, .slice ba bn bc], .agg #[.int .u8 (k' : Int), str nm', str tt', .slice ca cn cc], .func f x1 x2] w fun r w' => r = .returned (.tuple #[]) /\ Upd (At B) w w' /\ ∃ fn', ThenEnds w' B fn' e /\ PM w' B (macC c n p i s tx sx bv 6 tx [] (.slice none 0 0) fn' done err linked) := by
 have hb : (e != 0) = true := by simpa using he
 obtain ⟨w1, hw1⟩ : ∃ u, u = (w.alloc (.cells #[.int .i64 e, .slice na nn nc, .slice ba bn bc] 47)).alloc (.cells #[.int .u8 (k' : Int), str nm', str tt', .slice ca cn cc] 40) := ⟨_, rfl⟩
 have hx1 : Ext w w1 := by rw [hw1]; exact (uZ.alloc _).alloc _
 have hA : w1.heap[w.heap.size]? = some (.cells #[.int .i64 e, .slice na nn nc, .slice ba bn bc] 47 (0, 0)) := by rw [hw1]; exact (Upd.refl Nothing _).alloc _ |>.at_ (newAt _ _) id
 have HX1 := zq hx1
 have HM := zq (hx1.at_ h id)
 have HW1 := zq hw1
 have a0 := cZ hA 0 _ rfl
 have la := lZ hA
 clear hx1 hA hw1 h he
 go_enter Tryz.func32, Tryz.ntmps32
 go_upto_region 1 with fail
 rw [show (w.alloc (.cells #[.int .i64 e, .slice na nn nc, .slice ba bn bc] 47)).alloc (.cells #[.int .u8 (k' : Int), .string ⟨nm'.toArray⟩, .string ⟨tt'.toArray⟩, .slice ca cn cc] 40) = w1 from HW1.out.symm]
 go_wp2_with (go_at_call 46; fail)
 refine (mends_any HM.out e).mono ?_
 rintro r w2 ⟨rfl, hu, fn', h1, h2⟩
 have HU := zq hu
 have H1 := zq h1
 have H2 := zq h2
 clear hu h1 h2
 go_wp2
 refine bodyPost_ret (results_none rfl _ _ _) rfl ?_
 exact ⟨rfl, (HX1.out.mono (fun _ _ e => e.elim)).trans HU.out, fn', H1.out, H2.out⟩
theorem mgoes_ok {w : World} {B c n p i s k : Nat} {tx sx nm tt : List UInt8} {bv cb fn : Value} {done linked : Bool} {err : Int} (h : PM w B (macC c n p i s tx sx bv k nm tt cb fn done err linked)) (na ba ca : Option Addr) (nn nc bn bc cn cc k' : Nat) (nm' tt' : List UInt8) (f : Fn) (x1 x2 : Array Value) :
  Calls Tryz.prog 32 #[.pointer (some ⟨B, 0, none⟩), .agg #[.int .i64 0, .slice na nn nc, .slice ba bn bc], .agg #[.int .u8 (k' : Int), str nm', str tt', .slice ca cn cc], .func f x1 x2] w fun r w' => r = .returned (.tuple #[]) /\ Upd (At B) w w' /\ PM w' B (macC c n p i s tx sx bv k' nm' tt' (.slice ca cn cc) (.func f x1 x2) done err linked) := by
 obtain ⟨w1, hw1⟩ : ∃ u, u = (w.alloc (.cells #[.int .i64 0, .slice na nn nc, .slice ba bn bc] 47)).alloc (.cells #[.int .u8 (k' : Int), str nm', str tt', .slice ca cn cc] 40) := ⟨_, rfl⟩
 have hx1 : Ext w w1 := by rw [hw1]; exact (uZ.alloc _).alloc _
 have hA : w1.heap[w.heap.size]? = some (.cells #[.int .i64 0, .slice na nn nc, .slice ba bn bc] 47 (0, 0)) := by rw [hw1]; exact (Upd.refl Nothing _).alloc _ |>.at_ (newAt _ _) id
 have hC : w1.heap[w.heap.size + 1]? = some (.cells #[.int .u8 (k' : Int), str nm', str tt', .slice ca cn cc] 40 (0, 0)) := by
  rw [hw1]
  have := newAt (w.alloc (.cells #[.int .i64 0, .slice na nn nc, .slice ba bn bc] 47)) (.cells #[.int .u8 (k' : Int), str nm', str tt', .slice ca cn cc] 40)
  rw [show (w.alloc (.cells #[.int .i64 0, .slice na nn nc, .slice ba bn bc] 47)).heap.size = w.heap.size + 1 by simp] at this
  exact this
 have HX1 := zq hx1
 have HM := zq (hx1.at_ h id)
 have HW1 := zq hw1
 have a0 := cZ hA 0 _ rfl
 have la := lZ hA
 have c0 := cZ hC 0 _ rfl
 have c1 := cZ hC 1 _ rfl
 have c2 := cZ hC 2 _ rfl
 have c3 := cZ hC 3 _ rfl
 have lc := lZ hC
 have q8 := cZ HM.out 8 (.int .u8 (k : Int)) rfl
 have q9 := cZ HM.out 9 (str nm) rfl
 have q10 := cZ HM.out 10 (str tt) rfl
 have q11 := cZ HM.out 11 cb rfl
 have q12 := cZ HM.out 12 fn rfl
 have f8 := freeAt HM.out 8
 have f9 := freeAt HM.out 9
 have f10 := freeAt HM.out 10
 have f11 := freeAt HM.out 11
 have f12 := freeAt HM.out 12
 have lb := lZ HM.out
 have hsf : ∀ w' : World, (store ⟨B, 12, none⟩ (.func f x1 x2)).run Tryz.prog w' = stored Tryz.prog w' ⟨B, 12, none⟩ (.func f x1 x2) .plain := fun w' => run_store Tryz.prog w' _ _ _ rfl
 clear hx1 hA hC hw1 h
 go_enter Tryz.func32, Tryz.ntmps32
 go_upto_region 1 with fail
 rw [show (w.alloc (.cells #[.int .i64 0, .slice na nn nc, .slice ba bn bc] 47)).alloc (.cells #[.int .u8 (k' : Int), .string ⟨nm'.toArray⟩, .string ⟨tt'.toArray⟩, .slice ca cn cc] 40) = w1 from HW1.out.symm]
 go_wp2
 go_end0
 have hst := now_stores HM.out (.int .u8 (k' : Int)) (str nm') (str tt') (.slice ca cn cc) (.func f x1 x2)
 exact ⟨rfl, (HX1.out.mono (fun _ _ e => e.elim)).trans hst.2, hst.1⟩
end Go.Proofs.YtnkmpoplibnflaaGreatDoor.Wk
set_option maxRecDepth 100000
set_option maxHeartbeats 16000000
namespace Go.Proofs.YtnkmpoplibnflaaGreatDoor.Wk
open Go Go.Proofs.YtnkmpoplibnflaaGreatDoor Go.RowKit
theorem mtied_ok {w : World} {B c n p i s k : Nat} {tx sx nm tt : List UInt8} {bv cb fn : Value} {done linked : Bool} {err : Int} (h : PM w B (macC c n p i s tx sx bv k nm tt cb fn done err linked)) (na ba : Option Addr) (nn nc bn bc : Nat) :
  Calls Tryz.prog 57 #[.pointer (some ⟨B, 0, none⟩), .agg #[.int .i64 0, .slice na nn nc, .slice ba bn bc]] w fun r w' => r = .returned (.tuple #[]) /\ Upd (At B) w w' /\ PM w' B (macC c n p i s tx sx bv 7 [] [] (.slice none 0 0) (.func (.func 67) #[.pointer (some ⟨B, 0, none⟩)] #[]) done err true) := by
 have hb : ((0 : Int) == 0) = true := rfl
 obtain ⟨w1, hw1⟩ : ∃ u, u = w.alloc (.cells #[.int .i64 0, .slice na nn nc, .slice ba bn bc] 47) := ⟨_, rfl⟩
 have hx1 : Ext w w1 := by rw [hw1]; exact uZ.alloc _
 have hA : w1.heap[w.heap.size]? = some (.cells #[.int .i64 0, .slice na nn nc, .slice ba bn bc] 47 (0, 0)) := by rw [hw1]; exact newAt _ _
 have hne : ¬ w.heap.size = B := by have := lZ h; omega
 have hm1 := hx1.at_ h id
 obtain ⟨w2, hw2⟩ : ∃ u, u = w1.setCell ⟨B, 15, none⟩ (.bool true) := ⟨_, rfl⟩
 have hu2 : Upd (At B) w1 w2 := by rw [hw2]; exact Upd.own _ _ _ _
 have hm2 : PM w2 B (macC c n p i s tx sx bv k nm tt cb fn done err true) := by rw [hw2]; exact setAt hm1
 have hA2 := hu2.at_ hA (fun e => by have e : w.heap.size = B := e; omega)
 have HXU := zq ((hx1.mono (fun _ _ e => e.elim) : Upd (At B) w w1).trans hu2)
 have HM := zq hm2
 have HW1 := zq hw1
 have HW2 := zq hw2
 have a0 := cZ hA 0 _ rfl
 have la := lZ hA
 have m15 := cZ hm1 15 (.bool linked) rfl
 have f15 := freeAt hm1 15
 have lb := lZ hm1
 have HA2 := zq hA2
 clear hx1 hA hw1 h hm1 hm2 hu2 hw2 hA2 hne
 go_enter Tryz.func57, Tryz.ntmps57
 go_upto_region 1 with fail
 rw [show w.alloc (.cells #[.int .i64 0, .slice na nn nc, .slice ba bn bc] 47) = w1 from HW1.out.symm]
 go_upto_region 2 with fail
 rw [<- HW2.out]
 clear a0 la m15 f15 lb
 have a0 := cZ HA2.out 0 _ rfl
 have a1 := cZ HA2.out 1 _ rfl
 have a2 := cZ HA2.out 2 _ rfl
 have la := lZ HA2.out
 go_wp2_with (go_at_call 32; fail)
 refine (mgoes_ok HM.out na ba none nn nc bn bc 0 0 7 [] [] _ _ _).mono ?_
 rintro r w3 ⟨rfl, hu, hp⟩
 have HU := zq hu
 have HP := zq hp
 clear hu hp
 go_wp2
 go_end0
 exact ⟨rfl, HXU.out.trans HU.out, HP.out⟩
theorem mtied_bad {w : World} {B c n p i s k : Nat} {tx sx nm tt : List UInt8} {bv cb fn : Value} {done linked : Bool} {err : Int} (h : PM w B (macC c n p i s tx sx bv k nm tt cb fn done err linked)) (e : Int) (he : e ≠ 0) (na ba : Option Addr) (nn nc bn bc : Nat) :
  Calls Tryz.prog 57 #[.pointer (some ⟨B, 0, none⟩), .agg #[.int .i64 e, .slice na nn nc, .slice ba bn bc]] w fun r w' => r = .returned (.tuple #[]) /\ Upd (At B) w w' /\ ∃ fn', ThenEnds w' B fn' e /\ PM w' B (macC c n p i s tx sx bv 6 tx [] (.slice none 0 0) fn' done err false) := by
 have hb : (e == 0) = false := by simpa using he
 obtain ⟨w1, hw1⟩ : ∃ u, u = w.alloc (.cells #[.int .i64 e, .slice na nn nc, .slice ba bn bc] 47) := ⟨_, rfl⟩
 have hx1 : Ext w w1 := by rw [hw1]; exact uZ.alloc _
 have hA : w1.heap[w.heap.size]? = some (.cells #[.int .i64 e, .slice na nn nc, .slice ba bn bc] 47 (0, 0)) := by rw [hw1]; exact newAt _ _
 have hne : ¬ w.heap.size = B := by have := lZ h; omega
 have hm1 := hx1.at_ h id
 obtain ⟨w2, hw2⟩ : ∃ u, u = w1.setCell ⟨B, 15, none⟩ (.bool false) := ⟨_, rfl⟩
 have hu2 : Upd (At B) w1 w2 := by rw [hw2]; exact Upd.own _ _ _ _
 have hm2 : PM w2 B (macC c n p i s tx sx bv k nm tt cb fn done err false) := by rw [hw2]; exact setAt hm1
 have hA2 := hu2.at_ hA (fun e => by have e : w.heap.size = B := e; omega)
 have HXU := zq ((hx1.mono (fun _ _ e => e.elim) : Upd (At B) w w1).trans hu2)
 have HM := zq hm2
 have HW1 := zq hw1
 have HW2 := zq hw2
 have a0 := cZ hA 0 _ rfl
 have la := lZ hA
 have m15 := cZ hm1 15 (.bool linked) rfl
 have f15 := freeAt hm1 15
 have lb := lZ hm1
 have HA2 := zq hA2
 clear hx1 hA hw1 h hm1 hm2 hu2 hw2 hA2 hne
 go_enter Tryz.func57, Tryz.ntmps57
 go_upto_region 1 with fail
 rw [show w.alloc (.cells #[.int .i64 e, .slice na nn nc, .slice ba bn bc] 47) = w1 from HW1.out.symm]
 go_upto_region 2 with fail
 rw [<- HW2.out]
 clear a0 la m15 f15 lb
 have a0 := cZ HA2.out 0 _ rfl
 have a1 := cZ HA2.out 1 _ rfl
 have a2 := cZ HA2.out 2 _ rfl
 have la := lZ HA2.out
 go_wp2_with (go_at_call 32; fail)
 refine (mgoes_bad HM.out e he na ba none nn nc bn bc 0 0 7 [] [] _ _ _).mono ?_
 rintro r w3 ⟨rfl, hu, hp⟩
 have HU := zq hu
 have HP := zq hp
 clear hu hp
 go_wp2
 go_end0
 exact ⟨rfl, HXU.out.trans HU.out, HP.out⟩
end Go.Proofs.YtnkmpoplibnflaaGreatDoor.Wk
set_option maxRecDepth 100000
set_option maxHeartbeats 16000000
namespace Go.Proofs.YtnkmpoplibnflaaGreatDoor.Wk
open Go Go.Proofs.YtnkmpoplibnflaaGreatDoor Go.RowKit
theorem mwritten_ok {w : World} {B c n p i s k : Nat} {tx sx nm tt : List UInt8} {bv cb fn : Value} {done linked : Bool} {err : Int} (h : PM w B (macC c n p i s tx sx bv k nm tt cb fn done err linked)) (na ba : Option Addr) (nn nc bn bc : Nat) :
  Calls Tryz.prog 33 #[.pointer (some ⟨B, 0, none⟩), .agg #[.int .i64 0, .slice na nn nc, .slice ba bn bc]] w fun r w' => r = .returned (.tuple #[]) /\ Upd (At B) w w' /\ PM w' B (macC c n p i s tx sx bv 3 tx [] (.slice none 0 0) (.func (.func 47) #[.pointer (some ⟨B, 0, none⟩)] #[]) done err linked) := by
 obtain ⟨w1, hw1⟩ : ∃ u, u = w.alloc (.cells #[.int .i64 0, .slice na nn nc, .slice ba bn bc] 47) := ⟨_, rfl⟩
 have hx1 : Ext w w1 := by rw [hw1]; exact uZ.alloc _
 have hA : w1.heap[w.heap.size]? = some (.cells #[.int .i64 0, .slice na nn nc, .slice ba bn bc] 47 (0, 0)) := by rw [hw1]; exact newAt _ _
 have HX1 := zq hx1
 have hm1 := hx1.at_ h id
 have HM := zq (show PM w1.drew B _ from hm1)
 have HW1 := zq hw1
 have a0 := cZ hA 0 _ rfl
 have a1 := cZ hA 1 _ rfl
 have a2 := cZ hA 2 _ rfl
 have la := lZ hA
 have m5 := cZ hm1 5 (str tx) rfl
 have m6 := cZ hm1 6 (str sx) rfl
 have lb := lZ hm1
 clear hx1 hA hw1 h hm1
 go_enter Tryz.func33, Tryz.ntmps33
 go_upto_region 1 with fail
 rw [show w.alloc (.cells #[.int .i64 0, .slice na nn nc, .slice ba bn bc] 47) = w1 from HW1.out.symm]
 go_region_law (go_simp; go_at_call 32; refine (mgoes_ok HM.out na ba none nn nc bn bc 0 0 3 tx [] _ _ _).mono ?_; rintro r w2 ⟨rfl, hu, hp⟩)
 all_goals
  have HU := zq hu
  have HP := zq hp
  clear hu hp
  go_wp2
  go_end0
  exact ⟨rfl, (HX1.out.drew.mono (fun _ _ e => e.elim)).trans HU.out, HP.out⟩
theorem mwritten_bad {w : World} {B c n p i s k : Nat} {tx sx nm tt : List UInt8} {bv cb fn : Value} {done linked : Bool} {err : Int} (h : PM w B (macC c n p i s tx sx bv k nm tt cb fn done err linked)) (e : Int) (he : e ≠ 0) (na ba : Option Addr) (nn nc bn bc : Nat) :
  Calls Tryz.prog 33 #[.pointer (some ⟨B, 0, none⟩), .agg #[.int .i64 e, .slice na nn nc, .slice ba bn bc]] w fun r w' => r = .returned (.tuple #[]) /\ Upd (At B) w w' /\ ∃ fn', ThenEnds w' B fn' e /\ PM w' B (macC c n p i s tx sx bv 6 tx [] (.slice none 0 0) fn' done err linked) := by
 obtain ⟨w1, hw1⟩ : ∃ u, u = w.alloc (.cells #[.int .i64 e, .slice na nn nc, .slice ba bn bc] 47) := ⟨_, rfl⟩
 have hx1 : Ext w w1 := by rw [hw1]; exact uZ.alloc _
 have hA : w1.heap[w.heap.size]? = some (.cells #[.int .i64 e, .slice na nn nc, .slice ba bn bc] 47 (0, 0)) := by rw [hw1]; exact newAt _ _
 have HX1 := zq hx1
 have hm1 := hx1.at_ h id
 have HM := zq (show PM w1.drew B _ from hm1)
 have HW1 := zq hw1
 have a0 := cZ hA 0 _ rfl
 have a1 := cZ hA 1 _ rfl
 have a2 := cZ hA 2 _ rfl
 have la := lZ hA
 have m5 := cZ hm1 5 (str tx) rfl
 have m6 := cZ hm1 6 (str sx) rfl
 have lb := lZ hm1
 clear hx1 hA hw1 h hm1
 go_enter Tryz.func33, Tryz.ntmps33
 go_upto_region 1 with fail
 rw [show w.alloc (.cells #[.int .i64 e, .slice na nn nc, .slice ba bn bc] 47) = w1 from HW1.out.symm]
 go_region_law (go_simp; go_at_call 32; refine (mgoes_bad HM.out e he na ba none nn nc bn bc 0 0 3 tx [] _ _ _).mono ?_; rintro r w2 ⟨rfl, hu, hp⟩)
 all_goals
  have HU := zq hu
  have HP := zq hp
  clear hu hp
  go_wp2
  go_end0
  exact ⟨rfl, (HX1.out.drew.mono (fun _ _ e => e.elim)).trans HU.out, HP.out⟩
theorem msynced_ok {w : World} {B c n p i s k : Nat} {tx sx nm tt : List UInt8} {bv cb fn : Value} {done linked : Bool} {err : Int} (h : PM w B (macC c n p i s tx sx bv k nm tt cb fn done err linked)) (na ba : Option Addr) (nn nc bn bc : Nat) :
  Calls Tryz.prog 47 #[.pointer (some ⟨B, 0, none⟩), .agg #[.int .i64 0, .slice na nn nc, .slice ba bn bc]] w fun r w' => r = .returned (.tuple #[]) /\ Upd (At B) w w' /\ PM w' B (macC c n p i s tx sx bv 5 tx sx (.slice none 0 0) (.func (.func 57) #[.pointer (some ⟨B, 0, none⟩)] #[]) done err linked) := by
 obtain ⟨w1, hw1⟩ : ∃ u, u = w.alloc (.cells #[.int .i64 0, .slice na nn nc, .slice ba bn bc] 47) := ⟨_, rfl⟩
 have hx1 : Ext w w1 := by rw [hw1]; exact uZ.alloc _
 have hA : w1.heap[w.heap.size]? = some (.cells #[.int .i64 0, .slice na nn nc, .slice ba bn bc] 47 (0, 0)) := by rw [hw1]; exact newAt _ _
 have HX1 := zq hx1
 have hm1 := hx1.at_ h id
 have HM := zq (show PM w1.drew B _ from hm1)
 have HW1 := zq hw1
 have a0 := cZ hA 0 _ rfl
 have a1 := cZ hA 1 _ rfl
 have a2 := cZ hA 2 _ rfl
 have la := lZ hA
 have m5 := cZ hm1 5 (str tx) rfl
 have m6 := cZ hm1 6 (str sx) rfl
 have lb := lZ hm1
 clear hx1 hA hw1 h hm1
 go_enter Tryz.func47, Tryz.ntmps47
 go_upto_region 1 with fail
 rw [show w.alloc (.cells #[.int .i64 0, .slice na nn nc, .slice ba bn bc] 47) = w1 from HW1.out.symm]
 go_region_law (go_simp; go_at_call 32; refine (mgoes_ok HM.out na ba none nn nc bn bc 0 0 5 tx sx _ _ _).mono ?_; rintro r w2 ⟨rfl, hu, hp⟩)
 all_goals
  have HU := zq hu
  have HP := zq hp
  clear hu hp
  go_wp2
  go_end0
  exact ⟨rfl, (HX1.out.drew.mono (fun _ _ e => e.elim)).trans HU.out, HP.out⟩
theorem msynced_bad {w : World} {B c n p i s k : Nat} {tx sx nm tt : List UInt8} {bv cb fn : Value} {done linked : Bool} {err : Int} (h : PM w B (macC c n p i s tx sx bv k nm tt cb fn done err linked)) (e : Int) (he : e ≠ 0) (na ba : Option Addr) (nn nc bn bc : Nat) :
  Calls Tryz.prog 47 #[.pointer (some ⟨B, 0, none⟩), .agg #[.int .i64 e, .slice na nn nc, .slice ba bn bc]] w fun r w' => r = .returned (.tuple #[]) /\ Upd (At B) w w' /\ ∃ fn', ThenEnds w' B fn' e /\ PM w' B (macC c n p i s tx sx bv 6 tx [] (.slice none 0 0) fn' done err linked) := by
 obtain ⟨w1, hw1⟩ : ∃ u, u = w.alloc (.cells #[.int .i64 e, .slice na nn nc, .slice ba bn bc] 47) := ⟨_, rfl⟩
 have hx1 : Ext w w1 := by rw [hw1]; exact uZ.alloc _
 have hA : w1.heap[w.heap.size]? = some (.cells #[.int .i64 e, .slice na nn nc, .slice ba bn bc] 47 (0, 0)) := by rw [hw1]; exact newAt _ _
 have HX1 := zq hx1
 have hm1 := hx1.at_ h id
 have HM := zq (show PM w1.drew B _ from hm1)
 have HW1 := zq hw1
 have a0 := cZ hA 0 _ rfl
 have a1 := cZ hA 1 _ rfl
 have a2 := cZ hA 2 _ rfl
 have la := lZ hA
 have m5 := cZ hm1 5 (str tx) rfl
 have m6 := cZ hm1 6 (str sx) rfl
 have lb := lZ hm1
 clear hx1 hA hw1 h hm1
 go_enter Tryz.func47, Tryz.ntmps47
 go_upto_region 1 with fail
 rw [show w.alloc (.cells #[.int .i64 e, .slice na nn nc, .slice ba bn bc] 47) = w1 from HW1.out.symm]
 go_region_law (go_simp; go_at_call 32; refine (mgoes_bad HM.out e he na ba none nn nc bn bc 0 0 5 tx sx _ _ _).mono ?_; rintro r w2 ⟨rfl, hu, hp⟩)
 all_goals
  have HU := zq hu
  have HP := zq hp
  clear hu hp
  go_wp2
  go_end0
  exact ⟨rfl, (HX1.out.drew.mono (fun _ _ e => e.elim)).trans HU.out, HP.out⟩
end Go.Proofs.YtnkmpoplibnflaaGreatDoor.Wk
set_option maxRecDepth 100000
set_option maxHeartbeats 16000000
namespace Go.Proofs.YtnkmpoplibnflaaGreatDoor.Wk
open Go Go.Proofs.YtnkmpoplibnflaaGreatDoor Go.RowKit
theorem mends1_any {w : World} {B c n p i s k : Nat} {tx sx nm tt : List UInt8} {bv cb fn : Value} {done linked : Bool} {err : Int} (h : PM w B (macC c n p i s tx sx bv k nm tt cb fn done err linked)) (er e : Int) (na ba : Option Addr) (nn nc bn bc : Nat) (be bm : Nat) (hbe : B < be) (hbm : B < bm) (he : w.heap[be]? = some (.cells #[.int .i64 e] 36 (0, 0))) (hm : w.heap[bm]? = some (.cells #[.pointer (some ⟨B, 0, none⟩)] 31 (0, 0))) :
  Calls Tryz.prog 56 #[.agg #[.int .i64 er, .slice na nn nc, .slice ba bn bc], .pointer (some ⟨be, 0, none⟩), .pointer (some ⟨bm, 0, none⟩)] w fun r w' => r = .returned (.tuple #[]) /\ Upd (At B) w w' /\ PM w' B (macC c n p i s tx sx bv k nm tt cb fn true e linked) := by
 obtain ⟨w1, hw1⟩ : ∃ u, u = w.alloc (.cells #[.int .i64 er, .slice na nn nc, .slice ba bn bc] 47) := ⟨_, rfl⟩
 have hx1 : Ext w w1 := by rw [hw1]; exact uZ.alloc _
 have hA : w1.heap[w.heap.size]? = some (.cells #[.int .i64 er, .slice na nn nc, .slice ba bn bc] 47 (0, 0)) := by rw [hw1]; exact newAt _ _
 have HX1 := zq hx1
 have HBL := zq (lZ h)
 have hm1 := hx1.at_ h id
 have HM := zq hm1
 have HW1 := zq hw1
 have a0 := cZ hA 0 _ rfl
 have a1 := cZ hA 1 _ rfl
 have a2 := cZ hA 2 _ rfl
 have la := lZ hA
 have e0 := cZ (hx1.at_ he id) 0 _ rfl
 have e1 := lZ (hx1.at_ he id)
 have p0 := cZ (hx1.at_ hm id) 0 _ rfl
 have p1 := lZ (hx1.at_ hm id)
 have q13 := cZ hm1 13 (.bool done) rfl
 have q14 := cZ hm1 14 (.int .i64 err) rfl
 have f13 := freeAt hm1 13
 have f14 := freeAt hm1 14
 have lb := lZ hm1
 clear he hm hbe hbm hx1 hA hw1 h hm1
 go_enter Tryz.func56, Tryz.ntmps56
 go_upto_region 1 with fail
 rw [show w.alloc (.cells #[.int .i64 er, .slice na nn nc, .slice ba bn bc] 47) = w1 from HW1.out.symm]
 go_region
 go_wp2
 go_end0
 exact ⟨rfl, (HX1.out.mono (fun _ _ e => e.elim)).trans (((Upd.own _ _ _ _).trans (Upd.own _ _ _ _)).drew), by rw [PM, drew_heapM]; exact setAt (setAt HM.out)⟩
end Go.Proofs.YtnkmpoplibnflaaGreatDoor.Wk
