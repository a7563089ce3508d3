/-
  crc.Table, update, Sum; the reference's Step, Update, Sum.
  The reference's Step, Update, Sum.
  frame.summed.
  slices.Equal and slices.Clone at rows of bytes.
  CONTRACT of publish's New. Conditions: numbers of 64 bits; at most 300 bytes; the library's variables lie as they are laid.
-/
import Derived.Test.YtnkmpoplibnflaaGreatDoorGAH
import Derived.Test.YtnkmpoplibnflaaGreatDoorGAF
import Derived.Deep.CutRange
import Derived.Laws.OwnMore
set_option maxRecDepth 100000
set_option maxHeartbeats 16000000
namespace Go.Proofs.YtnkmpoplibnflaaGreatDoor.Wk
open Go Go.Proofs.YtnkmpoplibnflaaGreatDoor Go.RowKit
theorem crcT : StructT Tryz.prog 298 256 := ⟨_, Tryz.underlying298, rfl, by kernel_rfl⟩
theorem table_any (W0 : World) : Calls Tryz.prog 181 #[] W0 fun r W' => r = .returned (.agg (crcCells 256)) /\ Ext W0 W' := by
 go_enter Tryz.func181, Tryz.ntmps181
 go_wp2
 go_loopw [4] (fun v w' => ∃ i : Nat, i <= 256 /\ v = .int .i64 i /\ w'.heap[W0.heap.size + 1]? = some (.cells (crcCells i) 298 (0, 0)) /\ w'.heap[W0.heap.size]? = some (.cells (crcCells 0) 298 (0, 0)) /\ Ext W0 w') (fun v _ => 256 - (intOf v).toNat)
 case atStart =>
  refine ⟨0, by omega, rfl, ?_, ?_, (uZ.alloc _).alloc _⟩
  ·rw [crcCells_zero, show W0.heap.size + 1 = (W0.alloc (Obj.cells Tryz.zeroCells298 298)).heap.size by simp]; exact heap_alloc_new _ _
  ·rw [crcCells_zero]; exact (heap_alloc_old _ _ (by simp)).trans (heap_alloc_new _ _)
 case round =>
  obtain ⟨i, hi, rfl, h1, h0, hS⟩ := hrel
  by_cases hlt : i < 256
  ·have H1 := zq h1
   have H0 := zq h0
   have HS := zq hS
   clear h1 h0 hS
   go_wp2
   go_loopw [3, 9] (fun t v w' => ∃ j : Nat, j <= 8 /\ v = .int .i64 j /\ t = .int .u32 ((crcIter j i : Nat) : Int) /\ w' = wr) (fun _ v _ => 8 - (intOf v).toNat)
   case atStart => exact ⟨0, by omega, rfl, rfl, rfl⟩
   case round =>
    obtain ⟨j, hj, rfl, rfl, rfl⟩ := hrel
    by_cases hlj : j < 8
    ·go_wp2
     case roundEnd =>
      refine ⟨⟨j + 1, by omega, by simp, ?_, trivial⟩, by simp [intOf]; omega⟩
      rw [crc_law (crcIter_lt j (by omega))]
      rfl
    ·have : j = 8 := by omega
     subst this
     have hc := cZ H1.out i _ (Array.getElem?_eq_getElem (by rw [crcCells_size]; exact hlt))
     have hf := freeAt H1.out i
     go_wp2
     case roundEnd =>
      refine ⟨⟨i + 1, by omega, by simp, ?_, ?_, HS.out.setCell (fun h => absurd h (by show ¬ W0.heap.size + 1 < W0.heap.size; omega)) _⟩, by simp [intOf]; omega⟩
      ·rw [<- crcCells_set hlt]; exact setAt H1.out
      ·exact (Upd.own wr (W0.heap.size + 1) i _).at_ H0.out (by unfold At; omega)
  ·have : i = 256 := by omega
   subst this
   go_wp2_with (first | (refine wpList_load_blk rfl _ _ rfl rfl h1 (by rw [crcCells_size]; exact crcT) ?_) | (refine wpList_store_blk rfl _ _ _ rfl rfl rfl h0 (by rw [crcCells_size]; exact crcT) (by rw [crcCells_size, crcCells_size]) (crcCells_one _) ?_))
   refine bodyPost_blk rfl rfl rfl (show (wr.setRow W0.heap.size (crcCells 256)).heap[W0.heap.size]? = some (.cells (crcCells 256) 298 (0, 0)) from ?_) (by rw [crcCells_size]; exact crcT) ⟨rfl, hS.step (Upd.row wr W0.heap.size _) (fun k hk e => by unfold At at e; omega)⟩
   rw [setRow_heap _ _ _ _ _ _ h0]
theorem crcCell {w : World} {b : Nat} (hb : w.heap[b]? = some (.cells (crcCells 256) 298 (0, 0))) (j : Nat) (hj : j < 256) : w.cell? ⟨b, j, none⟩ = some (.int .u32 ((crcIter 8 j : Nat) : Int)) := by
 refine cZ hb j _ ?_
 rw [Array.getElem?_eq_getElem (by rw [crcCells_size]; exact hj), crcCells_at 256 j hj, if_pos hj]
theorem xor8 (a b : Nat) (ha : a < 256) (hb : b < 256) : bits BinOp.xor IntKind.u8 (a : Int) (b : Int) = ((a ^^^ b : Nat) : Int) := by
 have ha' : a % 2 ^ IntKind.u8.bits = a := Nat.mod_eq_of_lt ha
 have hb' : b % 2 ^ IntKind.u8.bits = b := Nat.mod_eq_of_lt hb
 simp only [bits, BitVec.ofInt_natCast, BitVec.toNat_xor, BitVec.toNat_ofNat, ha', hb']
 have : a ^^^ b < 2 ^ 8 := Nat.xor_lt_two_pow (n := 8) ha hb
 generalize a ^^^ b = n at this ⊢
 simp [IntKind.wrap, IntKind.bits, IntKind.signed]
 omega
theorem xor8_lt {a b : Nat} (ha : a < 256) (hb : b < 256) : a ^^^ b < 256 := Nat.xor_lt_two_pow (n := 8) ha hb
theorem update_any {S : Nat -> Prop} (w : World) (tb : Nat) (c : Nat) (v : Value) (l : List UInt8) (ht : w.heap[tb]? = some (.cells (crcCells 256) 298 (0, 0))) (hc : c < 4294967296) (hr : Bytes S w v l) :
  Calls Tryz.prog 182 #[.pointer (some ⟨tb, 0, none⟩), .int .u32 c, v] w fun r w' => r = .returned (.int .u32 ((crcUp (c ^^^ 4294967295) l ^^^ 4294967295 : Nat) : Int)) /\ w' = w := by
 have G := zq hr
 obtain ⟨na, cp, rfl, hlc, hm, -⟩ := hr
 unfold maxLen at hm
 have e1 : bits BinOp.xor IntKind.u32 (c : Int) (4294967295 : Int) = ((c ^^^ 4294967295 : Nat) : Int) := xor32 c 4294967295 hc (by decide)
 have HT := zq ht
 have HC := zq hc
 clear ht hc
 go_enter Tryz.func182, Tryz.ntmps182
 go_wp2
 go_loopw [1, 13] (fun t v w' => ∃ i : Nat, i <= l.length /\ v = .int .i64 i /\ t = .int .u32 ((crcUp (c ^^^ 4294967295) (l.take i) : Nat) : Int) /\ w' = w) (fun _ v _ => l.length - (intOf v).toNat)
 case atStart => exact ⟨0, Nat.zero_le _, rfl, rfl, rfl⟩
 case round =>
  obtain ⟨i, hi, rfl, rfl, rfl⟩ := hrel
  have hlt := crcUp_lt (l.take i) (xor_lt32 HC.out (show 4294967295 < 4294967296 by decide))
  by_cases hil : i < l.length
  ·obtain ⟨b1, o1, c1, e1', -, -, -, hq1⟩ := G.out.addr (by omega)
   cases e1'
   have hcell := bytes_cell hq1 i hil
   have hxl := l[i].toNat_lt
   have HS := zq (show crcUp (c ^^^ 4294967295) (l.take (i + 1)) = crcIter 8 ((crcUp (c ^^^ 4294967295) (l.take i) % 256) ^^^ l[i].toNat) ^^^ (crcUp (c ^^^ 4294967295) (l.take i) / 256) by
    rw [List.take_succ_eq_append_getElem hil, crcUp_snoc, crc_byte])
   generalize l[i].toNat = x at hcell hxl HS
   generalize crcUp (c ^^^ 4294967295) (l.take i) = r at hlt HS
   have hxl : x < 256 := hxl
   have e2 : bits BinOp.xor IntKind.u8 ((r : Int) % 256) (x : Int) = (((r % 256) ^^^ x : Nat) : Int) := xor8 (r % 256) x (by omega) hxl
   have hk := xor8_lt (show r % 256 < 256 by omega) hxl
   have e3 : bits BinOp.xor IntKind.u32 ((crcIter 8 ((r % 256) ^^^ x) : Nat) : Int) ((r : Int) / 256) = _ := xor32 (crcIter 8 ((r % 256) ^^^ x)) (r / 256) (crcIter_lt 8 (by omega)) (by omega)
   have ht2 := crcCell HT.out _ hk
   rw [<- HS.out] at e3
   generalize (r % 256) ^^^ x = k at e2 e3 hk ht2
   clear hq1 HS
   go_wp2
   go_roundw
   case rel => exact ⟨i + 1, by omega, by go_num, rfl, trivial⟩
   case measure => simp [intOf]; omega
  ·have : i = l.length := by omega
   subst this
   rw [List.take_length] at hlt ⊢
   have e2 : bits BinOp.xor IntKind.u32 ((crcUp (c ^^^ 4294967295) l : Nat) : Int) (4294967295 : Int) = ((crcUp (c ^^^ 4294967295) l ^^^ 4294967295 : Nat) : Int) := xor32 _ 4294967295 hlt (by decide)
   go_wp2
   go_ret
   exact ⟨by rw [<- e2]; rfl, rfl⟩
theorem sum1_any {S T : Nat -> Prop} (w : World) (lv v : Value) (l : List UInt8) (hlv : Row T w lv 1 [v]) (hr : Bytes S w v l) :
  Calls Tryz.prog 178 #[lv] w fun r w' => r = .returned (.int .u32 ((crcF l : Nat) : Int)) /\ Ext w w' := by
 have G := zq hr
 obtain ⟨ba, bo, bc, rfl, hbS, -, -, hq⟩ := hlv.addr (by omega)
 have hcell := hq 0 v rfl
 rw [Nat.add_zero] at hcell
 have HC := zq hcell
 clear hcell hq hlv hr
 go_enter Tryz.func178, Tryz.ntmps178
 go_wp2_with (go_at_call 181; fail)
 refine (table_any w).mono ?_
 rintro e w1 ⟨rfl, hx⟩
 have HX := zq hx
 have hsz := hx.size
 clear hx
 obtain ⟨tb, htb⟩ : ∃ tb, tb = w1.heap.size := ⟨_, rfl⟩
 have hn : (w1.alloc (Obj.cells Tryz.zeroCells298 298)).heap[w1.heap.size]? = some (.cells (crcCells 0) 298 (0, 0)) := by rw [crcCells_zero]; exact heap_alloc_new _ _
 go_wp2_with (refine wpList_store_blk rfl _ _ _ rfl rfl rfl hn (by rw [crcCells_size]; exact crcT) (by rw [crcCells_size, crcCells_size]) (crcCells_one _) ?_)
 have hx2 : Ext w ((w1.alloc (Obj.cells Tryz.zeroCells298 298)).setRow w1.heap.size (crcCells 256)) := (HX.out.alloc _).step (Upd.row _ w1.heap.size _) (fun k hk e => by unfold At at e; omega)
 have ht2 : ((w1.alloc (Obj.cells Tryz.zeroCells298 298)).setRow w1.heap.size (crcCells 256)).heap[w1.heap.size]? = some (.cells (crcCells 256) 298 (0, 0)) := setRow_heap _ _ _ _ _ _ hn
 have HX2 := zq hx2
 have HT2 := zq ht2
 clear hx2 ht2 hn
 generalize (w1.alloc (Obj.cells Tryz.zeroCells298 298)).setRow w1.heap.size (crcCells 256) = w2 at HX2 HT2 ⊢
 have hcell2 := HX2.out.cell HC.out id
 go_wp2
 go_loopw [4, 10] (fun t v w' => ∃ i : Nat, i <= 1 /\ v = .int .i64 i /\ t = .int .u32 ((if i = 0 then 0 else crcF l : Nat) : Int) /\ w' = w2) (fun _ v _ => 1 - (intOf v).toNat)
 case atStart => exact ⟨0, Nat.zero_le _, rfl, rfl, rfl⟩
 case round =>
  obtain ⟨i, hi, rfl, rfl, rfl⟩ := hrel
  by_cases h0 : i = 0
  ·subst h0
   have hcon := update_any wr w1.heap.size 0 v l HT2.out (by decide) (G.out.ext HX2.out)
   rw [show (0 ^^^ 4294967295 : Nat) = 4294967295 from rfl] at hcon
   go_wp2_with (go_at_call 182; fail)
   refine hcon.mono ?_
   rintro e w3 ⟨rfl, rfl⟩
   go_wp2
   go_roundw
   case rel => exact ⟨1, by omega, by go_num, rfl, trivial⟩
   case measure => simp [intOf]
  ·have : i = 1 := by omega
   subst this
   go_wp2
   go_ret
   exact ⟨rfl, HX2.out⟩
end Go.Proofs.YtnkmpoplibnflaaGreatDoor.Wk
set_option maxRecDepth 100000
set_option maxHeartbeats 16000000
namespace Go.Proofs.YtnkmpoplibnflaaGreatDoor.Wk
open Go Go.Proofs.YtnkmpoplibnflaaGreatDoor Go.RowKit
theorem rstep_any (w : World) (c : Nat) (hc : c < 4294967296) : Calls Tryz.prog 134 #[.int .u32 c] w fun r w' => r = .returned (.int .u32 ((crcStep c : Nat) : Int)) /\ w' = w := by
 have e1 : bits BinOp.xor IntKind.u32 ((c : Int) / 2) (2197175160 : Int) = (((c / 2) ^^^ 2197175160 : Nat) : Int) := xor32 (c / 2) 2197175160 (by omega) (by decide)
 have hs : c >>> 1 = c / 2 := by rw [Nat.shiftRight_eq_div_pow]
 by_cases h : c % 2 = 1
 ·have g : ((c : Int) % 2 == 1) = true := by simp; omega
  have HE := zq (show crcStep c = (c / 2) ^^^ 2197175160 by unfold crcStep; rw [if_pos h, hs]; rfl)
  clear h hs
  go_enter Tryz.func134, Tryz.ntmps134
  go_wp2
  go_ret
  exact ⟨by rw [HE.out]; rfl, rfl⟩
 ·have g : ((c : Int) % 2 == 1) = false := by simp; omega
  have HE := zq (show crcStep c = c / 2 by unfold crcStep; rw [if_neg h, hs]; exact Nat.xor_zero _)
  clear h hs
  go_enter Tryz.func134, Tryz.ntmps134
  go_wp2
  go_ret
  exact ⟨by rw [HE.out]; rfl, rfl⟩
theorem rupdate_any {S : Nat -> Prop} (w : World) (c : Nat) (v : Value) (l : List UInt8) (hc : c < 4294967296) (hr : Bytes S w v l) :
  Calls Tryz.prog 122 #[.int .u32 c, v] w fun r w' => r = .returned (.int .u32 ((crcUp (c ^^^ 4294967295) l ^^^ 4294967295 : Nat) : Int)) /\ w' = w := by
 have G := zq hr
 obtain ⟨na, cp, rfl, hlc, hm, -⟩ := hr
 unfold maxLen at hm
 have e1 : bits BinOp.xor IntKind.u32 (c : Int) (4294967295 : Int) = ((c ^^^ 4294967295 : Nat) : Int) := xor32 c 4294967295 hc (by decide)
 have HC := zq hc
 clear hc
 go_enter Tryz.func122, Tryz.ntmps122
 go_wp2
 go_loopw [0, 5] (fun t v w' => ∃ i : Nat, i <= l.length /\ v = .int .i64 i /\ t = .int .u32 ((crcUp (c ^^^ 4294967295) (l.take i) : Nat) : Int) /\ w' = w) (fun _ v _ => l.length - (intOf v).toNat)
 case atStart => exact ⟨0, Nat.zero_le _, rfl, rfl, rfl⟩
 case round =>
  obtain ⟨i, hi, rfl, rfl, rfl⟩ := hrel
  have hlt := crcUp_lt (l.take i) (xor_lt32 HC.out (show 4294967295 < 4294967296 by decide))
  by_cases hil : i < l.length
  ·obtain ⟨b1, o1, c1, e1', -, -, -, hq1⟩ := G.out.addr (by omega)
   cases e1'
   have hcell := bytes_cell hq1 i hil
   have hxl := l[i].toNat_lt
   have HS := zq (show crcUp (c ^^^ 4294967295) (l.take (i + 1)) = crcIter 8 (crcUp (c ^^^ 4294967295) (l.take i) ^^^ (l[i].toNat % 2 ^ 8)) by
    rw [List.take_succ_eq_append_getElem hil, crcUp_snoc, Nat.mod_eq_of_lt hxl])
   generalize l[i].toNat = x at hcell hxl HS
   generalize crcUp (c ^^^ 4294967295) (l.take i) = r at hlt HS ⊢
   have hxl : x < 256 := hxl
   clear hq1
   go_wp2
   go_loopw [0, 6] (fun t v w' => ∃ k : Nat, k <= 8 /\ v = .int .i64 k /\ t = .int .u32 ((crcIter k (r ^^^ (x % 2 ^ k)) : Nat) : Int) /\ w' = wr) (fun _ v _ => 8 - (intOf v).toNat)
   case atStart => exact ⟨0, Nat.zero_le _, rfl, by rw [show x % 2 ^ 0 = 0 from Nat.mod_one x, Nat.xor_zero]; rfl, rfl⟩
   case round =>
    obtain ⟨k, hk, rfl, rfl, rfl⟩ := hrel
    by_cases hk8 : k < 8
    ·have hcl : crcIter k (r ^^^ (x % 2 ^ k)) < 4294967296 := crcIter_lt k (xor_lt32 hlt (Nat.lt_of_le_of_lt (Nat.mod_le _ _) (by omega)))
     have e2 : bits BinOp.xor IntKind.u32 ((crcIter k (r ^^^ (x % 2 ^ k)) : Nat) : Int) ((x : Int) / 2 ^ k % 2) = ((crcIter k (r ^^^ (x % 2 ^ k)) ^^^ (x / 2 ^ k % 2) : Nat) : Int) := by
      have := xor32 (crcIter k (r ^^^ (x % 2 ^ k))) (x / 2 ^ k % 2) hcl (by omega)
      rw [<- this]; congr 1
     have hdl : crcIter k (r ^^^ (x % 2 ^ k)) ^^^ (x / 2 ^ k % 2) < 4294967296 := xor_lt32 hcl (by omega)
     have HD := zq (crc_digit r x k)
     generalize crcIter k (r ^^^ (x % 2 ^ k)) = cc at e2 hdl HD hcl ⊢
     generalize cc ^^^ (x / 2 ^ k % 2) = dd at e2 hdl HD
     go_wp2_with (go_at_call 134; fail)
     refine (rstep_any _ dd hdl).mono ?_
     rintro e w3 ⟨rfl, rfl⟩
     rw [HD.out]
     go_wp2
     go_roundw
     case rel => exact ⟨k + 1, by omega, by go_num, rfl, trivial⟩
     case measure => simp [intOf]; omega
    ·have : k = 8 := by omega
     subst this
     rw [<- HS.out]
     go_wp2
     go_roundw
     case rel => exact ⟨i + 1, by omega, by go_num, rfl, trivial⟩
     case measure => simp [intOf]; omega
  ·have : i = l.length := by omega
   subst this
   rw [List.take_length] at hlt ⊢
   have e2 : bits BinOp.xor IntKind.u32 ((crcUp (c ^^^ 4294967295) l : Nat) : Int) (4294967295 : Int) = ((crcUp (c ^^^ 4294967295) l ^^^ 4294967295 : Nat) : Int) := xor32 _ 4294967295 hlt (by decide)
   go_wp2
   go_ret
   exact ⟨by rw [<- e2]; rfl, rfl⟩
theorem rsum1_any {S T : Nat -> Prop} (w : World) (lv v : Value) (l : List UInt8) (hlv : Row T w lv 1 [v]) (hr : Bytes S w v l) (hl : l.length <= 70368744177664) :
  Calls Tryz.prog 113 #[lv] w fun r w' => r = .returned (.int .u32 ((crcF l : Nat) : Int)) /\ Ext w w' := by
 have G := zq hr
 obtain ⟨ba, bo, bc, rfl, hbS, -, -, hq⟩ := hlv.addr (by omega)
 have hcell := hq 0 v rfl
 rw [Nat.add_zero] at hcell
 have HC := zq hcell
 have hm : l.length <= maxLen := by unfold maxLen; omega
 clear hcell hq hlv hr
 go_enter Tryz.func113, Tryz.ntmps113
 go_wp2
 go_loopw [3, 4] (fun t v w' => ∃ i : Nat, i <= 1 /\ v = .int .i64 i /\ (i = 0 -> t = .slice none 0 0 /\ w' = w) /\ (i = 1 -> Hid (Bytes (From w.heap.size) w' t l)) /\ Ext w w') (fun _ v _ => 1 - (intOf v).toNat)
 case atStart => exact ⟨0, Nat.zero_le _, rfl, fun _ => ⟨rfl, rfl⟩, fun h => (by omega), uZ⟩
 case round =>
  obtain ⟨i, hi, rfl, h0, h1, hx⟩ := hrel
  have HX := zq hx
  by_cases he : i = 0
  ·subst he
   obtain ⟨rfl, rfl⟩ := h0 rfl
   clear h0 h1 hx
   have hcell := HC.out
   go_wp2_with (at_builtin; refine wpList_append_row rfl _ _ _ rfl Tryz.bytesT rfl (World.ownsRow_nil _ wr.heap.size _ _) rfl G.out (by simp) (u8_one l) (by omega) (by omega) (Nat.le_refl _) ?_)
   intro v' w1 hown hg _
   go_wp2
   go_roundw
   case rel => exact ⟨1, by omega, by go_num, fun h => (by omega), fun _ => zq (Row.of_owns (by simpa using hown)), uZ.grown hg fun k e => by simp [Value.ownBlock] at e⟩
   case measure => simp [intOf]
  ·have : i = 1 := by omega
   subst this
   have H1 := h1 rfl
   clear h0 h1 hx
   go_wp2_with (go_at_call 122; fail)
   refine (rupdate_any _ 0 _ l (by decide) H1.out).mono ?_
   rintro e w3 ⟨rfl, rfl⟩
   go_wp2
   go_ret
   exact ⟨rfl, HX.out⟩
end Go.Proofs.YtnkmpoplibnflaaGreatDoor.Wk
set_option maxRecDepth 100000
set_option maxHeartbeats 16000000
namespace Go.Proofs.YtnkmpoplibnflaaGreatDoor.Wk
open Go Go.Proofs.YtnkmpoplibnflaaGreatDoor Go.RowKit
def le4 (n : Nat) : List UInt8 := [UInt8.ofNat n, UInt8.ofNat (n / 256), UInt8.ofNat (n / 65536), UInt8.ofNat (n / 16777216)]
theorem u8_ofNat (n : Nat) : Value.int .u8 ((n : Int) % 256) = u8 (UInt8.ofNat n) := by
 show Value.int .u8 ((n : Int) % 256) = Value.int .u8 (((UInt8.ofNat n).toNat : Nat) : Int)
 rw [UInt8.toNat_ofNat']
 rfl
theorem le4_cells {n : Nat} (h : n < 4294967296) : (#[Value.int IntKind.u8 (n % 256 : Int), Value.int IntKind.u8 (n / 256 % 256 : Int), Value.int IntKind.u8 (n / 65536 % 256 : Int), Value.int IntKind.u8 (n / 16777216 : Int)] : Array Value).toList = (le4 n).map u8 := by
 have h1 := u8_ofNat n
 have h2 := u8_ofNat (n / 256)
 have h3 := u8_ofNat (n / 65536)
 have h4 := u8_ofNat (n / 16777216)
 rw [show (((n / 256 : Nat) : Int)) = (n : Int) / 256 from by omega] at h2
 rw [show (((n / 65536 : Nat) : Int)) = (n : Int) / 65536 from by omega] at h3
 rw [show (((n / 16777216 : Nat) : Int)) = (n : Int) / 16777216 from by omega, show (n : Int) / 16777216 % 256 = (n : Int) / 16777216 from by omega] at h4
 simp only [le4, List.map_cons, List.map_nil, <- h1, <- h2, <- h3, <- h4]
theorem summed_any {S : Nat -> Prop} (w : World) (v : Value) (l : List UInt8) (hr : Bytes S w v l) :
  Calls Tryz.prog 171 #[v] w fun r w' => ∃ v', r = .returned v' /\ Bytes (From w.heap.size) w' v' (le4 (crcF l)) /\ Ext w w' := by
 have G := zq hr
 obtain ⟨na, cp, rfl, hlc, hm, -⟩ := hr
 have hc := crcF_lt l
 obtain ⟨n, hn⟩ : ∃ n, n = crcF l := ⟨_, rfl⟩
 rw [<- hn] at hc ⊢
 have HN := zq hn
 have hcs := le4_cells hc
 clear hn
 go_enter Tryz.func171, Tryz.ntmps171
 go_wp2_with (go_at_call 178; fail)
 refine (sum1_any _ _ (.slice na l.length cp) l (row_new _ _ _ 1 _ (by decide) rfl) (G.out.ext (uZ.alloc _))).mono ?_
 rintro e w1 ⟨rfl, hx⟩
 have HX := zq (((Upd.refl Nothing w).alloc _).ext hx)
 clear hx
 have hsz := HX.out.size
 rw [<- HN.out]
 go_wp2
 go_ret
 refine ⟨_, rfl, ?_, HX.out.alloc _⟩
 refine Row.mono ?_ (fun k (hk : k = w1.heap.size) => show w.heap.size <= k by omega)
 have q := row_new w1 #[Value.int IntKind.u8 (n % 256 : Int), Value.int IntKind.u8 (n / 256 % 256 : Int), Value.int IntKind.u8 (n / 65536 % 256 : Int), Value.int IntKind.u8 (n / 16777216 : Int)] 5 4 _ (by decide) rfl
 rw [hcs] at q
 exact q
end Go.Proofs.YtnkmpoplibnflaaGreatDoor.Wk
set_option maxRecDepth 100000
set_option maxHeartbeats 16000000
namespace Go.Proofs.YtnkmpoplibnflaaGreatDoor.Wk
open Go Go.Proofs.YtnkmpoplibnflaaGreatDoor Go.RowKit
theorem eqBytes_any {S1 S2 : Nat -> Prop} (w : World) (v1 v2 : Value) (l1 l2 : List UInt8) (h1 : Bytes S1 w v1 l1) (h2 : Bytes S2 w v2 l2) :
  Calls Tryz.prog 170 #[v1, v2] w fun e w' => e = .returned (.bool (l1 == l2)) /\ Ext w w' := by
 have g1 := h1.addr
 have g2 := h2.addr
 obtain ⟨a1, c1, rfl, hn1, hm1, -⟩ := h1
 obtain ⟨a2, c2, rfl, hn2, hm2, -⟩ := h2
 unfold maxLen at hm1 hm2
 by_cases hl : l1.length = l2.length
 ·have hb : ((l1.length : Int) != (l2.length : Int)) = false := by simp [hl]
  have HL := zq hl
  have G1 := zq g1
  have G2 := zq g2
  clear hl g1 g2
  go_enter Tryz.func170, Tryz.ntmps170
  go_wp2
  go_loopw [13] (fun i wr => ∃ k : Nat, k <= l1.length /\ i = .int .i64 k /\ l1.take k = l2.take k /\ Ext w wr)
   (fun i _ => l1.length - (intOf i).toNat)
  case atStart => exact ⟨0, Nat.zero_le _, rfl, rfl, uZ⟩
  case round =>
   obtain ⟨k, hk, rfl, ht, hx⟩ := hrel
   have HT := zq ht
   clear ht
   by_cases hlt : k < l1.length
   ·have hlt2 : k < l2.length := by rw [<- HL.out]; exact hlt
    obtain ⟨b1, o1, c1', e1, -, -, -, hc1⟩ := G1.out (by omega)
    obtain ⟨b2, o2, c2', e2, -, -, -, hc2⟩ := G2.out (by omega)
    cases e1; cases e2
    have q1 := hx.cell (bytes_cell hc1 k hlt) id
    have q2 := hx.cell (bytes_cell hc2 k hlt2) id
    clear hc1 hc2
    by_cases he : (l1[k].toNat : Int) = l2[k].toNat
    ·have HE := zq he
     have hb2 : ((l1[k].toNat : Int) != (l2[k].toNat : Int)) = false := by simp [he]
     clear he
     go_wp2
     go_quiet (fail)
     go_wp2
     go_roundw
     case rel => exact ⟨k + 1, by omega, by go_num, take_ext hlt hlt2 HT.out HE.out, hx.drewN _⟩
     case measure => simp [intOf]; omega
    ·have hb2 : ((l1[k].toNat : Int) != (l2[k].toNat : Int)) = true := by simpa using he
     have HE := zq he
     clear he
     go_wp2
     go_quiet (fail)
     go_wp2
     go_ret
     exact ⟨by rw [beq_ne_at hlt hlt2 HE.out]; rfl, hx.drewN _⟩
   ·go_wp2
    go_ret
    have hkl : k = l1.length := by omega
    subst hkl
    exact ⟨by rw [beq_of_take HL.out HT.out]; rfl, hx⟩
 ·have hb : ((l1.length : Int) != (l2.length : Int)) = true := by simp; omega
  have HL := zq hl
  clear hl g1 g2
  go_enter Tryz.func170, Tryz.ntmps170
  go_wp2
  go_ret
  exact ⟨by rw [beq_len_ne HL.out]; rfl, uZ⟩
theorem eqNil_t (w : World) (n c : Nat) : (binOp .eql 23 (.slice none n c) (.slice none 0 0)).run Tryz.prog w = .ok (.bool true) w := by kernel_rfl
theorem eqNil_f (w : World) (a : Addr) (n c : Nat) : (binOp .eql 23 (.slice (some a) n c) (.slice none 0 0)).run Tryz.prog w = .ok (.bool false) w := by kernel_rfl
theorem cloneB_any {S : Nat -> Prop} (w : World) (v : Value) (l : List UInt8) (hr : Bytes S w v l) (hl : l.length <= 70368744177664) :
  Calls Tryz.prog 23 #[v] w fun e w' => ∃ v', e = .returned v' /\ Bytes (From w.heap.size) w' v' l /\ Ext w w' := by
 have HR := zq hr
 obtain ⟨ad, cp, rfl, h1, h2, h3, -⟩ := hr
 go_enter Tryz.func23, Tryz.ntmps23
 cases ad with
 | none =>
  have e0 := eqNil_t
  have : l = [] := List.eq_nil_of_length_eq_zero (by have := h3 rfl; omega)
  subst this
  go_wp2
  go_ret
  exact ⟨_, rfl, Row.nil _ _, uZ⟩
 | some a =>
  have e0 := eqNil_f
  have hsl : (l.map u8).length = l.length * 1 := by simp
  have h0 : (w.alloc (.cells #[] 5)).ownsRow w.heap.size 5 1 (.slice (some ⟨w.heap.size, 0, none⟩) 0 0) 0 [] := World.ownsRow_lit w #[] 0 (Nat.le_refl _) (by decide) rfl
  have h1 := HR.out.ext ((Upd.refl Nothing w).alloc (.cells #[] 5))
  go_wp2_with (at_builtin; go_must (refine wpList_append_row rfl _ _ _ rfl Tryz.bytesT rfl h0 rfl h1 hsl (u8_one l) ?c3 ?c4 ?c5 ?_))
  case c3 => unfold maxLen; omega
  case c4 => omega
  case c5 => simp
  intro v7 w7 hown7 hg7 _
  have hx7 : Ext w w7 := ((Upd.refl Nothing w).alloc (.cells #[] 5)).grown hg7 (fun j hj h => by
   have e : j = w.heap.size := by cases hj; rfl
   omega)
  have q := Row.of_owns hown7
  go_wp2
  go_ret
  exact ⟨_, rfl, by simpa using q, hx7⟩
theorem cloneO_any {S : Nat -> Prop} (w : World) (v : Value) (l : List UInt8) (hr : Bytes S w v l) (hl : l.length <= 70368744177664) :
  Calls Tryz.prog 23 #[v] w fun e w' => ∃ v', e = .returned v' /\ w'.ownsRow w.heap.size 5 1 v' l.length (l.map u8) /\ Ext w w' := by
 have HR := zq hr
 obtain ⟨ad, cp, rfl, h1, h2, h3, -⟩ := hr
 go_enter Tryz.func23, Tryz.ntmps23
 cases ad with
 | none =>
  have e0 := eqNil_t
  have : l = [] := List.eq_nil_of_length_eq_zero (by have := h3 rfl; omega)
  subst this
  go_wp2
  go_ret
  exact ⟨_, rfl, World.ownsRow_nil _ _ _ _, uZ⟩
 | some a =>
  have e0 := eqNil_f
  have hsl : (l.map u8).length = l.length * 1 := by simp
  have h0 : (w.alloc (.cells #[] 5)).ownsRow w.heap.size 5 1 (.slice (some ⟨w.heap.size, 0, none⟩) 0 0) 0 [] := World.ownsRow_lit w #[] 0 (Nat.le_refl _) (by decide) rfl
  have h1 := HR.out.ext ((Upd.refl Nothing w).alloc (.cells #[] 5))
  go_wp2_with (at_builtin; go_must (refine wpList_append_row rfl _ _ _ rfl Tryz.bytesT rfl h0 rfl h1 hsl (u8_one l) ?c3 ?c4 ?c5 ?_))
  case c3 => unfold maxLen; omega
  case c4 => omega
  case c5 => simp
  intro v7 w7 hown7 hg7 _
  have hx7 : Ext w w7 := ((Upd.refl Nothing w).alloc (.cells #[] 5)).grown hg7 (fun j hj h => by
   have e : j = w.heap.size := by cases hj; rfl
   omega)
  have q := hown7
  go_wp2
  go_ret
  exact ⟨_, rfl, by simpa using q, hx7⟩
end Go.Proofs.YtnkmpoplibnflaaGreatDoor.Wk
set_option maxRecDepth 100000
set_option maxHeartbeats 16000000
namespace Go.Proofs.YtnkmpoplibnflaaGreatDoor.Wk
open Go Go.Proofs.YtnkmpoplibnflaaGreatDoor Go.RowKit
theorem ofTemp_any (w : World) (a b c : Nat) (ha : a < 18446744073709551616) (hb : b < 18446744073709551616) (hc : c < 18446744073709551616) (ht : Tab w) :
  Calls Tryz.prog 25 #[u64 a, u64 b, u64 c] w fun e w' => e = .returned (str (putF ⟨3, 0, 0, a, b, c⟩)) /\ Ext w w' := by
 have hp := put_any w ⟨3, 0, 0, a, b, c⟩ ⟨by show (3 : Nat) < 256; decide, z64, z64, ha, hb, hc⟩ ht
 have HP := zq hp
 clear hp
 go_enter Tryz.func25, Tryz.ntmps25
 go_wp2_with (go_at_call 31; fail)
 refine HP.out.mono ?_
 rintro e w1 ⟨rfl, hx1⟩
 go_wp2
 go_ret
 exact ⟨rfl, hx1⟩
theorem bytes_lt {S : Nat -> Prop} {w : World} {v : Value} {l : List UInt8} (h : Bytes S w v l) : Bytes (fun k => S k /\ k < w.heap.size) w v l := by
 cases l with
 | nil =>
  obtain ⟨a, c, rfl, h1, h2, h3, h4, h5⟩ := h
  exact ⟨a, c, rfl, h1, h2, h3, fun x e hx => by simp at hx, h5⟩
 | cons y r => exact h.lt (by simp)
def macC (c n p i s : Nat) (tx sx : List UInt8) (bv : Value) (k : Nat) (nm tt : List UInt8) (cb fn : Value) (done : Bool) (err : Int) (linked : Bool) : Array Value := #[.int .u64 (c : Int), .int .u64 (n : Int), .int .u64 (p : Int), .int .u64 (i : Int), .int .u64 (s : Int), str tx, str sx, bv, .int .u8 (k : Int), str nm, str tt, cb, fn, .bool done, .int .i64 err, .bool linked]
def NewPost (w : World) (c n p i s k : Nat) (l : List UInt8) (e : Ending) (w' : World) : Prop := ∃ B bv, w.heap.size <= B /\ e = .returned (.pointer (some ⟨B, 0, none⟩)) /\ Ext w w' ∧
   w'.heap[B]? = some (.cells (macC c n p i s (putF ⟨3, 0, 0, p, i, k⟩) (putF ⟨1, c, n, 0, 0, 0⟩) bv 1 (putF ⟨3, 0, 0, p, i, k⟩) [] (.slice none 0 0) (.func (.func 27) #[.pointer (some ⟨B, 0, none⟩)] #[]) (decide (n = 0)) (if n = 0 then 2 else 0) false) 66 (0, 0)) /\ Bytes (fun k => w.heap.size <= k /\ k < B) w' bv l
theorem new_any {S : Nat -> Prop} (w : World) (c n p i s k : Nat) (v : Value) (l : List UInt8) (hc : c < 18446744073709551616) (hn : n < 18446744073709551616) (hp : p < 18446744073709551616) (hi : i < 18446744073709551616) (hk : k < 18446744073709551616)
  (hr : Bytes S w v l) (hl : l.length <= 300) (ht : Tab w) :
  Calls Tryz.prog 20 #[.int .u64 c, .int .u64 n, .int .u64 p, .int .u64 i, .int .u64 s, .int .u64 k, v] w (NewPost w c n p i s k l) := by
 have HT := zq ht
 have HR := zq hr
 clear ht
 obtain ⟨ad, cp, rfl, -⟩ := hr
 go_enter Tryz.func20, Tryz.ntmps20
 go_wp2_with (go_at_call 25; fail)
 refine (ofTemp_any w p i k hp hi hk HT.out).mono ?_
 rintro e w1 ⟨rfl, hx1⟩
 obtain ⟨tx, htx⟩ : ∃ s, s = putF ⟨3, 0, 0, p, i, k⟩ := ⟨_, rfl⟩
 rw [<- htx]
 have HTX := zq htx
 clear htx
 have HX1 := zq hx1
 clear hx1
 go_wp2_with (go_at_call 26; fail)
 refine (ofSlot_any w1 c n hc hn (tab_ext HT.out HX1.out)).mono ?_
 rintro e w2 ⟨rfl, hx2⟩
 obtain ⟨sx, hsx⟩ : ∃ s, s = putF ⟨1, c, n, 0, 0, 0⟩ := ⟨_, rfl⟩
 rw [<- hsx]
 have HSX := zq hsx
 clear hsx
 have HX2 := zq (HX1.out.trans hx2)
 clear hx2 HX1
 go_wp2_with (go_at_call 23; fail)
 refine (cloneB_any w2 _ l (HR.out.ext HX2.out) (by omega)).mono ?_
 rintro e w3 ⟨v3, rfl, hb3, hx3⟩
 have HB3 := zq (bytes_lt hb3)
 have HS3 := zq HX2.out.size
 obtain ⟨a3, c3, rfl, -⟩ := hb3
 have HX3 := zq (HX2.out.trans hx3)
 clear hx3 HX2
 go_upto_region 2 with (fail)
 obtain ⟨w4, hw4⟩ : ∃ u, u = w3.alloc (.cells #[.int .u64 c, .int .u64 n, .int .u64 p, .int .u64 i, .int .u64 s, str tx, str sx, .slice a3 l.length c3, .int .u8 0, .string ⟨#[]⟩, .string ⟨#[]⟩, .slice none 0 0, .nilFunc, .bool false, .int .i64 0, .bool false] 66) := ⟨_, rfl⟩
 obtain ⟨B, hB⟩ : ∃ g, g = w3.heap.size := ⟨_, rfl⟩
 rw [<- hw4, <- hB]
 have HA := zq (show w4.heap[B]? = some (.cells #[.int .u64 c, .int .u64 n, .int .u64 p, .int .u64 i, .int .u64 s, str tx, str sx, .slice a3 l.length c3, .int .u8 0, .string ⟨#[]⟩, .string ⟨#[]⟩, .slice none 0 0, .nilFunc, .bool false, .int .i64 0, .bool false] 66 (0, 0)) by rw [hw4, hB]; exact newAt _ _)
 have HX4 := zq (show Ext w w4 from HX3.out.trans (by rw [hw4]; exact uZ.alloc _))
 have HBB := zq (show w.heap.size <= B by have := HX3.out.size; omega)
 have HY4 := zq (show Bytes (fun k => w.heap.size <= k /\ k < B) w4 (.slice a3 l.length c3) l from by
  have h := HB3.out.ext (show Ext w3 w4 by rw [hw4]; exact uZ.alloc _)
  exact h.mono (fun k h => ⟨Nat.le_trans HS3.out h.1, by rw [hB]; exact h.2⟩))
 clear hw4 hB HX3
 have b5 := cZ HA.out 5 _ rfl
 have q8 := cZ HA.out 8 _ rfl
 have q9 := cZ HA.out 9 _ rfl
 have q10 := cZ HA.out 10 _ rfl
 have q11 := cZ HA.out 11 _ rfl
 have q12 := cZ HA.out 12 _ rfl
 have f8 := freeAt HA.out 8
 have f9 := freeAt HA.out 9
 have f10 := freeAt HA.out 10
 have f11 := freeAt HA.out 11
 have f12 := freeAt HA.out 12
 have lb := lZ HA.out
 have hsf : ∀ w' : World, (store ⟨B, 12, none⟩ (.func (.func 27) #[.pointer (some ⟨B, 0, none⟩)] #[])).run Tryz.prog w' = stored Tryz.prog w' ⟨B, 12, none⟩ (.func (.func 27) #[.pointer (some ⟨B, 0, none⟩)] #[]) .plain := fun w' => run_store Tryz.prog w' _ _ _ rfl
 go_upto_region 3 with (fail)
 obtain ⟨w5, hw5⟩ : ∃ u, u = ((((w4.setCell ⟨B, 8, none⟩ (.int .u8 1)).setCell ⟨B, 9, none⟩ (str tx)).setCell ⟨B, 10, none⟩ (str [])).setCell ⟨B, 11, none⟩ (.slice none 0 0)).setCell ⟨B, 12, none⟩ (.func (.func 27) #[.pointer (some ⟨B, 0, none⟩)] #[]) := ⟨_, rfl⟩
 rw [show ((((w4.setCell ⟨B, 8, none⟩ (.int .u8 1)).setCell ⟨B, 9, none⟩ (.string ⟨tx.toArray⟩)).setCell ⟨B, 10, none⟩ (.string ⟨#[]⟩)).setCell ⟨B, 11, none⟩ (.slice none 0 0)).setCell ⟨B, 12, none⟩ (.func (.func 27) #[.pointer (some ⟨B, 0, none⟩)] #[]) = w5 from hw5.symm]
 have hu5 : Upd (At B) w4 w5 := by rw [hw5]; exact ((((Upd.own _ _ _ _).trans (Upd.own _ _ _ _)).trans (Upd.own _ _ _ _)).trans (Upd.own _ _ _ _)).trans (Upd.own _ _ _ _)
 have HB5 := zq (show w5.heap[B]? = some (.cells #[.int .u64 c, .int .u64 n, .int .u64 p, .int .u64 i, .int .u64 s, str tx, str sx, .slice a3 l.length c3, .int .u8 1, str tx, str [], .slice none 0 0, .func (.func 27) #[.pointer (some ⟨B, 0, none⟩)] #[], .bool false, .int .i64 0, .bool false] 66 (0, 0)) by rw [hw5]; exact setAt (setAt (setAt (setAt (setAt HA.out)))))
 have HX5 := zq (show Ext w w5 from HX4.out.step hu5 (fun i hi e => by unfold At at e; have := HBB.out; omega))
 have HY5 := zq (HY4.out.upd hu5 (fun k h e => by have e : k = B := e; have := h.2; omega))
 clear hw5 hu5 b5 q8 q9 q10 q11 q12 f8 f9 f10 f11 f12 lb hsf HA HX4
 by_cases hz : n = 0
 ·have gz : ((n : Int) == 0) = true := by simp [hz]
  have HZ := zq hz
  clear hz
  have q13 := cZ HB5.out 13 _ rfl
  have q14 := cZ HB5.out 14 _ rfl
  have f13 := freeAt HB5.out 13
  have f14 := freeAt HB5.out 14
  have lb := lZ HB5.out
  go_upto_region 5 with (fail)
  obtain ⟨w6, hw6⟩ : ∃ u, u = (w5.setCell ⟨B, 13, none⟩ (.bool true)).setCell ⟨B, 14, none⟩ (.int .i64 2) := ⟨_, rfl⟩
  rw [<- hw6]
  have hu6 : Upd (At B) w5 w6 := by rw [hw6]; exact (Upd.own _ _ _ _).trans (Upd.own _ _ _ _)
  have HB6 := zq (show w6.heap[B]? = some (.cells #[.int .u64 c, .int .u64 n, .int .u64 p, .int .u64 i, .int .u64 s, str tx, str sx, .slice a3 l.length c3, .int .u8 1, str tx, str [], .slice none 0 0, .func (.func 27) #[.pointer (some ⟨B, 0, none⟩)] #[], .bool true, .int .i64 2, .bool false] 66 (0, 0)) by rw [hw6]; exact setAt (setAt HB5.out))
  have HX6 := zq (show Ext w w6 from HX5.out.step hu6 (fun i hi e => by unfold At at e; have := HBB.out; omega))
  have HY6 := zq (HY5.out.upd hu6 (fun k h e => by have e : k = B := e; have := h.2; omega))
  clear hw6 hu6 q13 q14 f13 f14 lb
  go_wp2
  go_ret
  refine ⟨B, _, HBB.out, rfl, HX6.out, ?_, HY6.out⟩
  have h := HB6.out
  rw [<- HTX.out, <- HSX.out]
  unfold macC
  rw [decide_eq_true HZ.out, if_pos HZ.out]
  exact h
 ·have gz : ((n : Int) == 0) = false := by simp; omega
  have HZ := zq hz
  clear hz
  go_wp2
  go_ret
  refine ⟨B, _, HBB.out, rfl, HX5.out, ?_, HY5.out⟩
  have h := HB5.out
  rw [<- HTX.out, <- HSX.out]
  unfold macC
  rw [decide_eq_false HZ.out, if_neg HZ.out]
  exact h
end Go.Proofs.YtnkmpoplibnflaaGreatDoor.Wk
