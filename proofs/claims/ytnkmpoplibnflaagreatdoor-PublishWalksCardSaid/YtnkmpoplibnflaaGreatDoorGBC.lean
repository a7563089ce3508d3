/-
  CONTRACT of the reference's Put. Condition: the numbers are numbers of 64 bits.
  CONTRACT of the reference's call of a step. No condition.
-/
import Derived.Test.YtnkmpoplibnflaaGreatDoorNRef3
import Derived.Test.YtnkmpoplibnflaaGreatDoorGAV
set_option maxRecDepth 100000
set_option maxHeartbeats 16000000
namespace Go.Proofs.YtnkmpoplibnflaaGreatDoor
open Go.RowKit
def accF (x : Nm) (k : Nat) : List UInt8 := headF x.kind :: (((numsF x).take k).map (fun u => 45 :: Lib.decDigits u)).flatten
theorem accF_snoc {x : Nm} {k : Nat} (hk : k < (numsF x).length) : accF x (k + 1) = accF x k ++ 45 :: Lib.decDigits ((numsF x)[k]) := by
 unfold accF
 rw [List.take_succ_eq_append_getElem hk, List.map_append, List.flatten_append]
 simp
theorem join_flat (h : List UInt8) : ∀ l : List (List UInt8), Lib.join (h :: l) [45] = h ++ (l.map (fun u => 45 :: u)).flatten
 | [] => by rw [join_one]; simp
 | v :: r => by
  rw [join_cons, join_flat v r]; simp
theorem accF_all {x : Nm} (hm : mayF x = true) : accF x (numsF x).length = putF x := by
 unfold putF
 rw [if_pos hm]
 unfold wordsF accF
 rw [join_flat, List.take_length, List.map_map]; rfl
theorem accF_len {x : Nm} (hw : WfNm x) {k : Nat} (hk : k <= 4) : (accF x k).length <= 1 + 21 * k := by
 unfold accF
 have h : ∀ l : List Nat, (∀ u ∈ l, u < 18446744073709551616) -> ((l.map (fun u => 45 :: Lib.decDigits u)).flatten).length <= 21 * l.length := by
  intro l
  induction l with
  | nil => intro _; simp
  | cons u r ih =>
   intro h
   have h1 := ih (fun v hv => h v (by simp [hv]))
   have h2 := dec_len (h u (by simp))
   simp only [List.map_cons, List.flatten_cons, List.length_append, List.length_cons] at h1 ⊢
   omega
 have h1 := h ((numsF x).take k) (fun u hu => numsF_lt hw u (List.mem_of_mem_take hu))
 have h2 : ((numsF x).take k).length <= k := List.length_take_le _ _
 simp only [List.length_cons]
 omega
theorem five_heads (w : World) (n : Nat) (hn : n = w.heap.size) {k : Nat} (h1 : 1 <= k) (h2 : k <= 4) : (w.alloc (.cells #[.string ⟨#[]⟩, .string ⟨#[115]⟩, .string ⟨#[98]⟩, .string ⟨#[116]⟩, .string ⟨#[106]⟩] 9)).cell? ⟨n, k, none⟩ = some (str [headF k]) := by
 subst hn
 exact cZ (newAt w _) k _ (headsV_at h1 h2)
theorem rput_any (w : World) (x : Nm) (hw : WfNm x) :
  Calls Tryz.prog 28 #[.agg (nmCells x)] w fun e w' => e = .returned (str (putF x)) /\ Ext w w' := by
 have HB := zq (newAt w (.cells (nmCells x) 73))
 have HX := zq (show Ext w (w.alloc (.cells (nmCells x) 73)) from uZ.alloc _)
 have HW := zq hw
 clear hw
 go_enter Tryz.func28, Tryz.ntmps28
 go_wp2_with (first | (refine wpList_load_blk rfl _ _ rfl rfl HB.out (Tryz.rnmT x) ?_) | (go_at_call 34; fail))
 refine (rnums_any _ x).mono ?_
 rintro e w1 ⟨v, rfl, hrow, hx1⟩
 have HX1 := zq (HX.out.trans hx1)
 have hb1 := hx1.at_ HB.out id
 have HB1 := zq hb1
 clear hx1
 cases hm : mayF x with
 | false =>
  have HM := zq hm
  clear hm hrow hb1
  go_wp2
  go_ret
  exact ⟨by unfold putF; rw [if_neg (by rw [HM.out]; decide)]; rfl, HX1.out⟩
 | true =>
  have hrow := hrow hm
  obtain ⟨k1, k2, -⟩ := mayF_iff.1 hm
  obtain ⟨a, c, rfl, -, hcm, -⟩ := id hrow
  have HM := zq hm
  have HROW := zq hrow
  have hnl := numsF_length (x := x)
  have hcl := countF_le x.kind
  have hc0 := fun w2 (h : Ext w1 w2) => cZ (h.at_ hb1 id) 0 (.int .u8 x.kind) rfl
  have hc1 := hc0 _ ((Upd.refl Nothing w1).alloc (.cells #[.string ⟨#[]⟩, .string ⟨#[115]⟩, .string ⟨#[98]⟩, .string ⟨#[116]⟩, .string ⟨#[106]⟩] 9))
  have hh := five_heads w1 w1.heap.size rfl k1 k2
  obtain ⟨C, hC⟩ : ∃ C, C = (numsF x).length := ⟨_, rfl⟩
  rw [<- hC] at hrow hnl ⊢
  have hC4 : C <= 4 := by omega
  have HC := zq hC
  have hk5 : (x.kind : Int) < 5 := by omega
  clear hm hrow hb1 hc0 hC hnl hcl
  unfold maxLen at hcm
  go_wp2
  obtain ⟨w2, hw2⟩ : ∃ u, u = w1.alloc (.cells #[.string ⟨#[]⟩, .string ⟨#[115]⟩, .string ⟨#[98]⟩, .string ⟨#[116]⟩, .string ⟨#[106]⟩] 9) := ⟨_, rfl⟩
  have hx2 : Ext w1 w2 := by rw [hw2]; exact uZ.alloc _
  rw [<- hw2]
  have HX2 := zq (HX1.out.trans hx2)
  have HROW2 := zq (HROW.out.ext hx2)
  clear hc1 hh hw2 hx2
  go_loopw [5, 6] (fun v i wr => ∃ k : Nat, k <= C /\ i = .int .i64 k /\ v = str (accF x k) /\ Ext w2 wr) (fun _ i _ => C - (intOf i).toNat)
  case atStart => exact ⟨0, Nat.zero_le _, rfl, rfl, uZ⟩
  case round =>
   obtain ⟨k, hk, rfl, rfl, hx⟩ := hrel
   have HX3 := zq hx
   clear hx
   by_cases hlt : k < C
   ·have hkn : k < (numsF x).length := by have := HC.out; omega
    have hsn := accF_snoc hkn
    have hu := numsF_lt HW.out _ (List.getElem_mem hkn)
    obtain ⟨b1, o1, c1, e1, -, -, -, hq1⟩ := (HROW2.out.ext HX3.out).addr (by omega)
    have hcell := hq1 k (u64 ((numsF x)[k])) (by simp [hkn])
    have HC' := HC.out
    rw [<- HC'] at e1
    cases e1
    obtain ⟨u, hue⟩ : ∃ u, u = (numsF x)[k] := ⟨_, rfl⟩
    rw [<- hue] at hcell hu hsn
    have hal := accF_len HW.out (k := k) (by omega)
    obtain ⟨A, hA⟩ : ∃ A, A = accF x k := ⟨_, rfl⟩
    rw [<- hA] at hsn hal ⊢
    have HSN := zq hsn
    have hal' : A.length <= 85 := by omega
    clear hsn hq1 hue hkn hA hal HC'
    go_wp2_with (go_at_call 35; fail)
    refine (digits_any _ u hu).mono ?_
    rintro e w5 ⟨rfl, hx5⟩
    have HX5 := zq (HX3.out.trans hx5)
    have hdl := dec_len hu
    obtain ⟨D, hD⟩ : ∃ D, D = Lib.decDigits u := ⟨_, rfl⟩
    rw [<- hD] at hdl ⊢
    have HD := zq hD
    clear hx5 hD hcell
    go_wp2
    go_roundw
    case rel =>
     refine ⟨k + 1, by omega, by go_num, ?_, HX5.out⟩
     rw [HSN.out, <- HD.out]
     show Value.string _ = _
     congr 1
     first | done | (apply ByteArray.ext; simp)
    case measure => simp [intOf]; omega
   ·have hkC : k = C := by omega
    go_wp2
    go_ret
    exact ⟨by rw [hkC, HC.out, accF_all HM.out]; rfl, HX2.out.trans HX3.out⟩
end Go.Proofs.YtnkmpoplibnflaaGreatDoor
set_option maxRecDepth 100000
set_option maxHeartbeats 16000000
namespace Go.Proofs.YtnkmpoplibnflaaGreatDoor.Wk
open Go Go.Proofs.YtnkmpoplibnflaaGreatDoor Go.RowKit
theorem Tryz.rcallT : StructT Tryz.prog 35 4 := ⟨_, Tryz.underlying35, rfl, by kernel_rfl⟩
abbrev cfgC (c : Cfg) (v : Value) : Array Value := #[.int .u64 (c.chain : Int), .int .u64 (c.n : Int), .int .u64 (c.proc : Int), .int .u64 (c.inc : Int), .int .u64 (c.seq : Int), .int .u64 (c.k : Int), v]
abbrev spotC (x : Spot) : Array Value := #[.int .i64 (x.step : Int), .int .i64 x.err, .int .u64 (x.floor : Int)]
theorem wf_t {c : Cfg} (h : c.Ok) : WfNm ⟨3, 0, 0, c.proc, c.inc, c.k⟩ := ⟨by show (3 : Nat) < 256; decide, by show (0 : Nat) < 18446744073709551616; decide, by show (0 : Nat) < 18446744073709551616; decide, h.proc, h.inc, h.k⟩
theorem wf_s {c : Cfg} (h : c.Ok) : WfNm ⟨1, c.chain, c.n, 0, 0, 0⟩ := ⟨by show (1 : Nat) < 256; decide, h.chain, h.n, by show (0 : Nat) < 18446744073709551616; decide, by show (0 : Nat) < 18446744073709551616; decide, by show (0 : Nat) < 18446744073709551616; decide⟩
theorem wf_b {c : Cfg} (h : c.Ok) {f : Nat} (hf : f < 18446744073709551616) : WfNm ⟨2, c.chain, f, 0, 0, 0⟩ := ⟨by show (2 : Nat) < 256; decide, h.chain, hf, by show (0 : Nat) < 18446744073709551616; decide, by show (0 : Nat) < 18446744073709551616; decide, by show (0 : Nat) < 18446744073709551616; decide⟩
theorem rpre3 (w : World) (c : Cfg) (va : Option Addr) (vn vc : Nat) (st e : Int) (f : Nat) : ∃ w1, Hid (w1 = ((w.alloc (.cells #[.int .u64 (c.chain : Int), .int .u64 (c.n : Int), .int .u64 (c.proc : Int), .int .u64 (c.inc : Int), .int .u64 (c.seq : Int), .int .u64 (c.k : Int), .slice va vn vc] 29)).alloc (.cells #[.int .i64 st, .int .i64 e, .int .u64 (f : Int)] 58)).alloc (.cells #[.int .u8 0, .string ⟨#[]⟩, .string ⟨#[]⟩, .slice none 0 0] 35)) /\ Hid (w1.heap[w.heap.size]? = some (.cells #[.int .u64 (c.chain : Int), .int .u64 (c.n : Int), .int .u64 (c.proc : Int), .int .u64 (c.inc : Int), .int .u64 (c.seq : Int), .int .u64 (c.k : Int), .slice va vn vc] 29 (0, 0))) /\ Hid (w1.heap[w.heap.size + 1]? = some (.cells #[.int .i64 st, .int .i64 e, .int .u64 (f : Int)] 58 (0, 0))) /\ Hid (w1.heap[w.heap.size + 2]? = some (.cells #[.int .u8 0, .string ⟨#[]⟩, .string ⟨#[]⟩, .slice none 0 0] 35 (0, 0))) /\ Hid (Ext w w1) /\ w.heap.size < w1.heap.size /\ w1.cell? ⟨w.heap.size, 0, none⟩ = some (.int .u64 (c.chain : Int)) /\ w1.cell? ⟨w.heap.size, 1, none⟩ = some (.int .u64 (c.n : Int)) /\ w1.cell? ⟨w.heap.size, 2, none⟩ = some (.int .u64 (c.proc : Int)) /\ w1.cell? ⟨w.heap.size, 3, none⟩ = some (.int .u64 (c.inc : Int)) /\ w1.cell? ⟨w.heap.size, 5, none⟩ = some (.int .u64 (c.k : Int)) := by
 obtain ⟨ha, hb, hz, hx⟩ := allocs3 w (.cells #[.int .u64 (c.chain : Int), .int .u64 (c.n : Int), .int .u64 (c.proc : Int), .int .u64 (c.inc : Int), .int .u64 (c.seq : Int), .int .u64 (c.k : Int), .slice va vn vc] 29) (.cells #[.int .i64 st, .int .i64 e, .int .u64 (f : Int)] 58) (.cells #[.int .u8 0, .string ⟨#[]⟩, .string ⟨#[]⟩, .slice none 0 0] 35)
 exact ⟨_, zq rfl, zq ha, zq hb, zq hz, zq hx, lZ ha, cZ ha 0 _ rfl, cZ ha 1 _ rfl, cZ ha 2 _ rfl, cZ ha 3 _ rfl, cZ ha 5 _ rfl⟩
theorem rcall_1 (w : World) (c : Cfg) (hc : c.Ok) (e : Int) (f : Nat) (va : Option Addr) (vn vc : Nat) :
  Calls Tryz.prog 21 #[.agg #[.int .u64 (c.chain : Int), .int .u64 (c.n : Int), .int .u64 (c.proc : Int), .int .u64 (c.inc : Int), .int .u64 (c.seq : Int), .int .u64 (c.k : Int), .slice va vn vc], .agg #[.int .i64 1, .int .i64 e, .int .u64 (f : Int)]] w fun r w' => r = .returned (.agg #[.int .u8 1, str (txF c), .string ⟨#[]⟩, .slice none 0 0]) /\ Ext w w' := by
 have HWT := zq (wf_t hc)
 have HWS := zq (wf_s hc)
 clear hc
 obtain ⟨w1, HW1, HA, HB, HZ, HX1, al, a0, a1, a2, a3, a5⟩ := rpre3 w c va vn vc 1 e f
 go_enter Tryz.func21, Tryz.ntmps21
 go_upto_region 1 with fail
 rw [<- HW1.out]
 go_wp2_with (go_at_call 28; fail)
 refine (rput_any w1 ⟨3, 0, 0, c.proc, c.inc, c.k⟩ HWT.out).mono ?_
 rintro r w2 ⟨rfl, hx2⟩
 obtain ⟨tx, htx⟩ : ∃ s, s = txF c := ⟨_, rfl⟩
 rw [show putF ⟨3, 0, 0, c.proc, c.inc, c.k⟩ = tx from htx.symm]
 have HTX := zq htx
 have HX2 := zq (HX1.out.trans hx2)
 have ha := hx2.at_ HA.out id
 have HB2 := zq (hx2.at_ HB.out id)
 have HZ2 := zq (hx2.at_ HZ.out id)
 have HA2 := zq ha
 clear htx hx2 a0 a1 a2 a3 a5 al
 have a0 := cZ ha 0 _ rfl
 have a1 := cZ ha 1 _ rfl
 have al := lZ ha
 clear ha
 go_wp2_with (go_at_call 28; fail)
 refine (rput_any w2 ⟨1, c.chain, c.n, 0, 0, 0⟩ HWS.out).mono ?_
 rintro r w3 ⟨rfl, hx3⟩
 obtain ⟨sx, hsx⟩ : ∃ s, s = sxF c := ⟨_, rfl⟩
 rw [show putF ⟨1, c.chain, c.n, 0, 0, 0⟩ = sx from hsx.symm]
 have HSX := zq hsx
 have HX3 := zq (HX2.out.trans hx3)
 have ha := hx3.at_ HA2.out id
 have hb := hx3.at_ HB2.out id
 have HZ3 := zq (hx3.at_ HZ2.out id)
 have HA3 := zq ha
 clear hsx hx3 a0 a1 al
 have a0 := cZ ha 0 _ rfl
 have a6 := cZ ha 6 _ rfl
 have al := lZ ha
 have b0 := cZ hb 0 _ rfl
 have b2 := cZ hb 2 _ rfl
 have bl := lZ hb
 clear ha hb
 go_upto_region 5 with fail
 go_wp2_with (refine wpList_store_blk rfl _ _ _ rfl rfl (cells := #[.int .u8 1, str tx, .string ⟨#[]⟩, .slice none 0 0]) rfl (g := w.heap.size + 2) HZ3.out Tryz.rcallT rfl (by simp [AllOne, Value.oneCell']) ?_)
 refine bodyPost_blk rfl rfl rfl (setRow_heap _ _ _ _ _ _ HZ3.out) Tryz.rcallT ?_
 exact ⟨by rw [HTX.out], HX3.out.step (T := At (w.heap.size + 2)) (Upd.row _ _ _) (fun k hk e => by have e : k = w.heap.size + 2 := e; omega)⟩
theorem rcall_2 (w : World) (c : Cfg) (hc : c.Ok) (e : Int) (f : Nat) (va : Option Addr) (vn vc : Nat) :
  Calls Tryz.prog 21 #[.agg #[.int .u64 (c.chain : Int), .int .u64 (c.n : Int), .int .u64 (c.proc : Int), .int .u64 (c.inc : Int), .int .u64 (c.seq : Int), .int .u64 (c.k : Int), .slice va vn vc], .agg #[.int .i64 2, .int .i64 e, .int .u64 (f : Int)]] w fun r w' => r = .returned (.agg #[.int .u8 2, str (txF c), .string ⟨#[]⟩, .slice va vn vc]) /\ Ext w w' := by
 have HWT := zq (wf_t hc)
 have HWS := zq (wf_s hc)
 clear hc
 obtain ⟨w1, HW1, HA, HB, HZ, HX1, al, a0, a1, a2, a3, a5⟩ := rpre3 w c va vn vc 2 e f
 go_enter Tryz.func21, Tryz.ntmps21
 go_upto_region 1 with fail
 rw [<- HW1.out]
 go_wp2_with (go_at_call 28; fail)
 refine (rput_any w1 ⟨3, 0, 0, c.proc, c.inc, c.k⟩ HWT.out).mono ?_
 rintro r w2 ⟨rfl, hx2⟩
 obtain ⟨tx, htx⟩ : ∃ s, s = txF c := ⟨_, rfl⟩
 rw [show putF ⟨3, 0, 0, c.proc, c.inc, c.k⟩ = tx from htx.symm]
 have HTX := zq htx
 have HX2 := zq (HX1.out.trans hx2)
 have ha := hx2.at_ HA.out id
 have HB2 := zq (hx2.at_ HB.out id)
 have HZ2 := zq (hx2.at_ HZ.out id)
 have HA2 := zq ha
 clear htx hx2 a0 a1 a2 a3 a5 al
 have a0 := cZ ha 0 _ rfl
 have a1 := cZ ha 1 _ rfl
 have al := lZ ha
 clear ha
 go_wp2_with (go_at_call 28; fail)
 refine (rput_any w2 ⟨1, c.chain, c.n, 0, 0, 0⟩ HWS.out).mono ?_
 rintro r w3 ⟨rfl, hx3⟩
 obtain ⟨sx, hsx⟩ : ∃ s, s = sxF c := ⟨_, rfl⟩
 rw [show putF ⟨1, c.chain, c.n, 0, 0, 0⟩ = sx from hsx.symm]
 have HSX := zq hsx
 have HX3 := zq (HX2.out.trans hx3)
 have ha := hx3.at_ HA2.out id
 have hb := hx3.at_ HB2.out id
 have HZ3 := zq (hx3.at_ HZ2.out id)
 have HA3 := zq ha
 clear hsx hx3 a0 a1 al
 have a0 := cZ ha 0 _ rfl
 have a6 := cZ ha 6 _ rfl
 have al := lZ ha
 have b0 := cZ hb 0 _ rfl
 have b2 := cZ hb 2 _ rfl
 have bl := lZ hb
 clear ha hb
 go_upto_region 7 with fail
 go_wp2_with (refine wpList_store_blk rfl _ _ _ rfl rfl (cells := #[.int .u8 2, str tx, .string ⟨#[]⟩, .slice va vn vc]) rfl (g := w.heap.size + 2) HZ3.out Tryz.rcallT rfl (by simp [AllOne, Value.oneCell']) ?_)
 refine bodyPost_blk rfl rfl rfl (setRow_heap _ _ _ _ _ _ HZ3.out) Tryz.rcallT ?_
 exact ⟨by rw [HTX.out], HX3.out.step (T := At (w.heap.size + 2)) (Upd.row _ _ _) (fun k hk e => by have e : k = w.heap.size + 2 := e; omega)⟩
theorem rcall_3 (w : World) (c : Cfg) (hc : c.Ok) (e : Int) (f : Nat) (va : Option Addr) (vn vc : Nat) :
  Calls Tryz.prog 21 #[.agg #[.int .u64 (c.chain : Int), .int .u64 (c.n : Int), .int .u64 (c.proc : Int), .int .u64 (c.inc : Int), .int .u64 (c.seq : Int), .int .u64 (c.k : Int), .slice va vn vc], .agg #[.int .i64 3, .int .i64 e, .int .u64 (f : Int)]] w fun r w' => r = .returned (.agg #[.int .u8 3, str (txF c), .string ⟨#[]⟩, .slice none 0 0]) /\ Ext w w' := by
 have HWT := zq (wf_t hc)
 have HWS := zq (wf_s hc)
 clear hc
 obtain ⟨w1, HW1, HA, HB, HZ, HX1, al, a0, a1, a2, a3, a5⟩ := rpre3 w c va vn vc 3 e f
 go_enter Tryz.func21, Tryz.ntmps21
 go_upto_region 1 with fail
 rw [<- HW1.out]
 go_wp2_with (go_at_call 28; fail)
 refine (rput_any w1 ⟨3, 0, 0, c.proc, c.inc, c.k⟩ HWT.out).mono ?_
 rintro r w2 ⟨rfl, hx2⟩
 obtain ⟨tx, htx⟩ : ∃ s, s = txF c := ⟨_, rfl⟩
 rw [show putF ⟨3, 0, 0, c.proc, c.inc, c.k⟩ = tx from htx.symm]
 have HTX := zq htx
 have HX2 := zq (HX1.out.trans hx2)
 have ha := hx2.at_ HA.out id
 have HB2 := zq (hx2.at_ HB.out id)
 have HZ2 := zq (hx2.at_ HZ.out id)
 have HA2 := zq ha
 clear htx hx2 a0 a1 a2 a3 a5 al
 have a0 := cZ ha 0 _ rfl
 have a1 := cZ ha 1 _ rfl
 have al := lZ ha
 clear ha
 go_wp2_with (go_at_call 28; fail)
 refine (rput_any w2 ⟨1, c.chain, c.n, 0, 0, 0⟩ HWS.out).mono ?_
 rintro r w3 ⟨rfl, hx3⟩
 obtain ⟨sx, hsx⟩ : ∃ s, s = sxF c := ⟨_, rfl⟩
 rw [show putF ⟨1, c.chain, c.n, 0, 0, 0⟩ = sx from hsx.symm]
 have HSX := zq hsx
 have HX3 := zq (HX2.out.trans hx3)
 have ha := hx3.at_ HA2.out id
 have hb := hx3.at_ HB2.out id
 have HZ3 := zq (hx3.at_ HZ2.out id)
 have HA3 := zq ha
 clear hsx hx3 a0 a1 al
 have a0 := cZ ha 0 _ rfl
 have a6 := cZ ha 6 _ rfl
 have al := lZ ha
 have b0 := cZ hb 0 _ rfl
 have b2 := cZ hb 2 _ rfl
 have bl := lZ hb
 clear ha hb
 go_upto_region 9 with fail
 go_wp2_with (refine wpList_store_blk rfl _ _ _ rfl rfl (cells := #[.int .u8 3, str tx, .string ⟨#[]⟩, .slice none 0 0]) rfl (g := w.heap.size + 2) HZ3.out Tryz.rcallT rfl (by simp [AllOne, Value.oneCell']) ?_)
 refine bodyPost_blk rfl rfl rfl (setRow_heap _ _ _ _ _ _ HZ3.out) Tryz.rcallT ?_
 exact ⟨by rw [HTX.out], HX3.out.step (T := At (w.heap.size + 2)) (Upd.row _ _ _) (fun k hk e => by have e : k = w.heap.size + 2 := e; omega)⟩
theorem rcall_4 (w : World) (c : Cfg) (hc : c.Ok) (e : Int) (f : Nat) (va : Option Addr) (vn vc : Nat) :
  Calls Tryz.prog 21 #[.agg #[.int .u64 (c.chain : Int), .int .u64 (c.n : Int), .int .u64 (c.proc : Int), .int .u64 (c.inc : Int), .int .u64 (c.seq : Int), .int .u64 (c.k : Int), .slice va vn vc], .agg #[.int .i64 4, .int .i64 e, .int .u64 (f : Int)]] w fun r w' => r = .returned (.agg #[.int .u8 5, str (txF c), str (sxF c), .slice none 0 0]) /\ Ext w w' := by
 have HWT := zq (wf_t hc)
 have HWS := zq (wf_s hc)
 clear hc
 obtain ⟨w1, HW1, HA, HB, HZ, HX1, al, a0, a1, a2, a3, a5⟩ := rpre3 w c va vn vc 4 e f
 go_enter Tryz.func21, Tryz.ntmps21
 go_upto_region 1 with fail
 rw [<- HW1.out]
 go_wp2_with (go_at_call 28; fail)
 refine (rput_any w1 ⟨3, 0, 0, c.proc, c.inc, c.k⟩ HWT.out).mono ?_
 rintro r w2 ⟨rfl, hx2⟩
 obtain ⟨tx, htx⟩ : ∃ s, s = txF c := ⟨_, rfl⟩
 rw [show putF ⟨3, 0, 0, c.proc, c.inc, c.k⟩ = tx from htx.symm]
 have HTX := zq htx
 have HX2 := zq (HX1.out.trans hx2)
 have ha := hx2.at_ HA.out id
 have HB2 := zq (hx2.at_ HB.out id)
 have HZ2 := zq (hx2.at_ HZ.out id)
 have HA2 := zq ha
 clear htx hx2 a0 a1 a2 a3 a5 al
 have a0 := cZ ha 0 _ rfl
 have a1 := cZ ha 1 _ rfl
 have al := lZ ha
 clear ha
 go_wp2_with (go_at_call 28; fail)
 refine (rput_any w2 ⟨1, c.chain, c.n, 0, 0, 0⟩ HWS.out).mono ?_
 rintro r w3 ⟨rfl, hx3⟩
 obtain ⟨sx, hsx⟩ : ∃ s, s = sxF c := ⟨_, rfl⟩
 rw [show putF ⟨1, c.chain, c.n, 0, 0, 0⟩ = sx from hsx.symm]
 have HSX := zq hsx
 have HX3 := zq (HX2.out.trans hx3)
 have ha := hx3.at_ HA2.out id
 have hb := hx3.at_ HB2.out id
 have HZ3 := zq (hx3.at_ HZ2.out id)
 have HA3 := zq ha
 clear hsx hx3 a0 a1 al
 have a0 := cZ ha 0 _ rfl
 have a6 := cZ ha 6 _ rfl
 have al := lZ ha
 have b0 := cZ hb 0 _ rfl
 have b2 := cZ hb 2 _ rfl
 have bl := lZ hb
 clear ha hb
 go_upto_region 11 with fail
 go_wp2_with (refine wpList_store_blk rfl _ _ _ rfl rfl (cells := #[.int .u8 5, str tx, str sx, .slice none 0 0]) rfl (g := w.heap.size + 2) HZ3.out Tryz.rcallT rfl (by simp [AllOne, Value.oneCell']) ?_)
 refine bodyPost_blk rfl rfl rfl (setRow_heap _ _ _ _ _ _ HZ3.out) Tryz.rcallT ?_
 exact ⟨by rw [HTX.out, HSX.out], HX3.out.step (T := At (w.heap.size + 2)) (Upd.row _ _ _) (fun k hk e => by have e : k = w.heap.size + 2 := e; omega)⟩
theorem rcall_5 (w : World) (c : Cfg) (hc : c.Ok) (e : Int) (f : Nat) (va : Option Addr) (vn vc : Nat) :
  Calls Tryz.prog 21 #[.agg #[.int .u64 (c.chain : Int), .int .u64 (c.n : Int), .int .u64 (c.proc : Int), .int .u64 (c.inc : Int), .int .u64 (c.seq : Int), .int .u64 (c.k : Int), .slice va vn vc], .agg #[.int .i64 5, .int .i64 e, .int .u64 (f : Int)]] w fun r w' => r = .returned (.agg #[.int .u8 7, .string ⟨#[]⟩, .string ⟨#[]⟩, .slice none 0 0]) /\ Ext w w' := by
 have HWT := zq (wf_t hc)
 have HWS := zq (wf_s hc)
 clear hc
 obtain ⟨w1, HW1, HA, HB, HZ, HX1, al, a0, a1, a2, a3, a5⟩ := rpre3 w c va vn vc 5 e f
 go_enter Tryz.func21, Tryz.ntmps21
 go_upto_region 1 with fail
 rw [<- HW1.out]
 go_wp2_with (go_at_call 28; fail)
 refine (rput_any w1 ⟨3, 0, 0, c.proc, c.inc, c.k⟩ HWT.out).mono ?_
 rintro r w2 ⟨rfl, hx2⟩
 obtain ⟨tx, htx⟩ : ∃ s, s = txF c := ⟨_, rfl⟩
 rw [show putF ⟨3, 0, 0, c.proc, c.inc, c.k⟩ = tx from htx.symm]
 have HTX := zq htx
 have HX2 := zq (HX1.out.trans hx2)
 have ha := hx2.at_ HA.out id
 have HB2 := zq (hx2.at_ HB.out id)
 have HZ2 := zq (hx2.at_ HZ.out id)
 have HA2 := zq ha
 clear htx hx2 a0 a1 a2 a3 a5 al
 have a0 := cZ ha 0 _ rfl
 have a1 := cZ ha 1 _ rfl
 have al := lZ ha
 clear ha
 go_wp2_with (go_at_call 28; fail)
 refine (rput_any w2 ⟨1, c.chain, c.n, 0, 0, 0⟩ HWS.out).mono ?_
 rintro r w3 ⟨rfl, hx3⟩
 obtain ⟨sx, hsx⟩ : ∃ s, s = sxF c := ⟨_, rfl⟩
 rw [show putF ⟨1, c.chain, c.n, 0, 0, 0⟩ = sx from hsx.symm]
 have HSX := zq hsx
 have HX3 := zq (HX2.out.trans hx3)
 have ha := hx3.at_ HA2.out id
 have hb := hx3.at_ HB2.out id
 have HZ3 := zq (hx3.at_ HZ2.out id)
 have HA3 := zq ha
 clear hsx hx3 a0 a1 al
 have a0 := cZ ha 0 _ rfl
 have a6 := cZ ha 6 _ rfl
 have al := lZ ha
 have b0 := cZ hb 0 _ rfl
 have b2 := cZ hb 2 _ rfl
 have bl := lZ hb
 clear ha hb
 go_upto_region 13 with fail
 go_wp2_with (refine wpList_store_blk rfl _ _ _ rfl rfl (cells := #[.int .u8 7, .string ⟨#[]⟩, .string ⟨#[]⟩, .slice none 0 0]) rfl (g := w.heap.size + 2) HZ3.out Tryz.rcallT rfl (by simp [AllOne, Value.oneCell']) ?_)
 refine bodyPost_blk rfl rfl rfl (setRow_heap _ _ _ _ _ _ HZ3.out) Tryz.rcallT ?_
 exact ⟨rfl, HX3.out.step (T := At (w.heap.size + 2)) (Upd.row _ _ _) (fun k hk e => by have e : k = w.heap.size + 2 := e; omega)⟩
theorem rcall_6 (w : World) (c : Cfg) (hc : c.Ok) (e : Int) (f : Nat) (hf : f < 18446744073709551616) (va : Option Addr) (vn vc : Nat) :
  Calls Tryz.prog 21 #[.agg #[.int .u64 (c.chain : Int), .int .u64 (c.n : Int), .int .u64 (c.proc : Int), .int .u64 (c.inc : Int), .int .u64 (c.seq : Int), .int .u64 (c.k : Int), .slice va vn vc], .agg #[.int .i64 6, .int .i64 e, .int .u64 (f : Int)]] w fun r w' => r = .returned (.agg #[.int .u8 8, str (bxF c f), .string ⟨#[]⟩, .slice none 0 0]) /\ Ext w w' := by
 have HWT := zq (wf_t hc)
 have HWS := zq (wf_s hc)
 have HWB := zq (wf_b hc hf)
 clear hc
 obtain ⟨w1, HW1, HA, HB, HZ, HX1, al, a0, a1, a2, a3, a5⟩ := rpre3 w c va vn vc 6 e f
 go_enter Tryz.func21, Tryz.ntmps21
 go_upto_region 1 with fail
 rw [<- HW1.out]
 go_wp2_with (go_at_call 28; fail)
 refine (rput_any w1 ⟨3, 0, 0, c.proc, c.inc, c.k⟩ HWT.out).mono ?_
 rintro r w2 ⟨rfl, hx2⟩
 obtain ⟨tx, htx⟩ : ∃ s, s = txF c := ⟨_, rfl⟩
 rw [show putF ⟨3, 0, 0, c.proc, c.inc, c.k⟩ = tx from htx.symm]
 have HTX := zq htx
 have HX2 := zq (HX1.out.trans hx2)
 have ha := hx2.at_ HA.out id
 have HB2 := zq (hx2.at_ HB.out id)
 have HZ2 := zq (hx2.at_ HZ.out id)
 have HA2 := zq ha
 clear htx hx2 a0 a1 a2 a3 a5 al
 have a0 := cZ ha 0 _ rfl
 have a1 := cZ ha 1 _ rfl
 have al := lZ ha
 clear ha
 go_wp2_with (go_at_call 28; fail)
 refine (rput_any w2 ⟨1, c.chain, c.n, 0, 0, 0⟩ HWS.out).mono ?_
 rintro r w3 ⟨rfl, hx3⟩
 obtain ⟨sx, hsx⟩ : ∃ s, s = sxF c := ⟨_, rfl⟩
 rw [show putF ⟨1, c.chain, c.n, 0, 0, 0⟩ = sx from hsx.symm]
 have HSX := zq hsx
 have HX3 := zq (HX2.out.trans hx3)
 have ha := hx3.at_ HA2.out id
 have hb := hx3.at_ HB2.out id
 have HZ3 := zq (hx3.at_ HZ2.out id)
 have HA3 := zq ha
 clear hsx hx3 a0 a1 al
 have a0 := cZ ha 0 _ rfl
 have a6 := cZ ha 6 _ rfl
 have al := lZ ha
 have b0 := cZ hb 0 _ rfl
 have b2 := cZ hb 2 _ rfl
 have bl := lZ hb
 clear ha hb
 go_upto_region 15 with fail
 go_wp2_with (go_at_call 28; fail)
 refine (rput_any w3 ⟨2, c.chain, f, 0, 0, 0⟩ HWB.out).mono ?_
 rintro r w4 ⟨rfl, hx4⟩
 obtain ⟨bx, hbx⟩ : ∃ s, s = bxF c f := ⟨_, rfl⟩
 rw [show putF ⟨2, c.chain, f, 0, 0, 0⟩ = bx from hbx.symm]
 have HBX := zq hbx
 have HX4 := zq (HX3.out.trans hx4)
 have HZ4 := zq (hx4.at_ HZ3.out id)
 clear hbx hx4 a0 a6 al b0 b2 bl
 go_wp2_with (refine wpList_store_blk rfl _ _ _ rfl rfl (cells := #[.int .u8 8, str bx, .string ⟨#[]⟩, .slice none 0 0]) rfl (g := w.heap.size + 2) HZ4.out Tryz.rcallT rfl (by simp [AllOne, Value.oneCell']) ?_)
 refine bodyPost_blk rfl rfl rfl (setRow_heap _ _ _ _ _ _ HZ4.out) Tryz.rcallT ?_
 exact ⟨by rw [HBX.out], HX4.out.step (T := At (w.heap.size + 2)) (Upd.row _ _ _) (fun k hk e => by have e : k = w.heap.size + 2 := e; omega)⟩
theorem rcall_7 (w : World) (c : Cfg) (hc : c.Ok) (e : Int) (f : Nat) (va : Option Addr) (vn vc : Nat) :
  Calls Tryz.prog 21 #[.agg #[.int .u64 (c.chain : Int), .int .u64 (c.n : Int), .int .u64 (c.proc : Int), .int .u64 (c.inc : Int), .int .u64 (c.seq : Int), .int .u64 (c.k : Int), .slice va vn vc], .agg #[.int .i64 7, .int .i64 e, .int .u64 (f : Int)]] w fun r w' => r = .returned (.agg #[.int .u8 4, .string ⟨#[]⟩, .string ⟨#[]⟩, .slice none 0 0]) /\ Ext w w' := by
 have HWT := zq (wf_t hc)
 have HWS := zq (wf_s hc)
 clear hc
 obtain ⟨w1, HW1, HA, HB, HZ, HX1, al, a0, a1, a2, a3, a5⟩ := rpre3 w c va vn vc 7 e f
 go_enter Tryz.func21, Tryz.ntmps21
 go_upto_region 1 with fail
 rw [<- HW1.out]
 go_wp2_with (go_at_call 28; fail)
 refine (rput_any w1 ⟨3, 0, 0, c.proc, c.inc, c.k⟩ HWT.out).mono ?_
 rintro r w2 ⟨rfl, hx2⟩
 obtain ⟨tx, htx⟩ : ∃ s, s = txF c := ⟨_, rfl⟩
 rw [show putF ⟨3, 0, 0, c.proc, c.inc, c.k⟩ = tx from htx.symm]
 have HTX := zq htx
 have HX2 := zq (HX1.out.trans hx2)
 have ha := hx2.at_ HA.out id
 have HB2 := zq (hx2.at_ HB.out id)
 have HZ2 := zq (hx2.at_ HZ.out id)
 have HA2 := zq ha
 clear htx hx2 a0 a1 a2 a3 a5 al
 have a0 := cZ ha 0 _ rfl
 have a1 := cZ ha 1 _ rfl
 have al := lZ ha
 clear ha
 go_wp2_with (go_at_call 28; fail)
 refine (rput_any w2 ⟨1, c.chain, c.n, 0, 0, 0⟩ HWS.out).mono ?_
 rintro r w3 ⟨rfl, hx3⟩
 obtain ⟨sx, hsx⟩ : ∃ s, s = sxF c := ⟨_, rfl⟩
 rw [show putF ⟨1, c.chain, c.n, 0, 0, 0⟩ = sx from hsx.symm]
 have HSX := zq hsx
 have HX3 := zq (HX2.out.trans hx3)
 have ha := hx3.at_ HA2.out id
 have hb := hx3.at_ HB2.out id
 have HZ3 := zq (hx3.at_ HZ2.out id)
 have HA3 := zq ha
 clear hsx hx3 a0 a1 al
 have a0 := cZ ha 0 _ rfl
 have a6 := cZ ha 6 _ rfl
 have al := lZ ha
 have b0 := cZ hb 0 _ rfl
 have b2 := cZ hb 2 _ rfl
 have bl := lZ hb
 clear ha hb
 go_upto_region 17 with fail
 go_wp2_with (refine wpList_store_blk rfl _ _ _ rfl rfl (cells := #[.int .u8 4, .string ⟨#[]⟩, .string ⟨#[]⟩, .slice none 0 0]) rfl (g := w.heap.size + 2) HZ3.out Tryz.rcallT rfl (by simp [AllOne, Value.oneCell']) ?_)
 refine bodyPost_blk rfl rfl rfl (setRow_heap _ _ _ _ _ _ HZ3.out) Tryz.rcallT ?_
 exact ⟨rfl, HX3.out.step (T := At (w.heap.size + 2)) (Upd.row _ _ _) (fun k hk e => by have e : k = w.heap.size + 2 := e; omega)⟩
theorem rcall_8 (w : World) (c : Cfg) (hc : c.Ok) (e : Int) (f : Nat) (va : Option Addr) (vn vc : Nat) :
  Calls Tryz.prog 21 #[.agg #[.int .u64 (c.chain : Int), .int .u64 (c.n : Int), .int .u64 (c.proc : Int), .int .u64 (c.inc : Int), .int .u64 (c.seq : Int), .int .u64 (c.k : Int), .slice va vn vc], .agg #[.int .i64 8, .int .i64 e, .int .u64 (f : Int)]] w fun r w' => r = .returned (.agg #[.int .u8 6, str (sxF c), .string ⟨#[]⟩, .slice none 0 0]) /\ Ext w w' := by
 have HWT := zq (wf_t hc)
 have HWS := zq (wf_s hc)
 clear hc
 obtain ⟨w1, HW1, HA, HB, HZ, HX1, al, a0, a1, a2, a3, a5⟩ := rpre3 w c va vn vc 8 e f
 go_enter Tryz.func21, Tryz.ntmps21
 go_upto_region 1 with fail
 rw [<- HW1.out]
 go_wp2_with (go_at_call 28; fail)
 refine (rput_any w1 ⟨3, 0, 0, c.proc, c.inc, c.k⟩ HWT.out).mono ?_
 rintro r w2 ⟨rfl, hx2⟩
 obtain ⟨tx, htx⟩ : ∃ s, s = txF c := ⟨_, rfl⟩
 rw [show putF ⟨3, 0, 0, c.proc, c.inc, c.k⟩ = tx from htx.symm]
 have HTX := zq htx
 have HX2 := zq (HX1.out.trans hx2)
 have ha := hx2.at_ HA.out id
 have HB2 := zq (hx2.at_ HB.out id)
 have HZ2 := zq (hx2.at_ HZ.out id)
 have HA2 := zq ha
 clear htx hx2 a0 a1 a2 a3 a5 al
 have a0 := cZ ha 0 _ rfl
 have a1 := cZ ha 1 _ rfl
 have al := lZ ha
 clear ha
 go_wp2_with (go_at_call 28; fail)
 refine (rput_any w2 ⟨1, c.chain, c.n, 0, 0, 0⟩ HWS.out).mono ?_
 rintro r w3 ⟨rfl, hx3⟩
 obtain ⟨sx, hsx⟩ : ∃ s, s = sxF c := ⟨_, rfl⟩
 rw [show putF ⟨1, c.chain, c.n, 0, 0, 0⟩ = sx from hsx.symm]
 have HSX := zq hsx
 have HX3 := zq (HX2.out.trans hx3)
 have ha := hx3.at_ HA2.out id
 have hb := hx3.at_ HB2.out id
 have HZ3 := zq (hx3.at_ HZ2.out id)
 have HA3 := zq ha
 clear hsx hx3 a0 a1 al
 have a0 := cZ ha 0 _ rfl
 have a6 := cZ ha 6 _ rfl
 have al := lZ ha
 have b0 := cZ hb 0 _ rfl
 have b2 := cZ hb 2 _ rfl
 have bl := lZ hb
 clear ha hb
 go_upto_region 19 with fail
 go_wp2_with (refine wpList_store_blk rfl _ _ _ rfl rfl (cells := #[.int .u8 6, str sx, .string ⟨#[]⟩, .slice none 0 0]) rfl (g := w.heap.size + 2) HZ3.out Tryz.rcallT rfl (by simp [AllOne, Value.oneCell']) ?_)
 refine bodyPost_blk rfl rfl rfl (setRow_heap _ _ _ _ _ _ HZ3.out) Tryz.rcallT ?_
 exact ⟨by rw [HSX.out], HX3.out.step (T := At (w.heap.size + 2)) (Upd.row _ _ _) (fun k hk e => by have e : k = w.heap.size + 2 := e; omega)⟩
theorem rcall_9 (w : World) (c : Cfg) (hc : c.Ok) (e : Int) (f : Nat) (va : Option Addr) (vn vc : Nat) :
  Calls Tryz.prog 21 #[.agg #[.int .u64 (c.chain : Int), .int .u64 (c.n : Int), .int .u64 (c.proc : Int), .int .u64 (c.inc : Int), .int .u64 (c.seq : Int), .int .u64 (c.k : Int), .slice va vn vc], .agg #[.int .i64 9, .int .i64 e, .int .u64 (f : Int)]] w fun r w' => r = .returned (.agg #[.int .u8 6, str (txF c), .string ⟨#[]⟩, .slice none 0 0]) /\ Ext w w' := by
 have HWT := zq (wf_t hc)
 have HWS := zq (wf_s hc)
 clear hc
 obtain ⟨w1, HW1, HA, HB, HZ, HX1, al, a0, a1, a2, a3, a5⟩ := rpre3 w c va vn vc 9 e f
 go_enter Tryz.func21, Tryz.ntmps21
 go_upto_region 1 with fail
 rw [<- HW1.out]
 go_wp2_with (go_at_call 28; fail)
 refine (rput_any w1 ⟨3, 0, 0, c.proc, c.inc, c.k⟩ HWT.out).mono ?_
 rintro r w2 ⟨rfl, hx2⟩
 obtain ⟨tx, htx⟩ : ∃ s, s = txF c := ⟨_, rfl⟩
 rw [show putF ⟨3, 0, 0, c.proc, c.inc, c.k⟩ = tx from htx.symm]
 have HTX := zq htx
 have HX2 := zq (HX1.out.trans hx2)
 have ha := hx2.at_ HA.out id
 have HB2 := zq (hx2.at_ HB.out id)
 have HZ2 := zq (hx2.at_ HZ.out id)
 have HA2 := zq ha
 clear htx hx2 a0 a1 a2 a3 a5 al
 have a0 := cZ ha 0 _ rfl
 have a1 := cZ ha 1 _ rfl
 have al := lZ ha
 clear ha
 go_wp2_with (go_at_call 28; fail)
 refine (rput_any w2 ⟨1, c.chain, c.n, 0, 0, 0⟩ HWS.out).mono ?_
 rintro r w3 ⟨rfl, hx3⟩
 obtain ⟨sx, hsx⟩ : ∃ s, s = sxF c := ⟨_, rfl⟩
 rw [show putF ⟨1, c.chain, c.n, 0, 0, 0⟩ = sx from hsx.symm]
 have HSX := zq hsx
 have HX3 := zq (HX2.out.trans hx3)
 have ha := hx3.at_ HA2.out id
 have hb := hx3.at_ HB2.out id
 have HZ3 := zq (hx3.at_ HZ2.out id)
 have HA3 := zq ha
 clear hsx hx3 a0 a1 al
 have a0 := cZ ha 0 _ rfl
 have a6 := cZ ha 6 _ rfl
 have al := lZ ha
 have b0 := cZ hb 0 _ rfl
 have b2 := cZ hb 2 _ rfl
 have bl := lZ hb
 clear ha hb
 go_upto_region 20 with fail
 go_wp2_with (refine wpList_store_blk rfl _ _ _ rfl rfl (cells := #[.int .u8 6, str tx, .string ⟨#[]⟩, .slice none 0 0]) rfl (g := w.heap.size + 2) HZ3.out Tryz.rcallT rfl (by simp [AllOne, Value.oneCell']) ?_)
 refine bodyPost_blk rfl rfl rfl (setRow_heap _ _ _ _ _ _ HZ3.out) Tryz.rcallT ?_
 exact ⟨by rw [HTX.out], HX3.out.step (T := At (w.heap.size + 2)) (Upd.row _ _ _) (fun k hk e => by have e : k = w.heap.size + 2 := e; omega)⟩
end Go.Proofs.YtnkmpoplibnflaaGreatDoor.Wk
