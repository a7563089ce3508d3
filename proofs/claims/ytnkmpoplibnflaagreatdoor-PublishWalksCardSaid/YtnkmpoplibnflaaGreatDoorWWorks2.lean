/-
  works(), by the contracts of a publication. Condition: the library's variables lie as they are laid.
-/
import Derived.Test.YtnkmpoplibnflaaGreatDoorGBQ
import Derived.Lib.SlBytesConst
set_option maxRecDepth 100000
set_option maxHeartbeats 16000000
namespace Go.Proofs.YtnkmpoplibnflaaGreatDoor.Wk
open Go Go.Proofs.YtnkmpoplibnflaaGreatDoor Go.RowKit
def cex : Cfg := ⟨7, 1, 1, 1, 1, 1, [97, 98]⟩
theorem cex_ok : cex.Ok := ⟨by decide, by decide, by decide, by decide, by decide, by decide, by decide⟩
def tS : List UInt8 := [116, 45, 49, 45, 49, 45, 49]
def sS : List UInt8 := [115, 45, 55, 45, 49]
theorem tx_ex : txF cex = tS := by decide +kernel
theorem sx_ex : sxF cex = sS := by decide +kernel
theorem row_newF (w : World) (cs : Array Value) (e : TypeId) (fr : Nat × Nat) (m n : Nat) (hm : m <= maxLen) (hn : n = w.heap.size) : Row (At n) (w.alloc (.cells cs e fr)) (.slice (some ⟨n, 0, none⟩) m m) m cs.toList := by
 subst hn
 refine ⟨_, _, rfl, Nat.le_refl _, hm, fun e => (by cases e), fun x e _ => by cases e; exact ⟨rfl, rfl⟩, fun b o h j u hj => ?_⟩
 cases h
 rw [Nat.zero_add]
 exact cZ (newAt _ _) j u (by simpa using hj)
theorem conv_const (w : World) (C : Array Value) (n c : Nat) : (convert 23 23 (.slice (some ⟨w.heap.size, 0, none⟩) n c)).run Tryz.prog (w.alloc (.cells C 5)) = .ok (.slice (some ⟨w.heap.size, 0, none⟩) n c) (w.alloc (.cells C 5 (C.size, C.size + 1))) :=
 Lib.run_convert_bytes_const w _ _ C n c Tryz.underlying23 Tryz.underlying5
theorem cfg25T : StructT Tryz.prog 25 7 := ⟨_, Tryz.underlying25, rfl, by kernel_rfl⟩
theorem example_any (w : World) : Calls Tryz.prog 18 #[] w fun e w' => ∃ g, e = .returned (.agg #[.int .u64 7, .int .u64 1, .int .u64 1, .int .u64 1, .int .u64 1, .int .u64 1, .slice (some ⟨g, 0, none⟩) 2 2]) /\ Bytes (fun _ => True) w' (.slice (some ⟨g, 0, none⟩) 2 2) [97, 98] /\ Ext w w' := by
 go_enter Tryz.func18, Tryz.ntmps18
 obtain ⟨w1, hw1⟩ : ∃ u, u = w.alloc (.cells #[.int .u64 0, .int .u64 0, .int .u64 0, .int .u64 0, .int .u64 0, .int .u64 0, .slice none 0 0] 25) := ⟨_, rfl⟩
 have hx1 : Ext w w1 := by rw [hw1]; exact uZ.alloc _
 have HZ := zq (show w1.heap[w.heap.size]? = some (.cells #[.int .u64 0, .int .u64 0, .int .u64 0, .int .u64 0, .int .u64 0, .int .u64 0, .slice none 0 0] 25 (0, 0)) by rw [hw1]; exact newAt _ _)
 have HX1 := zq hx1
 have HW1 := zq hw1
 clear hx1 hw1
 go_upto_region 1 with fail
 rw [show w.alloc (.cells #[.int .u64 0, .int .u64 0, .int .u64 0, .int .u64 0, .int .u64 0, .int .u64 0, .slice none 0 0] 25) = w1 from HW1.out.symm]
 obtain ⟨w2, hw2⟩ : ∃ u, u = w1.alloc (.cells #[.int .u8 97, .int .u8 98] 5 (2, 3)) := ⟨_, rfl⟩
 have hx2 : Ext w1 w2 := by rw [hw2]; exact uZ.alloc _
 have hgt := lZ HZ.out
 have HR := zq (show Bytes (fun k => w.heap.size < k) w2 (.slice (some ⟨w1.heap.size, 0, none⟩) 2 2) [97, 98] by
  rw [hw2]; exact (row_newF w1 #[.int .u8 97, .int .u8 98] 5 (2, 3) 2 w1.heap.size (by decide) rfl).mono (fun k e => by have e : k = w1.heap.size := e; rw [e]; exact hgt))
 have HX2 := zq (HX1.out.trans hx2)
 have HZ2 := zq (hx2.at_ HZ.out id)
 have HW2 := zq hw2
 clear hx2 hw2 hgt
 have hcv := conv_const
 go_wp2_with (rw [show w1.alloc (.cells #[.int .u8 97, .int .u8 98] 5 (2, 3)) = w2 from HW2.out.symm]; refine wpList_store_blk rfl _ _ _ rfl rfl (cells := #[.int .u64 7, .int .u64 1, .int .u64 1, .int .u64 1, .int .u64 1, .int .u64 1, .slice (some ⟨w1.heap.size, 0, none⟩) 2 2]) rfl (g := w.heap.size) HZ2.out cfg25T rfl (by simp [AllOne, Value.oneCell']) ?_)
 refine bodyPost_blk rfl rfl rfl (setRow_heap _ _ _ _ _ _ HZ2.out) cfg25T ?_
 exact ⟨w1.heap.size, rfl, (HR.out.upd (T := At w.heap.size) (Upd.row _ _ _) (fun k h e => by have e : k = w.heap.size := e; omega)).mono (fun _ _ => trivial), HX2.out.step (T := At w.heap.size) (Upd.row _ _ _) (fun k hk e => by have e : k = w.heap.size := e; omega)⟩
theorem dcall_any {S : Nat -> Prop} (w : World) (k : Nat) (nm tt : List UInt8) (va : Option Addr) (ql vc : Nat) (l : List UInt8) (h2 : Row S w (.slice va ql vc) l.length (l.map u8)) (hl : l.length <= 300) :
  Calls Tryz.prog 19 #[.agg #[.int .u8 (k : Int), str nm, str tt, .slice va ql vc]] w fun r w' => ∃ ra rc, r = .returned (.agg #[.int .u8 (k : Int), str nm, str tt, .slice ra l.length rc]) /\ Bytes (fun _ => True) w' (.slice ra l.length rc) l /\ Ext w w' := by
 have hqq : ql = l.length := by obtain ⟨a, c, he, -⟩ := h2; cases he; rfl
 subst hqq
 obtain ⟨w1, hw1⟩ : ∃ u, u = (w.alloc (.cells #[.int .u8 (k : Int), str nm, str tt, .slice va l.length vc] 40)).alloc (.cells #[.int .u8 0, .string ⟨#[]⟩, .string ⟨#[]⟩, .slice none 0 0] 35) := ⟨_, rfl⟩
 have hh := allocs2 w (.cells #[.int .u8 (k : Int), str nm, str tt, .slice va l.length vc] 40) (.cells #[.int .u8 0, .string ⟨#[]⟩, .string ⟨#[]⟩, .slice none 0 0] 35)
 rw [<- hw1] at hh
 obtain ⟨ha, hz, hx1⟩ := hh
 have HW1 := zq hw1
 have HA := zq ha
 have HZ := zq hz
 have HX1 := zq hx1
 have H2 := zq h2
 have a0 := cZ ha 0 _ rfl
 have a1 := cZ ha 1 _ rfl
 have a2 := cZ ha 2 _ rfl
 have a3 := cZ ha 3 _ rfl
 have al := lZ ha
 clear hw1 ha hz hx1 h2
 go_enter Tryz.func19, Tryz.ntmps19
 go_upto_region 1 with fail
 rw [show (w.alloc (.cells #[.int .u8 (k : Int), .string ⟨nm.toArray⟩, .string ⟨tt.toArray⟩, .slice va l.length vc] 40)).alloc (.cells #[.int .u8 0, .string ⟨#[]⟩, .string ⟨#[]⟩, .slice none 0 0] 35) = w1 from HW1.out.symm]
 go_upto_region 2 with fail
 obtain ⟨w2, hw2⟩ : ∃ u, u = w1.alloc (.cells #[.int .u8 (k : Int), str nm, str tt, .slice none 0 0] 35) := ⟨_, rfl⟩
 have hx2 : Ext w1 w2 := by rw [hw2]; exact uZ.alloc _
 have HG2 := zq (show w2.heap[w1.heap.size]? = some (.cells #[.int .u8 (k : Int), str nm, str tt, .slice none 0 0] 35 (0, 0)) by rw [hw2]; exact newAt _ _)
 have HW2 := zq hw2
 rw [show w1.alloc (.cells #[.int .u8 (k : Int), .string ⟨nm.toArray⟩, .string ⟨tt.toArray⟩, .slice none 0 0] 35) = w2 from HW2.out.symm]
 obtain ⟨g, hg⟩ : ∃ g, g = w1.heap.size := ⟨_, rfl⟩
 rw [<- hg] at HG2 ⊢
 have HGS := zq (show w.heap.size + 1 < g by have := lZ HZ.out; omega)
 have HX2 := zq (HX1.out.trans hx2)
 have ha := hx2.at_ HA.out id
 have HZ2 := zq (hx2.at_ HZ.out id)
 have hb2 : w.heap.size <= w2.heap.size := HX2.out.size
 clear hw2 hg hx2 a0 a1 a2 a3 al
 have a3 := cZ ha 3 _ rfl
 have al := lZ ha
 have g3 := cZ HG2.out 3 _ rfl
 have gf3 := freeAt HG2.out 3
 have gl := lZ HG2.out
 clear ha
 go_wp2_with (at_builtin; go_must (refine wpList_append_row rfl _ _ _ rfl Tryz.bytesT rfl (World.ownsRow_nil w2 w.heap.size _ _) rfl (H2.out.ext HX2.out) ?c1 (u8_one l) ?c2 ?c3 hb2 ?_))
 case c1 => simp
 case c2 => unfold maxLen; omega
 case c3 => omega
 intro v5 w5 hown5 hg5 _
 try rw [Nat.zero_add] at hown5
 try rw [List.nil_append] at hown5
 obtain ⟨r5, c5, rfl⟩ := ownsFormN hown5
 have hx5 : Ext w2 w5 := uZ.grown hg5 (fun j hj => by simp [Value.ownBlock] at hj)
 have HF5 := zq (show ∀ j, (Value.slice r5 l.length c5).ownBlock = some j -> ¬ j = g from fun j hj e => by
  obtain ⟨cur, hc⟩ := owns_tag hown5 hj
  rw [e, hx5.at_ HG2.out id] at hc
  cases hc)
 have HP5 := zq hown5
 have HX5 := zq (HX2.out.trans hx5)
 have HG5 := zq (hx5.at_ HG2.out id)
 have HZ5 := zq (hx5.at_ HZ2.out id)
 clear hown5 hg5 hx5 hb2 a3 al g3 gf3 gl
 have g3 := cZ HG5.out 3 _ rfl
 have gf3 := freeAt HG5.out 3
 have gl := lZ HG5.out
 go_upto_region 3 with fail
 obtain ⟨w6, hw6⟩ : ∃ u, u = w5.setCell ⟨g, 3, none⟩ (.slice r5 l.length c5) := ⟨_, rfl⟩
 rw [<- hw6]
 have hu6 : Upd (At g) w5 w6 := by rw [hw6]; exact Upd.own _ _ _ _
 have HG6 := zq (show w6.heap[g]? = some (.cells #[.int .u8 (k : Int), str nm, str tt, .slice r5 l.length c5] 35 (0, 0)) by rw [hw6]; exact setAt HG5.out)
 have HX6 := zq (HX5.out.step hu6 (fun i hi e => by have e : i = g := e; have := HGS.out; omega))
 have HP6 := zq (hu6.ownsRow HP5.out (fun j hj e => HF5.out j hj e))
 have HZ6 := zq (hu6.at_ HZ5.out (fun e => by have e : w.heap.size + 1 = g := e; have := HGS.out; omega))
 clear hw6 hu6 g3 gf3 gl
 have g0 := cZ HG6.out 0 _ rfl
 have g1 := cZ HG6.out 1 _ rfl
 have g2 := cZ HG6.out 2 _ rfl
 have g3 := cZ HG6.out 3 _ rfl
 have gl := lZ HG6.out
 go_wp2_with (refine wpList_store_blk rfl _ _ _ rfl rfl (cells := #[.int .u8 (k : Int), str nm, str tt, .slice r5 l.length c5]) rfl (g := w.heap.size + 1) HZ6.out Tryz.rcallT rfl (by simp [AllOne, Value.oneCell']) ?_)
 refine bodyPost_blk rfl rfl rfl (setRow_heap _ _ _ _ _ _ HZ6.out) Tryz.rcallT ?_
 have hne : ∀ j, (Value.slice r5 l.length c5).ownBlock = some j -> ¬ At (w.heap.size + 1) j := fun j hj e => by
  have e : j = w.heap.size + 1 := e
  obtain ⟨cur, hc⟩ := owns_tag HP6.out hj
  rw [e, HZ6.out] at hc
  cases hc
 exact ⟨r5, c5, rfl, (Row.of_owns ((Upd.row w6 (w.heap.size + 1) _).ownsRow HP6.out hne)).mono (fun _ _ => trivial), HX6.out.step (T := At (w.heap.size + 1)) (Upd.row _ _ _) (fun k hk e => by have e : k = w.heap.size + 1 := e; omega)⟩
def spots : Nat -> Spot
 | 0 => ⟨1, 0, 0⟩
 | 1 => ⟨2, 0, 0⟩
 | 2 => ⟨3, 0, 0⟩
 | 3 => ⟨4, 0, 0⟩
 | 4 => ⟨5, 0, 0⟩
 | 5 => ⟨7, 0, 0⟩
 | 6 => ⟨9, 0, 0⟩
 | _ => ⟨10, 0, 0⟩
def spotz : Nat -> Spot
 | 0 => ⟨1, 0, 0⟩
 | 1 => ⟨2, 0, 0⟩
 | 2 => ⟨3, 0, 0⟩
 | 3 => ⟨4, 0, 0⟩
 | 4 => ⟨9, 81, 0⟩
 | _ => ⟨10, 81, 0⟩
def lnk (n : Nat) : Bool := decide (4 <= n)
def r0 : Res := ⟨0, [], []⟩
def r81 : Res := ⟨81, [], []⟩
theorem r0_ok : r0.Ok := ⟨by decide, by simp [r0], by decide⟩
theorem r81_ok : r81.Ok := ⟨by decide, by simp [r81], by decide⟩
theorem spots_ok (n : Nat) : (spots n).Ok cex := by
 unfold spots; split <;> exact ⟨by simp, by simp, fun h => absurd h (by simp)⟩
theorem spotz_ok (n : Nat) : (spotz n).Ok cex := by
 unfold spotz; split <;> exact ⟨by simp, by simp, fun h => absurd h (by simp)⟩
theorem go_spots {n : Nat} (hn : n < 7) : goP cex (spots n, lnk n) r0 = (spots (n + 1), lnk (n + 1)) := by
 match n, hn with
 | 0, _ => rfl
 | 1, _ => rfl
 | 2, _ => rfl
 | 3, _ => rfl
 | 4, _ => rfl
 | 5, _ => rfl
 | 6, _ => rfl
theorem go_spotz {n : Nat} (hn : n < 5) (h3 : n ≠ 3) : goP cex (spotz n, false) r0 = (spotz (n + 1), false) := by
 match n, hn with
 | 0, _ => rfl
 | 1, _ => rfl
 | 2, _ => rfl
 | 3, _ => exact absurd rfl h3
 | 4, _ => rfl
theorem go_spotz3 : goP cex (spotz 3, false) r81 = (spotz 4, false) := rfl
theorem feed_r {w : World} {B : Nat} {x : Spot} {ln : Bool} (hx : x.Ok cex) (h : IsMac w B cex x ln) (hE : Env w) (e : Int) (he : Res.Ok ⟨e, [], []⟩) : Calls Tryz.prog 15 #[.pointer (some ⟨B, 0, none⟩), .agg #[.int .i64 e, .slice none 0 0, .slice none 0 0]] w fun r w' => r = .returned (.tuple #[]) /\ Upd (At B) w w' /\ IsMac w' B cex (goP cex (x, ln) ⟨e, [], []⟩).1 (goP cex (x, ln) ⟨e, [], []⟩).2 :=
 mfeed_all (S := fun _ => True) w B cex cex_ok x hx ln h ⟨e, [], []⟩ he none none 0 0 (Row.nil _ _) (Row.nil _ _) hE
theorem el_at {w : World} {gl gb n : Nat} (h : w.heap[gl]? = some (.cells #[.int .u8 1, str [116, 45, 49, 45, 49, 45, 49], str [], .slice none 0 0, .int .u8 2, str [116, 45, 49, 45, 49, 45, 49], str [], .slice (some ⟨gb, 0, none⟩) 2 2, .int .u8 3, str [116, 45, 49, 45, 49, 45, 49], str [], .slice none 0 0, .int .u8 5, str [116, 45, 49, 45, 49, 45, 49], str [115, 45, 55, 45, 49], .slice none 0 0, .int .u8 7, str [], str [], .slice none 0 0, .int .u8 4, str [], str [], .slice none 0 0, .int .u8 6, str [116, 45, 49, 45, 49, 45, 49], str [], .slice none 0 0] 40 (0, 0))) (hn : n < 7) (hb : Bytes (fun _ => True) w (.slice (some ⟨gb, 0, none⟩) 2 2) [97, 98]) : ∃ (kk : Nat) (nm tt : List UInt8) (qa : Option Addr) (ql qc : Nat), kk = kP (spots n) /\ nm = nmP cex (spots n) /\ tt = ttP cex (spots n) ∧
  w.cell? ⟨gl, n * 4, none⟩ = some (.int .u8 (kk : Int)) /\ w.cell? ⟨gl, n * 4 + 1, none⟩ = some (str nm) /\ w.cell? ⟨gl, n * 4 + 2, none⟩ = some (str tt) /\ w.cell? ⟨gl, n * 4 + 3, none⟩ = some (.slice qa ql qc) /\ Row (fun _ => True) w (.slice qa ql qc) (byP cex (spots n)).length ((byP cex (spots n)).map u8) := by
 match n, hn with
 | 0, _ => exact ⟨1, tS, [], none, 0, 0, rfl, tx_ex.symm, rfl, cZ h 0 _ rfl, cZ h 1 _ rfl, cZ h 2 _ rfl, cZ h 3 _ rfl, Row.nil _ _⟩
 | 1, _ => exact ⟨2, tS, [], some ⟨gb, 0, none⟩, 2, 2, rfl, tx_ex.symm, rfl, cZ h 4 _ rfl, cZ h 5 _ rfl, cZ h 6 _ rfl, cZ h 7 _ rfl, hb⟩
 | 2, _ => exact ⟨3, tS, [], none, 0, 0, rfl, tx_ex.symm, rfl, cZ h 8 _ rfl, cZ h 9 _ rfl, cZ h 10 _ rfl, cZ h 11 _ rfl, Row.nil _ _⟩
 | 3, _ => exact ⟨5, tS, sS, none, 0, 0, rfl, tx_ex.symm, sx_ex.symm, cZ h 12 _ rfl, cZ h 13 _ rfl, cZ h 14 _ rfl, cZ h 15 _ rfl, Row.nil _ _⟩
 | 4, _ => exact ⟨7, [], [], none, 0, 0, rfl, rfl, rfl, cZ h 16 _ rfl, cZ h 17 _ rfl, cZ h 18 _ rfl, cZ h 19 _ rfl, Row.nil _ _⟩
 | 5, _ => exact ⟨4, [], [], none, 0, 0, rfl, rfl, rfl, cZ h 20 _ rfl, cZ h 21 _ rfl, cZ h 22 _ rfl, cZ h 23 _ rfl, Row.nil _ _⟩
 | 6, _ => exact ⟨6, tS, [], none, 0, 0, rfl, tx_ex.symm, rfl, cZ h 24 _ rfl, cZ h 25 _ rfl, cZ h 26 _ rfl, cZ h 27 _ rfl, Row.nil _ _⟩
def CallR (kk : Nat) (nm tt : List UInt8) (ql : Nat) (BY : List UInt8) (v : Value) (w : World) : Prop := ∃ ra rc, v = .agg #[.int .u8 (kk : Int), str nm, str tt, .slice ra ql rc] /\ Row (fun _ => True) w (.slice ra ql rc) BY.length (BY.map u8)
theorem CallR.ext {kk : Nat} {nm tt : List UInt8} {ql : Nat} {BY : List UInt8} {v : Value} {w w' : World} (h : CallR kk nm tt ql BY v w) (hu : Ext w w') : CallR kk nm tt ql BY v w' := by
 obtain ⟨ra, rc, h1, h2⟩ := h
 exact ⟨ra, rc, h1, h2.ext hu⟩
theorem isCall_any2 {S T : Nat -> Prop} (w : World) (k : Nat) (nm tt : List UInt8) (va ua : Option Addr) (ql vc uc : Nat) (l : List UInt8) (h1 : Row S w (.slice va ql vc) l.length (l.map u8)) (h2 : Row T w (.slice ua ql uc) l.length (l.map u8)) :
  Calls Tryz.prog 13 #[.agg #[.int .u8 (k : Int), str nm, str tt, .slice va ql vc], .agg #[.int .u8 (k : Int), str nm, str tt, .slice ua ql uc]] w fun r w' => r = .returned (.bool true) /\ Ext w w' := by
 have h1' := h1
 obtain ⟨a, c, he, -⟩ := h1'
 cases he
 exact isCall_true w k nm tt va ua vc uc l h1 h2
def wwVal (gl g4 n kk : Nat) (nm tt : List UInt8) (qa pa : Option Addr) (ql qc pc : Nat) (BY : List UInt8) : Nat -> Value
 | 0 => .bool true
 | 1 => .bool false
 | 2 => .bool false
 | 3 => .agg #[.int .u8 (kk : Int), str nm, str tt, .slice pa ql pc]
 | 4 => .slice (some ⟨gl, 0, none⟩) 7 7
 | 5 => .int .i64 (n : Int)
 | 6 => .pointer (some ⟨gl, n * 4, none⟩)
 | 7 => .agg #[.int .u8 (kk : Int), str nm, str tt, .slice qa ql qc]
 | 9 => .bool true
 | 10 => .bool false
 | 11 => .bool false
 | _ => undef
def wwDst (i : Nat) : Tmp := 32 + i
theorem wwDst_ne {j t : Nat} (ht : t = 2 \/ t = 3 \/ t = 4 \/ t = 5) (e : wwDst j = t) : False := by
 unfold wwDst at e
 have e : (32 + j : Nat) = t := e
 rcases ht with rfl | rfl | rfl | rfl <;> (repeat' (split at e)) <;> omega
def wwPhi (gl g4 n kk : Nat) (nm tt : List UInt8) (qa pa : Option Addr) (ql qc pc : Nat) (BY : List UInt8) (ix : Nat) (v : Value) (w : World) : Prop := if ix = 8 then CallR kk nm tt ql BY v w else v = wwVal gl g4 n kk nm tt qa pa ql qc pc BY ix
theorem wwPhi.ext {gl g4 n kk : Nat} {nm tt : List UInt8} {qa pa : Option Addr} {ql qc pc : Nat} {BY : List UInt8} {ix : Nat} {v : Value} {w w' : World} (h : wwPhi gl g4 n kk nm tt qa pa ql qc pc BY ix v w) (hu : Ext w w') : wwPhi gl g4 n kk nm tt qa pa ql qc pc BY ix v w' := by
 unfold wwPhi at h ⊢
 by_cases c : ix = 8
 ·rw [if_pos c] at h ⊢; exact h.ext hu
 ·rw [if_neg c] at h ⊢
  exact h
theorem works_walk (w : World) (hE : Env w) : Calls Tryz.prog 5 #[] w fun e w' => e = .returned (.bool true) /\ Ext w w' := by
 have HE := zq hE
 clear hE
 go_enter Tryz.func5, Tryz.ntmps5
 go_wp2_with (go_at_call 18; fail)
 refine (example_any w).mono ?_
 rintro e w1 ⟨ga, rfl, hab, hx1⟩
 have HX1 := zq hx1
 have HAB := zq hab
 clear hx1 hab
 go_wp2_with (go_at_call 7; fail)
 refine (machine_any w1 cex cex_ok (some ⟨ga, 0, none⟩) 2 HAB.out (HE.out.ext HX1.out).tab).mono ?_
 rintro e w2 ⟨B, hB, rfl, hx2, hm2⟩
 have HB := zq (Nat.le_trans HX1.out.size hB)
 have HX2 := zq (HX1.out.trans hx2)
 have HM2 := zq (show IsMac w2 B cex (spots 0) (lnk 0) from hm2)
 have HBL := zq (show B < w2.heap.size by obtain ⟨bv, k, nm, tt, cb, fn, hm, -⟩ := hm2; exact lZ hm)
 clear hB hx2 hm2
 have hcv := conv_const
 go_upto_region 3 with fail
 obtain ⟨gb, hgb⟩ : ∃ g, g = w2.heap.size := ⟨_, rfl⟩
 obtain ⟨w3, hw3⟩ : ∃ u, u = (w2.alloc (.cells #[.int .u8 97, .int .u8 98] 5 (2, 3))).alloc (.cells #[.int .u8 1, .string ⟨#[116, 45, 49, 45, 49, 45, 49]⟩, .string ⟨#[]⟩, .slice none 0 0, .int .u8 2, .string ⟨#[116, 45, 49, 45, 49, 45, 49]⟩, .string ⟨#[]⟩, .slice (some ⟨gb, 0, none⟩) 2 2, .int .u8 3, .string ⟨#[116, 45, 49, 45, 49, 45, 49]⟩, .string ⟨#[]⟩, .slice none 0 0, .int .u8 5, .string ⟨#[116, 45, 49, 45, 49, 45, 49]⟩, .string ⟨#[115, 45, 55, 45, 49]⟩, .slice none 0 0, .int .u8 7, .string ⟨#[]⟩, .string ⟨#[]⟩, .slice none 0 0, .int .u8 4, .string ⟨#[]⟩, .string ⟨#[]⟩, .slice none 0 0, .int .u8 6, .string ⟨#[116, 45, 49, 45, 49, 45, 49]⟩, .string ⟨#[]⟩, .slice none 0 0] 40) := ⟨_, rfl⟩
 have hh := allocs2 w2 (.cells #[.int .u8 97, .int .u8 98] 5 (2, 3)) (.cells #[.int .u8 1, str [116, 45, 49, 45, 49, 45, 49], str [], .slice none 0 0, .int .u8 2, str [116, 45, 49, 45, 49, 45, 49], str [], .slice (some ⟨gb, 0, none⟩) 2 2, .int .u8 3, str [116, 45, 49, 45, 49, 45, 49], str [], .slice none 0 0, .int .u8 5, str [116, 45, 49, 45, 49, 45, 49], str [115, 45, 55, 45, 49], .slice none 0 0, .int .u8 7, str [], str [], .slice none 0 0, .int .u8 4, str [], str [], .slice none 0 0, .int .u8 6, str [116, 45, 49, 45, 49, 45, 49], str [], .slice none 0 0] 40)
 have hr3 : Row (At gb) (w2.alloc (.cells #[.int .u8 97, .int .u8 98] 5 (2, 3))) (.slice (some ⟨gb, 0, none⟩) 2 2) 2 [.int .u8 97, .int .u8 98] := row_newF w2 #[.int .u8 97, .int .u8 98] 5 (2, 3) 2 gb (by decide) hgb
 rw [<- hgb] at hh
 have hx23 : Ext (w2.alloc (.cells #[.int .u8 97, .int .u8 98] 5 (2, 3))) w3 := by rw [hw3]; exact uZ.alloc _
 rw [<- hw3] at hh
 obtain ⟨-, hl3, hx3⟩ := hh
 have HGB := zq (show B < gb by rw [hgb]; exact HBL.out)
 have HR3 := zq (show Bytes (fun k => B < k) w3 (.slice (some ⟨gb, 0, none⟩) 2 2) [97, 98] from (Row.ext hr3 hx23).mono (fun k e => by have e : k = gb := e; rw [e]; exact HGB.out))
 have HL3 := zq hl3
 have HX3 := zq (HX2.out.trans hx3)
 have HM3 := zq (HM2.out.ext hx3)
 have HW3 := zq hw3
 have HGB2 := zq hgb
 rw [show w2.heap.size = gb from hgb.symm, show (w2.alloc (.cells #[.int .u8 97, .int .u8 98] 5 (2, 3))).alloc (.cells #[.int .u8 1, .string ⟨#[116, 45, 49, 45, 49, 45, 49]⟩, .string ⟨#[]⟩, .slice none 0 0, .int .u8 2, .string ⟨#[116, 45, 49, 45, 49, 45, 49]⟩, .string ⟨#[]⟩, .slice (some ⟨gb, 0, none⟩) 2 2, .int .u8 3, .string ⟨#[116, 45, 49, 45, 49, 45, 49]⟩, .string ⟨#[]⟩, .slice none 0 0, .int .u8 5, .string ⟨#[116, 45, 49, 45, 49, 45, 49]⟩, .string ⟨#[115, 45, 55, 45, 49]⟩, .slice none 0 0, .int .u8 7, .string ⟨#[]⟩, .string ⟨#[]⟩, .slice none 0 0, .int .u8 4, .string ⟨#[]⟩, .string ⟨#[]⟩, .slice none 0 0, .int .u8 6, .string ⟨#[116, 45, 49, 45, 49, 45, 49]⟩, .string ⟨#[]⟩, .slice none 0 0] 40) = w3 from HW3.out.symm]
 obtain ⟨gl, hgl⟩ : ∃ g, g = gb + 1 := ⟨_, rfl⟩
 rw [<- hgl] at HL3 ⊢
 have HBGL := zq (show B < gl by rw [hgl]; have := HGB.out; omega)
 clear hr3 hw3 hx23 hl3 hx3 hgb hgl hcv
 go_wp2
 go_loopw [3] (fun t wr => ∃ n : Nat, n <= 7 /\ t = .int .i64 n /\ Hid (Ext w wr /\ IsMac wr B cex (spots n) (lnk n) /\ wr.heap[gl]? = some (.cells #[.int .u8 1, str [116, 45, 49, 45, 49, 45, 49], str [], .slice none 0 0, .int .u8 2, str [116, 45, 49, 45, 49, 45, 49], str [], .slice (some ⟨gb, 0, none⟩) 2 2, .int .u8 3, str [116, 45, 49, 45, 49, 45, 49], str [], .slice none 0 0, .int .u8 5, str [116, 45, 49, 45, 49, 45, 49], str [115, 45, 55, 45, 49], .slice none 0 0, .int .u8 7, str [], str [], .slice none 0 0, .int .u8 4, str [], str [], .slice none 0 0, .int .u8 6, str [116, 45, 49, 45, 49, 45, 49], str [], .slice none 0 0] 40 (0, 0)) /\ Bytes (fun k => B < k) wr (.slice (some ⟨gb, 0, none⟩) 2 2) [97, 98])) (fun t _ => 7 - (intOf t).toNat)
 case atStart => exact ⟨0, by decide, rfl, zq ⟨HX3.out, HM3.out, HL3.out, HR3.out⟩⟩
 case round =>
 obtain ⟨n, hn, rfl, HR⟩ := hrel
 by_cases hlt : n < 7
 ·have HN7 := zq hlt
  obtain ⟨kk, nm, tt, qa, ql, qc, hkk, hnm, htt, hd0, hd1, hd2, hd3, hrow⟩ := el_at HR.out.2.2.1 hlt (HR.out.2.2.2.mono (fun _ _ => trivial))
  obtain ⟨BY, hby⟩ : ∃ y, y = byP cex (spots n) := ⟨_, rfl⟩
  rw [<- hby] at hrow
  have hqq : ql = BY.length := by obtain ⟨a, c, he, -⟩ := hrow; cases he; rfl
  have hb3 : BY.length <= 300 := by rw [hby]; unfold byP; split <;> simp [cex]
  have hdn : decide ((spots n).step = 10) = false := by
   match n, hlt with
   | 0, _ => rfl
   | 1, _ => rfl
   | 2, _ => rfl
   | 3, _ => rfl
   | 4, _ => rfl
   | 5, _ => rfl
   | 6, _ => rfl
  have HNX := zq (show Calls Tryz.prog 9 #[.pointer (some ⟨B, 0, none⟩)] wr fun e w' => ∃ v', e = .returned (.tuple #[.agg #[.int .u8 (kk : Int), str nm, str tt, v'], .bool true]) /\ w'.ownsRow wr.heap.size 5 1 v' BY.length (BY.map YtnkmpoplibnflaaGreatDoor.u8) /\ Ext wr w' from by
   have h := mnext_all HR.out.2.1 cex_ok
   rw [hdn, <- hkk, <- hnm, <- htt, <- hby] at h
   exact h)
  have HQL := zq hqq
  have HBY3 := zq hb3
  have HG := zq (lZ HR.out.2.2.1)
  have HD0 := zq hd0
  have HD1 := zq hd1
  have HD2 := zq hd2
  have HD3 := zq hd3
  have HROW := zq hrow
  clear hkk hnm htt hd0 hd1 hd2 hd3 hrow hby hqq hb3 hdn
  go_wp2_with (go_at_call 9; fail)
  refine HNX.out.mono ?_
  rintro e w4 ⟨pv, rfl, hpv, hx4⟩
  obtain ⟨pa, pc, rfl⟩ := ownsFormN hpv
  rw [<- HQL.out] at hpv ⊢
  obtain ⟨w5, hw5⟩ : ∃ u, u = w4.alloc (.cells #[.int .u8 (kk : Int), str nm, str tt, .slice pa ql pc] 40) := ⟨_, rfl⟩
  obtain ⟨g4, hg4⟩ : ∃ g, g = w4.heap.size := ⟨_, rfl⟩
  have hx5 : Ext w4 w5 := by rw [hw5]; exact uZ.alloc _
  have HG4 := zq (show w5.heap[g4]? = some (.cells #[.int .u8 (kk : Int), str nm, str tt, .slice pa ql pc] 40 (0, 0)) by rw [hw5, hg4]; exact newAt _ _)
  have HW5 := zq hw5
  have HGG4 := zq hg4
  have hx45 := hx4.trans hx5
  have HROW1 := zq (show Row (fun _ => True) w5 (.slice pa ql pc) BY.length (BY.map YtnkmpoplibnflaaGreatDoor.u8) from by
   have h := (Row.of_owns (hx5.ownsRow hpv (fun _ _ e => e))).mono (T := fun _ => True) (fun _ _ => trivial)
   rw [HQL.out] at h ⊢
   exact h)
  have HROW2 := zq (HROW.out.ext hx45)
  have D0 := zq (hx45.cell HD0.out id)
  have D1 := zq (hx45.cell HD1.out id)
  have D2 := zq (hx45.cell HD2.out id)
  have D3 := zq (hx45.cell HD3.out id)
  have HLG := zq (Nat.lt_of_lt_of_le HG.out hx45.size)
  have HX45 := zq hx45
  clear hpv hx4 hx5 hw5 hg4 hx45
  go_upto_region 7 with fail
  rw [show w4.alloc (.cells #[.int .u8 (kk : Int), .string ⟨nm.toArray⟩, .string ⟨tt.toArray⟩, .slice pa ql pc] 40) = w5 from HW5.out.symm, show w4.heap.size = g4 from HGG4.out.symm]
  refine wp_region_invH Nothing (fun _ => Ext) 1000 wwDst (wwPhi gl g4 n kk nm tt qa pa ql qc pc BY) 85 (by kernel_rfl) (by decide) (by decide) rfl (fun i hi => .inl ((by decide : ∀ i, i < 12 -> wwDst i < 85) i hi)) (fun i w w' h => ⟨h, fun _ => h⟩) (fun i j v w w' _ _ _ _ h hu => h.ext hu) ?_ ?_
  ·intro i o b' w1' ho hx1' hd hk hE hSZ
   have hi : i < 12 := (Array.getElem?_eq_some_iff.1 ho).1
   have his : i = 0 \/ i = 1 \/ i = 2 \/ i = 3 \/ i = 4 \/ i = 5 \/ i = 6 \/ i = 7 \/ i = 8 \/ i = 9 \/ i = 10 \/ i = 11 := by omega
   clear hE hSZ
   have HW1 := zq hx1'
   clear hx1'
   rcases his with rfl | rfl | rfl | rfl | rfl | rfl | rfl | rfl | rfl | rfl | rfl | rfl
   all_goals (simp at ho; subst ho)
   ·
    refine .inl ⟨rfl, ?_⟩
    have o5 : b'.tmps[5]?.getD undef = .bool true := tAt (hk 5 (fun j oj _ e => (wwDst_ne (by decide) e).elim))
    clear hd hk
    go_step
    exact ⟨_, rfl, rfl, uZ⟩
   ·
    refine .inl ⟨rfl, ?_⟩
    have e0 : b'.tmps[32]?.getD undef = .bool true := tAt (hd ⟨0, .data⟩ (by simp) rfl)
    clear hd hk
    go_step
    exact ⟨_, rfl, rfl, uZ⟩
   ·
    refine .inl ⟨rfl, ?_⟩
    have e1 : b'.tmps[33]?.getD undef = .bool false := tAt (hd ⟨1, .data⟩ (by simp) rfl)
    clear hd hk
    go_step
    exact ⟨_, rfl, rfl, uZ⟩
   ·
    refine .inl ⟨gAt rfl rfl (hd ⟨2, .guard⟩ (by simp) rfl), ?_⟩
    have o4 : b'.tmps[4]?.getD undef = .pointer (some ⟨g4, 0, none⟩) := tAt (hk 4 (fun j oj _ e => (wwDst_ne (by decide) e).elim))
    have q0 := HW1.out.cell (cZ HG4.out 0 (.int .u8 (kk : Int)) rfl) id
    have q1 := HW1.out.cell (cZ HG4.out 1 (str nm) rfl) id
    have q2 := HW1.out.cell (cZ HG4.out 2 (str tt) rfl) id
    have q3 := HW1.out.cell (cZ HG4.out 3 (.slice pa ql pc) rfl) id
    have qg := Nat.lt_of_lt_of_le (lZ HG4.out) HW1.out.size
    clear hd hk
    go_step
    exact ⟨_, rfl, rfl, uZ⟩
   ·
    refine .inl ⟨gAt rfl rfl (hd ⟨2, .guard⟩ (by simp) rfl), ?_⟩
    have o2 : b'.tmps[2]?.getD undef = .slice (some ⟨gl, 0, none⟩) 7 7 := tAt (hk 2 (fun j oj _ e => (wwDst_ne (by decide) e).elim))
    clear hd hk
    go_step
    exact ⟨_, rfl, rfl, uZ⟩
   ·
    refine .inl ⟨gAt rfl rfl (hd ⟨2, .guard⟩ (by simp) rfl), ?_⟩
    have o3 : b'.tmps[3]?.getD undef = .int .i64 (n : Int) := tAt (hk 3 (fun j oj _ e => (wwDst_ne (by decide) e).elim))
    clear hd hk
    go_step
    exact ⟨_, rfl, rfl, uZ⟩
   ·
    refine .inl ⟨gAt rfl rfl (hd ⟨2, .guard⟩ (by simp) rfl), ?_⟩
    have e4 : b'.tmps[36]?.getD undef = .slice (some ⟨gl, 0, none⟩) 7 7 := tAt (hd ⟨4, .data⟩ (by simp) rfl)
    have e5 : b'.tmps[37]?.getD undef = .int .i64 (n : Int) := tAt (hd ⟨5, .data⟩ (by simp) rfl)
    have qn : n < 7 := HN7.out
    clear hd hk
    go_step
    exact ⟨_, rfl, rfl, uZ⟩
   ·
    refine .inl ⟨gAt rfl rfl (hd ⟨2, .guard⟩ (by simp) rfl), ?_⟩
    have e6 : b'.tmps[38]?.getD undef = .pointer (some ⟨gl, n * 4, none⟩) := tAt (hd ⟨6, .data⟩ (by simp) rfl)
    have q0 := HW1.out.cell D0.out id
    have q1 := HW1.out.cell D1.out id
    have q2 := HW1.out.cell D2.out id
    have q3 := HW1.out.cell D3.out id
    have qg := Nat.lt_of_lt_of_le HLG.out HW1.out.size
    clear hd hk
    go_step
    exact ⟨_, rfl, rfl, uZ⟩
   ·
    refine .inl ⟨gAt rfl rfl (hd ⟨2, .guard⟩ (by simp) rfl), ?_⟩
    have e7 : b'.tmps[39]?.getD undef = .agg #[.int .u8 (kk : Int), str nm, str tt, .slice qa ql qc] := tAt (hd ⟨7, .data⟩ (by simp) rfl)
    have HQ2 := zq (HROW2.out.ext HW1.out)
    clear hd hk
    go_step
    refine (dcall_any w1' kk nm tt qa ql qc BY HQ2.out HBY3.out).mono ?_
    rintro e w2 ⟨ra, rc, rfl, hr, hu⟩
    exact ⟨_, rfl, ⟨ra, rc, by rw [HQL.out], by rw [HQL.out]; exact hr⟩, hu⟩
   ·
    refine .inl ⟨gAt rfl rfl (hd ⟨2, .guard⟩ (by simp) rfl), ?_⟩
    have e3 : b'.tmps[35]?.getD undef = .agg #[.int .u8 (kk : Int), str nm, str tt, .slice pa ql pc] := tAt (hd ⟨3, .data⟩ (by simp) rfl)
    have h8 := hd ⟨8, .data⟩ (by simp) rfl
    have h8 : CallR kk nm tt ql BY (b'.tmps.getD 40 undef) w1' := h8
    obtain ⟨ra, rc, hq8, hrow8⟩ := h8
    have e8 : b'.tmps[40]?.getD undef = .agg #[.int .u8 (kk : Int), str nm, str tt, .slice ra ql rc] := by simpa using hq8
    have HQ1 := zq (HROW1.out.ext HW1.out)
    have HQ8 := zq hrow8
    clear hd hk
    go_step
    refine (isCall_any2 w1' kk nm tt pa ra ql pc rc BY HQ1.out HQ8.out).mono ?_
    rintro e w2 ⟨rfl, hu⟩
    exact ⟨_, rfl, rfl, hu⟩
   ·
    refine .inl ⟨gAt rfl rfl (hd ⟨2, .guard⟩ (by simp) rfl), ?_⟩
    have e9 : b'.tmps[41]?.getD undef = .bool true := tAt (hd ⟨9, .data⟩ (by simp) rfl)
    clear hd hk
    go_step
    exact ⟨_, rfl, rfl, uZ⟩
   ·
    refine .inl ⟨rfl, ?_⟩
    have e2 : b'.tmps[34]?.getD undef = .bool false := tAt (hd ⟨2, .data⟩ (by simp) rfl)
    have e10 : b'.tmps[42]?.getD undef = .bool false := tAt (hd ⟨10, .data⟩ (by simp) rfl)
    clear hd hk
    go_step
    exact ⟨_, rfl, rfl, uZ⟩
  ·intro v w1' hx1' hp
   have h11 := hp 11 (by decide)
   obtain ⟨v11, hv11⟩ : ∃ u, u = v 11 := ⟨_, rfl⟩
   have h11' : v11 = .bool false := by rw [hv11]; exact h11
   simp only [List.size_toArray, List.length_cons, List.length_nil, Nat.reduceAdd, fillAll, wwDst]
   rw [<- hv11]
   subst h11'
   obtain ⟨w6, hw6⟩ : ∃ u, u = w1' := ⟨_, rfl⟩
   rw [<- hw6] at hx1' ⊢
   have HX06 := zq (HX45.out.trans hx1')
   clear hp h11 hv11 hw6 hx1'
   go_simp
   go_wp2_with (go_at_call 15; fail)
   refine (feed_r (spots_ok n) (HR.out.2.1.ext HX06.out) (HE.out.ext (HR.out.1.trans HX06.out)) 0 r0_ok).mono ?_
   rintro r w7 ⟨rfl, hu, hm⟩
   have HF := zq (show Ext w w7 /\ IsMac w7 B cex (spots (n + 1)) (lnk (n + 1)) /\ w7.heap[gl]? = some (.cells #[.int .u8 1, str [116, 45, 49, 45, 49, 45, 49], str [], .slice none 0 0, .int .u8 2, str [116, 45, 49, 45, 49, 45, 49], str [], .slice (some ⟨gb, 0, none⟩) 2 2, .int .u8 3, str [116, 45, 49, 45, 49, 45, 49], str [], .slice none 0 0, .int .u8 5, str [116, 45, 49, 45, 49, 45, 49], str [115, 45, 55, 45, 49], .slice none 0 0, .int .u8 7, str [], str [], .slice none 0 0, .int .u8 4, str [], str [], .slice none 0 0, .int .u8 6, str [116, 45, 49, 45, 49, 45, 49], str [], .slice none 0 0] 40 (0, 0)) /\ Bytes (fun k => B < k) w7 (.slice (some ⟨gb, 0, none⟩) 2 2) [97, 98] from by
    refine ⟨(HR.out.1.trans HX06.out).step hu (fun i hi e => by have e : i = B := e; have := HB.out; omega), ?_, hu.at_ (HX06.out.at_ HR.out.2.2.1 id) (fun e => by have e : gl = B := e; have := HBGL.out; omega), (HR.out.2.2.2.ext HX06.out).upd hu (fun k hk e => by have hk : B < k := hk; have e : k = B := e; omega)⟩
    have h := go_spots HN7.out
    have hm' : IsMac w7 B cex (goP cex (spots n, lnk n) r0).1 (goP cex (spots n, lnk n) r0).2 := hm
    rw [h] at hm'
    exact hm')
   clear hu hm
   go_wp2
   go_roundw
   case rel => exact ⟨n + 1, by have := HN7.out; omega, by go_num, HF⟩
   case measure => have := HN7.out; simp [intOf]; omega
 have hn7 : n = 7 := by omega
 subst hn7
 have HM := zq (show IsMac wr B cex ⟨10, 0, 0⟩ true from HR.out.2.1)
 have HXR := zq HR.out.1
 have HBR := zq (show B < wr.heap.size by obtain ⟨bv, k, nm, tt, cb, fn, hm, -⟩ := HR.out.2.1; exact lZ hm)
 go_wp2_with (go_at_call 18; fail)
 refine (example_any wr).mono ?_
 rintro e w4 ⟨ga2, rfl, hab, hx4⟩
 have HX4 := zq hx4
 have HAB2 := zq hab
 clear hx4 hab
 go_wp2_with (go_at_call 7; fail)
 refine (machine_any w4 cex cex_ok (some ⟨ga2, 0, none⟩) 2 HAB2.out (HE.out.ext (HXR.out.trans HX4.out)).tab).mono ?_
 rintro e w5 ⟨B2, hB2, rfl, hx5, hm5⟩
 have HBB := zq (show B < B2 from Nat.lt_of_lt_of_le HBR.out (Nat.le_trans HX4.out.size hB2))
 have HX5 := zq (HX4.out.trans hx5)
 have HM5 := zq (HM.out.ext (HX4.out.trans hx5))
 have HN5 := zq (show IsMac w5 B2 cex (spotz 0) false from hm5)
 have HXW5 := zq (HXR.out.trans (HX4.out.trans hx5))
 clear hB2 hx5 hm5
 go_wp2
 obtain ⟨w0, hw0⟩ : ∃ x, x = wr := ⟨_, rfl⟩
 subst hw0
 go_loopw [7] (fun t wq => ∃ n : Nat, n <= 5 /\ t = .int .i64 n /\ Hid (Ext w wq /\ IsMac wq B cex ⟨10, 0, 0⟩ true /\ IsMac wq B2 cex (spotz n) false)) (fun t _ => 5 - (intOf t).toNat)
 case atStart => exact ⟨0, by decide, rfl, zq ⟨HXW5.out, HM5.out, HN5.out⟩⟩
 case round =>
 obtain ⟨n, hn, rfl, HQ⟩ := hrel
 by_cases hlt : n < 5
 ·have HN := zq hlt
  have hfin : ∀ (w6 w7 : World) (y : Spot × Bool), Ext wr w6 -> Upd (At B2) w6 w7 -> IsMac w7 B2 cex y.1 y.2 -> y = (spotz (n + 1), false) -> Ext w w7 /\ IsMac w7 B cex ⟨10, 0, 0⟩ true /\ IsMac w7 B2 cex (spotz (n + 1)) false := fun w6 w7 y hx hu hm hy => by
   subst hy
   refine ⟨(HQ.out.1.trans hx).step hu (fun i hi e => by have e : i = B2 := e; have := HBB.out; have := HB.out; omega), (HQ.out.2.1.ext hx).upd2 hu (fun k e => ⟨by have e : k = B2 := e; rw [e]; exact HBB.out, ?_⟩), hm⟩
   have e : k = B2 := e
   obtain ⟨bv, kk, nm, tt, cb, fn, hm2, -⟩ := HQ.out.2.2.ext hx
   exact ⟨_, _, by rw [e]; exact hm2, by decide, by decide, by decide⟩
  have HFIN := zq hfin
  clear hfin
  by_cases h3 : n = 3
  ·have hb : ((n : Int) == 3) = true := by simp; omega
   have H3 := zq h3
   clear h3
   go_upto_region 17 with fail
   obtain ⟨w6, hw6⟩ : ∃ u, u = wr.alloc (.cells #[.int .i64 81, .slice none 0 0, .slice none 0 0] 47) := ⟨_, rfl⟩
   have hx6 : Ext wr w6 := by rw [hw6]; exact uZ.alloc _
   have h8 : w6.heap[wr.heap.size]? = some (.cells #[.int .i64 81, .slice none 0 0, .slice none 0 0] 47 (0, 0)) := by rw [hw6]; exact newAt _ _
   rw [<- hw6]
   have HX6 := zq hx6
   clear hw6 hx6
   have f0 := cZ h8 0 _ rfl
   have f1 := cZ h8 1 _ rfl
   have f2 := cZ h8 2 _ rfl
   have fl := lZ h8
   clear h8
   go_wp2_with (go_at_call 15; fail)
   refine (feed_r (spotz_ok n) (HQ.out.2.2.ext HX6.out) (HE.out.ext (HQ.out.1.trans HX6.out)) 81 r81_ok).mono ?_
   rintro r w7 ⟨rfl, hu, hm⟩
   have HF := zq (HFIN.out _ _ _ HX6.out hu hm (by rw [H3.out]; exact go_spotz3))
   clear hu hm f0 f1 f2 fl
   go_wp2
   go_roundw
   case rel => exact ⟨n + 1, by have := HN.out; omega, by go_num, HF⟩
   case measure => have := HN.out; simp [intOf]; omega
  ·have hb : ((n : Int) == 3) = false := by simp; omega
   have H3 := zq h3
   clear h3
   go_upto_region 17 with fail
   obtain ⟨w6, hw6⟩ : ∃ u, u = wr.alloc (.cells #[.int .i64 0, .slice none 0 0, .slice none 0 0] 47) := ⟨_, rfl⟩
   have hx6 : Ext wr w6 := by rw [hw6]; exact uZ.alloc _
   have h8 : w6.heap[wr.heap.size]? = some (.cells #[.int .i64 0, .slice none 0 0, .slice none 0 0] 47 (0, 0)) := by rw [hw6]; exact newAt _ _
   rw [<- hw6]
   have HX6 := zq hx6
   clear hw6 hx6
   have f0 := cZ h8 0 _ rfl
   have f1 := cZ h8 1 _ rfl
   have f2 := cZ h8 2 _ rfl
   have fl := lZ h8
   clear h8
   go_wp2_with (go_at_call 15; fail)
   refine (feed_r (spotz_ok n) (HQ.out.2.2.ext HX6.out) (HE.out.ext (HQ.out.1.trans HX6.out)) 0 r0_ok).mono ?_
   rintro r w7 ⟨rfl, hu, hm⟩
   have HF := zq (HFIN.out _ _ _ HX6.out hu hm (go_spotz HN.out H3.out))
   clear hu hm f0 f1 f2 fl
   go_wp2
   go_roundw
   case rel => exact ⟨n + 1, by have := HN.out; omega, by go_num, HF⟩
   case measure => have := HN.out; simp [intOf]; omega
 have hn5 : n = 5 := by omega
 subst hn5
 obtain ⟨bv1, k1, n1, t1, c1, f1, hp1, -⟩ := HQ.out.2.1
 obtain ⟨bv2, k2, n2, t2, c2, f2, hp2, -⟩ := HQ.out.2.2
 have HP1 := zq (show PM wr B (macC cex.chain cex.n cex.proc cex.inc cex.seq (txF cex) (sxF cex) bv1 k1 n1 t1 c1 f1 true 0 true) from hp1)
 have HP2 := zq (show PM wr B2 (macC cex.chain cex.n cex.proc cex.inc cex.seq (txF cex) (sxF cex) bv2 k2 n2 t2 c2 f2 true 81 false) from hp2)
 have HXE := zq HQ.out.1
 clear hp1 hp2 HQ
 go_wp2_with (go_at_call 10; fail)
 refine (mdone_any HP1.out).mono ?_
 rintro e v0 ⟨rfl, hx⟩
 replace HP1 := zq (hx.at_ HP1.out id)
 replace HP2 := zq (hx.at_ HP2.out id)
 replace HXE := zq (HXE.out.trans hx)
 clear hx
 go_wp2_with (go_at_call 11; fail)
 refine (merr_any HP1.out).mono ?_
 rintro e v1 ⟨rfl, hx⟩
 replace HP1 := zq (hx.at_ HP1.out id)
 replace HP2 := zq (hx.at_ HP2.out id)
 replace HXE := zq (HXE.out.trans hx)
 clear hx
 go_wp2_with (go_at_call 12; fail)
 refine (mlinked_any HP1.out).mono ?_
 rintro e v2 ⟨rfl, hx⟩
 replace HP1 := zq (hx.at_ HP1.out id)
 replace HP2 := zq (hx.at_ HP2.out id)
 replace HXE := zq (HXE.out.trans hx)
 clear hx
 go_wp2_with (go_at_call 10; fail)
 refine (mdone_any HP2.out).mono ?_
 rintro e v3 ⟨rfl, hx⟩
 replace HP1 := zq (hx.at_ HP1.out id)
 replace HP2 := zq (hx.at_ HP2.out id)
 replace HXE := zq (HXE.out.trans hx)
 clear hx
 go_wp2_with (go_at_call 11; fail)
 refine (merr_any HP2.out).mono ?_
 rintro e v4 ⟨rfl, hx⟩
 replace HP1 := zq (hx.at_ HP1.out id)
 replace HP2 := zq (hx.at_ HP2.out id)
 replace HXE := zq (HXE.out.trans hx)
 clear hx
 go_wp2_with (go_at_call 12; fail)
 refine (mlinked_any HP2.out).mono ?_
 rintro e v5 ⟨rfl, hx⟩
 replace HP1 := zq (hx.at_ HP1.out id)
 replace HP2 := zq (hx.at_ HP2.out id)
 replace HXE := zq (HXE.out.trans hx)
 clear hx
 go_wp2
 go_ret
 exact ⟨rfl, HXE.out⟩
theorem works_any (w : World) (hE : Env w) : Calls Tryz.prog 5 #[] w fun e w' => e = .returned (.bool true) /\ Ext w w' := works_walk w hE
end Go.Proofs.YtnkmpoplibnflaaGreatDoor.Wk
