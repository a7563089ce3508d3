/-
  CONTRACTS of fold's Base, and of a state's Seq. Conditions: a floor above 0; at most 60000 bytes.
  A PUBLICATION, PLAIN: where it is, and where a result leads (no program in sight); how it stands in a world.
  HOW A PUBLICATION STANDS, out of its cells (no program in sight).
  CONTRACT of the reference's Right of a catalog. Conditions: at most 1000000 entries; numbers of 64 bits.
-/
import Derived.Test.YtnkmpoplibnflaaGreatDoorGAU
import Derived.Test.YtnkmpoplibnflaaGreatDoorGAK
import Derived.Test.YtnkmpoplibnflaaGreatDoorWCat
set_option maxRecDepth 100000
set_option maxHeartbeats 16000000
namespace Go.Proofs.YtnkmpoplibnflaaGreatDoor.Wk
open Go Go.Proofs.YtnkmpoplibnflaaGreatDoor Go.RowKit
def seqF (l : List Tr) (p i : Nat) : Option Nat := (l.find? fun t => decide (t.1 = p) && decide (t.2.1 = i)).map (·.2.2)
theorem seq_none {l : List Tr} {p i : Nat} (h : ∀ k (hk : k < l.length), ¬ (l[k].1 = p /\ l[k].2.1 = i)) : seqF l p i = none := by
 unfold seqF
 rw [List.find?_eq_none.2]
 ·rfl
 ·intro x hx
  obtain ⟨k, hk, rfl⟩ := List.getElem_of_mem hx
  have := h k hk
  simp; intro h1; exact fun h2 => this ⟨h1, h2⟩
theorem seq_some {l : List Tr} {p i k : Nat} (hk : k < l.length) (h0 : ∀ j (hj : j < l.length), j < k -> ¬ (l[j].1 = p /\ l[j].2.1 = i)) (h : l[k].1 = p /\ l[k].2.1 = i) : seqF l p i = some l[k].2.2 := by
 unfold seqF
 rw [List.find?_eq_some_iff_getElem.2 ⟨by simp [h.1, h.2], k, hk, rfl, fun j hj => by have := h0 j (by omega) hj; simp; exact Decidable.not_and_iff_or_not.1 this⟩]
 rfl
theorem seq_any {S : Nat -> Prop} (w : World) (st : Array Value) (v : Value) (l : List Tr) (p i : Nat) (hst : ∃ x0 x1 x2 x3 x4 x5 x6 x7 x8 x9 x10, st = #[x0, x1, x2, x3, x4, x5, x6, x7, x8, x9, x10, v]) (hone : st.all (·.oneCell') = true) (h : Row S w v l.length (flatT l)) (hlen : l.length <= 1000000) :
  Calls Tryz.prog 110 #[.agg st, .int .u64 p, .int .u64 i] w fun e w' => e = .returned (.tuple #[.int .u64 (((seqF l p i).getD 0 : Nat) : Int), .bool (seqF l p i).isSome]) /\ Ext w w' := by
 have H := zq h
 obtain ⟨a0, c0, rfl, hn, hm, -⟩ := h
 unfold maxLen at hm
 obtain ⟨x0, x1, x2, x3, x4, x5, x6, x7, x8, x9, x10, rfl⟩ := hst
 obtain ⟨w1, hw1⟩ : ∃ u, u = w.alloc (.cells #[x0, x1, x2, x3, x4, x5, x6, x7, x8, x9, x10, .slice a0 l.length c0] 214) := ⟨_, rfl⟩
 have hx1 : Ext w w1 := by rw [hw1]; exact uZ.alloc _
 have hg1 : w1.heap[w.heap.size]? = some (.cells #[x0, x1, x2, x3, x4, x5, x6, x7, x8, x9, x10, .slice a0 l.length c0] 214 (0, 0)) := by rw [hw1]; exact newAt _ _
 have HX1 := zq hx1
 have HW1 := zq hw1
 have p0 := cZ hg1 11 _ rfl
 have pl := lZ hg1
 clear hx1 hg1 hw1
 go_enter Tryz.func110, Tryz.ntmps110
 go_upto_region 1 with fail
 rw [show w.alloc (.cells #[x0, x1, x2, x3, x4, x5, x6, x7, x8, x9, x10, .slice a0 l.length c0] 214) = w1 from HW1.out.symm]
 clear HW1
 go_wp2
 clear p0 pl
 go_loopw [13] (fun t wr => ∃ n : Nat, n <= l.length /\ t = .int .i64 n /\ Hid (∀ k (hk : k < l.length), k < n -> ¬ (l[k].1 = p /\ l[k].2.1 = i)) /\ Hid (Ext w1 wr)) (fun t _ => l.length - (intOf t).toNat)
 case atStart => exact ⟨0, Nat.zero_le _, rfl, zq (fun k _ h => (by omega)), zq uZ⟩
 case round =>
  obtain ⟨n, hn', rfl, HNO, HX⟩ := hrel
  by_cases hlt : n < l.length
  ·obtain ⟨b1, o1, c1, e1, -, -, -, hq1⟩ := (H.out.ext (HX1.out.trans HX.out)).addr (by omega)
   cases e1
   have hc := who_cells hq1 hlt (x := l[n]) rfl
   have HLT := zq hlt
   obtain ⟨x, hx⟩ : ∃ x, x = l[n].1 := ⟨_, rfl⟩
   obtain ⟨y, hy⟩ : ∃ x, x = l[n].2.1 := ⟨_, rfl⟩
   obtain ⟨z, hz⟩ : ∃ x, x = l[n].2.2 := ⟨_, rfl⟩
   have d0 : wr.cell? ⟨b1, o1 + n * 3, none⟩ = some (.int .u64 (x : Int)) := by rw [hx]; exact hc 0 _ rfl
   have d1 : wr.cell? ⟨b1, o1 + n * 3 + 1, none⟩ = some (.int .u64 (y : Int)) := by rw [hy]; exact hc 1 _ rfl
   have d2 : wr.cell? ⟨b1, o1 + n * 3 + 2, none⟩ = some (.int .u64 (z : Int)) := by rw [hz]; exact hc 2 _ rfl
   have HXX := zq hx
   have HYY := zq hy
   have HZZ := zq hz
   clear hq1 hc hx hy hz
   by_cases h1 : x = p
   ·have hb1 : ((x : Int) == (p : Int)) = true := by simp [h1]
    by_cases h2 : y = i
    ·have hb2 : ((y : Int) == (i : Int)) = true := by simp [h2]
     have HF := zq (show seqF l p i = some z from HZZ.out ▸ seq_some HLT.out HNO.out ⟨HXX.out ▸ h1, HYY.out ▸ h2⟩)
     clear h1 h2
     go_wp2
     go_ret2
     exact ⟨by rw [HF.out]; rfl, HX1.out.trans (HX.out.alloc _)⟩
    ·have hb2 : ((y : Int) == (i : Int)) = false := by simp; omega
     have HNE := zq h2
     clear h1 h2
     go_wp2
     go_roundw
     case rel =>
      refine ⟨n + 1, by omega, by go_num, zq (fun k hk hkn => ?_), zq (HX.out.alloc _)⟩
      rcases Nat.lt_or_ge k n with g | g
      ·exact HNO.out k hk g
      ·have e2 : k = n := by omega
       subst e2
       exact fun h => HNE.out (HYY.out.trans h.2)
     case measure => simp [intOf]; omega
   ·have hb1 : ((x : Int) == (p : Int)) = false := by simp; omega
    have HNE := zq h1
    clear h1
    go_wp2
    go_roundw
    case rel =>
     refine ⟨n + 1, by omega, by go_num, zq (fun k hk hkn => ?_), zq (HX.out.alloc _)⟩
     rcases Nat.lt_or_ge k n with g | g
     ·exact HNO.out k hk g
     ·have e2 : k = n := by omega
      subst e2
      exact fun h => HNE.out (HXX.out.trans h.1)
    case measure => simp [intOf]; omega
  ·have HF := zq (show seqF l p i = none from seq_none (fun k hk => HNO.out k hk (by omega)))
   go_wp2
   go_ret2
   exact ⟨by rw [HF.out]; rfl, HX1.out.trans HX.out⟩
def BasePost (w : World) (l : List UInt8) (c f : Nat) (e : Ending) (w' : World) : Prop := ∃ (st : Array Value) (ch tl : Nat) (lv : Value) (E : Int), IsSt st ch tl lv /\ e = .returned (.tuple #[.agg st, .int .i64 E]) /\ Ext w w' /\ (E = 0 -> ∃ x, baseO l x /\ x.chain = c /\ x.tail = f /\ Row (From w.heap.size) w' lv x.last.length (flatT x.last)) /\ (E ≠ 0 -> E = 220 /\ lv = .slice none 0 0 /\ ∀ x, baseO l x -> ¬ (x.chain = c /\ x.tail = f))
theorem basePost_bad {w w' : World} {l : List UInt8} {c f : Nat} (h : ∀ x, baseO l x -> ¬ (x.chain = c /\ x.tail = f)) (hx : Ext w w') : BasePost w l c f (.returned (.tuple #[.agg stZ, .int .i64 220])) w' :=
 ⟨stZ, 0, 0, .slice none 0 0, 220, ⟨0, 0, 0, 0, false, false, none, none, none, none, 0, 0, 0, 0, 0, 0, 0, 0, rfl, rfl⟩, rfl, hx, fun e => (by cases e), fun _ => ⟨rfl, rfl, h⟩⟩
theorem baseO_one {l : List UInt8} {x y : StP} (hl : l.length <= 60000) (h : baseO l x) (g : baseO l y) : x = y := by
 obtain ⟨b, rfl, hs, -⟩ := h
 obtain ⟨c, hc, ht, -⟩ := g
 have h1 : b.length <= 65535 := by rw [frameF_len] at hl; omega
 have h2 : c.length <= 65535 := by rw [hc, frameF_len] at hl; omega
 have e1 := takeFr_put 12 b [] h1
 have e2 := takeFr_put 12 c [] h2
 rw [List.append_nil] at e1 e2
 rw [hc, e2] at e1
 simp only [Option.some.injEq, Prod.mk.injEq] at e1
 rw [e1.2.1] at ht
 rw [hs] at ht
 exact Option.some.inj ht
theorem base_any {S : Nat -> Prop} (w : World) (c f : Nat) (v : Value) (l : List UInt8) (h : Bytes S w v l) (hl : l.length <= 60000) (hf : 0 < f) :
  Calls Tryz.prog 109 #[.int .u64 c, .int .u64 f, v] w (BasePost w l c f) := by
 have H := zq h
 obtain ⟨a0, c0, rfl, hn, hm, -⟩ := h
 obtain ⟨w1, hw1⟩ : ∃ u, u = w.alloc (.cells stZ 214) := ⟨_, rfl⟩
 have hx1 : Ext w w1 := by rw [hw1]; exact uZ.alloc _
 have hg1 : w1.heap[w.heap.size]? = some (.cells stZ 214 (0, 0)) := by rw [hw1]; exact newAt _ _
 have HX1 := zq hx1
 have HG1 := zq hg1
 have HW1 := zq hw1
 clear hx1 hg1 hw1
 have hfin : ∀ w9 : World, Ext w w9 -> w9.heap[w.heap.size]? = some (.cells stZ 214 (0, 0)) -> Ext w (w9.setRow w.heap.size stZ) /\ (w9.setRow w.heap.size stZ).heap[w.heap.size]? = some (.cells stZ 214 (0, 0)) := fun w9 hx hg =>
  ⟨hx.step (T := At w.heap.size) (Upd.row _ _ _) (fun k hk e => by have e : k = w.heap.size := e; omega), setRow_heap _ _ _ _ _ _ hg⟩
 have HFIN := zq hfin
 have hf0 : ((f : Int) == 0) = false := by simp; omega
 clear hfin hf
 go_enter Tryz.func109, Tryz.ntmps109
 go_wp2_with (go_at_call 121; fail)
 rw [show w.alloc (.cells #[.int .u64 0, .int .u64 0, .int .u64 0, .int .u64 0, .int .u64 0, .int .u64 0, .bool false, .slice none 0 0, .slice none 0 0, .bool false, .slice none 0 0, .slice none 0 0] 214) = w1 from HW1.out.symm]
 refine (stParse_any w1 _ l (H.out.ext HX1.out) hl).mono ?_
 rintro e w2 ⟨st, ch, tl, lv, E, ⟨e0, e1, e2, e3, hd, sd, pa, va, ca, la, pn, pc, vn, vc, cn, cc, ln, lc, rfl, rfl⟩, rfl, hx2, hbad, hok⟩
 have HX2 := zq (HX1.out.trans hx2)
 have HG2 := zq (hx2.at_ HG1.out id)
 have HBAD := zq hbad
 have HOK := zq hok
 clear hx2 hbad hok hf0
 rw [show stC ch tl e0 e1 e2 e3 hd sd pa va ca la pn pc vn vc cn cc ln lc = #[.int .u64 (ch : Int), .int .u64 (tl : Int), .int .u64 (e0 : Int), .int .u64 (e1 : Int), .int .u64 (e2 : Int), .int .u64 (e3 : Int), .bool hd, .slice pa pn pc, .slice va vn vc, .bool sd, .slice ca cn cc, .slice la ln lc] from rfl]
 obtain ⟨w3, hw3⟩ : ∃ u, u = w2.alloc (.cells #[.int .u64 (ch : Int), .int .u64 (tl : Int), .int .u64 (e0 : Int), .int .u64 (e1 : Int), .int .u64 (e2 : Int), .int .u64 (e3 : Int), .bool hd, .slice pa pn pc, .slice va vn vc, .bool sd, .slice ca cn cc, .slice la ln lc] 214) := ⟨_, rfl⟩
 have hx3 : Ext w2 w3 := by rw [hw3]; exact uZ.alloc _
 have hg3 : w3.heap[w2.heap.size]? = some (.cells #[.int .u64 (ch : Int), .int .u64 (tl : Int), .int .u64 (e0 : Int), .int .u64 (e1 : Int), .int .u64 (e2 : Int), .int .u64 (e3 : Int), .bool hd, .slice pa pn pc, .slice va vn vc, .bool sd, .slice ca cn cc, .slice la ln lc] 214 (0, 0)) := by rw [hw3]; exact newAt _ _
 have HX3 := zq (HX2.out.trans hx3)
 have HG3 := zq (hx3.at_ HG2.out id)
 have HY3 := zq hg3
 have HX23 := zq hx3
 have HW3 := zq hw3
 clear hx3 hg3 hw3
 go_upto_region 4 with fail
 rw [show w2.alloc (.cells #[.int .u64 (ch : Int), .int .u64 (tl : Int), .int .u64 (e0 : Int), .int .u64 (e1 : Int), .int .u64 (e2 : Int), .int .u64 (e3 : Int), .bool hd, .slice pa pn pc, .slice va vn vc, .bool sd, .slice ca cn cc, .slice la ln lc] 214) = w3 from HW3.out.symm]
 have z0 := cZ HY3.out 0 _ rfl
 have z1 := cZ HY3.out 1 _ rfl
 have z2 := cZ HY3.out 2 _ rfl
 have z3 := cZ HY3.out 3 _ rfl
 have z4 := cZ HY3.out 4 _ rfl
 have z5 := cZ HY3.out 5 _ rfl
 have z6 := cZ HY3.out 6 _ rfl
 have z7 := cZ HY3.out 7 _ rfl
 have z8 := cZ HY3.out 8 _ rfl
 have z9 := cZ HY3.out 9 _ rfl
 have z10 := cZ HY3.out 10 _ rfl
 have z11 := cZ HY3.out 11 _ rfl
 have zl := lZ HY3.out
 by_cases hE : E = 0
 case neg =>
  have hb : (E != 0) = true := by simpa using hE
  have HB := zq (show ∀ x, baseO l x -> ¬ (x.chain = c /\ x.tail = f) from fun x hx => absurd hx (HBAD.out hE x))
  clear hE z0 z1 z2 z3 z4 z5 z6 z7 z8 z9 z10 z11 zl
  go_wp2_with (refine wpList_store_blk rfl _ _ _ rfl rfl (cells := stZ) rfl (g := w.heap.size) HG3.out Tryz.stT rfl stZ_one ?_)
  refine bodyPost_blk2 rfl rfl rfl (HFIN.out _ HX3.out HG3.out).2 Tryz.stT ?_
  exact basePost_bad HB.out (HFIN.out _ HX3.out HG3.out).1
 subst hE
 obtain ⟨x, hx, hxc, hxt, hc64, ht64, hrow⟩ := HOK.out rfl
 have HXB := zq hx
 have HXC := zq hxc
 have HXT := zq hxt
 have HROW := zq hrow
 clear hx hxc hxt hrow
 by_cases h1 : ch = c
 case neg =>
  have hb : ((ch : Int) != (c : Int)) = true := by simp; omega
  have HB := zq (show ∀ x, baseO l x -> ¬ (x.chain = c /\ x.tail = f) from fun y hy => by rw [baseO_one hl hy HXB.out]; exact fun h => h1 (by rw [HXC.out]; exact h.1))
  clear h1
  go_wp2_with (refine wpList_store_blk rfl _ _ _ rfl rfl (cells := stZ) rfl (g := w.heap.size) HG3.out Tryz.stT rfl stZ_one ?_)
  refine bodyPost_blk2 rfl rfl rfl (HFIN.out _ HX3.out HG3.out).2 Tryz.stT ?_
  exact basePost_bad HB.out (HFIN.out _ HX3.out HG3.out).1
 have hb1 : ((ch : Int) != (c : Int)) = false := by simp [h1]
 by_cases h2 : tl = f
 case neg =>
  have hb : ((tl : Int) != (f : Int)) = true := by simp; omega
  have HB := zq (show ∀ x, baseO l x -> ¬ (x.chain = c /\ x.tail = f) from fun y hy => by rw [baseO_one hl hy HXB.out]; exact fun h => h2 (by rw [HXT.out]; exact h.2))
  clear h1 h2
  go_wp2_with (refine wpList_store_blk rfl _ _ _ rfl rfl (cells := stZ) rfl (g := w.heap.size) HG3.out Tryz.stT rfl stZ_one ?_)
  refine bodyPost_blk2 rfl rfl rfl (HFIN.out _ HX3.out HG3.out).2 Tryz.stT ?_
  exact basePost_bad HB.out (HFIN.out _ HX3.out HG3.out).1
 have hb2 : ((tl : Int) != (f : Int)) = false := by simp [h2]
 have HEQ := zq (And.intro h1 h2)
 clear h1 h2
 go_wp2_with (refine wpList_store_blk rfl _ _ _ rfl rfl (cells := #[.int .u64 (ch : Int), .int .u64 (tl : Int), .int .u64 (e0 : Int), .int .u64 (e1 : Int), .int .u64 (e2 : Int), .int .u64 (e3 : Int), .bool hd, .slice pa pn pc, .slice va vn vc, .bool sd, .slice ca cn cc, .slice la ln lc]) rfl (g := w.heap.size) HG3.out Tryz.stT rfl (by simp [AllOne, Value.oneCell']) ?_)
 have hg10 : (w3.setRow w.heap.size #[.int .u64 (ch : Int), .int .u64 (tl : Int), .int .u64 (e0 : Int), .int .u64 (e1 : Int), .int .u64 (e2 : Int), .int .u64 (e3 : Int), .bool hd, .slice pa pn pc, .slice va vn vc, .bool sd, .slice ca cn cc, .slice la ln lc]).heap[w.heap.size]? = some (.cells #[.int .u64 (ch : Int), .int .u64 (tl : Int), .int .u64 (e0 : Int), .int .u64 (e1 : Int), .int .u64 (e2 : Int), .int .u64 (e3 : Int), .bool hd, .slice pa pn pc, .slice va vn vc, .bool sd, .slice ca cn cc, .slice la ln lc] 214 (0, 0)) := setRow_heap _ _ _ _ _ _ HG3.out
 refine bodyPost_blk2 rfl rfl rfl hg10 Tryz.stT ?_
 refine ⟨_, ch, tl, .slice la ln lc, 0, ⟨e0, e1, e2, e3, hd, sd, pa, va, ca, la, pn, pc, vn, vc, cn, cc, ln, lc, rfl, rfl⟩, rfl, HX3.out.step (Upd.row _ _ _) (fun k hk e => by have e : k = w.heap.size := e; omega), fun _ => ?_, fun e => absurd rfl e⟩
 refine ⟨x, HXB.out, by rw [<- HXC.out]; exact HEQ.out.1, by rw [<- HXT.out]; exact HEQ.out.2, ?_⟩
 exact ((HROW.out.ext HX23.out).upd (Upd.row w3 w.heap.size _) (fun k h e => by have h : w1.heap.size <= k := h; have e : k = w.heap.size := e; have := lZ HG1.out; omega)).mono (fun k h => Nat.le_trans HX1.out.size (show w1.heap.size <= k from h))
end Go.Proofs.YtnkmpoplibnflaaGreatDoor.Wk
set_option maxRecDepth 100000
set_option maxHeartbeats 16000000
namespace Go.Proofs.YtnkmpoplibnflaaGreatDoor.Wk
open Go Go.Proofs.YtnkmpoplibnflaaGreatDoor Go.RowKit
theorem allocs2 (w : World) (o1 o2 : Obj) : ((w.alloc o1).alloc o2).heap[w.heap.size]? = some o1 /\ ((w.alloc o1).alloc o2).heap[w.heap.size + 1]? = some o2 /\ Ext w ((w.alloc o1).alloc o2) := by
 refine ⟨(Below.heap_alloc _ _ _ (by simp)).trans (newAt _ _), ?_, (uZ.alloc _).alloc _⟩
 have := newAt (w.alloc o1) o2
 rw [show (w.alloc o1).heap.size = w.heap.size + 1 by simp] at this
 exact this
theorem allocs3 (w : World) (o1 o2 o3 : Obj) : (((w.alloc o1).alloc o2).alloc o3).heap[w.heap.size]? = some o1 /\ (((w.alloc o1).alloc o2).alloc o3).heap[w.heap.size + 1]? = some o2 /\ (((w.alloc o1).alloc o2).alloc o3).heap[w.heap.size + 2]? = some o3 /\ Ext w (((w.alloc o1).alloc o2).alloc o3) := by
 obtain ⟨h1, h2, h3⟩ := allocs2 w o1 o2
 refine ⟨(Below.heap_alloc _ _ _ (lZ h1)).trans h1, (Below.heap_alloc _ _ _ (lZ h2)).trans h2, ?_, h3.alloc _⟩
 have := newAt ((w.alloc o1).alloc o2) o3
 rw [show ((w.alloc o1).alloc o2).heap.size = w.heap.size + 2 by simp] at this
 exact this
theorem allocs4 (w : World) (o1 o2 o3 o4 : Obj) : ((((w.alloc o1).alloc o2).alloc o3).alloc o4).heap[w.heap.size]? = some o1 /\ ((((w.alloc o1).alloc o2).alloc o3).alloc o4).heap[w.heap.size + 1]? = some o2 /\ ((((w.alloc o1).alloc o2).alloc o3).alloc o4).heap[w.heap.size + 2]? = some o3 /\ ((((w.alloc o1).alloc o2).alloc o3).alloc o4).heap[w.heap.size + 3]? = some o4 /\ Ext w ((((w.alloc o1).alloc o2).alloc o3).alloc o4) := by
 obtain ⟨h1, h2, h3, h4⟩ := allocs3 w o1 o2 o3
 refine ⟨(Below.heap_alloc _ _ _ (lZ h1)).trans h1, (Below.heap_alloc _ _ _ (lZ h2)).trans h2, (Below.heap_alloc _ _ _ (lZ h3)).trans h3, ?_, h4.alloc _⟩
 have := newAt (((w.alloc o1).alloc o2).alloc o3) o4
 rw [show (((w.alloc o1).alloc o2).alloc o3).heap.size = w.heap.size + 3 by simp] at this
 exact this
structure Cfg where
 chain : Nat
 n : Nat
 proc : Nat
 inc : Nat
 seq : Nat
 k : Nat
 bytes : List UInt8
structure Cfg.Ok (c : Cfg) : Prop where
 chain : c.chain < 18446744073709551616
 n : c.n < 18446744073709551616
 proc : c.proc < 18446744073709551616
 inc : c.inc < 18446744073709551616
 seq : c.seq < 18446744073709551616
 k : c.k < 18446744073709551616
 bytes : c.bytes.length <= 300
structure Res where
 err : Int
 names : List (List UInt8)
 bytes : List UInt8
structure Res.Ok (r : Res) : Prop where
 names : r.names.length <= 30
 each : ∀ s ∈ r.names, s.length <= 60
 bytes : r.bytes.length <= 700
structure Spot where
 step : Nat
 err : Int
 floor : Nat
def txF (c : Cfg) : List UInt8 := putF ⟨3, 0, 0, c.proc, c.inc, c.k⟩
def sxF (c : Cfg) : List UInt8 := putF ⟨1, c.chain, c.n, 0, 0, 0⟩
def bxF (c : Cfg) (f : Nat) : List UInt8 := putF ⟨2, c.chain, f, 0, 0, 0⟩
def kP (x : Spot) : Nat := match x.step with | 1 => 1 | 2 => 2 | 3 => 3 | 4 => 5 | 5 => 7 | 6 => 8 | 7 => 4 | 8 => 6 | 9 => 6 | _ => 0
def nmP (c : Cfg) (x : Spot) : List UInt8 := match x.step with | 1 => txF c | 2 => txF c | 3 => txF c | 4 => txF c | 6 => bxF c x.floor | 8 => sxF c | 9 => txF c | _ => []
def ttP (c : Cfg) (x : Spot) : List UInt8 := match x.step with | 4 => sxF c | _ => []
def byP (c : Cfg) (x : Spot) : List UInt8 := match x.step with | 2 => c.bytes | _ => []
open Classical in
noncomputable def baseP (c : Cfg) (f : Nat) (r : Res) : Spot :=
 if r.err = 80 then ⟨5, 0, 0⟩ else if r.err ≠ 0 then ⟨9, r.err, 0⟩ else
 if h : ∃ x, baseO r.bytes x /\ x.chain = c.chain /\ x.tail = f then
  (match seqF (Classical.choose h).last c.proc c.inc with | some q => if c.seq <= q then ⟨7, 0, 0⟩ else ⟨8, 0, 0⟩ | none => ⟨8, 0, 0⟩)
 else ⟨9, 220, 0⟩
noncomputable def thenP (c : Cfg) (x : Spot) (r : Res) : Spot :=
 match x.step with
 | 1 => if r.err = 0 then ⟨2, 0, 0⟩ else ⟨10, r.err, 0⟩
 | 2 => if r.err = 0 then ⟨3, 0, 0⟩ else ⟨9, r.err, 0⟩
 | 3 => if r.err = 0 then ⟨4, 0, 0⟩ else ⟨9, r.err, 0⟩
 | 4 => if r.err = 0 then ⟨5, 0, 0⟩ else ⟨9, r.err, 0⟩
 | 5 => if r.err = 0 then (if floorF c.chain r.names < c.n then ⟨7, 0, 0⟩ else ⟨6, 0, floorF c.chain r.names⟩) else ⟨9, r.err, 0⟩
 | 6 => baseP c x.floor r
 | 7 => ⟨9, r.err, 0⟩
 | 8 => ⟨9, 81, 0⟩
 | _ => ⟨10, x.err, 0⟩
theorem baseP_80 {c : Cfg} {f : Nat} {r : Res} (h : r.err = 80) : baseP c f r = ⟨5, 0, 0⟩ := by unfold baseP; rw [if_pos h]
theorem baseP_err {c : Cfg} {f : Nat} {r : Res} (h : r.err ≠ 80) (h0 : r.err ≠ 0) : baseP c f r = ⟨9, r.err, 0⟩ := by unfold baseP; rw [if_neg h, if_pos h0]
theorem baseP_bad {c : Cfg} {f : Nat} {r : Res} (h : r.err = 0) (hb : ∀ x, baseO r.bytes x -> ¬ (x.chain = c.chain /\ x.tail = f)) : baseP c f r = ⟨9, 220, 0⟩ := by
 unfold baseP
 rw [if_neg (by rw [h]; decide), if_neg (fun e => e h), dif_neg (fun ⟨x, hx, hc⟩ => hb x hx hc)]
theorem baseP_ok {c : Cfg} {f : Nat} {r : Res} {x : StP} (h : r.err = 0) (hl : r.bytes.length <= 60000) (hb : baseO r.bytes x) (hc : x.chain = c.chain) (ht : x.tail = f) :
  baseP c f r = (match seqF x.last c.proc c.inc with | some q => if c.seq <= q then ⟨7, 0, 0⟩ else ⟨8, 0, 0⟩ | none => ⟨8, 0, 0⟩) := by
 unfold baseP
 have hx : ∃ x, baseO r.bytes x /\ x.chain = c.chain /\ x.tail = f := ⟨x, hb, hc, ht⟩
 rw [if_neg (by rw [h]; decide), if_neg (fun e => e h), dif_pos hx]
 rw [baseO_one hl (Classical.choose_spec hx).1 hb]
def FnIs (w : World) (B : Nat) (x : Spot) (fn : Value) : Prop :=
 match x.step with
 | 1 => fn = .func (.func 27) #[.pointer (some ⟨B, 0, none⟩)] #[]
 | 2 => fn = .func (.func 33) #[.pointer (some ⟨B, 0, none⟩)] #[]
 | 3 => fn = .func (.func 47) #[.pointer (some ⟨B, 0, none⟩)] #[]
 | 4 => fn = .func (.func 57) #[.pointer (some ⟨B, 0, none⟩)] #[]
 | 5 => fn = .func (.func 67) #[.pointer (some ⟨B, 0, none⟩)] #[]
 | 6 => ∃ bm bf, fn = .func (.func 88) #[] #[.pointer (some ⟨bm, 0, none⟩), .pointer (some ⟨bf, 0, none⟩)] /\ BoxM w B bm /\ B < bf /\ w.heap[bf]? = some (.cells #[.int .u64 (x.floor : Int)] 22 (0, 0))
 | 7 => ∃ bm, fn = .func (.func 108) #[] #[.pointer (some ⟨bm, 0, none⟩)] /\ BoxM w B bm
 | 8 => ∃ bm, fn = .func (.func 111) #[] #[.pointer (some ⟨bm, 0, none⟩)] /\ BoxM w B bm
 | 9 => ThenEnds w B fn x.err
 | _ => False
def IsMac (w : World) (B : Nat) (c : Cfg) (x : Spot) (ln : Bool) : Prop := ∃ bv k nm tt cb fn,
 PM w B (macC c.chain c.n c.proc c.inc c.seq (txF c) (sxF c) bv k nm tt cb fn (decide (x.step = 10)) (if x.step = 10 then x.err else 0) ln) /\ Bytes (Till B) w bv c.bytes /\ (x.step <= 4 -> ln = false) /\ (x.step = 6 -> c.n <= x.floor /\ x.floor < 18446744073709551616) ∧
 (x.step ≠ 10 -> 0 < c.n /\ k = kP x /\ nm = nmP c x /\ tt = ttP c x /\ Bytes (Till B) w cb (byP c x) /\ FnIs w B x fn)
theorem FnIs.ext {w w' : World} {B : Nat} {x : Spot} {fn : Value} (h : FnIs w B x fn) (hu : Ext w w') : FnIs w' B x fn := by
 obtain ⟨st, e, f⟩ := x
 unfold FnIs at h ⊢
 match st, h with
 | 0, h => exact h
 | 1, h => exact h
 | 2, h => exact h
 | 3, h => exact h
 | 4, h => exact h
 | 5, h => exact h
 | 6, ⟨bm, bf, h1, h2, h3, h4⟩ => exact ⟨bm, bf, h1, h2.ext hu, h3, hu.at_ h4 id⟩
 | 7, ⟨bm, h1, h2⟩ => exact ⟨bm, h1, h2.ext hu⟩
 | 8, ⟨bm, h1, h2⟩ => exact ⟨bm, h1, h2.ext hu⟩
 | 9, ⟨be, bm, h1, h2, h3, h4, h5⟩ => exact ⟨be, bm, h1, h2, h3, hu.at_ h4 id, hu.at_ h5 id⟩
 | _ + 10, h => exact h
theorem IsMac.ext {w w' : World} {B : Nat} {c : Cfg} {x : Spot} {ln : Bool} (h : IsMac w B c x ln) (hu : Ext w w') : IsMac w' B c x ln := by
 obtain ⟨bv, k, nm, tt, cb, fn, h1, h2, h3, h4, h5⟩ := h
 exact ⟨bv, k, nm, tt, cb, fn, hu.at_ h1 id, h2.ext hu, h3, h4, fun hn => by obtain ⟨g1, g2, g3, g4, g5, g6⟩ := h5 hn; exact ⟨g1, g2, g3, g4, g5.ext hu, g6.ext hu⟩⟩
end Go.Proofs.YtnkmpoplibnflaaGreatDoor.Wk
set_option maxRecDepth 100000
set_option maxHeartbeats 16000000
namespace Go.Proofs.YtnkmpoplibnflaaGreatDoor.Wk
open Go Go.Proofs.YtnkmpoplibnflaaGreatDoor Go.RowKit
theorem isMac_2 {w : World} {B : Nat} {c : Cfg} {bv : Value} {ln : Bool} (hn : 0 < c.n) (hb : Bytes (Till B) w bv c.bytes) (h : PM w B (macC c.chain c.n c.proc c.inc c.seq (txF c) (sxF c) bv 2 (txF c) [] bv (.func (.func 33) #[.pointer (some ⟨B, 0, none⟩)] #[]) false 0 false)) : IsMac w B c ⟨2, 0, 0⟩ false := by
 exact ⟨bv, _, _, _, _, _, h, hb, fun _ => rfl, fun h => absurd h (by simp), fun _ => ⟨hn, rfl, rfl, rfl, hb, rfl⟩⟩
theorem isMac_3 {w : World} {B : Nat} {c : Cfg} {bv : Value} {ln : Bool} (hn : 0 < c.n) (hb : Bytes (Till B) w bv c.bytes) (h : PM w B (macC c.chain c.n c.proc c.inc c.seq (txF c) (sxF c) bv 3 (txF c) [] (.slice none 0 0) (.func (.func 47) #[.pointer (some ⟨B, 0, none⟩)] #[]) false 0 false)) : IsMac w B c ⟨3, 0, 0⟩ false := by
 exact ⟨bv, _, _, _, _, _, h, hb, fun _ => rfl, fun h => absurd h (by simp), fun _ => ⟨hn, rfl, rfl, rfl, Row.nil _ _, rfl⟩⟩
theorem isMac_4 {w : World} {B : Nat} {c : Cfg} {bv : Value} {ln : Bool} (hn : 0 < c.n) (hb : Bytes (Till B) w bv c.bytes) (h : PM w B (macC c.chain c.n c.proc c.inc c.seq (txF c) (sxF c) bv 5 (txF c) (sxF c) (.slice none 0 0) (.func (.func 57) #[.pointer (some ⟨B, 0, none⟩)] #[]) false 0 false)) : IsMac w B c ⟨4, 0, 0⟩ false := by
 exact ⟨bv, _, _, _, _, _, h, hb, fun _ => rfl, fun h => absurd h (by simp), fun _ => ⟨hn, rfl, rfl, rfl, Row.nil _ _, rfl⟩⟩
theorem isMac_5 {w : World} {B : Nat} {c : Cfg} {bv : Value} {ln : Bool} (hn : 0 < c.n) (hb : Bytes (Till B) w bv c.bytes) (h : PM w B (macC c.chain c.n c.proc c.inc c.seq (txF c) (sxF c) bv 7 [] [] (.slice none 0 0) (.func (.func 67) #[.pointer (some ⟨B, 0, none⟩)] #[]) false 0 ln)) : IsMac w B c ⟨5, 0, 0⟩ ln := by
 exact ⟨bv, _, _, _, _, _, h, hb, fun h => absurd h (by simp), fun h => absurd h (by simp), fun _ => ⟨hn, rfl, rfl, rfl, Row.nil _ _, rfl⟩⟩
theorem isMac_6 {w : World} {B : Nat} {c : Cfg} {f : Nat} {bv : Value} {ln : Bool} (hn : 0 < c.n) (hb : Bytes (Till B) w bv c.bytes) (hf : c.n <= f) (hf64 : f < 18446744073709551616) (h : ∃ bm bf, BoxM w B bm /\ B < bf /\ w.heap[bf]? = some (.cells #[.int .u64 (f : Int)] 22 (0, 0)) /\ PM w B (macC c.chain c.n c.proc c.inc c.seq (txF c) (sxF c) bv 8 (bxF c f) [] (.slice none 0 0) (.func (.func 88) #[] #[.pointer (some ⟨bm, 0, none⟩), .pointer (some ⟨bf, 0, none⟩)]) false 0 ln)) : IsMac w B c ⟨6, 0, f⟩ ln := by
 obtain ⟨bm, bf, h1, h2, h3, h⟩ := h
 exact ⟨bv, _, _, _, _, _, h, hb, fun h => absurd h (by simp), fun _ => ⟨hf, hf64⟩, fun _ => ⟨hn, rfl, rfl, rfl, Row.nil _ _, ⟨bm, bf, rfl, h1, h2, h3⟩⟩⟩
theorem isMac_7 {w : World} {B : Nat} {c : Cfg} {bv : Value} {ln : Bool} (hn : 0 < c.n) (hb : Bytes (Till B) w bv c.bytes) (h : ∃ bm, BoxM w B bm /\ PM w B (macC c.chain c.n c.proc c.inc c.seq (txF c) (sxF c) bv 4 [] [] (.slice none 0 0) (.func (.func 108) #[] #[.pointer (some ⟨bm, 0, none⟩)]) false 0 ln)) : IsMac w B c ⟨7, 0, 0⟩ ln := by
 obtain ⟨bm, h1, h⟩ := h
 exact ⟨bv, _, _, _, _, _, h, hb, fun h => absurd h (by simp), fun h => absurd h (by simp), fun _ => ⟨hn, rfl, rfl, rfl, Row.nil _ _, ⟨bm, rfl, h1⟩⟩⟩
theorem isMac_8 {w : World} {B : Nat} {c : Cfg} {bv : Value} {ln : Bool} (hn : 0 < c.n) (hb : Bytes (Till B) w bv c.bytes) (h : ∃ bm, BoxM w B bm /\ PM w B (macC c.chain c.n c.proc c.inc c.seq (txF c) (sxF c) bv 6 (sxF c) [] (.slice none 0 0) (.func (.func 111) #[] #[.pointer (some ⟨bm, 0, none⟩)]) false 0 ln)) : IsMac w B c ⟨8, 0, 0⟩ ln := by
 obtain ⟨bm, h1, h⟩ := h
 exact ⟨bv, _, _, _, _, _, h, hb, fun h => absurd h (by simp), fun h => absurd h (by simp), fun _ => ⟨hn, rfl, rfl, rfl, Row.nil _ _, ⟨bm, rfl, h1⟩⟩⟩
theorem isMac_9 {w : World} {B : Nat} {c : Cfg} {e : Int} {bv : Value} {ln : Bool} (hn : 0 < c.n) (hb : Bytes (Till B) w bv c.bytes) (h : ∃ fn', ThenEnds w B fn' e /\ PM w B (macC c.chain c.n c.proc c.inc c.seq (txF c) (sxF c) bv 6 (txF c) [] (.slice none 0 0) fn' false 0 ln)) : IsMac w B c ⟨9, e, 0⟩ ln := by
 obtain ⟨fn', h1, h⟩ := h
 exact ⟨bv, _, _, _, _, _, h, hb, fun h => absurd h (by simp), fun h => absurd h (by simp), fun _ => ⟨hn, rfl, rfl, rfl, Row.nil _ _, h1⟩⟩
theorem isMac_10 {w : World} {B : Nat} {c : Cfg} {e : Int} {bv : Value} {ln : Bool} {k : Nat} {nm tt : List UInt8} {cb fn : Value} (hb : Bytes (Till B) w bv c.bytes) (h : PM w B (macC c.chain c.n c.proc c.inc c.seq (txF c) (sxF c) bv k nm tt cb fn true e ln)) : IsMac w B c ⟨10, e, 0⟩ ln :=
 ⟨bv, k, nm, tt, cb, fn, h, hb, fun h => absurd h (by simp), fun h => absurd h (by simp), fun h => absurd rfl h⟩
end Go.Proofs.YtnkmpoplibnflaaGreatDoor.Wk
set_option maxRecDepth 100000
set_option maxHeartbeats 16000000
namespace Go.Proofs.YtnkmpoplibnflaaGreatDoor.Wk
open Go Go.Proofs.YtnkmpoplibnflaaGreatDoor Go.RowKit
theorem cr_bad_name {l : List Ent} {n : Nat} {s : List UInt8} (h : n < l.length) (hs : s = l[n].1) (hk : nameOk s = false) : catRight l = false := catRight_bad h (by subst hs; simp [stepE, hk])
theorem cr_bad_zero {l : List Ent} {n d : Nat} (h : n < l.length) (hs : d = l[n].2) (hk : d = 0) : catRight l = false := catRight_bad h (by subst hs; simp [stepE, hk])
theorem cr_bad_lt {l : List Ent} {n k : Nat} {s p : List UInt8} (h : n < l.length) (hs : s = l[n].1) (hkn : k < n) (hp : p = (l[k]'(Nat.lt_trans hkn h)).1) (hk : ¬ p < s) : catRight l = false := catRight_bad h (by
 rw [Bool.eq_false_iff]; intro g
 simp only [stepE, Bool.and_eq_true, List.all_eq_true, decide_eq_true_eq] at g
 have := (g.2 _ (List.mem_take_iff_getElem.2 ⟨k, by omega, rfl⟩)).1
 subst hs hp; exact hk this)
theorem cr_bad_id {l : List Ent} {n k : Nat} {s p : Nat} (h : n < l.length) (hs : s = l[n].2) (hkn : k < n) (hp : p = (l[k]'(Nat.lt_trans hkn h)).2) (hk : p = s) : catRight l = false := catRight_bad h (by
 rw [Bool.eq_false_iff]; intro g
 simp only [stepE, Bool.and_eq_true, List.all_eq_true, decide_eq_true_eq] at g
 have := (g.2 _ (List.mem_take_iff_getElem.2 ⟨k, by omega, rfl⟩)).2
 subst hs hp; exact this hk)
theorem cr_ok {l : List Ent} {n d : Nat} {s : List UInt8} (h : n < l.length) (hs : s = l[n].1) (hd : d = l[n].2) (h1 : nameOk s = true) (h2 : d ≠ 0) (h3 : ∀ j (h : j < l.length), j < n -> l[j].1 < s /\ l[j].2 ≠ d) (hr : catRight (l.take n) = true) : catRight (l.take (n + 1)) = true := by
 rw [List.take_succ_eq_append_getElem h, catRight_snoc, hr]
 subst hs hd
 simp only [stepE, Bool.and_eq_true, List.all_eq_true, decide_eq_true_eq, true_and, Bool.true_and]
 refine ⟨⟨h1, h2⟩, fun a ha => ?_⟩
 obtain ⟨j, hj, rfl⟩ := List.mem_take_iff_getElem.1 ha
 exact h3 j (by omega) (by omega)
theorem rIsName_any (w : World) (s : List UInt8) :
  Calls Tryz.prog 114 #[str s] w fun e w' => e = .returned (.bool (nameOk s)) /\ Ext w w' := by
 have h1 : decide (1 <= (s.length : Int)) = decide (1 <= s.length) := by by_cases h : 1 <= s.length <;> simp [h] <;> omega
 by_cases ha : 1 <= s.length
 ·by_cases hb : s.length <= 64
  ·have e1 : (1 : Int) <= (s.length : Int) := by omega
   have e2 : (s.length : Int) <= 64 := by omega
   have HK := zq (show nameOk s = true by simp [nameOk, ha, hb])
   clear ha hb h1
   go_enter Tryz.func114, Tryz.ntmps114
   go_wp2
   go_ret
   exact ⟨by rw [HK.out]; rfl, uZ⟩
  ·have e1 : (1 : Int) <= (s.length : Int) := by omega
   have e2 : ¬ (s.length : Int) <= 64 := by omega
   have HK := zq (show nameOk s = false by simp [nameOk, ha, hb])
   clear ha hb h1
   go_enter Tryz.func114, Tryz.ntmps114
   go_wp2
   go_ret
   exact ⟨by rw [HK.out]; rfl, uZ⟩
 ·have e1 : ¬ (1 : Int) <= (s.length : Int) := by omega
  have HK := zq (show nameOk s = false by simp [nameOk, ha])
  clear ha h1
  go_enter Tryz.func114, Tryz.ntmps114
  go_wp2
  go_ret
  exact ⟨by rw [HK.out]; rfl, uZ⟩
theorem rcatRight_any {S : Nat -> Prop} (w : World) (v : Value) (l : List Ent) (h : Ents S w v l) (hlen : l.length <= 1000000) (h64 : ∀ e ∈ l, e.2 < 18446744073709551616) :
  Calls Tryz.prog 93 #[v] w fun e w' => e = .returned (.bool (catRight l)) /\ Ext w w' := by
 have H := zq h
 clear h64
 obtain ⟨a0, c0, rfl, hn, hm, -⟩ := h
 unfold maxLen at hm
 go_enter Tryz.func93, Tryz.ntmps93
 go_wp2
 go_loopw [3] (fun t wr => ∃ n : Nat, n <= l.length /\ t = .int .i64 n /\ Hid (catRight (l.take n) = true) /\ Hid (Ext w wr)) (fun t _ => l.length - (intOf t).toNat)
 case atStart => exact ⟨0, Nat.zero_le _, rfl, zq (by simp [catRight]), zq uZ⟩
 case round =>
  obtain ⟨n, hn', rfl, HR, HX⟩ := hrel
  by_cases hlt : n < l.length
  ·obtain ⟨b1, o1, c1, e1, -, -, -, hq1⟩ := (H.out.ext HX.out).addr (by omega)
   cases e1
   have HLT := zq hlt
   have hcell : ∀ w' : World, Ext wr w' -> ∀ k (hk : k < l.length), w'.cell? ⟨b1, o1 + k * 2, none⟩ = some (str l[k].1) /\ w'.cell? ⟨b1, o1 + k * 2 + 1, none⟩ = some (.int .u64 (l[k].2 : Int)) := fun w' hx k hk =>
    ⟨hx.cell (hq1 _ _ (flatE_at k hk).1) id, hx.cell (hq1 _ _ (flatE_at k hk).2) id⟩
   have HC := zq hcell
   obtain ⟨s, hs⟩ : ∃ s, s = l[n].1 := ⟨_, rfl⟩
   obtain ⟨di, hdi⟩ : ∃ s, s = l[n].2 := ⟨_, rfl⟩
   have d0 : wr.cell? ⟨b1, o1 + n * 2, none⟩ = some (str s) := by rw [hs]; exact (hcell wr uZ n hlt).1
   have d1 : wr.cell? ⟨b1, o1 + n * 2 + 1, none⟩ = some (.int .u64 (di : Int)) := by rw [hdi]; exact (hcell wr uZ n hlt).2
   have HS := zq hs
   have HID := zq hdi
   clear hcell hq1 hs hdi
   go_wp2_with (go_at_call 114; fail)
   refine (rIsName_any wr s).mono ?_
   rintro e w2 ⟨rfl, hx2⟩
   have HX2 := zq (HX.out.trans hx2)
   have HX12 := zq hx2
   replace d1 := hx2.cell d1 id
   clear hx2 d0
   cases hk : nameOk s with
   | false =>
    have HB := zq (cr_bad_name HLT.out HS.out hk)
    clear hk
    go_wp2
    go_ret
    exact ⟨by rw [HB.out]; rfl, HX2.out⟩
   | true =>
    have HK := zq hk
    clear hk
    by_cases hd0 : di = 0
    ·have hb : ((di : Int) == 0) = true := by simp [hd0]
     have HB := zq (cr_bad_zero HLT.out HID.out hd0)
     clear hd0
     go_wp2
     go_ret
     exact ⟨by rw [HB.out]; rfl, HX2.out⟩
    ·have hb : ((di : Int) == 0) = false := by simp; omega
     have HD0 := zq hd0
     clear hd0
     go_wp2
     obtain ⟨w0, hw0⟩ : ∃ x, x = wr := ⟨_, rfl⟩
     subst hw0
     go_loopw [4] (fun t wq => ∃ k : Nat, k <= n /\ t = .int .i64 k /\ Hid (∀ j (h : j < l.length), j < k -> l[j].1 < s /\ l[j].2 ≠ di) /\ Hid (Ext w2 wq)) (fun t _ => n - (intOf t).toNat)
     case atStart => exact ⟨0, Nat.zero_le _, rfl, zq (fun j _ h => (by omega)), zq uZ⟩
     case round =>
      obtain ⟨k, hk', rfl, HALL, HXQ⟩ := hrel
      by_cases hkn : k < n
      ·have hkl : k < l.length := Nat.lt_trans hkn HLT.out
       obtain ⟨ps, hps⟩ : ∃ s, s = l[k].1 := ⟨_, rfl⟩
       obtain ⟨pi, hpi⟩ : ∃ s, s = l[k].2 := ⟨_, rfl⟩
       have q0 : wr.cell? ⟨b1, o1 + k * 2, none⟩ = some (str ps) := by rw [hps]; exact (HC.out wr (HX12.out.trans HXQ.out) k hkl).1
       have q1 : wr.cell? ⟨b1, o1 + k * 2 + 1, none⟩ = some (.int .u64 (pi : Int)) := by rw [hpi]; exact (HC.out wr (HX12.out.trans HXQ.out) k hkl).2
       have q2 : wr.cell? ⟨b1, o1 + n * 2, none⟩ = some (str s) := by rw [HS.out]; exact (HC.out wr (HX12.out.trans HXQ.out) n HLT.out).1
       have q3 : wr.cell? ⟨b1, o1 + n * 2 + 1, none⟩ = some (.int .u64 (di : Int)) := by rw [HID.out]; exact (HC.out wr (HX12.out.trans HXQ.out) n HLT.out).2
       have HPS := zq hps
       have HPI := zq hpi
       have hltb : n < l.length := HLT.out
       clear hps hpi
       cases hlt2 : decide (ps < s) with
       | false =>
        have HLS := str_less _ _ _ hlt2
        obtain ⟨hl1, hl2⟩ := HLS
        have HB := zq (cr_bad_lt HLT.out HS.out hkn HPS.out (of_decide_eq_false hlt2))
        clear hlt2
        go_upto_region 9 with fail
        go_region
        go_wp2
        go_ret
        exact ⟨by rw [HB.out]; rfl, (HX2.out.trans HXQ.out).drew⟩
       | true =>
        have HLS := str_less _ _ _ hlt2
        obtain ⟨hl1, hl2⟩ := HLS
        have HL := zq (of_decide_eq_true hlt2)
        clear hlt2
        by_cases hpd : pi = di
        ·have hb2 : ((pi : Int) == (di : Int)) = true := by simp [hpd]
         have HB := zq (cr_bad_id HLT.out HID.out hkn HPI.out hpd)
         clear hpd
         go_upto_region 9 with fail
         go_region
         go_wp2
         go_ret
         exact ⟨by rw [HB.out]; rfl, (HX2.out.trans HXQ.out).drew⟩
        ·have hb2 : ((pi : Int) == (di : Int)) = false := by simp; omega
         have HNE := zq hpd
         clear hpd
         go_upto_region 9 with fail
         go_region
         go_wp2
         go_roundw
         case rel =>
          refine ⟨k + 1, by omega, by go_num, zq (fun j h hj => ?_), zq HXQ.out.drew⟩
          rcases Nat.lt_or_ge j k with g | g
          ·exact HALL.out j h g
          ·have e2 : j = k := by omega
           subst e2
           exact ⟨HPS.out ▸ HL.out, HPI.out ▸ HNE.out⟩
         case measure => simp [intOf]; omega
      ·have HST := zq (cr_ok HLT.out HS.out HID.out HK.out HD0.out (fun j h hj => HALL.out j h (by omega)) HR.out)
       go_wp2
       go_roundw
       case rel => exact ⟨n + 1, by have := HLT.out; omega, by go_num, HST, zq (HX2.out.trans HXQ.out)⟩
       case measure => have := HLT.out; simp [intOf]; omega
  ·have hkl : n = l.length := by omega
   have hf : catRight l = true := by have := HR.out; rw [hkl, List.take_length] at this; exact this
   have HF := zq hf
   clear hf hkl
   go_wp2
   go_ret
   exact ⟨by rw [HF.out]; rfl, HX.out⟩
end Go.Proofs.YtnkmpoplibnflaaGreatDoor.Wk
