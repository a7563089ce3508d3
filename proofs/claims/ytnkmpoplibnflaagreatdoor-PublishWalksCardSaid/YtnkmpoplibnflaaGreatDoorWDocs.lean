/-
  CONTRACTS of the law's own parts: Own, Result, ref, machine, IsCall. Conditions: sizes.
-/
import Derived.Test.YtnkmpoplibnflaaGreatDoorGAV
import Derived.Test.YtnkmpoplibnflaaGreatDoorGBC
set_option maxRecDepth 100000
set_option maxHeartbeats 16000000
namespace Go.Proofs.YtnkmpoplibnflaaGreatDoor.Wk
open Go Go.Proofs.YtnkmpoplibnflaaGreatDoor Go.RowKit
theorem namesT' : SliceT Tryz.prog 45 9 1 16 := sliceT_of Tryz.underlying45 (by kernel_rfl) (by decide)
theorem ownT : StructT Tryz.prog 47 3 := ⟨_, Tryz.underlying47, rfl, by kernel_rfl⟩
theorem own_any {S : Nat -> Prop} (w : World) (e : Int) (na ba : Option Addr) (nc bc : Nat) (l : List (List UInt8)) (b : List UInt8) (h1 : Texts S w (.slice na l.length nc) l) (h2 : Bytes S w (.slice ba b.length bc) b) (hl : l.length <= 1000) (hb : b.length <= 1000) :
  Calls Tryz.prog 14 #[.agg #[.int .i64 e, .slice na l.length nc, .slice ba b.length bc]] w fun r w' => ∃ na' nc' ba' bc', r = .returned (.agg #[.int .i64 e, .slice na' l.length nc', .slice ba' b.length bc']) /\ w'.ownsRow w.heap.size 9 1 (.slice na' l.length nc') l.length (strs l) /\ w'.ownsRow w.heap.size 5 1 (.slice ba' b.length bc') b.length (b.map u8) /\ Ext w w' := by
 obtain ⟨w1, hw1⟩ : ∃ u, u = (w.alloc (.cells #[.int .i64 e, .slice na l.length nc, .slice ba b.length bc] 47)).alloc (.cells #[.int .i64 0, .slice none 0 0, .slice none 0 0] 47) := ⟨_, rfl⟩
 have hh := allocs2 w (.cells #[.int .i64 e, .slice na l.length nc, .slice ba b.length bc] 47) (.cells #[.int .i64 0, .slice none 0 0, .slice none 0 0] 47)
 rw [<- hw1] at hh
 obtain ⟨ha, hz, hx1⟩ := hh
 have HW1 := zq hw1
 have HA := zq ha
 have HZ := zq hz
 have HX1 := zq hx1
 have H1 := zq h1
 have H2 := zq h2
 have a0 := cZ ha 0 _ rfl
 have al := lZ ha
 clear hw1 ha hz hx1 h1 h2
 go_enter Tryz.func14, Tryz.ntmps14
 go_upto_region 1 with fail
 rw [show (w.alloc (.cells #[.int .i64 e, .slice na l.length nc, .slice ba b.length bc] 47)).alloc (.cells #[.int .i64 0, .slice none 0 0, .slice none 0 0] 47) = w1 from HW1.out.symm]
 go_upto_region 2 with fail
 obtain ⟨w2, hw2⟩ : ∃ u, u = w1.alloc (.cells #[.int .i64 e, .slice none 0 0, .slice none 0 0] 47) := ⟨_, rfl⟩
 have hx2 : Ext w1 w2 := by rw [hw2]; exact uZ.alloc _
 have HG2 := zq (show w2.heap[w1.heap.size]? = some (.cells #[.int .i64 e, .slice none 0 0, .slice none 0 0] 47 (0, 0)) by rw [hw2]; exact newAt _ _)
 rw [<- hw2]
 obtain ⟨g, hg⟩ : ∃ g, g = w1.heap.size := ⟨_, rfl⟩
 rw [<- hg] at HG2 ⊢
 have HGS := zq (show w.heap.size + 1 < g by have := lZ HZ.out; omega)
 have HX2 := zq (HX1.out.trans hx2)
 have ha := hx2.at_ HA.out id
 have HA2 := zq ha
 have HZ2 := zq (hx2.at_ HZ.out id)
 have hb2 : w.heap.size <= w2.heap.size := HX2.out.size
 clear hw2 hg hx2 a0 al
 have a1 := cZ ha 1 _ rfl
 have al := lZ ha
 have g1 := cZ HG2.out 1 _ rfl
 have gf1 := freeAt HG2.out 1
 have gl := lZ HG2.out
 clear ha
 go_wp2_with (at_builtin; go_must (refine wpList_append_row rfl _ _ _ rfl namesT' rfl (World.ownsRow_nil w2 w.heap.size _ _) rfl (H1.out.ext HX2.out) ?c1 (strs_one l) ?c2 ?c3 hb2 ?_))
 case c1 => simp
 case c2 => unfold maxLen; omega
 case c3 => omega
 intro v3 w3 hown3 hg3 _
 try rw [Nat.zero_add] at hown3
 try rw [List.nil_append] at hown3
 obtain ⟨r3, c3, rfl⟩ := ownsFormN hown3
 have hx3 : Ext w2 w3 := uZ.grown hg3 (fun j hj => by simp [Value.ownBlock] at hj)
 have HF3 := zq (show ∀ j, (Value.slice r3 l.length c3).ownBlock = some j -> ¬ j = g from fun j hj e => by
  obtain ⟨cur, hc⟩ := owns_tag hown3 hj
  rw [e, hx3.at_ HG2.out id] at hc
  cases hc)
 have HO3 := zq hown3
 have HX3 := zq (HX2.out.trans hx3)
 have HG3 := zq (hx3.at_ HG2.out id)
 have ha := hx3.at_ HA2.out id
 have HA3 := zq ha
 have HZ3 := zq (hx3.at_ HZ2.out id)
 clear hown3 hg3 hx3 hb2 a1 al g1 gf1 gl
 have g1 := cZ HG3.out 1 _ rfl
 have gf1 := freeAt HG3.out 1
 have gl := lZ HG3.out
 go_upto_region 3 with fail
 obtain ⟨w4, hw4⟩ : ∃ u, u = w3.setCell ⟨g, 1, none⟩ (.slice r3 l.length c3) := ⟨_, rfl⟩
 rw [<- hw4]
 have hu4 : Upd (At g) w3 w4 := by rw [hw4]; exact Upd.own _ _ _ _
 have HG4 := zq (show w4.heap[g]? = some (.cells #[.int .i64 e, .slice r3 l.length c3, .slice none 0 0] 47 (0, 0)) by rw [hw4]; exact setAt HG3.out)
 have HX4 := zq (HX3.out.step hu4 (fun i hi e => by have e : i = g := e; have := HGS.out; omega))
 have HO4 := zq (hu4.ownsRow HO3.out (fun j hj e => HF3.out j hj e))
 have ha := hu4.at_ HA3.out (fun e => by have e : w.heap.size = g := e; have := HGS.out; omega)
 have HA4 := zq ha
 have HZ4 := zq (hu4.at_ HZ3.out (fun e => by have e : w.heap.size + 1 = g := e; have := HGS.out; omega))
 have hb4 : w.heap.size <= w4.heap.size := HX4.out.size
 clear hw4 hu4 g1 gf1 gl
 have a2 := cZ ha 2 _ rfl
 have al := lZ ha
 have g2 := cZ HG4.out 2 _ rfl
 have gf2 := freeAt HG4.out 2
 have gl := lZ HG4.out
 clear ha
 go_wp2_with (at_builtin; go_must (refine wpList_append_row rfl _ _ _ rfl Tryz.bytesT rfl (World.ownsRow_nil w4 w.heap.size _ _) rfl (H2.out.ext HX4.out) ?d1 (u8_one b) ?d2 ?d3 hb4 ?_))
 case d1 => simp
 case d2 => unfold maxLen; omega
 case d3 => omega
 intro v5 w5 hown5 hg5 _
 try rw [Nat.zero_add] at hown5
 try rw [List.nil_append] at hown5
 obtain ⟨r5, c5, rfl⟩ := ownsFormN hown5
 have hx5 : Ext w4 w5 := uZ.grown hg5 (fun j hj => by simp [Value.ownBlock] at hj)
 have HF5 := zq (show ∀ j, (Value.slice r5 b.length c5).ownBlock = some j -> ¬ j = g from fun j hj e => by
  obtain ⟨cur, hc⟩ := owns_tag hown5 hj
  rw [e, hx5.at_ HG4.out id] at hc
  cases hc)
 have HP5 := zq hown5
 have HO5 := zq (hx5.ownsRow HO4.out (fun _ _ e => e))
 have HX5 := zq (HX4.out.trans hx5)
 have HG5 := zq (hx5.at_ HG4.out id)
 have HZ5 := zq (hx5.at_ HZ4.out id)
 clear hown5 hg5 hx5 hb4 a2 al g2 gf2 gl
 have g2 := cZ HG5.out 2 _ rfl
 have gf2 := freeAt HG5.out 2
 have gl := lZ HG5.out
 go_upto_region 4 with fail
 obtain ⟨w6, hw6⟩ : ∃ u, u = w5.setCell ⟨g, 2, none⟩ (.slice r5 b.length c5) := ⟨_, rfl⟩
 rw [<- hw6]
 have hu6 : Upd (At g) w5 w6 := by rw [hw6]; exact Upd.own _ _ _ _
 have HG6 := zq (show w6.heap[g]? = some (.cells #[.int .i64 e, .slice r3 l.length c3, .slice r5 b.length c5] 47 (0, 0)) by rw [hw6]; exact setAt HG5.out)
 have HX6 := zq (HX5.out.step hu6 (fun i hi e => by have e : i = g := e; have := HGS.out; omega))
 have HO6 := zq (hu6.ownsRow HO5.out (fun j hj e => HF3.out j hj e))
 have HP6 := zq (hu6.ownsRow HP5.out (fun j hj e => HF5.out j hj e))
 have HZ6 := zq (hu6.at_ HZ5.out (fun e => by have e : w.heap.size + 1 = g := e; have := HGS.out; omega))
 clear hw6 hu6 g2 gf2 gl
 have g0 := cZ HG6.out 0 _ rfl
 have g1 := cZ HG6.out 1 _ rfl
 have g2 := cZ HG6.out 2 _ rfl
 have gl := lZ HG6.out
 go_wp2_with (refine wpList_store_blk rfl _ _ _ rfl rfl (cells := #[.int .i64 e, .slice r3 l.length c3, .slice r5 b.length c5]) rfl (g := w.heap.size + 1) HZ6.out ownT rfl (by simp [AllOne, Value.oneCell']) ?_)
 refine bodyPost_blk rfl rfl rfl (setRow_heap _ _ _ _ _ _ HZ6.out) ownT ?_
 have hne : ∀ {ty : TypeId} {m n : Nat} {v : Value} {xs : List Value}, w6.ownsRow w.heap.size ty m v n xs -> ty ≠ 47 -> ∀ j, v.ownBlock = some j -> ¬ At (w.heap.size + 1) j := fun h ht j hj e => by
  have e : j = w.heap.size + 1 := e
  obtain ⟨cur, hc⟩ := owns_tag h hj
  rw [e, HZ6.out] at hc
  simp only [Option.some.injEq, Obj.cells.injEq] at hc
  exact ht hc.2.1.symm
 exact ⟨r3, c3, r5, c5, rfl, (Upd.row _ _ _).ownsRow HO6.out (hne HO6.out (by decide)), (Upd.row _ _ _).ownsRow HP6.out (hne HP6.out (by decide)), HX6.out.step (T := At (w.heap.size + 1)) (Upd.row _ _ _) (fun k hk e => by have e : k = w.heap.size + 1 := e; omega)⟩
theorem resultT : StructT Tryz.prog 50 3 := ⟨_, Tryz.underlying50, rfl, by kernel_rfl⟩
theorem result_any {S : Nat -> Prop} (w : World) (e : Int) (na ba : Option Addr) (nc bc : Nat) (l : List (List UInt8)) (b : List UInt8) (h1 : Texts S w (.slice na l.length nc) l) (h2 : Bytes S w (.slice ba b.length bc) b) (hl : l.length <= 1000) (hb : b.length <= 1000) :
  Calls Tryz.prog 17 #[.agg #[.int .i64 e, .slice na l.length nc, .slice ba b.length bc]] w fun r w' => ∃ na' nc' ba' bc', r = .returned (.agg #[.int .i64 e, .slice na' l.length nc', .slice ba' b.length bc']) /\ w'.ownsRow w.heap.size 9 1 (.slice na' l.length nc') l.length (strs l) /\ w'.ownsRow w.heap.size 5 1 (.slice ba' b.length bc') b.length (b.map u8) /\ Ext w w' := by
 obtain ⟨w1, hw1⟩ : ∃ u, u = (w.alloc (.cells #[.int .i64 e, .slice na l.length nc, .slice ba b.length bc] 47)).alloc (.cells #[.int .i64 0, .slice none 0 0, .slice none 0 0] 50) := ⟨_, rfl⟩
 have hh := allocs2 w (.cells #[.int .i64 e, .slice na l.length nc, .slice ba b.length bc] 47) (.cells #[.int .i64 0, .slice none 0 0, .slice none 0 0] 50)
 rw [<- hw1] at hh
 obtain ⟨ha, hz, hx1⟩ := hh
 have HW1 := zq hw1
 have HA := zq ha
 have HZ := zq hz
 have HX1 := zq hx1
 have H1 := zq h1
 have H2 := zq h2
 have a0 := cZ ha 0 _ rfl
 have al := lZ ha
 clear hw1 ha hz hx1 h1 h2
 go_enter Tryz.func17, Tryz.ntmps17
 go_upto_region 1 with fail
 rw [show (w.alloc (.cells #[.int .i64 e, .slice na l.length nc, .slice ba b.length bc] 47)).alloc (.cells #[.int .i64 0, .slice none 0 0, .slice none 0 0] 50) = w1 from HW1.out.symm]
 go_upto_region 2 with fail
 obtain ⟨w2, hw2⟩ : ∃ u, u = w1.alloc (.cells #[.int .i64 e, .slice none 0 0, .slice none 0 0] 50) := ⟨_, rfl⟩
 have hx2 : Ext w1 w2 := by rw [hw2]; exact uZ.alloc _
 have HG2 := zq (show w2.heap[w1.heap.size]? = some (.cells #[.int .i64 e, .slice none 0 0, .slice none 0 0] 50 (0, 0)) by rw [hw2]; exact newAt _ _)
 rw [<- hw2]
 obtain ⟨g, hg⟩ : ∃ g, g = w1.heap.size := ⟨_, rfl⟩
 rw [<- hg] at HG2 ⊢
 have HGS := zq (show w.heap.size + 1 < g by have := lZ HZ.out; omega)
 have HX2 := zq (HX1.out.trans hx2)
 have ha := hx2.at_ HA.out id
 have HA2 := zq ha
 have HZ2 := zq (hx2.at_ HZ.out id)
 have hb2 : w.heap.size <= w2.heap.size := HX2.out.size
 clear hw2 hg hx2 a0 al
 have a1 := cZ ha 1 _ rfl
 have al := lZ ha
 have g1 := cZ HG2.out 1 _ rfl
 have gf1 := freeAt HG2.out 1
 have gl := lZ HG2.out
 clear ha
 go_wp2_with (at_builtin; go_must (refine wpList_append_row rfl _ _ _ rfl namesT' rfl (World.ownsRow_nil w2 w.heap.size _ _) rfl (H1.out.ext HX2.out) ?c1 (strs_one l) ?c2 ?c3 hb2 ?_))
 case c1 => simp
 case c2 => unfold maxLen; omega
 case c3 => omega
 intro v3 w3 hown3 hg3 _
 try rw [Nat.zero_add] at hown3
 try rw [List.nil_append] at hown3
 obtain ⟨r3, c3, rfl⟩ := ownsFormN hown3
 have hx3 : Ext w2 w3 := uZ.grown hg3 (fun j hj => by simp [Value.ownBlock] at hj)
 have HF3 := zq (show ∀ j, (Value.slice r3 l.length c3).ownBlock = some j -> ¬ j = g from fun j hj e => by
  obtain ⟨cur, hc⟩ := owns_tag hown3 hj
  rw [e, hx3.at_ HG2.out id] at hc
  cases hc)
 have HO3 := zq hown3
 have HX3 := zq (HX2.out.trans hx3)
 have HG3 := zq (hx3.at_ HG2.out id)
 have ha := hx3.at_ HA2.out id
 have HA3 := zq ha
 have HZ3 := zq (hx3.at_ HZ2.out id)
 clear hown3 hg3 hx3 hb2 a1 al g1 gf1 gl
 have g1 := cZ HG3.out 1 _ rfl
 have gf1 := freeAt HG3.out 1
 have gl := lZ HG3.out
 go_upto_region 3 with fail
 obtain ⟨w4, hw4⟩ : ∃ u, u = w3.setCell ⟨g, 1, none⟩ (.slice r3 l.length c3) := ⟨_, rfl⟩
 rw [<- hw4]
 have hu4 : Upd (At g) w3 w4 := by rw [hw4]; exact Upd.own _ _ _ _
 have HG4 := zq (show w4.heap[g]? = some (.cells #[.int .i64 e, .slice r3 l.length c3, .slice none 0 0] 50 (0, 0)) by rw [hw4]; exact setAt HG3.out)
 have HX4 := zq (HX3.out.step hu4 (fun i hi e => by have e : i = g := e; have := HGS.out; omega))
 have HO4 := zq (hu4.ownsRow HO3.out (fun j hj e => HF3.out j hj e))
 have ha := hu4.at_ HA3.out (fun e => by have e : w.heap.size = g := e; have := HGS.out; omega)
 have HA4 := zq ha
 have HZ4 := zq (hu4.at_ HZ3.out (fun e => by have e : w.heap.size + 1 = g := e; have := HGS.out; omega))
 have hb4 : w.heap.size <= w4.heap.size := HX4.out.size
 clear hw4 hu4 g1 gf1 gl
 have a2 := cZ ha 2 _ rfl
 have al := lZ ha
 have g2 := cZ HG4.out 2 _ rfl
 have gf2 := freeAt HG4.out 2
 have gl := lZ HG4.out
 clear ha
 go_wp2_with (at_builtin; go_must (refine wpList_append_row rfl _ _ _ rfl Tryz.bytesT rfl (World.ownsRow_nil w4 w.heap.size _ _) rfl (H2.out.ext HX4.out) ?d1 (u8_one b) ?d2 ?d3 hb4 ?_))
 case d1 => simp
 case d2 => unfold maxLen; omega
 case d3 => omega
 intro v5 w5 hown5 hg5 _
 try rw [Nat.zero_add] at hown5
 try rw [List.nil_append] at hown5
 obtain ⟨r5, c5, rfl⟩ := ownsFormN hown5
 have hx5 : Ext w4 w5 := uZ.grown hg5 (fun j hj => by simp [Value.ownBlock] at hj)
 have HF5 := zq (show ∀ j, (Value.slice r5 b.length c5).ownBlock = some j -> ¬ j = g from fun j hj e => by
  obtain ⟨cur, hc⟩ := owns_tag hown5 hj
  rw [e, hx5.at_ HG4.out id] at hc
  cases hc)
 have HP5 := zq hown5
 have HO5 := zq (hx5.ownsRow HO4.out (fun _ _ e => e))
 have HX5 := zq (HX4.out.trans hx5)
 have HG5 := zq (hx5.at_ HG4.out id)
 have HZ5 := zq (hx5.at_ HZ4.out id)
 clear hown5 hg5 hx5 hb4 a2 al g2 gf2 gl
 have g2 := cZ HG5.out 2 _ rfl
 have gf2 := freeAt HG5.out 2
 have gl := lZ HG5.out
 go_upto_region 4 with fail
 obtain ⟨w6, hw6⟩ : ∃ u, u = w5.setCell ⟨g, 2, none⟩ (.slice r5 b.length c5) := ⟨_, rfl⟩
 rw [<- hw6]
 have hu6 : Upd (At g) w5 w6 := by rw [hw6]; exact Upd.own _ _ _ _
 have HG6 := zq (show w6.heap[g]? = some (.cells #[.int .i64 e, .slice r3 l.length c3, .slice r5 b.length c5] 50 (0, 0)) by rw [hw6]; exact setAt HG5.out)
 have HX6 := zq (HX5.out.step hu6 (fun i hi e => by have e : i = g := e; have := HGS.out; omega))
 have HO6 := zq (hu6.ownsRow HO5.out (fun j hj e => HF3.out j hj e))
 have HP6 := zq (hu6.ownsRow HP5.out (fun j hj e => HF5.out j hj e))
 have HZ6 := zq (hu6.at_ HZ5.out (fun e => by have e : w.heap.size + 1 = g := e; have := HGS.out; omega))
 clear hw6 hu6 g2 gf2 gl
 have g0 := cZ HG6.out 0 _ rfl
 have g1 := cZ HG6.out 1 _ rfl
 have g2 := cZ HG6.out 2 _ rfl
 have gl := lZ HG6.out
 go_wp2_with (refine wpList_store_blk rfl _ _ _ rfl rfl (cells := #[.int .i64 e, .slice r3 l.length c3, .slice r5 b.length c5]) rfl (g := w.heap.size + 1) HZ6.out resultT rfl (by simp [AllOne, Value.oneCell']) ?_)
 refine bodyPost_blk rfl rfl rfl (setRow_heap _ _ _ _ _ _ HZ6.out) resultT ?_
 have hne : ∀ {ty : TypeId} {m n : Nat} {v : Value} {xs : List Value}, w6.ownsRow w.heap.size ty m v n xs -> ty ≠ 50 -> ∀ j, v.ownBlock = some j -> ¬ At (w.heap.size + 1) j := fun h ht j hj e => by
  have e : j = w.heap.size + 1 := e
  obtain ⟨cur, hc⟩ := owns_tag h hj
  rw [e, HZ6.out] at hc
  simp only [Option.some.injEq, Obj.cells.injEq] at hc
  exact ht hc.2.1.symm
 exact ⟨r3, c3, r5, c5, rfl, (Upd.row _ _ _).ownsRow HO6.out (hne HO6.out (by decide)), (Upd.row _ _ _).ownsRow HP6.out (hne HP6.out (by decide)), HX6.out.step (T := At (w.heap.size + 1)) (Upd.row _ _ _) (fun k hk e => by have e : k = w.heap.size + 1 := e; omega)⟩
theorem rcfgT : StructT Tryz.prog 29 7 := ⟨_, Tryz.underlying29, rfl, by kernel_rfl⟩
theorem ref_any {S : Nat -> Prop} (w : World) (c : Cfg) (hc : c.Ok) (ba : Option Addr) (bc : Nat) (h2 : Bytes S w (.slice ba c.bytes.length bc) c.bytes) :
  Calls Tryz.prog 6 #[.agg #[.int .u64 (c.chain : Int), .int .u64 (c.n : Int), .int .u64 (c.proc : Int), .int .u64 (c.inc : Int), .int .u64 (c.seq : Int), .int .u64 (c.k : Int), .slice ba c.bytes.length bc]] w fun r w' => ∃ ba' bc', r = .returned (.agg #[.int .u64 (c.chain : Int), .int .u64 (c.n : Int), .int .u64 (c.proc : Int), .int .u64 (c.inc : Int), .int .u64 (c.seq : Int), .int .u64 (c.k : Int), .slice ba' c.bytes.length bc']) /\ w'.ownsRow w.heap.size 5 1 (.slice ba' c.bytes.length bc') c.bytes.length (c.bytes.map u8) /\ Ext w w' := by
 obtain ⟨w1, hw1⟩ : ∃ u, u = (w.alloc (.cells #[.int .u64 (c.chain : Int), .int .u64 (c.n : Int), .int .u64 (c.proc : Int), .int .u64 (c.inc : Int), .int .u64 (c.seq : Int), .int .u64 (c.k : Int), .slice ba c.bytes.length bc] 25)).alloc (.cells #[.int .u64 0, .int .u64 0, .int .u64 0, .int .u64 0, .int .u64 0, .int .u64 0, .slice none 0 0] 29) := ⟨_, rfl⟩
 have hh := allocs2 w (.cells #[.int .u64 (c.chain : Int), .int .u64 (c.n : Int), .int .u64 (c.proc : Int), .int .u64 (c.inc : Int), .int .u64 (c.seq : Int), .int .u64 (c.k : Int), .slice ba c.bytes.length bc] 25) (.cells #[.int .u64 0, .int .u64 0, .int .u64 0, .int .u64 0, .int .u64 0, .int .u64 0, .slice none 0 0] 29)
 rw [<- hw1] at hh
 obtain ⟨ha, hz, hx1⟩ := hh
 have HW1 := zq hw1
 have HA := zq ha
 have HZ := zq hz
 have HX1 := zq hx1
 have H2 := zq h2
 have hbl := hc.bytes
 have a0 := cZ ha 0 _ rfl
 have a1 := cZ ha 1 _ rfl
 have a2 := cZ ha 2 _ rfl
 have a3 := cZ ha 3 _ rfl
 have a4 := cZ ha 4 _ rfl
 have a5 := cZ ha 5 _ rfl
 have a6 := cZ ha 6 _ rfl
 have al := lZ ha
 clear hw1 ha hz hx1 h2 hc
 go_enter Tryz.func6, Tryz.ntmps6
 go_upto_region 1 with fail
 rw [show (w.alloc (.cells #[.int .u64 (c.chain : Int), .int .u64 (c.n : Int), .int .u64 (c.proc : Int), .int .u64 (c.inc : Int), .int .u64 (c.seq : Int), .int .u64 (c.k : Int), .slice ba c.bytes.length bc] 25)).alloc (.cells #[.int .u64 0, .int .u64 0, .int .u64 0, .int .u64 0, .int .u64 0, .int .u64 0, .slice none 0 0] 29) = w1 from HW1.out.symm]
 go_upto_region 2 with fail
 obtain ⟨w2, hw2⟩ : ∃ u, u = w1.alloc (.cells #[.int .u64 (c.chain : Int), .int .u64 (c.n : Int), .int .u64 (c.proc : Int), .int .u64 (c.inc : Int), .int .u64 (c.seq : Int), .int .u64 (c.k : Int), .slice none 0 0] 29) := ⟨_, rfl⟩
 have hx2 : Ext w1 w2 := by rw [hw2]; exact uZ.alloc _
 have HG2 := zq (show w2.heap[w1.heap.size]? = some (.cells #[.int .u64 (c.chain : Int), .int .u64 (c.n : Int), .int .u64 (c.proc : Int), .int .u64 (c.inc : Int), .int .u64 (c.seq : Int), .int .u64 (c.k : Int), .slice none 0 0] 29 (0, 0)) by rw [hw2]; exact newAt _ _)
 rw [<- hw2]
 obtain ⟨g, hg⟩ : ∃ g, g = w1.heap.size := ⟨_, rfl⟩
 rw [<- hg] at HG2 ⊢
 have HGS := zq (show w.heap.size + 1 < g by have := lZ HZ.out; omega)
 have HX2 := zq (HX1.out.trans hx2)
 have ha := hx2.at_ HA.out id
 have HZ2 := zq (hx2.at_ HZ.out id)
 have hb2 : w.heap.size <= w2.heap.size := HX2.out.size
 clear hw2 hg hx2 a0 a1 a2 a3 a4 a5 a6 al
 have a6 := cZ ha 6 _ rfl
 have al := lZ ha
 have g1 := cZ HG2.out 6 _ rfl
 have gf1 := freeAt HG2.out 6
 have gl := lZ HG2.out
 clear ha
 go_wp2_with (at_builtin; go_must (refine wpList_append_row rfl _ _ _ rfl Tryz.bytesT rfl (World.ownsRow_nil w2 w.heap.size _ _) rfl (H2.out.ext HX2.out) ?c1 (u8_one c.bytes) ?c2 ?c3 hb2 ?_))
 case c1 => simp
 case c2 => unfold maxLen; omega
 case c3 => omega
 intro v5 w5 hown5 hg5 _
 try rw [Nat.zero_add] at hown5
 try rw [List.nil_append] at hown5
 obtain ⟨r5, c5, rfl⟩ := ownsFormN hown5
 have hx5 : Ext w2 w5 := uZ.grown hg5 (fun j hj => by simp [Value.ownBlock] at hj)
 have HF5 := zq (show ∀ j, (Value.slice r5 c.bytes.length c5).ownBlock = some j -> ¬ j = g from fun j hj e => by
  obtain ⟨cur, hc⟩ := owns_tag hown5 hj
  rw [e, hx5.at_ HG2.out id] at hc
  cases hc)
 have HP5 := zq hown5
 have HX5 := zq (HX2.out.trans hx5)
 have HG5 := zq (hx5.at_ HG2.out id)
 have HZ5 := zq (hx5.at_ HZ2.out id)
 clear hown5 hg5 hx5 hb2 a6 al g1 gf1 gl
 have g2 := cZ HG5.out 6 _ rfl
 have gf2 := freeAt HG5.out 6
 have gl := lZ HG5.out
 go_upto_region 3 with fail
 obtain ⟨w6, hw6⟩ : ∃ u, u = w5.setCell ⟨g, 6, none⟩ (.slice r5 c.bytes.length c5) := ⟨_, rfl⟩
 rw [<- hw6]
 have hu6 : Upd (At g) w5 w6 := by rw [hw6]; exact Upd.own _ _ _ _
 have HG6 := zq (show w6.heap[g]? = some (.cells #[.int .u64 (c.chain : Int), .int .u64 (c.n : Int), .int .u64 (c.proc : Int), .int .u64 (c.inc : Int), .int .u64 (c.seq : Int), .int .u64 (c.k : Int), .slice r5 c.bytes.length c5] 29 (0, 0)) by rw [hw6]; exact setAt HG5.out)
 have HX6 := zq (HX5.out.step hu6 (fun i hi e => by have e : i = g := e; have := HGS.out; omega))
 have HP6 := zq (hu6.ownsRow HP5.out (fun j hj e => HF5.out j hj e))
 have HZ6 := zq (hu6.at_ HZ5.out (fun e => by have e : w.heap.size + 1 = g := e; have := HGS.out; omega))
 clear hw6 hu6 g2 gf2 gl
 have a0 := cZ HG6.out 0 _ rfl
 have a1 := cZ HG6.out 1 _ rfl
 have a2 := cZ HG6.out 2 _ rfl
 have a3 := cZ HG6.out 3 _ rfl
 have a4 := cZ HG6.out 4 _ rfl
 have a5 := cZ HG6.out 5 _ rfl
 have a6 := cZ HG6.out 6 _ rfl
 have gl := lZ HG6.out
 go_wp2_with (refine wpList_store_blk rfl _ _ _ rfl rfl (cells := #[.int .u64 (c.chain : Int), .int .u64 (c.n : Int), .int .u64 (c.proc : Int), .int .u64 (c.inc : Int), .int .u64 (c.seq : Int), .int .u64 (c.k : Int), .slice r5 c.bytes.length c5]) rfl (g := w.heap.size + 1) HZ6.out rcfgT rfl (by simp [AllOne, Value.oneCell']) ?_)
 refine bodyPost_blk rfl rfl rfl (setRow_heap _ _ _ _ _ _ HZ6.out) rcfgT ?_
 have hne : ∀ j, (Value.slice r5 c.bytes.length c5).ownBlock = some j -> ¬ At (w.heap.size + 1) j := fun j hj e => by
  have e : j = w.heap.size + 1 := e
  obtain ⟨cur, hc⟩ := owns_tag HP6.out hj
  rw [e, HZ6.out] at hc
  cases hc
 exact ⟨r5, c5, rfl, (Upd.row _ _ _).ownsRow HP6.out hne, HX6.out.step (T := At (w.heap.size + 1)) (Upd.row _ _ _) (fun k hk e => by have e : k = w.heap.size + 1 := e; omega)⟩
def startP (c : Cfg) : Spot := if c.n = 0 then ⟨10, 2, 0⟩ else ⟨1, 0, 0⟩
theorem machine_any {S : Nat -> Prop} (w : World) (c : Cfg) (hc : c.Ok) (ba : Option Addr) (bc : Nat) (h2 : Bytes S w (.slice ba c.bytes.length bc) c.bytes) (ht : Tab w) :
  Calls Tryz.prog 7 #[.agg #[.int .u64 (c.chain : Int), .int .u64 (c.n : Int), .int .u64 (c.proc : Int), .int .u64 (c.inc : Int), .int .u64 (c.seq : Int), .int .u64 (c.k : Int), .slice ba c.bytes.length bc]] w fun r w' => ∃ B, w.heap.size <= B /\ r = .returned (.pointer (some ⟨B, 0, none⟩)) /\ Ext w w' /\ IsMac w' B c (startP c) false := by
 obtain ⟨w1, hw1⟩ : ∃ u, u = w.alloc (.cells #[.int .u64 (c.chain : Int), .int .u64 (c.n : Int), .int .u64 (c.proc : Int), .int .u64 (c.inc : Int), .int .u64 (c.seq : Int), .int .u64 (c.k : Int), .slice ba c.bytes.length bc] 25) := ⟨_, rfl⟩
 have hx1 : Ext w w1 := by rw [hw1]; exact uZ.alloc _
 have ha : w1.heap[w.heap.size]? = some (.cells #[.int .u64 (c.chain : Int), .int .u64 (c.n : Int), .int .u64 (c.proc : Int), .int .u64 (c.inc : Int), .int .u64 (c.seq : Int), .int .u64 (c.k : Int), .slice ba c.bytes.length bc] 25 (0, 0)) := by rw [hw1]; exact newAt _ _
 have HW1 := zq hw1
 have HX1 := zq hx1
 have H2 := zq h2
 have HT := zq ht
 have HC := zq hc
 have a0 := cZ ha 0 _ rfl
 have a1 := cZ ha 1 _ rfl
 have a2 := cZ ha 2 _ rfl
 have a3 := cZ ha 3 _ rfl
 have a4 := cZ ha 4 _ rfl
 have a5 := cZ ha 5 _ rfl
 have a6 := cZ ha 6 _ rfl
 have al := lZ ha
 clear hw1 ha hx1 h2 ht hc
 go_enter Tryz.func7, Tryz.ntmps7
 go_upto_region 1 with fail
 rw [show w.alloc (.cells #[.int .u64 (c.chain : Int), .int .u64 (c.n : Int), .int .u64 (c.proc : Int), .int .u64 (c.inc : Int), .int .u64 (c.seq : Int), .int .u64 (c.k : Int), .slice ba c.bytes.length bc] 25) = w1 from HW1.out.symm]
 go_wp2_with (go_at_call 20; fail)
 refine (new_any w1 c.chain c.n c.proc c.inc c.seq c.k _ c.bytes HC.out.chain HC.out.n HC.out.proc HC.out.inc HC.out.k (H2.out.ext HX1.out) HC.out.bytes (tab_ext HT.out HX1.out)).mono ?_
 rintro r w2 ⟨B, bv, hB, rfl, hx2, hm, hbv⟩
 have HX2 := zq (HX1.out.trans hx2)
 have HM := zq hm
 have HBV := zq hbv
 have HBB := zq (Nat.le_trans HX1.out.size hB)
 clear hx2 hm hbv hB
 go_wp2
 go_ret
 refine ⟨B, HBB.out, rfl, HX2.out, ?_⟩
 have hb : Bytes (Till B) w2 bv c.bytes := HBV.out.mono (fun k h => h.2)
 have hm := HM.out
 by_cases hz : c.n = 0
 ·rw [decide_eq_true hz, if_pos hz] at hm
  rw [show startP c = ⟨10, 2, 0⟩ from if_pos hz]
  exact isMac_10 hb hm
 ·rw [decide_eq_false hz, if_neg hz] at hm
  rw [show startP c = ⟨1, 0, 0⟩ from if_neg hz]
  exact ⟨bv, _, _, _, _, _, hm, hb, fun _ => rfl, fun h => absurd h (by simp), fun _ => ⟨by omega, rfl, rfl, rfl, Row.nil _ _, rfl⟩⟩
theorem isCall_true {S T : Nat -> Prop} (w : World) (k : Nat) (nm tt : List UInt8) (va ua : Option Addr) (vc uc : Nat) (l : List UInt8) (h1 : Bytes S w (.slice va l.length vc) l) (h2 : Bytes T w (.slice ua l.length uc) l) :
  Calls Tryz.prog 13 #[.agg #[.int .u8 (k : Int), str nm, str tt, .slice va l.length vc], .agg #[.int .u8 (k : Int), str nm, str tt, .slice ua l.length uc]] w fun r w' => r = .returned (.bool true) /\ Ext w w' := by
 obtain ⟨w1, hw1⟩ : ∃ u, u = (w.alloc (.cells #[.int .u8 (k : Int), str nm, str tt, .slice va l.length vc] 40)).alloc (.cells #[.int .u8 (k : Int), str nm, str tt, .slice ua l.length uc] 35) := ⟨_, rfl⟩
 have hh := allocs2 w (.cells #[.int .u8 (k : Int), str nm, str tt, .slice va l.length vc] 40) (.cells #[.int .u8 (k : Int), str nm, str tt, .slice ua l.length uc] 35)
 rw [<- hw1] at hh
 obtain ⟨ha, hb, hx1⟩ := hh
 have HW1 := zq hw1
 have HX1 := zq hx1
 have H1 := zq h1
 have H2 := zq h2
 have a0 := cZ ha 0 _ rfl
 have a1 := cZ ha 1 _ rfl
 have a2 := cZ ha 2 _ rfl
 have a3 := cZ ha 3 _ rfl
 have al := lZ ha
 have b0 := cZ hb 0 _ rfl
 have b1 := cZ hb 1 _ rfl
 have b2 := cZ hb 2 _ rfl
 have b3 := cZ hb 3 _ rfl
 have bl := lZ hb
 clear hw1 ha hb hx1 h1 h2
 go_enter Tryz.func13, Tryz.ntmps13
 go_upto_region 1 with fail
 rw [show (w.alloc (.cells #[.int .u8 (k : Int), str nm, str tt, .slice va l.length vc] 40)).alloc (.cells #[.int .u8 (k : Int), str nm, str tt, .slice ua l.length uc] 35) = w1 from HW1.out.symm]
 go_wp2_with (go_at_call 24; fail)
 refine (sameBytes_any w1 _ _ l l (H1.out.ext HX1.out) (H2.out.ext HX1.out)).mono ?_
 rintro r w2 ⟨rfl, hx2⟩
 have hll : (l == l) = true := by simp
 rw [hll]
 have HX2 := zq (HX1.out.trans hx2)
 clear hx2 hll
 go_wp2
 go_ret
 exact ⟨rfl, HX2.out⟩
end Go.Proofs.YtnkmpoplibnflaaGreatDoor.Wk
