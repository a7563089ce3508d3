/-
  Rows of frames; frame.All.
  The reference's All of frames.
  STATES AS BYTES, plain: numbers, texts, rows of them, catalogs, documents, states: read, written; what is read is written so again. No program in sight.
-/
import Derived.Test.YtnkmpoplibnflaaGreatDoorWRT
import Derived.WalkMore
set_option maxRecDepth 100000
set_option maxHeartbeats 16000000
namespace Go.Proofs.YtnkmpoplibnflaaGreatDoor.Wk
open Go Go.Proofs.YtnkmpoplibnflaaGreatDoor Go.RowKit
abbrev Fr := UInt8 × List UInt8
def frCells (fs : List Fr) (vs : List Value) : List Value := (List.zipWith (fun (f : Fr) (v : Value) => [u8 f.1, v]) fs vs).flatten
theorem frCells_snoc {fs : List Fr} {vs : List Value} (h : vs.length = fs.length) (f : Fr) (v : Value) : frCells (fs ++ [f]) (vs ++ [v]) = frCells fs vs ++ [u8 f.1, v] := by
 unfold frCells
 rw [List.zipWith_append h.symm]
 simp
theorem frCells_at : ∀ {fs : List Fr} {vs : List Value} (h : vs.length = fs.length) (k : Nat) (h1 : k < fs.length) (h2 : k < vs.length), (frCells fs vs)[k * 2]? = some (u8 fs[k].1) /\ (frCells fs vs)[k * 2 + 1]? = some vs[k]
 | [], _, _, k, h1, _ => by simp at h1
 | f :: fs, [], h, _, _, _ => by simp at h
 | f :: fs, v :: vs, h, 0, _, _ => by simp [frCells]
 | f :: fs, v :: vs, h, k + 1, h1, h2 => by
  have := frCells_at (fs := fs) (vs := vs) (by simpa using h) k (by simpa using h1) (by simpa using h2)
  simp only [frCells, List.zipWith_cons_cons, List.flatten_cons] at this ⊢
  rw [show (k + 1) * 2 = [u8 f.1, v].length + k * 2 by simp; omega, List.getElem?_append_right (by omega), Nat.add_sub_cancel_left]
  rw [show [u8 f.1, v].length + k * 2 + 1 = [u8 f.1, v].length + (k * 2 + 1) by omega, List.getElem?_append_right (by omega), Nat.add_sub_cancel_left]
  exact this
def FrMk (B e : Nat) (w : World) (v : Value) (fs : List Fr) : Prop := ∃ vs : List Value, vs.length = fs.length /\ (∀ u ∈ vs, u.oneCell' = true) /\ w.ownsRow B e 2 v fs.length (frCells fs vs) ∧
 ∀ i (h : i < fs.length) (h' : i < vs.length), ∃ S : Nat -> Prop, (∀ k, S k -> k < w.heap.size /\ v.ownBlock ≠ some k) /\ Bytes S w vs[i] fs[i].2
def FrRd (w : World) (v : Value) (fs : List Fr) : Prop := ∃ vs : List Value, vs.length = fs.length /\ Row (fun _ => True) w v fs.length (frCells fs vs) /\ ∀ i (h : i < fs.length) (h' : i < vs.length), Bytes (fun _ => True) w vs[i] fs[i].2
theorem FrMk.nil (B e : Nat) (w : World) : FrMk B e w (.slice none 0 0) [] := ⟨[], rfl, by simp, World.ownsRow_nil _ _ _ _, fun i h => by simp at h⟩
theorem FrMk.ext {B e : Nat} {w w' : World} {v : Value} {fs : List Fr} (h : FrMk B e w v fs) (hu : Ext w w') : FrMk B e w' v fs := by
 obtain ⟨vs, h1, h2, h3, h4⟩ := h
 refine ⟨vs, h1, h2, hu.ownsRow h3 (fun _ _ e => e), fun i h h' => ?_⟩
 obtain ⟨S, q1, q2⟩ := h4 i h h'
 exact ⟨S, fun k hk => ⟨Nat.lt_of_lt_of_le (q1 k hk).1 hu.size, (q1 k hk).2⟩, q2.ext hu⟩
theorem FrMk.rd {B e : Nat} {w : World} {v : Value} {fs : List Fr} (h : FrMk B e w v fs) : FrRd w v fs := by
 obtain ⟨vs, h1, h2, h3, h4⟩ := h
 refine ⟨vs, h1, (Row.of_owns h3).mono (fun _ _ => trivial), fun i h h' => ?_⟩
 obtain ⟨S, -, q2⟩ := h4 i h h'
 exact q2.mono (fun _ _ => trivial)
theorem FrRd.ext {w w' : World} {v : Value} {fs : List Fr} (h : FrRd w v fs) (hu : Ext w w') : FrRd w' v fs := by
 obtain ⟨vs, h1, h2, h3⟩ := h
 exact ⟨vs, h1, h2.ext hu, fun i h h' => (h3 i h h').ext hu⟩
theorem FrMk.one {B e : Nat} {w : World} {v : Value} {fs : List Fr} (h : FrMk B e w v fs) : ∃ vs : List Value, vs.length = fs.length /\ w.ownsRow B e 2 v fs.length (frCells fs vs) := by
 obtain ⟨vs, h1, -, h3, -⟩ := h; exact ⟨vs, h1, h3⟩
theorem bytes_low {S : Nat -> Prop} {w : World} {v : Value} {l : List UInt8} (h : Bytes S w v l) : Bytes (fun k => S k /\ k < w.heap.size) w v l := by
 by_cases h0 : l = []
 ·subst h0
  obtain ⟨a, c, rfl, h1, h2, h3, h4, h5⟩ := h
  exact ⟨a, c, rfl, h1, h2, h3, fun x e g => by simp at g, h5⟩
 ·exact h.lt (by simpa using List.length_pos_iff.2 h0)
theorem FrMk.push {B e : Nat} {w w2 w3 : World} {v v' vb : Value} {fs : List Fr} {f : Fr} {vs : List Value} {S : Nat -> Prop} (h1 : vs.length = fs.length) (h2 : ∀ u ∈ vs, u.oneCell' = true) (_h3 : w.ownsRow B e 2 v fs.length (frCells fs vs))
  (h4 : ∀ i (h : i < fs.length) (h' : i < vs.length), ∃ S : Nat -> Prop, (∀ k, S k -> k < w.heap.size /\ v.ownBlock ≠ some k) /\ Bytes S w vs[i] fs[i].2)
  (hb : Bytes S w vb f.2) (hS : ∀ k, S k -> v.ownBlock ≠ some k) (ho : vb.oneCell' = true) (hx : Ext w w2) (hg : w2.grownBy w3 v.ownBlock) (hown : w3.ownsRow B e 2 v' (fs.length + 1) (frCells fs vs ++ [u8 f.1, vb])) (hv' : ∀ k, v'.ownBlock = some k -> v.ownBlock = some k \/ w2.heap.size <= k) : FrMk B e w3 v' (fs ++ [f]) := by
 have hU := grownUpd hg
 have key : ∀ {u : Value} {l : List UInt8} {T : Nat -> Prop}, (∀ k, T k -> k < w.heap.size /\ v.ownBlock ≠ some k) -> Bytes T w u l -> ∃ S : Nat -> Prop, (∀ k, S k -> k < w3.heap.size /\ v'.ownBlock ≠ some k) /\ Bytes S w3 u l := by
  intro u l T hT hb
  refine ⟨T, fun k hk => ⟨Nat.lt_of_lt_of_le (hT k hk).1 (Nat.le_trans hx.size hU.size), fun e => ?_⟩, (hb.ext hx).upd hU (fun k hk e => (hT k hk).2 e)⟩
  rcases hv' k e with h | h
  ·exact (hT k hk).2 h
  ·have := (hT k hk).1; have := hx.size; omega
 refine ⟨vs ++ [vb], by simp [h1], fun u hu => ?_, by rw [List.length_append, List.length_singleton, frCells_snoc h1]; exact hown, fun i h h' => ?_⟩
 ·rcases List.mem_append.1 hu with hu | hu
  ·exact h2 u hu
  ·rw [List.mem_singleton.1 hu]; exact ho
 ·rw [List.length_append, List.length_singleton] at h
  by_cases hi : i < fs.length
  ·obtain ⟨T, q1, q2⟩ := h4 i hi (by omega)
   rw [List.getElem_append_left (by omega), List.getElem_append_left hi]
   exact key q1 q2
  ·have : i = fs.length := by omega
   subst this
   rw [List.getElem_append_right (by omega), List.getElem_append_right (by omega)]
   simp only [h1, Nat.sub_self, List.getElem_cons_zero]
   exact key (fun k hk => ⟨hk.2, hS k hk.1⟩) (bytes_low hb)
theorem wpList_append_one {P : Program} {w : World} {ops : Array Oper} {rest : List Oper} {o : Oper} {a : Act} {Q : Exit -> Act -> World -> Prop} (hgd : o.guard = none) (s x : Operand) (t : TypeId) (ho : o.op = .call { callee := .builtin .append, args := #[s, x], argTypes := #[t, t] })
  {base e size bytes : Nat} (T : SliceT P t e size bytes) {v : Value} {n : Nat} {xs : List Value} (hs : a.eval s = v) (hown : w.ownsRow base e size v n xs)
  {b : Nat} {cs : Array Value} {ty : TypeId} {fr : Nat × Nat} {c : Nat} (hx : a.eval x = .slice (some ⟨b, 0, none⟩) 1 c) (hb : w.heap[b]? = some (.cells cs ty fr)) (hl : cs.size = size) (h1 : AllOne cs)
  (h63 : n + 1 <= maxLen) (hbytes : (n + 1) * bytes <= 140737488355328) (hbase : base <= w.heap.size)
  (h : ∀ g cap w', w'.ownsRow base e size (.slice (some ⟨g, 0, none⟩) (n + 1) cap) (n + 1) (xs ++ cs.toList) -> w.grownBy w' v.ownBlock -> (v.ownBlock = some g \/ g = w.heap.size) -> wpList P ops Q rest (a.put o.dst (.slice (some ⟨g, 0, none⟩) (n + 1) cap)) w') : wpList P ops Q (o :: rest) a w := by
 obtain ⟨hu, ⟨i, z, hi, hz, h2, h3, h4⟩, hp⟩ := T
 refine wpList_append_lies w hgd s x t ho base e i z size bytes hu hi hz h2 h3 h4 hp v n xs hs hown ⟨b, 0, none⟩ 1 c cs.toList hx (by simp [hl]) (fun j u hj => ?_) (fun u hu => ?_) (by omega) h63 hbytes hbase _ rfl fun g cap w' q1 q2 q3 _ => h g cap w' q1 q2 q3
 ·rw [show (⟨b, 0, none⟩ : Addr).add j = ⟨b, 0 + j, none⟩ from by unfold Addr.add; split <;> simp_all, Nat.zero_add]
  exact cZ hb j u (by simpa using hj)
 ·unfold AllOne at h1
  rw [Array.all_eq_true] at h1
  obtain ⟨k, hk, rfl⟩ := List.getElem_of_mem hu
  simpa using h1 k (by simpa using hk)
theorem Tryz.frsT : SliceT Tryz.prog 255 258 2 32 := sliceT_of Tryz.underlying255 (by kernel_rfl) (by decide)
abbrev frV (k : UInt8) (x : Value) : Array Value := #[u8 k, x]
abbrev b8 (k : UInt8) : Value := u8 k
def AllPost (w : World) (l : List UInt8) (e : Ending) (w' : World) : Prop := ∃ fs p v, e = .returned (.tuple #[v, .int .i64 ((p : Nat) : Int)]) /\ Pre l fs p /\ takeFr (l.drop p) = none /\ FrRd w' v fs /\ Ext w w'
theorem fall_any {S : Nat -> Prop} (w : World) (v : Value) (l : List UInt8) (h : Bytes S w v l) (hl : l.length <= 1000000) :
  Calls Tryz.prog 144 #[v] w (AllPost w l) := by
 have H := zq h
 obtain ⟨a, c, rfl, hn, hm, -⟩ := h
 go_enter Tryz.func144, Tryz.ntmps144
 go_wp2
 go_step3
 go_wp2
 go_step3
 go_wp2
 go_loopw [2, 3] (fun r x wr => ∃ (p : Nat) (fs : List Fr), x = .int .i64 (p : Int) /\ Hid (Pre l fs p) /\ p <= l.length /\ Hid (FrMk w.heap.size 258 wr r fs) /\ Hid (Ext w wr)) (fun _ x _ => l.length - (intOf x).toNat)
 case atStart => exact ⟨0, [], rfl, zq .nil, by omega, zq (FrMk.nil _ _ _), zq uZ⟩
 case round =>
  obtain ⟨p, fs, rfl, HP, hp, HM, HX⟩ := hrel
  have hps := HP.out.le
  go_wp2_with (go_at_call 158; fail)
  refine (ftake_any wr _ l (H.out.ext HX.out) p hp hl).mono ?_
  rintro e w2 ⟨hs, hnn, hx2⟩
  cases ht : takeFr (l.drop p) with
  | none =>
   obtain ⟨E, hE, rfl⟩ := hnn ht
   have hb : (E != 0) = true := by simpa using hE
   have HT := zq ht
   have HX2 := zq (HX.out.trans hx2)
   have HM2 := zq (HM.out.ext hx2)
   clear hs hnn hx2 hE ht
   have hnb := newAt w2 (.cells frZ 258)
   go_wp2_with (refine wpList_store_blk rfl _ _ _ rfl rfl (cells := frZ) rfl hnb (Tryz.frT (.int .u8 0) (.slice none 0 0)) rfl frZ_one ?_)
   (try rw [Exit.noGoto_ret])
   go_ret2
   have hx3 : Ext w2 ((w2.alloc (.cells frZ 258)).setRow w2.heap.size frZ) := (uZ.alloc _).step (T := At w2.heap.size) (Upd.row _ w2.heap.size _) (fun k hk e => by have e : k = w2.heap.size := e; omega)
   exact ⟨fs, p, _, rfl, HP.out, HT.out, (HM2.out.ext hx3).rd, HX2.out.trans hx3⟩
  | some q =>
   obtain ⟨k, b, n⟩ := q
   obtain ⟨vb, rfl, hb2⟩ := hs k b n ht
   obtain ⟨ab, cb, rfl, hbc, hbm, -⟩ := id hb2
   have HPS := zq (HP.out.snoc ht)
   obtain ⟨_, t4, t5, t6⟩ := takeFr_ok ht
   rw [frameF_len] at t4
   rw [List.length_drop] at t6
   obtain ⟨q, hq⟩ : ∃ q, q = p + n := ⟨_, rfl⟩
   rw [<- hq] at HPS ⊢
   have hql : q <= l.length := by omega
   have hpq : p < q := by omega
   obtain ⟨vs, m1, m2, m3, m4⟩ := HM.out.ext hx2
   have HB2 := zq hb2
   have hs2 := hx2.size
   have hs0 := HX.out.size
   have HX2 := zq (HX.out.trans hx2)
   have HM4 := zq m4
   have HM2 := zq m2
   have HM1 := zq m1
   have hfsl : fs.length <= 1000000 := by omega
   have hlow : Hid (∀ k, u2.ownBlock = some k -> k < wr.heap.size) := zq (by
    obtain ⟨_, _, _, z3, _⟩ := HM.out
    exact fun k hk => (z3.lt k hk).2)
   clear hs hnn hx2 t4 t5 t6 m4 m2 m1 hb2 hq ht
   obtain ⟨gb, hgb⟩ : ∃ gb, gb = w2.heap.size := ⟨_, rfl⟩
   have hnb : (w2.alloc (.cells frZ 258)).heap[gb]? = some (.cells frZ 258 (0, 0)) := by rw [hgb]; exact newAt _ _
   obtain ⟨w3, hw3⟩ : ∃ u, u = (w2.alloc (.cells frZ 258)).setRow gb (frV k (.slice ab b.length cb)) := ⟨_, rfl⟩
   have hx23 : Ext w2 w3 := by rw [hw3]; exact (uZ.alloc _).step (T := At gb) (Upd.row _ gb _) (fun k hk e => by have e : k = gb := e; omega)
   have hg3 : w3.heap[gb]? = some (.cells (frV k (.slice ab b.length cb)) 258 (0, 0)) := by rw [hw3]; exact setRow_heap _ _ _ _ _ _ hnb
   have HX23 := zq hx23
   have HG3 := zq hg3
   have HW3 := zq hw3
   have HGB := zq hgb
   clear hw3 hx23 hg3 hgb
   go_upto_region 2 with (refine wpList_store_blk rfl _ _ _ rfl rfl (cells := (frV k (.slice ab b.length cb))) rfl (g := w2.heap.size) (newAt w2 (.cells frZ 258)) (Tryz.frT (.int .u8 0) (.slice none 0 0)) rfl (frs_one k ab b.length cb) ?_)
   rw [show w2.heap.size = gb from HGB.out.symm]
   rw [show (w2.alloc (.cells frZ 258)).setRow gb (frV k (.slice ab b.length cb)) = w3 from HW3.out.symm]
   have hg3 := HG3.out
   have hown3 := HX23.out.ownsRow m3 (fun _ _ e => e)
   have hs3 := HX23.out.size
   go_wp2_with (first | (refine wpList_load_blk rfl _ _ rfl rfl hg3 (Tryz.frT (b8 k) (.slice ab b.length cb)) ?_) | (at_builtin; refine wpList_append_one rfl _ _ _ rfl Tryz.frsT rfl (hown3.alloc _) rfl (newAt _ _) rfl (frs_one k ab b.length cb) ?c3 ?c4 ?c5 ?_))
   case c3 => unfold maxLen; omega
   case c4 => omega
   case c5 => simp; omega
   intro g cap w4 hown4 hgr hlies
   go_wp2
   go_roundw
   case rel =>
    refine ⟨q, fs ++ [(k, b)], rfl, HPS, hql, zq ?_, zq ?_⟩
    ·exact FrMk.push HM1.out HM2.out m3 HM4.out HB2.out (fun k hk e => by have := hlow.out k e; have hk : wr.heap.size <= k := hk; omega) rfl (HX23.out.alloc _) hgr hown4 (fun j hj => by
      have e : j = g := by cases hj; rfl
      subst e
      exact hlies.imp id (fun e => by simp; omega))
    ·exact (HX2.out.trans (HX23.out.alloc _)).grown hgr (fun j hj hlt => by have := (m3.lt j hj).1; omega)
   case measure => simp [intOf]; omega
end Go.Proofs.YtnkmpoplibnflaaGreatDoor.Wk
set_option maxRecDepth 100000
set_option maxHeartbeats 16000000
namespace Go.Proofs.YtnkmpoplibnflaaGreatDoor.Wk
open Go Go.Proofs.YtnkmpoplibnflaaGreatDoor Go.RowKit
theorem Tryz.rfrsT : SliceT Tryz.prog 127 131 2 32 := sliceT_of Tryz.underlying127 (by kernel_rfl) (by decide)
theorem rfall_any {S : Nat -> Prop} (w : World) (v : Value) (l : List UInt8) (h : Bytes S w v l) (hl : l.length <= 1000000) :
  Calls Tryz.prog 58 #[v] w (AllPost w l) := by
 have H := zq h
 obtain ⟨a, c, rfl, hn, hm, -⟩ := h
 go_enter Tryz.func58, Tryz.ntmps58
 go_wp2
 go_loopw [4, 5] (fun r x wr => ∃ (p : Nat) (fs : List Fr), x = .int .i64 (p : Int) /\ Hid (Pre l fs p) /\ p <= l.length /\ Hid (FrMk w.heap.size 131 wr r fs) /\ Hid (Ext w wr)) (fun _ x _ => l.length - (intOf x).toNat)
 case atStart => exact ⟨0, [], rfl, zq .nil, by omega, zq (FrMk.nil _ _ _), zq uZ⟩
 case round =>
  obtain ⟨p, fs, rfl, HP, hp, HM, HX⟩ := hrel
  have hps := HP.out.le
  by_cases hpl : p < l.length
  case neg =>
   have HT := zq (show takeFr (l.drop p) = none by rw [List.drop_of_length_le (by omega)]; rfl)
   go_wp2
   go_ret2
   exact ⟨fs, p, _, rfl, HP.out, HT.out, HM.out.rd, HX.out⟩
  go_wp2_with (go_at_call 68; fail)
  refine (rftake_any wr _ l (H.out.ext HX.out) p hp hl).mono ?_
  rintro e w2 ⟨hs, hnn, hx2⟩
  cases ht : takeFr (l.drop p) with
  | none =>
   obtain ⟨E, hE, rfl⟩ := hnn ht
   have hb : (E != 0) = true := by simpa using hE
   have HT := zq ht
   have HX2 := zq (HX.out.trans hx2)
   have HM2 := zq (HM.out.ext hx2)
   clear hs hnn hx2 hE ht
   have hnb := newAt w2 (.cells frZ 131)
   go_wp2_with (refine wpList_store_blk rfl _ _ _ rfl rfl (cells := frZ) rfl hnb (Tryz.rfrT (.int .u8 0) (.slice none 0 0)) rfl frZ_one ?_)
   (try rw [Exit.noGoto_ret])
   go_ret2
   have hx3 : Ext w2 ((w2.alloc (.cells frZ 131)).setRow w2.heap.size frZ) := (uZ.alloc _).step (T := At w2.heap.size) (Upd.row _ w2.heap.size _) (fun k hk e => by have e : k = w2.heap.size := e; omega)
   exact ⟨fs, p, _, rfl, HP.out, HT.out, (HM2.out.ext hx3).rd, HX2.out.trans hx3⟩
  | some q =>
   obtain ⟨k, b, n⟩ := q
   obtain ⟨vb, rfl, hb2⟩ := hs k b n ht
   obtain ⟨ab, cb, rfl, hbc, hbm, -⟩ := id hb2
   have HPS := zq (HP.out.snoc ht)
   obtain ⟨_, t4, t5, t6⟩ := takeFr_ok ht
   rw [frameF_len] at t4
   rw [List.length_drop] at t6
   obtain ⟨q, hq⟩ : ∃ q, q = p + n := ⟨_, rfl⟩
   rw [<- hq] at HPS ⊢
   have hql : q <= l.length := by omega
   have hpq : p < q := by omega
   obtain ⟨vs, m1, m2, m3, m4⟩ := HM.out.ext hx2
   have HB2 := zq hb2
   have hs2 := hx2.size
   have hs0 := HX.out.size
   have HX2 := zq (HX.out.trans hx2)
   have HM4 := zq m4
   have HM2 := zq m2
   have HM1 := zq m1
   have hfsl : fs.length <= 1000000 := by omega
   have hlow : Hid (∀ k, u4.ownBlock = some k -> k < wr.heap.size) := zq (by
    obtain ⟨_, _, _, z3, _⟩ := HM.out
    exact fun k hk => (z3.lt k hk).2)
   clear hs hnn hx2 t4 t5 t6 m4 m2 m1 hb2 hq ht
   obtain ⟨gb, hgb⟩ : ∃ gb, gb = w2.heap.size := ⟨_, rfl⟩
   have hnb : (w2.alloc (.cells frZ 131)).heap[gb]? = some (.cells frZ 131 (0, 0)) := by rw [hgb]; exact newAt _ _
   obtain ⟨w3, hw3⟩ : ∃ u, u = (w2.alloc (.cells frZ 131)).setRow gb (frV k (.slice ab b.length cb)) := ⟨_, rfl⟩
   have hx23 : Ext w2 w3 := by rw [hw3]; exact (uZ.alloc _).step (T := At gb) (Upd.row _ gb _) (fun k hk e => by have e : k = gb := e; omega)
   have hg3 : w3.heap[gb]? = some (.cells (frV k (.slice ab b.length cb)) 131 (0, 0)) := by rw [hw3]; exact setRow_heap _ _ _ _ _ _ hnb
   have HX23 := zq hx23
   have HG3 := zq hg3
   have HW3 := zq hw3
   have HGB := zq hgb
   clear hw3 hx23 hg3 hgb
   go_upto_region 5 with (refine wpList_store_blk rfl _ _ _ rfl rfl (cells := (frV k (.slice ab b.length cb))) rfl (g := w2.heap.size) (newAt w2 (.cells frZ 131)) (Tryz.rfrT (.int .u8 0) (.slice none 0 0)) rfl (frs_one k ab b.length cb) ?_)
   rw [show w2.heap.size = gb from HGB.out.symm]
   rw [show (w2.alloc (.cells frZ 131)).setRow gb (frV k (.slice ab b.length cb)) = w3 from HW3.out.symm]
   have hg3 := HG3.out
   have hown3 := HX23.out.ownsRow m3 (fun _ _ e => e)
   have hs3 := HX23.out.size
   go_wp2_with (first | (refine wpList_load_blk rfl _ _ rfl rfl hg3 (Tryz.rfrT (b8 k) (.slice ab b.length cb)) ?_) | (at_builtin; refine wpList_append_one rfl _ _ _ rfl Tryz.rfrsT rfl (hown3.alloc _) rfl (newAt _ _) rfl (frs_one k ab b.length cb) ?c3 ?c4 ?c5 ?_))
   case c3 => unfold maxLen; omega
   case c4 => omega
   case c5 => simp; omega
   intro g cap w4 hown4 hgr hlies
   go_wp2
   go_roundw
   case rel =>
    refine ⟨q, fs ++ [(k, b)], rfl, HPS, hql, zq ?_, zq ?_⟩
    ·exact FrMk.push HM1.out HM2.out m3 HM4.out HB2.out (fun k hk e => by have := hlow.out k e; have hk : wr.heap.size <= k := hk; omega) rfl (HX23.out.alloc _) hgr hown4 (fun j hj => by
      have e : j = g := by cases hj; rfl
      subst e
      exact hlies.imp id (fun e => by simp; omega))
    ·exact (HX2.out.trans (HX23.out.alloc _)).grown hgr (fun j hj hlt => by have := (m3.lt j hj).1; omega)
   case measure => simp [intOf]; omega
end Go.Proofs.YtnkmpoplibnflaaGreatDoor.Wk
set_option maxRecDepth 100000
set_option maxHeartbeats 16000000
namespace Go.Proofs.YtnkmpoplibnflaaGreatDoor.Wk
open Go Go.Proofs.YtnkmpoplibnflaaGreatDoor Go.RowKit
def numO (l : List UInt8) (p : Nat) : Option (Nat × Nat) := if (numF (l.drop p)).1 = 0 then some ((numF (l.drop p)).2.1, p + (numF (l.drop p)).2.2) else none
def textO (l : List UInt8) (p : Nat) : Option (List UInt8 × Nat) := if (textF (l.drop p)).1 = 0 then some ((textF (l.drop p)).2.1, p + (textF (l.drop p)).2.2) else none
def manyO {α : Type} (f : Nat -> Option (α × Nat)) : Nat -> Nat -> Option (List α × Nat)
 | 0, p => some ([], p)
 | k + 1, p => match f p with
  | none => none
  | some (x, q) => match manyO f k q with
   | none => none
   | some (xs, r) => some (x :: xs, r)
theorem manyO_step {α : Type} {f : Nat -> Option (α × Nat)} {k p q : Nat} {x : α} (h : f p = some (x, q)) : manyO f (k + 1) p = (manyO f k q).map (fun r => (x :: r.1, r.2)) := by
 simp only [manyO, h]
 cases manyO f k q <;> rfl
theorem manyO_bad {α : Type} {f : Nat -> Option (α × Nat)} {k p : Nat} (h : f p = none) : manyO f (k + 1) p = none := by rw [manyO, h]
def joinO {α : Type} (dn : List α) (r : Option (List α × Nat)) : Option (List α × Nat) := r.map fun r => (dn ++ r.1, r.2)
theorem joinO_nil {α : Type} (r : Option (List α × Nat)) : joinO [] r = r := by cases r <;> rfl
theorem joinO_step {α : Type} {f : Nat -> Option (α × Nat)} {k p q : Nat} {x : α} {dn : List α} (h : f p = some (x, q)) : joinO dn (manyO f (k + 1) p) = joinO (dn ++ [x]) (manyO f k q) := by
 rw [manyO_step h]
 cases manyO f k q <;> simp [joinO]
theorem joinO_bad {α : Type} {f : Nat -> Option (α × Nat)} {k p : Nat} {dn : List α} (h : f p = none) : joinO dn (manyO f (k + 1) p) = none := by rw [manyO_bad h]; rfl
theorem joinO_done {α : Type} {f : Nat -> Option (α × Nat)} {p : Nat} {dn : List α} : joinO dn (manyO f 0 p) = some (dn, p) := by simp [manyO, joinO]
abbrev Tr := Nat × Nat × Nat
def tripO (l : List UInt8) (p : Nat) : Option (Tr × Nat) := match manyO (numO l) 3 p with
 | some ([x, y, z], q) => some ((x, y, z), q)
 | _ => none
structure Reads {α : Type} (l : List UInt8) (f : Nat -> Option (α × Nat)) (enc : α -> List UInt8) : Prop where
 ok : ∀ {p x q}, p <= l.length -> f p = some (x, q) -> l.drop p = enc x ++ l.drop q /\ p < q /\ q <= l.length
theorem num_reads (l : List UInt8) : Reads l (numO l) vput := ⟨fun {p x q} hp h => by
 unfold numO at h
 split at h
 ·rename_i h0
  obtain ⟨-, n2, n3, n4⟩ := numF_ok h0
  simp only [Option.some.injEq, Prod.mk.injEq] at h
  obtain ⟨rfl, rfl⟩ := h
  have := vput_len1 (numF (l.drop p)).2.1
  rw [List.length_drop] at n4
  refine ⟨?_, by omega, by omega⟩
  rw [List.drop_drop] at n3
  exact n3
 ·cases h⟩
theorem num_lt {l : List UInt8} {p x q : Nat} (h : numO l p = some (x, q)) : x < 18446744073709551616 := by
 unfold numO at h
 split at h
 ·rename_i h0
  obtain ⟨n1, -, -, -⟩ := numF_ok h0
  simp only [Option.some.injEq, Prod.mk.injEq] at h
  obtain ⟨rfl, -⟩ := h
  exact n1
 ·cases h
theorem text_reads (l : List UInt8) : Reads l (textO l) vtext := ⟨fun {p x q} hp h => by
 unfold textO at h
 split at h
 ·rename_i h0
  obtain ⟨-, n2, n3, n4⟩ := textF_ok h0
  simp only [Option.some.injEq, Prod.mk.injEq] at h
  obtain ⟨rfl, rfl⟩ := h
  have h1 : 1 <= (vtext (textF (l.drop p)).2.1).length := by unfold vtext; rw [List.length_append]; have := vput_len1 (textF (l.drop p)).2.1.length; omega
  rw [List.length_drop] at n4
  refine ⟨?_, by omega, by omega⟩
  rw [List.drop_drop] at n3
  exact n3
 ·cases h⟩
theorem text_len {l : List UInt8} {p : Nat} {x : List UInt8} {q : Nat} (hp : p <= l.length) (h : textO l p = some (x, q)) : x.length <= l.length := by
 obtain ⟨h1, -, h3⟩ := (text_reads l).ok hp h
 have := congrArg List.length h1
 simp [vtext] at this; omega
theorem Reads.many {α : Type} {l : List UInt8} {f : Nat -> Option (α × Nat)} {enc : α -> List UInt8} (h : Reads l f enc) : ∀ {k p : Nat} {xs : List α} {q : Nat}, p <= l.length -> manyO f k p = some (xs, q) -> l.drop p = (xs.map enc).flatten ++ l.drop q /\ p <= q /\ q <= l.length /\ xs.length = k /\ k + p <= q
 | 0, p, xs, q, hp, e => by
  simp only [manyO, Option.some.injEq, Prod.mk.injEq] at e
  obtain ⟨rfl, rfl⟩ := e
  simp [hp]
 | k + 1, p, xs, q, hp, e => by
  unfold manyO at e
  split at e
  ·cases e
  ·rename_i x r hf
   split at e
   ·cases e
   ·rename_i ys s hm
    simp only [Option.some.injEq, Prod.mk.injEq] at e
    obtain ⟨rfl, rfl⟩ := e
    obtain ⟨h1, h2, h3⟩ := h.ok hp hf
    obtain ⟨g1, g2, g3, g4, g5⟩ := h.many h3 hm
    refine ⟨by rw [h1, g1]; simp, by omega, g3, by simp [g4], by omega⟩
def encTr (t : Tr) : List UInt8 := vput t.1 ++ (vput t.2.1 ++ vput t.2.2)
theorem tripO_ok {l : List UInt8} {p q : Nat} {t : Tr} (h : tripO l p = some (t, q)) : manyO (numO l) 3 p = some ([t.1, t.2.1, t.2.2], q) := by
 unfold tripO at h
 split at h
 ·rename_i x y z r hm
  simp only [Option.some.injEq, Prod.mk.injEq] at h
  obtain ⟨rfl, rfl⟩ := h
  exact hm
 ·cases h
theorem trip_reads (l : List UInt8) : Reads l (tripO l) encTr := ⟨fun {p x q} hp h => by
 obtain ⟨h1, h2, h3, -, h5⟩ := (num_reads l).many hp (tripO_ok h)
 exact ⟨by rw [h1]; simp [encTr], by omega, h3⟩⟩
theorem manyO_len {α : Type} {f : Nat -> Option (α × Nat)} : ∀ {k p : Nat} {xs : List α} {q : Nat}, manyO f k p = some (xs, q) -> xs.length = k
 | 0, p, xs, q, e => by simp only [manyO, Option.some.injEq, Prod.mk.injEq] at e; obtain ⟨rfl, rfl⟩ := e; rfl
 | k + 1, p, xs, q, e => by
  unfold manyO at e
  split at e
  ·cases e
  ·split at e
   ·cases e
   ·rename_i ys s hm
    simp only [Option.some.injEq, Prod.mk.injEq] at e
    obtain ⟨rfl, rfl⟩ := e
    simp [manyO_len hm]
theorem manyO_all {α : Type} {f : Nat -> Option (α × Nat)} {P : α -> Prop} (h : ∀ {p x q}, f p = some (x, q) -> P x) : ∀ {k p : Nat} {xs : List α} {q : Nat}, manyO f k p = some (xs, q) -> ∀ x ∈ xs, P x
 | 0, p, xs, q, e => by simp only [manyO, Option.some.injEq, Prod.mk.injEq] at e; obtain ⟨rfl, rfl⟩ := e; simp
 | k + 1, p, xs, q, e => by
  unfold manyO at e
  split at e
  ·cases e
  ·rename_i x r hf
   split at e
   ·cases e
   ·rename_i ys s hm
    simp only [Option.some.injEq, Prod.mk.injEq] at e
    obtain ⟨rfl, rfl⟩ := e
    intro u hu
    rcases List.mem_cons.1 hu with rfl | hu
    ·exact h hf
    ·exact manyO_all h hm u hu
theorem tripO_none {l : List UInt8} {p : Nat} (h : tripO l p = none) : manyO (numO l) 3 p = none := by
 unfold tripO at h
 split at h
 ·cases h
 ·rename_i hn
  cases hm : manyO (numO l) 3 p with
  | none => rfl
  | some r =>
   obtain ⟨xs, q⟩ := r
   have := manyO_len hm
   match xs, this with
   | [x, y, z], _ => exact absurd hm (hn x y z q)
/-! ### the catalog -/
abbrev Ent := List UInt8 × Nat
def entO (l : List UInt8) (p : Nat) : Option (Ent × Nat) := match textO l p with
 | none => none
 | some (s, q) => match numO l q with
  | none => none
  | some (n, r) => some ((s, n), r)
def encEnt (e : Ent) : List UInt8 := vtext e.1 ++ vput e.2
theorem ent_reads (l : List UInt8) : Reads l (entO l) encEnt := ⟨fun {p x q} hp h => by
 unfold entO at h
 split at h
 ·cases h
 ·rename_i s r h1
  split at h
  ·cases h
  ·rename_i n r2 h2
   simp only [Option.some.injEq, Prod.mk.injEq] at h
   obtain ⟨rfl, rfl⟩ := h
   obtain ⟨a1, a2, a3⟩ := (text_reads l).ok hp h1
   obtain ⟨b1, b2, b3⟩ := (num_reads l).ok a3 h2
   exact ⟨by rw [a1, b1]; simp [encEnt], by omega, b3⟩⟩
def nameOk (s : List UInt8) : Bool := decide (1 <= s.length) && decide (s.length <= 64)
def catRight : List Ent -> Bool
 | es => es.all (fun e => nameOk e.1 && decide (e.2 ≠ 0)) && decide (es.Pairwise fun a b => a.1 < b.1 /\ a.2 ≠ b.2)
def encCat (es : List Ent) : List UInt8 := vput es.length ++ (es.map encEnt).flatten
def catO (l : List UInt8) : Option (List Ent) := match numO l 0 with
 | none => none
 | some (n, p) => match manyO (entO l) n p with
  | none => none
  | some (es, q) => if q = l.length /\ catRight es = true then some es else none
theorem catO_ok {l : List UInt8} {es : List Ent} (h : catO l = some es) : encCat es = l /\ catRight es = true := by
 unfold catO at h
 split at h
 ·cases h
 ·rename_i n p h1
  split at h
  ·cases h
  ·rename_i xs q h2
   split at h
   ·rename_i h3
    cases h
    obtain ⟨a1, a2, a3⟩ := (num_reads l).ok (Nat.zero_le _) h1
    obtain ⟨b1, b2, b3, b4, b5⟩ := (ent_reads l).many a3 h2
    refine ⟨?_, h3.2⟩
    rw [List.drop_zero] at a1
    rw [encCat, b4]
    rw [b1, h3.1, List.drop_length, List.append_nil] at a1
    exact a1.symm
   ·cases h
/-! ### a document -/
abbrev Ver := Nat × List UInt8
def verO (l : List UInt8) (p : Nat) : Option (Ver × Nat) := match numO l p with
 | none => none
 | some (n, q) => match textO l q with
  | none => none
  | some (s, r) => some ((n, s), r)
def encVer (e : Ver) : List UInt8 := vput e.1 ++ vtext e.2
theorem ver_reads (l : List UInt8) : Reads l (verO l) encVer := ⟨fun {p x q} hp h => by
 unfold verO at h
 split at h
 ·cases h
 ·rename_i s r h1
  split at h
  ·cases h
  ·rename_i n r2 h2
   simp only [Option.some.injEq, Prod.mk.injEq] at h
   obtain ⟨rfl, rfl⟩ := h
   obtain ⟨a1, a2, a3⟩ := (num_reads l).ok hp h1
   obtain ⟨b1, b2, b3⟩ := (text_reads l).ok a3 h2
   exact ⟨by rw [a1, b1]; simp [encVer], by omega, b3⟩⟩
def riseN : Nat -> List Nat -> Bool
 | _, [] => true
 | n, x :: r => decide (n < x) && riseN x r
def verRight (vs : List Ver) : Bool := riseN 0 (vs.map (·.1))
def encVers (vs : List Ver) : List UInt8 := vput vs.length ++ (vs.map encVer).flatten
def versO (l : List UInt8) : Option (List Ver) := match numO l 0 with
 | none => none
 | some (n, p) => match manyO (verO l) n p with
  | none => none
  | some (es, q) => if q = l.length /\ verRight es = true then some es else none
theorem versO_ok {l : List UInt8} {es : List Ver} (h : versO l = some es) : encVers es = l /\ verRight es = true := by
 unfold versO at h
 split at h
 ·cases h
 ·rename_i n p h1
  split at h
  ·cases h
  ·rename_i xs q h2
   split at h
   ·rename_i h3
    cases h
    obtain ⟨a1, a2, a3⟩ := (num_reads l).ok (Nat.zero_le _) h1
    obtain ⟨b1, b2, b3, b4, b5⟩ := (ver_reads l).many a3 h2
    refine ⟨?_, h3.2⟩
    rw [List.drop_zero] at a1
    rw [encVers, b4]
    rw [b1, h3.1, List.drop_length, List.append_nil] at a1
    exact a1.symm
   ·cases h
def riseT : List Tr -> Bool
 | [] => true
 | [_] => true
 | a :: b :: r => decide (a.1 < b.1) && riseT (b :: r)
def encPins (ps : List Tr) : List UInt8 := vput ps.length ++ (ps.map encTr).flatten
def pinsO (l : List UInt8) (p : Nat) : Option (List Tr × Nat) := match numO l p with
 | none => none
 | some (n, q) => match manyO (tripO l) n q with
  | none => none
  | some (ps, r) => if riseT ps = true then some (ps, r) else none
theorem pins_reads (l : List UInt8) : Reads l (pinsO l) encPins := ⟨fun {p x q} hp h => by
 unfold pinsO at h
 split at h
 ·cases h
 ·rename_i n r h1
  split at h
  ·cases h
  ·rename_i ps r2 h2
   split at h
   ·simp only [Option.some.injEq, Prod.mk.injEq] at h
    obtain ⟨rfl, rfl⟩ := h
    obtain ⟨a1, a2, a3⟩ := (num_reads l).ok hp h1
    obtain ⟨b1, b2, b3, b4, b5⟩ := (trip_reads l).many a3 h2
    exact ⟨by rw [a1, b1, encPins, b4, List.append_assoc], by omega, b3⟩
   ·cases h⟩
structure DocP where
 epoch : Nat
 proc : Nat
 inc : Nat
 until_ : Nat
 held : Nat
 sealed_ : Nat
 pins : List Tr
 vers : List Ver
def DocP.nums (d : DocP) : List Nat := [d.epoch, d.proc, d.inc, d.until_, d.held, d.sealed_]
def encDoc (d : DocP) : List UInt8 := vputs d.nums ++ (encPins d.pins ++ vtext (encVers d.vers))
def docO (l : List UInt8) : Option DocP := match manyO (numO l) 6 0 with
 | some ([a, b, c, d, e, f], p) => match pinsO l p with
  | none => none
  | some (ps, q) => if e <= 1 /\ f <= 1 then (match textO l q with
   | none => none
   | some (s, r) => if r = l.length then (match versO s with
    | none => none
    | some vs => some ⟨a, b, c, d, e, f, ps, vs⟩) else none) else none
 | _ => none
theorem docO_ok {l : List UInt8} {d : DocP} (h : docO l = some d) : encDoc d = l /\ d.held <= 1 /\ d.sealed_ <= 1 /\ riseT d.pins = true /\ verRight d.vers = true := by
 unfold docO at h
 split at h
 ·rename_i a b c d' e f p h1
  split at h
  ·cases h
  ·rename_i ps q h2
   split at h
   ·rename_i h3
    split at h
    ·cases h
    ·rename_i s r h4
     split at h
     ·rename_i h5
      split at h
      ·cases h
      ·rename_i vs h6
       cases h
       obtain ⟨a1, a2, a3, a4, a5⟩ := (num_reads l).many (Nat.zero_le _) h1
       obtain ⟨b1, b2, b3⟩ := (pins_reads l).ok a3 h2
       obtain ⟨c1, c2, c3⟩ := (text_reads l).ok b3 h4
       obtain ⟨d1, d2⟩ := versO_ok h6
       have hr : riseT ps = true := by
        unfold pinsO at h2
        split at h2
        ·cases h2
        ·split at h2
         ·cases h2
         ·split at h2
          ·rename_i hh
           simp only [Option.some.injEq, Prod.mk.injEq] at h2
           rw [<- h2.1]; exact hh
          ·cases h2
       refine ⟨?_, h3.1, h3.2, hr, d2⟩
       rw [List.drop_zero, b1, c1, h5, List.drop_length, List.append_nil] at a1
       unfold encDoc DocP.nums vputs
       dsimp only
       rw [d1]
       exact a1.symm
     ·cases h
   ·cases h
 ·cases h
/-! ### a state -/
inductive Cont
 | cat (es : List Ent)
 | doc (d : DocP)
structure StP where
 chain : Nat
 tail : Nat
 last : List Tr
 cont : Cont
def encCont : Cont -> List UInt8
 | .cat es => encCat es
 | .doc d => encDoc d
def encSt (x : StP) : List UInt8 := vputs [x.chain, x.tail, x.last.length] ++ ((x.last.map encTr).flatten ++ encCont x.cont)
def stO (l : List UInt8) : Option StP := match manyO (numO l) 3 0 with
 | some ([a, b, c], p) => match manyO (tripO l) c p with
  | none => none
  | some (ts, q) => if a = 0 then (catO (l.drop q)).map (fun es => ⟨a, b, ts, .cat es⟩) else (docO (l.drop q)).map (fun d => ⟨a, b, ts, .doc d⟩)
 | _ => none
theorem stO_ok {l : List UInt8} {x : StP} (h : stO l = some x) : encSt x = l /\ (x.chain = 0 -> ∃ es, x.cont = .cat es /\ catRight es = true) /\ (x.chain ≠ 0 -> ∃ d, x.cont = .doc d /\ d.held <= 1 /\ d.sealed_ <= 1 /\ riseT d.pins = true /\ verRight d.vers = true) := by
 unfold stO at h
 split at h
 ·rename_i a b c p h1
  split at h
  ·cases h
  ·rename_i ts q h2
   obtain ⟨a1, a2, a3, a4, a5⟩ := (num_reads l).many (Nat.zero_le _) h1
   obtain ⟨b1, b2, b3, b4, b5⟩ := (trip_reads l).many a3 h2
   rw [List.drop_zero, b1] at a1
   split at h
   ·rename_i h0
    obtain ⟨es, he, rfl⟩ := Option.map_eq_some_iff.1 h
    obtain ⟨c1, c2⟩ := catO_ok he
    refine ⟨?_, fun _ => ⟨es, rfl, c2⟩, fun h => absurd h0 h⟩
    unfold encSt encCont
    dsimp only
    rw [c1, b4]
    exact a1.symm
   ·rename_i h0
    obtain ⟨d, he, rfl⟩ := Option.map_eq_some_iff.1 h
    obtain ⟨c1, c2⟩ := docO_ok he
    refine ⟨?_, fun h => absurd h h0, fun _ => ⟨d, rfl, c2⟩⟩
    unfold encSt encCont
    dsimp only
    rw [c1, b4]
    exact a1.symm
 ·cases h
def trLt (a b : Tr) : Bool := decide (a.1 < b.1) || (decide (a.1 = b.1) && decide (a.2.1 < b.2.1))
def riseL : List Tr -> Bool
 | [] => true
 | [_] => true
 | a :: b :: r => trLt a b && riseL (b :: r)
def baseO (b : List UInt8) : StP -> Prop := fun x => ∃ body, b = frameF 12 body /\ stO body = some x /\ riseL x.last = true
end Go.Proofs.YtnkmpoplibnflaaGreatDoor.Wk
