/-
  CONTRACT of doc's Parse. Condition: at most 1000000 bytes.
  CONTRACTS of cmp.Compare at uint64, and cmp.Or at int. No condition.
-/
import Derived.Test.YtnkmpoplibnflaaGreatDoorGAP
import Derived.Test.YtnkmpoplibnflaaGreatDoorGAQ
import Derived.Lib.ConvBytes
import Derived.Test.YtnkmpoplibnflaaGreatDoorGAA
set_option maxRecDepth 100000
set_option maxHeartbeats 16000000
namespace Go.Proofs.YtnkmpoplibnflaaGreatDoor.Wk
open Go Go.Proofs.YtnkmpoplibnflaaGreatDoor Go.RowKit
def docC (e0 e1 e2 e3 : Nat) (hd sd : Bool) (pa va : Option Addr) (pn pc vn vc : Nat) : Array Value := #[.int .u64 (e0 : Int), .int .u64 (e1 : Int), .int .u64 (e2 : Int), .int .u64 (e3 : Int), .bool hd, .slice pa pn pc, .slice va vn vc, .bool sd]
def docZ : Array Value := #[.int .u64 0, .int .u64 0, .int .u64 0, .int .u64 0, .bool false, .slice none 0 0, .slice none 0 0, .bool false]
theorem docZ_one : AllOne docZ := by simp [AllOne, docZ, Value.oneCell']
theorem docZ_is : docZ = docC 0 0 0 0 false false none none 0 0 0 0 := rfl
theorem Tryz.docT : StructT Tryz.prog 209 docZ.size := ⟨_, Tryz.underlying209, rfl, by kernel_rfl⟩
def DocPost (w : World) (l : List UInt8) (e : Ending) (w' : World) : Prop := ∃ (E : Int) (e0 e1 e2 e3 : Nat) (hd sd : Bool) (pa va : Option Addr) (pn pc vn vc : Nat),
 e = .returned (.tuple #[.agg (docC e0 e1 e2 e3 hd sd pa va pn pc vn vc), .int .i64 E]) /\ (E = 0 -> docO l ≠ none) /\ (E ≠ 0 -> docO l = none) /\ Ext w w'
theorem docPost_bad {w w' : World} {l : List UInt8} (E : Int) (hE : E ≠ 0) (h : docO l = none) (hx : Ext w w') : DocPost w l (.returned (.tuple #[.agg docZ, .int .i64 E])) w' :=
 ⟨E, 0, 0, 0, 0, false, false, none, none, 0, 0, 0, 0, by rw [docZ_is], fun e => absurd e hE, fun _ => h, hx⟩
theorem conv_text {P : Program} (w : World) (es : List UInt8) {src dst e : TypeId} (hs : P.underlying src = some .string) (hd : P.underlying dst = some (.slice e)) (he : P.underlying e = some (.int .u8)) (hl : es.length <= maxLen) :
  ∃ (gc : Nat) (wb : World), (convert src dst (str es)).run P w = .ok (.slice (some ⟨w.heap.size, 0, none⟩) es.length gc) wb /\ Bytes (From w.heap.size) wb (.slice (some ⟨w.heap.size, 0, none⟩) es.length gc) es /\ Ext w wb := by
 have h := Lib.run_convert_string_bytes (P := P) w src dst e ⟨es.toArray⟩ hs hd he
 have hsz : (⟨es.toArray⟩ : ByteArray).size = es.length := by simp [ByteArray.size]
 rw [hsz] at h
 refine ⟨_, _, h, ?_, ?_⟩
 ·refine ⟨_, _, rfl, grownCap_ge _ _ _ _, grownCap_le_maxLen _ _ _ _ hl, fun e => (by cases e), fun x e _ => (by cases e; exact ⟨rfl, Nat.le_refl _⟩), fun b o hbo j u hj => ?_⟩
  cases hbo
  have hjl : j < es.length := by have := (List.getElem?_eq_some_iff.1 hj).1; simpa using this
  rw [Nat.zero_add, Lib.bytesWorld_cell w e ⟨es.toArray⟩ j (by rw [hsz]; exact hjl)]
  rw [List.getElem?_map, List.getElem?_eq_getElem hjl] at hj
  simp only [Option.map_some, Option.some.injEq] at hj
  rw [<- hj]
  simp [List.getD, hjl]
 ·exact ⟨rfl, rfl, rfl, by rw [Lib.bytesWorld_size]; omega, fun k hk _ => Lib.bytesWorld_at_old w e _ k hk⟩
def SixPost (w : World) (l : List UInt8) (p : Nat) (e : Ending) (w' : World) : Prop := Ext w w' ∧
 ((∃ (a b c d f g q : Nat), manyO (numO l) 6 p = some ([a, b, c, d, f, g], q) /\ q <= l.length /\ ∃ r k, e = .returned (.tuple #[.slice (some ⟨r, 0, none⟩) 6 k, .int .i64 (q : Int), .int .i64 0]) /\ 6 <= k /\ w'.cell? ⟨r, 0, none⟩ = some (.int .u64 (a : Int)) /\ w'.cell? ⟨r, 1, none⟩ = some (.int .u64 (b : Int)) /\ w'.cell? ⟨r, 2, none⟩ = some (.int .u64 (c : Int)) /\ w'.cell? ⟨r, 3, none⟩ = some (.int .u64 (d : Int)) /\ w'.cell? ⟨r, 4, none⟩ = some (.int .u64 (f : Int)) /\ w'.cell? ⟨r, 5, none⟩ = some (.int .u64 (g : Int))) ∨
   (manyO (numO l) 6 p = none /\ ∃ E : Int, E ≠ 0 /\ e = .returned (.tuple #[nilS, .int .i64 (p : Int), .int .i64 E])))
theorem sixPost_of {w w' : World} {l : List UInt8} {p : Nat} {e : Ending} (h : NumsPost w l 6 p e w') : SixPost w l p e w' := by
 obtain ⟨hx, h1, h2⟩ := h
 refine ⟨hx, ?_⟩
 cases hm : manyO (numO l) 6 p with
 | none => exact .inr ⟨rfl, h2 hm⟩
 | some r =>
  obtain ⟨ns, q⟩ := r
  obtain ⟨h3, h4, v, rfl, hown⟩ := h1 _ _ hm
  match ns, h4 with
  | [a, b, c, d, f, g], _ =>
   obtain ⟨r, cap, rfl, -, -⟩ := hown.form (by omega)
   have hr := hown.cellAt (g := r) (cap := cap)
   have hc : 6 <= cap := by
    obtain ⟨-, ⟨h, -⟩ | ⟨g', cap', cur, e1, -, -, h6, -⟩⟩ := hown
    ·cases h
    ·cases e1; exact h6
   exact .inl ⟨a, b, c, d, f, g, q, rfl, h3, r, cap, rfl, hc, hr 0 (by omega), hr 1 (by omega), hr 2 (by omega), hr 3 (by omega), hr 4 (by omega), hr 5 (by omega)⟩
theorem vSix_any {S : Nat -> Prop} (w : World) (v : Value) (l : List UInt8) (h : Bytes S w v l) (hl : l.length <= 70368744177664) : Calls Tryz.prog 129 #[v, .int .i64 0, .int .i64 6] w (SixPost w l 0) :=
 (vNums_any w v l h 0 6 (Nat.zero_le _) hl (by omega)).mono fun _ _ => sixPost_of
theorem rSix_any {S : Nat -> Prop} (w : World) (v : Value) (l : List UInt8) (h : Bytes S w v l) (hl : l.length <= 70368744177664) : Calls Tryz.prog 69 #[v, .int .i64 0, .int .i64 6] w (SixPost w l 0) :=
 (rNums_any w v l h 0 6 (Nat.zero_le _) hl (by omega)).mono fun _ _ => sixPost_of
theorem doc_stores {w : World} {g : Nat} {T : TypeId} {z0 z1 z2 z3 z4 z5 z6 z7 : Value} (h : w.heap[g]? = some (.cells #[z0, z1, z2, z3, z4, z5, z6, z7] T (0, 0))) (v0 v1 v2 v3 v4 v5 v6 v7 : Value) :
  ((((((((w.setCell ⟨g, 0, none⟩ v0).setCell ⟨g, 1, none⟩ v1).setCell ⟨g, 2, none⟩ v2).setCell ⟨g, 3, none⟩ v3).setCell ⟨g, 4, none⟩ v4).setCell ⟨g, 5, none⟩ v5).setCell ⟨g, 6, none⟩ v6).setCell ⟨g, 7, none⟩ v7).heap[g]? = some (.cells #[v0, v1, v2, v3, v4, v5, v6, v7] T (0, 0)) /\ Upd (At g) w ((((((((w.setCell ⟨g, 0, none⟩ v0).setCell ⟨g, 1, none⟩ v1).setCell ⟨g, 2, none⟩ v2).setCell ⟨g, 3, none⟩ v3).setCell ⟨g, 4, none⟩ v4).setCell ⟨g, 5, none⟩ v5).setCell ⟨g, 6, none⟩ v6).setCell ⟨g, 7, none⟩ v7) := by
 have s0 : (w.setCell ⟨g, 0, none⟩ v0).heap[g]? = some (.cells #[v0, z1, z2, z3, z4, z5, z6, z7] T (0, 0)) := setAt h
 have s1 : ((w.setCell ⟨g, 0, none⟩ v0).setCell ⟨g, 1, none⟩ v1).heap[g]? = some (.cells #[v0, v1, z2, z3, z4, z5, z6, z7] T (0, 0)) := setAt s0
 have s2 : (((w.setCell ⟨g, 0, none⟩ v0).setCell ⟨g, 1, none⟩ v1).setCell ⟨g, 2, none⟩ v2).heap[g]? = some (.cells #[v0, v1, v2, z3, z4, z5, z6, z7] T (0, 0)) := setAt s1
 have s3 : ((((w.setCell ⟨g, 0, none⟩ v0).setCell ⟨g, 1, none⟩ v1).setCell ⟨g, 2, none⟩ v2).setCell ⟨g, 3, none⟩ v3).heap[g]? = some (.cells #[v0, v1, v2, v3, z4, z5, z6, z7] T (0, 0)) := setAt s2
 have s4 : (((((w.setCell ⟨g, 0, none⟩ v0).setCell ⟨g, 1, none⟩ v1).setCell ⟨g, 2, none⟩ v2).setCell ⟨g, 3, none⟩ v3).setCell ⟨g, 4, none⟩ v4).heap[g]? = some (.cells #[v0, v1, v2, v3, v4, z5, z6, z7] T (0, 0)) := setAt s3
 have s5 : ((((((w.setCell ⟨g, 0, none⟩ v0).setCell ⟨g, 1, none⟩ v1).setCell ⟨g, 2, none⟩ v2).setCell ⟨g, 3, none⟩ v3).setCell ⟨g, 4, none⟩ v4).setCell ⟨g, 5, none⟩ v5).heap[g]? = some (.cells #[v0, v1, v2, v3, v4, v5, z6, z7] T (0, 0)) := setAt s4
 have s6 : (((((((w.setCell ⟨g, 0, none⟩ v0).setCell ⟨g, 1, none⟩ v1).setCell ⟨g, 2, none⟩ v2).setCell ⟨g, 3, none⟩ v3).setCell ⟨g, 4, none⟩ v4).setCell ⟨g, 5, none⟩ v5).setCell ⟨g, 6, none⟩ v6).heap[g]? = some (.cells #[v0, v1, v2, v3, v4, v5, v6, z7] T (0, 0)) := setAt s5
 have s7 : ((((((((w.setCell ⟨g, 0, none⟩ v0).setCell ⟨g, 1, none⟩ v1).setCell ⟨g, 2, none⟩ v2).setCell ⟨g, 3, none⟩ v3).setCell ⟨g, 4, none⟩ v4).setCell ⟨g, 5, none⟩ v5).setCell ⟨g, 6, none⟩ v6).setCell ⟨g, 7, none⟩ v7).heap[g]? = some (.cells #[v0, v1, v2, v3, v4, v5, v6, v7] T (0, 0)) := setAt s6
 exact ⟨s7, (((((((Upd.own _ _ _ _).trans (Upd.own _ _ _ _)).trans (Upd.own _ _ _ _)).trans (Upd.own _ _ _ _)).trans (Upd.own _ _ _ _)).trans (Upd.own _ _ _ _)).trans (Upd.own _ _ _ _)).trans (Upd.own _ _ _ _)⟩
theorem drew_heap (w : World) : w.drew.heap = w.heap := rfl
theorem docO_p {l : List UInt8} {a b c d f g q : Nat} (h : manyO (numO l) 6 0 = some ([a, b, c, d, f, g], q)) (hp : pinsO l q = none) : docO l = none := by unfold docO; simp [h, hp]
theorem docO_f {l : List UInt8} {a b c d f g q q2 : Nat} {ps : List Tr} (h : manyO (numO l) 6 0 = some ([a, b, c, d, f, g], q)) (hp : pinsO l q = some (ps, q2)) (hf : ¬ (f <= 1 /\ g <= 1)) : docO l = none := by unfold docO; simp [h, hp]; intro h1 h2; exact absurd ⟨h1, h2⟩ hf
theorem docO_t {l : List UInt8} {a b c d f g q q2 : Nat} {ps : List Tr} (h : manyO (numO l) 6 0 = some ([a, b, c, d, f, g], q)) (hp : pinsO l q = some (ps, q2)) (hf : f <= 1 /\ g <= 1) (ht : textO l q2 = none) : docO l = none := by unfold docO; simp [h, hp, hf, ht]
theorem docO_l {l : List UInt8} {a b c d f g q q2 q3 : Nat} {ps : List Tr} {s : List UInt8} (h : manyO (numO l) 6 0 = some ([a, b, c, d, f, g], q)) (hp : pinsO l q = some (ps, q2)) (hf : f <= 1 /\ g <= 1) (ht : textO l q2 = some (s, q3)) (hl : q3 ≠ l.length) : docO l = none := by unfold docO; simp [h, hp, hf, ht, hl]
theorem docO_v {l : List UInt8} {a b c d f g q q2 q3 : Nat} {ps : List Tr} {s : List UInt8} (h : manyO (numO l) 6 0 = some ([a, b, c, d, f, g], q)) (hp : pinsO l q = some (ps, q2)) (hf : f <= 1 /\ g <= 1) (ht : textO l q2 = some (s, q3)) (hl : q3 = l.length) (hv : versO s = none) : docO l = none := by unfold docO; simp [h, hp, hf, ht, hl, hv]
theorem docO_ok' {l : List UInt8} {a b c d f g q q2 q3 : Nat} {ps : List Tr} {s : List UInt8} {vs : List Ver} (h : manyO (numO l) 6 0 = some ([a, b, c, d, f, g], q)) (hp : pinsO l q = some (ps, q2)) (hf : f <= 1 /\ g <= 1) (ht : textO l q2 = some (s, q3)) (hl : q3 = l.length) (hv : versO s = some vs) : docO l = some ⟨a, b, c, d, f, g, ps, vs⟩ := by unfold docO; simp [h, hp, hf, ht, hl, hv]
theorem docParse_any {S : Nat -> Prop} (w : World) (v : Value) (l : List UInt8) (h : Bytes S w v l) (hl : l.length <= 1000000) :
  Calls Tryz.prog 132 #[v] w (DocPost w l) := by
 have H := zq h
 obtain ⟨a0, c0, rfl, hn, hm, -⟩ := h
 obtain ⟨w1, hw1⟩ : ∃ u, u = w.alloc (.cells docZ 209) := ⟨_, rfl⟩
 have hx1 : Ext w w1 := by rw [hw1]; exact uZ.alloc _
 have hg1 : w1.heap[w.heap.size]? = some (.cells docZ 209 (0, 0)) := by rw [hw1]; exact newAt _ _
 have HX1 := zq hx1
 have HG1 := zq hg1
 have HW1 := zq hw1
 clear hx1 hg1 hw1
 have hfin : ∀ w9 : World, Ext w w9 -> w9.heap[w.heap.size]? = some (.cells docZ 209 (0, 0)) -> Ext w (w9.setRow w.heap.size docZ) /\ (w9.setRow w.heap.size docZ).heap[w.heap.size]? = some (.cells docZ 209 (0, 0)) := fun w9 hx hg =>
  ⟨hx.step (T := At w.heap.size) (Upd.row _ _ _) (fun k hk e => by have e : k = w.heap.size := e; omega), setRow_heap _ _ _ _ _ _ hg⟩
 have HFIN := zq hfin
 clear hfin
 go_enter Tryz.func132, Tryz.ntmps132
 go_wp2_with (go_at_call 129; fail)
 rw [show w.alloc (.cells #[.int .u64 0, .int .u64 0, .int .u64 0, .int .u64 0, .bool false, .slice none 0 0, .slice none 0 0, .bool false] 209) = w1 from HW1.out.symm]
 refine (vSix_any w1 _ l (H.out.ext HX1.out) (by omega)).mono ?_
 rintro e w2 ⟨hx2, ⟨a, b, c, d, f, g, q, hm6, hq, r, k, rfl, hk, d0, d1, d2, d3, d4, d5⟩ | ⟨hm6, E, hE, rfl⟩⟩
 case inr =>
  have HX2 := zq (HX1.out.trans hx2)
  have HG2 := zq (hx2.at_ HG1.out id)
  have hb : (E != 0) = true := by simpa using hE
  have HE := zq hE
  have HB := zq (show docO l = none by unfold docO; rw [hm6])
  clear hx2 hm6 hE
  go_wp2_with (refine wpList_store_blk rfl _ _ _ rfl rfl (cells := docZ) rfl (g := w.heap.size) HG2.out Tryz.docT rfl docZ_one ?_)
  refine bodyPost_blk2 rfl rfl rfl (HFIN.out _ HX2.out HG2.out).2 Tryz.docT ?_
  exact docPost_bad E HE.out HB.out (HFIN.out _ HX2.out HG2.out).1
 have HX2 := zq (HX1.out.trans hx2)
 have HG2 := zq (hx2.at_ HG1.out id)
 have HM6 := zq hm6
 have HD := zq (And.intro d0 (And.intro d1 (And.intro d2 (And.intro d3 (And.intro d4 d5)))))
 clear hx2 hm6 d0 d1 d2 d3 d4 d5
 go_wp2_with (go_at_call 148; fail)
 refine (pinsTake_any w2 _ l (H.out.ext HX2.out) q hq hl).mono ?_
 rintro e w3 ⟨hx3, hs, hnn⟩
 have HX3 := zq (HX2.out.trans hx3)
 have HG3 := zq (hx3.at_ HG2.out id)
 have HX23 := zq hx3
 clear hx3
 cases hp : pinsO l q with
 | none =>
  obtain ⟨E, aa, hE, rfl⟩ := hnn hp
  have hb : (E != 0) = true := by simpa using hE
  have HE := zq hE
  have HB := zq (docO_p HM6.out hp)
  have HG3a := zq (show (w3.alloc (.cells #[.slice none 0 0] 205)).heap[w.heap.size]? = some (.cells docZ 209 (0, 0)) from ((Upd.refl Nothing _).alloc _).at_ HG3.out id)
  have HX3a := zq (show Ext w (w3.alloc (.cells #[.slice none 0 0] 205)) from HX3.out.alloc _)
  clear hs hnn hp hE
  go_wp2_with (refine wpList_store_blk rfl _ _ _ rfl rfl (cells := docZ) rfl (g := w.heap.size) HG3a.out Tryz.docT rfl docZ_one ?_)
  refine bodyPost_blk2 rfl rfl rfl (HFIN.out _ HX3a.out HG3a.out).2 Tryz.docT ?_
  exact docPost_bad E HE.out HB.out (HFIN.out _ HX3a.out HG3a.out).1
 | some rr =>
  obtain ⟨ps, q2⟩ := rr
  obtain ⟨pv, rfl, hprow⟩ := hs ps q2 hp
  obtain ⟨hq2a, hq2⟩ := ((pins_reads l).ok hq hp).2
  obtain ⟨pa, pc, rfl, -, -, -⟩ := hprow
  have HP := zq hp
  obtain ⟨w4, hw4⟩ : ∃ u, u = w3.alloc (.cells #[.slice pa ps.length pc] 205) := ⟨_, rfl⟩
  have hx4 : Ext w3 w4 := by rw [hw4]; exact uZ.alloc _
  have hg4 : w4.heap[w3.heap.size]? = some (.cells #[.slice pa ps.length pc] 205 (0, 0)) := by rw [hw4]; exact newAt _ _
  have HX4 := zq (HX3.out.trans hx4)
  have HX24 := zq (HX23.out.trans hx4)
  have HG4 := zq (hx4.at_ HG3.out id)
  have HP4 := zq hg4
  have HW4 := zq hw4
  obtain ⟨d0, d1, d2, d3, d4, d5⟩ := HD.out
  have d4 := hx4.cell (HX23.out.cell d4 id) id
  have d5 := hx4.cell (HX23.out.cell d5 id) id
  clear hs hnn hp hx4 hg4 hw4 d0 d1 d2 d3
  go_upto_region 7 with fail
  rw [show w3.alloc (.cells #[.slice pa ps.length pc] 205) = w4 from HW4.out.symm]
  by_cases hf : f <= 1
  case neg =>
   have hb : (1 : Int) < (f : Int) := by omega
   have HB := zq (docO_f HM6.out HP.out (g := g) (fun h => hf h.1))
   clear hf
   go_wp2_with (refine wpList_store_blk rfl _ _ _ rfl rfl (cells := docZ) rfl (g := w.heap.size) HG4.out Tryz.docT rfl docZ_one ?_)
   refine bodyPost_blk2 rfl rfl rfl (HFIN.out _ HX4.out HG4.out).2 Tryz.docT ?_
   exact docPost_bad 2 (by decide) HB.out (HFIN.out _ HX4.out HG4.out).1
  by_cases hg : g <= 1
  case neg =>
   have hb : (1 : Int) < (g : Int) := by omega
   have hb2 : ¬ (1 : Int) < (f : Int) := by omega
   have HB := zq (docO_f HM6.out HP.out (f := f) (fun h => hg h.2))
   clear hg hf
   go_wp2_with (refine wpList_store_blk rfl _ _ _ rfl rfl (cells := docZ) rfl (g := w.heap.size) HG4.out Tryz.docT rfl docZ_one ?_)
   refine bodyPost_blk2 rfl rfl rfl (HFIN.out _ HX4.out HG4.out).2 Tryz.docT ?_
   exact docPost_bad 2 (by decide) HB.out (HFIN.out _ HX4.out HG4.out).1
  have hb2 : ¬ (1 : Int) < (f : Int) := by omega
  have hb3 : ¬ (1 : Int) < (g : Int) := by omega
  have HFG := zq (And.intro hf hg)
  clear hf hg
  go_wp2_with (go_at_call 146; fail)
  refine (vTxt_any w4 _ l (H.out.ext HX4.out) q2 hq2 (by omega)).mono ?_
  intro e w5 hpo
  obtain ⟨s, q3, E3, rfl, hok3, hbad3, hx5⟩ := hpo.form
  have HX5 := zq (HX4.out.trans hx5)
  have HG5 := zq (hx5.at_ HG4.out id)
  have HP5 := zq (hx5.at_ HP4.out id)
  have HX25 := zq (HX24.out.trans hx5)
  clear hpo hx5 d4 d5 hb2 hb3
  by_cases hE3 : E3 = 0
  case neg =>
   have hb : (E3 != 0) = true := by simpa using hE3
   have HB := zq (docO_t HM6.out HP.out HFG.out (hbad3 hE3))
   have HE := zq hE3
   clear hE3 hok3 hbad3
   go_wp2_with (refine wpList_store_blk rfl _ _ _ rfl rfl (cells := docZ) rfl (g := w.heap.size) HG5.out Tryz.docT rfl docZ_one ?_)
   refine bodyPost_blk2 rfl rfl rfl (HFIN.out _ HX5.out HG5.out).2 Tryz.docT ?_
   exact docPost_bad E3 HE.out HB.out (HFIN.out _ HX5.out HG5.out).1
  subst hE3
  have HT := zq (hok3 rfl)
  obtain ⟨-, hq3, hsl⟩ := textO_le hq2 (hok3 rfl)
  clear hok3 hbad3
  by_cases hlt : q3 < l.length
  ·have hb : (q3 : Int) < (l.length : Int) := by omega
   have HB := zq (docO_l HM6.out HP.out HFG.out HT.out (by omega))
   clear hlt
   go_wp2_with (refine wpList_store_blk rfl _ _ _ rfl rfl (cells := docZ) rfl (g := w.heap.size) HG5.out Tryz.docT rfl docZ_one ?_)
   refine bodyPost_blk2 rfl rfl rfl (HFIN.out _ HX5.out HG5.out).2 Tryz.docT ?_
   exact docPost_bad 11 (by decide) HB.out (HFIN.out _ HX5.out HG5.out).1
  have hb : ¬ (q3 : Int) < (l.length : Int) := by omega
  have HQ3 := zq (show q3 = l.length by omega)
  obtain ⟨gc, w6, hcv, hbs, hx6⟩ := conv_text (P := Tryz.prog) w5 s (src := 9) (dst := 23) (e := 5) Tryz.underlying9 Tryz.underlying23 Tryz.underlying5 (by unfold maxLen; omega)
  have HBS := zq hbs
  have HX56 := zq hx6
  clear hx6 hbs
  go_wp2_with (go_at_call 149; fail)
  refine (verParse_any w6 _ s HBS.out (by omega)).mono ?_
  rintro e w7 ⟨hx7, hs, hnn⟩
  have hx57 := HX56.out.trans hx7
  have HX7 := zq (HX5.out.trans hx57)
  have HG7 := zq (hx57.at_ HG5.out id)
  have HP7 := zq (hx57.at_ HP5.out id)
  have HX27 := zq (HX25.out.trans hx57)
  clear hx57 hx7 hcv
  cases hv : versO s with
  | none =>
   obtain ⟨E, hE, rfl⟩ := hnn hv
   have hb : (E != 0) = true := by simpa using hE
   have HE := zq hE
   have HB := zq (docO_v HM6.out HP.out HFG.out HT.out HQ3.out hv)
   clear hs hnn hv hE
   go_wp2_with (refine wpList_store_blk rfl _ _ _ rfl rfl (cells := docZ) rfl (g := w.heap.size) HG7.out Tryz.docT rfl docZ_one ?_)
   refine bodyPost_blk2 rfl rfl rfl (HFIN.out _ HX7.out HG7.out).2 Tryz.docT ?_
   exact docPost_bad E HE.out HB.out (HFIN.out _ HX7.out HG7.out).1
  | some vs =>
   obtain ⟨vv, rfl, hvrow⟩ := hs vs hv
   obtain ⟨va, vc, rfl, -, -, -⟩ := hvrow
   have HB := zq (docO_ok' HM6.out HP.out HFG.out HT.out HQ3.out hv)
   obtain ⟨d0, d1, d2, d3, d4, d5⟩ := HD.out
   replace d0 := HX27.out.cell d0 id
   replace d1 := HX27.out.cell d1 id
   replace d2 := HX27.out.cell d2 id
   replace d3 := HX27.out.cell d3 id
   replace d4 := HX27.out.cell d4 id
   replace d5 := HX27.out.cell d5 id
   have p0 := cZ HP7.out 0 _ rfl
   have g0 := cZ HG7.out 0 (.int .u64 0) rfl
   have g1 := cZ HG7.out 1 (.int .u64 0) rfl
   have g2 := cZ HG7.out 2 (.int .u64 0) rfl
   have g3 := cZ HG7.out 3 (.int .u64 0) rfl
   have g4 := cZ HG7.out 4 (.bool false) rfl
   have g5 := cZ HG7.out 5 (.slice none 0 0) rfl
   have g6 := cZ HG7.out 6 (.slice none 0 0) rfl
   have g7 := cZ HG7.out 7 (.bool false) rfl
   have f0 := freeAt HG7.out 0
   have f1 := freeAt HG7.out 1
   have f2 := freeAt HG7.out 2
   have f3 := freeAt HG7.out 3
   have f4 := freeAt HG7.out 4
   have f5 := freeAt HG7.out 5
   have f6 := freeAt HG7.out 6
   have f7 := freeAt HG7.out 7
   have l7 := lZ HG7.out
   clear hs hnn hv
   go_upto_region 17 with fail
   go_region
   obtain ⟨w9, hw9⟩ : ∃ u, u = ((((((((w7.setCell ⟨w.heap.size, 0, none⟩ (.int .u64 (a : Int))).setCell ⟨w.heap.size, 1, none⟩ (.int .u64 (b : Int))).setCell ⟨w.heap.size, 2, none⟩ (.int .u64 (c : Int))).setCell ⟨w.heap.size, 3, none⟩ (.int .u64 (d : Int))).setCell ⟨w.heap.size, 4, none⟩ (.bool ((f : Int) == 1))).setCell ⟨w.heap.size, 5, none⟩ (.slice pa ps.length pc)).setCell ⟨w.heap.size, 6, none⟩ (.slice va vs.length vc)).setCell ⟨w.heap.size, 7, none⟩ (.bool ((g : Int) == 1))).drew := ⟨_, rfl⟩
   rw [<- hw9]
   have hst := doc_stores HG7.out (.int .u64 (a : Int)) (.int .u64 (b : Int)) (.int .u64 (c : Int)) (.int .u64 (d : Int)) (.bool ((f : Int) == 1)) (.slice pa ps.length pc) (.slice va vs.length vc) (.bool ((g : Int) == 1))
   have hg9 : w9.heap[w.heap.size]? = some (.cells (docC a b c d ((f : Int) == 1) ((g : Int) == 1) pa va ps.length pc vs.length vc) 209 (0, 0)) := by
    rw [hw9, drew_heap]; unfold docC; exact hst.1
   have hx9 : Ext w w9 := by
    rw [hw9]
    exact Upd.drew (HX7.out.step hst.2 (fun k hk e => by have e : k = w.heap.size := e; omega))
   have HG9 := zq hg9
   have HX9 := zq hx9
   clear hst hg9 hx9 hw9 d0 d1 d2 d3 d4 d5 p0 g0 g1 g2 g3 g4 g5 g6 g7 f0 f1 f2 f3 f4 f5 f6 f7 l7
   go_wp2
   refine bodyPost_blk2 rfl rfl rfl HG9.out Tryz.docT ?_
   exact ⟨0, a, b, c, d, _, _, pa, va, ps.length, pc, vs.length, vc, rfl, fun _ => by rw [HB.out]; exact Option.some_ne_none _, fun e => absurd rfl e, HX9.out⟩
end Go.Proofs.YtnkmpoplibnflaaGreatDoor.Wk
set_option maxRecDepth 100000
set_option maxHeartbeats 16000000
namespace Go.Proofs.YtnkmpoplibnflaaGreatDoor.Wk
open Go Go.Proofs.YtnkmpoplibnflaaGreatDoor Go.RowKit
def cmpN (a b : Nat) : Int := if a < b then -1 else if b < a then 1 else 0
def orF : List Int -> Int
 | [] => 0
 | x :: r => if x = 0 then orF r else x
theorem orF_at : ∀ {l : List Int} {k : Nat} (hk : k < l.length), (∀ j (h : j < l.length), j < k -> l[j] = 0) -> l[k] ≠ 0 -> orF l = l[k]
 | x :: r, 0, _, _, h => by unfold orF; rw [if_neg (by simpa using h)]; rfl
 | x :: r, k + 1, hk, h0, h => by
  have hx : x = 0 := h0 0 (by simp) (by omega)
  unfold orF
  rw [if_pos hx]
  have := orF_at (l := r) (k := k) (by simpa using hk) (fun j hj hjk => by have := h0 (j + 1) (by simp; omega) (by omega); simpa using this) (by simpa using h)
  rw [this]; simp
theorem orF_zero : ∀ {l : List Int}, (∀ j (h : j < l.length), l[j] = 0) -> orF l = 0
 | [], _ => rfl
 | x :: r, h => by
  unfold orF
  rw [if_pos (show x = 0 from h 0 (by simp))]
  exact orF_zero (fun j hj => by have := h (j + 1) (by simp; omega); simpa using this)
theorem cmp64_any (w : World) (a b : Nat) : Calls Tryz.prog 163 #[.int .u64 a, .int .u64 b] w fun e w' => e = .returned (.int .i64 (cmpN a b)) /\ Ext w w' := by
 have h1 : ((a : Int) != (a : Int)) = false := by simp
 have h2 : ((b : Int) != (b : Int)) = false := by simp
 by_cases hl : a < b
 ·have HC := zq (show cmpN a b = -1 by unfold cmpN; rw [if_pos hl])
  go_enter Tryz.func163, Tryz.ntmps163
  go_wp2
  go_ret
  exact ⟨by rw [HC.out]; rfl, uZ⟩
 ·by_cases hg : b < a
  ·have HC := zq (show cmpN a b = 1 by unfold cmpN; rw [if_neg hl, if_pos hg])
   go_enter Tryz.func163, Tryz.ntmps163
   go_wp2
   go_ret
   exact ⟨by rw [HC.out]; rfl, uZ⟩
  ·have HC := zq (show cmpN a b = 0 by unfold cmpN; rw [if_neg hl, if_neg hg])
   go_enter Tryz.func163, Tryz.ntmps163
   go_wp2
   go_ret
   exact ⟨by rw [HC.out]; rfl, uZ⟩
abbrev i64 (n : Int) : Value := .int .i64 n
theorem or_any {S : Nat -> Prop} (w : World) (v : Value) (l : List Int) (h : Row S w v l.length (l.map i64)) :
  Calls Tryz.prog 162 #[v] w fun e w' => e = .returned (.int .i64 (orF l)) /\ Ext w w' := by
 have g := h.addr
 have G := zq g
 obtain ⟨a, c, rfl, hn, hm, -⟩ := h
 unfold maxLen at hm
 clear g
 go_enter Tryz.func162, Tryz.ntmps162
 go_wp2
 go_loopw [8] (fun i wr => ∃ k : Nat, k <= l.length /\ i = .int .i64 k /\ Ext w wr /\ ∀ j (h : j < l.length), j < k -> l[j] = 0) (fun i _ => l.length - (intOf i).toNat)
 case atStart => exact ⟨0, Nat.zero_le _, rfl, uZ, fun j _ hj => absurd hj (Nat.not_lt_zero _)⟩
 case round =>
  obtain ⟨k, hk, rfl, hx, hno⟩ := hrel
  have HNO := zq hno
  clear hno
  by_cases hlt : k < l.length
  ·obtain ⟨b, o, c', e, -, -, -, hq⟩ := G.out (by omega)
   cases e
   have hc := hx.cell (hq k (i64 l[k]) (by simp [hlt])) id
   obtain ⟨s, hs⟩ : ∃ s, s = l[k] := ⟨_, rfl⟩
   rw [<- hs] at hc
   have HS := zq hs
   have HX := zq hx
   clear hx hq hs
   by_cases he : s = 0
   ·have hb : (s != 0) = false := by simpa using he
    have HE := zq he
    clear he
    go_wp2
    go_roundw
    case rel =>
     refine ⟨k + 1, by omega, by go_num, HX.out, fun j hj hjk => ?_⟩
     by_cases hjk' : j = k
     ·subst hjk'; rw [<- HS.out]; exact HE.out
     ·exact HNO.out j hj (by omega)
    case measure => simp [intOf]; omega
   ·have hb : (s != 0) = true := by simpa using he
    have HE := zq he
    clear he
    go_wp2
    go_ret
    exact ⟨by rw [orF_at hlt HNO.out (by rw [<- HS.out]; exact HE.out), <- HS.out]; rfl, HX.out⟩
  ·go_wp2
   go_ret
   refine ⟨by rw [orF_zero (fun j hj => HNO.out j hj (by omega))]; rfl, hx⟩
end Go.Proofs.YtnkmpoplibnflaaGreatDoor.Wk
