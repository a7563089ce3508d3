/-
  CONTRACTS of the small functions of chapter 04's law: ref, works, and name's OfSlot, OfBase, OfTemp, OfSeg; of the law NameReads. Condition: the library's variables lie as they are laid.
-/
import Derived.Test.YtfniemagbapeaaaGreatDoorNRef5
namespace Go.Proofs.YtfniemagbapeaaaGreatDoor
open Go.RowKit

set_option maxRecDepth 100000 in
theorem rnm_equal (y x : Nm) (w : World) : (Op.equalIn 10000 61 (.agg (nmCells y)) (.agg (nmCells x))).run Tryz.prog w = .ok (eqB y x) w := by
  have hS : Tryz.prog.underlying 61 = some (.struct (Tryz.prog.fieldsOf 61)) := by kernel_rfl
  have hp : Tryz.prog.stoodInHeld 61 = false := by kernel_rfl
  have u1 := Tryz.underlying5
  have u2 := Tryz.underlying22
  rw [show (10000 : Nat) = 9999 + 1 from rfl, run_equalIn_agg w 9999 61 _ _ hS hp]
  simp only [Program.fieldsOf, Tryz.underlying61, nmCells]
  go_simp
  obtain ⟨a, b, c, d, e, f⟩ := y
  obtain ⟨a', b', c', d', e', f'⟩ := x
  by_cases h1 : a = a' <;> by_cases h2 : b = b' <;> by_cases h3 : c = c' <;> by_cases h4 : d = d' <;> by_cases h5 : e = e' <;> by_cases h6 : f = f' <;> simp [eqB, h1, h2, h3, h4, h5, h6] <;> omega
theorem wp_eql_rnm {op : Oper} {a : Act} {w : World} {K : Act → World → Prop} {Q : Exit → Act → World → Prop} (p q : Operand) (ho : op.op = .binOp .eql 61 p q 61) {u v : Nm} (hp : a.eval p = .agg (nmCells u)) (hq : a.eval q = .agg (nmCells v))
    (h : K (a.put op.dst (.bool (eqB u v))) w) : op.wp Tryz.prog a w K Q := by
  have hg := run_eqGuard_agg (P := Tryz.prog) w .eql 61 p q (nmCells u) (nmCells v) (by kernel_rfl)
  unfold Oper.wp execOp
  simp only [ho, hp, hq]
  simp only [Sem.run_bind, Sem.run_pure, Result.andThen_ok, hg, run_eql_struct, rnm_equal]
  exact h
theorem z64 : (0 : Nat) < 18446744073709551616 := by decide
set_option maxHeartbeats 400000 in
theorem lawRef_any (w : World) (x : Nm) :
    Calls Tryz.prog 28 #[.agg (nmCells x)] w fun e w' => e = .returned (.agg (nmCells x)) ∧ Ext w w' := by
  obtain ⟨k, a, b, c, d, g⟩ := x
  show Calls Tryz.prog 28 #[.agg #[.int .u8 k, u64 a, u64 b, u64 c, u64 d, u64 g]] w fun e w' => e = .returned (.agg (nmCells ⟨k, a, b, c, d, g⟩)) ∧ Ext w w'
  go_enter Tryz.func28, Tryz.ntmps28
  go_wp2
  refine bodyPost_ret (v := .agg (nmCells ⟨k, a, b, c, d, g⟩)) (by simp [results, Tryz.results28, go_sem, nmCells]) rfl ⟨rfl, ?_⟩
  exact ((Upd.refl _ _).alloc _).alloc _
theorem ofSlot_any (w : World) (a b : Nat) (ha : a < 18446744073709551616) (hb : b < 18446744073709551616) (ht : Tab w) :
    Calls Tryz.prog 33 #[u64 a, u64 b] w fun e w' => e = .returned (str (putF ⟨1, a, b, 0, 0, 0⟩)) ∧ Ext w w' := by
  have hp := put_any w ⟨1, a, b, 0, 0, 0⟩ ⟨by show (1 : Nat) < 256; decide, ha, hb, z64, z64, z64⟩ ht
  have HP := Lib.hid hp
  clear hp
  go_enter Tryz.func33, Tryz.ntmps33
  go_wp2_with (go_at_call 52; fail)
  refine HP.out.mono ?_
  rintro e w1 ⟨rfl, hx1⟩
  go_wp2
  go_ret
  exact ⟨rfl, hx1⟩
theorem ofBase_any (w : World) (a b : Nat) (ha : a < 18446744073709551616) (hb : b < 18446744073709551616) (ht : Tab w) :
    Calls Tryz.prog 34 #[u64 a, u64 b] w fun e w' => e = .returned (str (putF ⟨2, a, b, 0, 0, 0⟩)) ∧ Ext w w' := by
  have hp := put_any w ⟨2, a, b, 0, 0, 0⟩ ⟨by show (2 : Nat) < 256; decide, ha, hb, z64, z64, z64⟩ ht
  have HP := Lib.hid hp
  clear hp
  go_enter Tryz.func34, Tryz.ntmps34
  go_wp2_with (go_at_call 52; fail)
  refine HP.out.mono ?_
  rintro e w1 ⟨rfl, hx1⟩
  go_wp2
  go_ret
  exact ⟨rfl, hx1⟩
theorem ofTemp_any (w : World) (a b c : Nat) (ha : a < 18446744073709551616) (hb : b < 18446744073709551616) (hc : c < 18446744073709551616) (ht : Tab w) :
    Calls Tryz.prog 50 #[u64 a, u64 b, u64 c] w fun e w' => e = .returned (str (putF ⟨3, 0, 0, a, b, c⟩)) ∧ Ext w w' := by
  have hp := put_any w ⟨3, 0, 0, a, b, c⟩ ⟨by show (3 : Nat) < 256; decide, z64, z64, ha, hb, hc⟩ ht
  have HP := Lib.hid hp
  clear hp
  go_enter Tryz.func50, Tryz.ntmps50
  go_wp2_with (go_at_call 52; fail)
  refine HP.out.mono ?_
  rintro e w1 ⟨rfl, hx1⟩
  go_wp2
  go_ret
  exact ⟨rfl, hx1⟩
theorem ofSeg_any (w : World) (a b c d : Nat) (ha : a < 18446744073709551616) (hb : b < 18446744073709551616) (hc : c < 18446744073709551616) (hd : d < 18446744073709551616) (ht : Tab w) :
    Calls Tryz.prog 46 #[u64 a, u64 b, u64 c, u64 d] w fun e w' => e = .returned (str (putF ⟨4, a, 0, b, c, d⟩)) ∧ Ext w w' := by
  have hp := put_any w ⟨4, a, 0, b, c, d⟩ ⟨by show (4 : Nat) < 256; decide, ha, z64, hb, hc, hd⟩ ht
  have HP := Lib.hid hp
  clear hp
  go_enter Tryz.func46, Tryz.ntmps46
  go_wp2_with (go_at_call 52; fail)
  refine HP.out.mono ?_
  rintro e w1 ⟨rfl, hx1⟩
  go_wp2
  go_ret
  exact ⟨rfl, hx1⟩
theorem d1 {u : Nat} (h : u < 10) : Lib.decDigits u = [UInt8.ofNat (48 + u)] := by rw [Lib.decDigits, dif_pos h]
theorem dec12 : Lib.decDigits 12 = [49, 50] := by
  rw [Lib.decDigits, dif_neg (by decide), d1 (by decide)]; decide
theorem decMost : Lib.decDigits 18446744073709551615 = [49, 56, 52, 52, 54, 55, 52, 52, 48, 55, 51, 55, 48, 57, 53, 53, 49, 54, 49, 53] := by
  repeat rw [Lib.decDigits, dif_neg (by decide)]
  rw [d1 (by decide)]; decide
theorem put_s712 : putF ⟨1, 7, 12, 0, 0, 0⟩ = [115, 45, 55, 45, 49, 50] := by
  unfold putF
  rw [if_pos (by decide)]
  show Lib.join [[115], Lib.decDigits 7, Lib.decDigits 12] [45] = _
  rw [dec12, d1 (by decide), join_cons, join_cons, join_one]; rfl
theorem put_j1234 : putF ⟨4, 1, 0, 2, 3, 4⟩ = [106, 45, 49, 45, 50, 45, 51, 45, 52] := by
  unfold putF
  rw [if_pos (by decide)]
  show Lib.join [[106], Lib.decDigits 1, Lib.decDigits 2, Lib.decDigits 3, Lib.decDigits 4] [45] = _
  rw [d1 (u := 1) (by decide), d1 (u := 2) (by decide), d1 (u := 3) (by decide), d1 (u := 4) (by decide), join_cons, join_cons, join_cons, join_cons, join_one]; rfl
theorem put_b0 : putF ⟨2, 0, 18446744073709551615, 0, 0, 0⟩ = [98, 45, 48, 45, 49, 56, 52, 52, 54, 55, 52, 52, 48, 55, 51, 55, 48, 57, 53, 53, 49, 54, 49, 53] := by
  unfold putF
  rw [if_pos (by decide)]
  show Lib.join [[98], Lib.decDigits 0, Lib.decDigits 18446744073709551615] [45] = _
  rw [decMost, d1 (by decide), join_cons, join_cons, join_one]; rfl
theorem parse_b0 : parseF [98, 45, 48, 45, 49, 56, 52, 52, 54, 55, 52, 52, 48, 55, 51, 55, 48, 57, 53, 53, 49, 54, 49, 53] = (⟨2, 0, 18446744073709551615, 0, 0, 0⟩, true) :=
  parse_unique (by decide) ⟨by decide, by decide, by decide, by decide, by decide, by decide⟩ put_b0
theorem num07 : numF [48, 55] = none := by
  unfold numF
  rw [show Lib.parseUintB 64 [48, 55] = .ok 7 from rfl]
  show (if Lib.decDigits 7 = [48, 55] then some 7 else none) = none
  rw [d1 (by decide)]; decide
theorem parse_s07 : parseF [115, 45, 48, 55, 45, 49] = (Nm.zero, false) := parse_nums (w0 := [115]) (ws := [[48, 55], [49]]) rfl (numsP_bad (k := 0) (by decide) num07)
theorem parse_s1 : parseF [115, 45, 49] = (Nm.zero, false) := parse_short (w0 := [115]) (ws := [[49]]) rfl (.inl (by decide))
theorem parse_t4 : parseF [116, 45, 49, 45, 50, 45, 51, 45, 52] = (Nm.zero, false) := by
  unfold parseF
  rw [show splitF [116, 45, 49, 45, 50, 45, 51, 45, 52] = [[116], [49], [50], [51], [52]] from rfl]
  rcases parseW_cases [116] [[49], [50], [51], [52]] with ⟨l, -, -, h, -⟩ | hp
  · exact absurd h (by decide)
  · exact hp
theorem parse_big : parseF [115, 45, 49, 45, 49, 56, 52, 52, 54, 55, 52, 52, 48, 55, 51, 55, 48, 57, 53, 53, 49, 54, 49, 54] = (Nm.zero, false) :=
  parse_nums (w0 := [115]) (ws := [[49], [49, 56, 52, 52, 54, 55, 52, 52, 48, 55, 51, 55, 48, 57, 53, 53, 49, 54, 49, 54]]) rfl (numsP_bad (k := 1) (by decide) rfl)
theorem parse_lit (w : World) (s : List UInt8) (x : Nm) (ok : Bool) (hs : s.length ≤ 1000000) (hE : Env w) (hp : parseF s = (x, ok)) :
    Calls Tryz.prog 35 #[str s] w fun e w' => e = .returned (.tuple #[.agg (nmCells x), .bool ok]) ∧ Ext w w' := by
  refine (parse_any w s hs hE).mono ?_
  rintro e w' ⟨rfl, hx⟩
  rw [hp]; exact ⟨rfl, hx⟩
set_option maxRecDepth 100000 in
set_option maxHeartbeats 4000000 in
theorem works_any (w : World) (hE : Env w) : Calls Tryz.prog 25 #[] w fun e w' => e = .returned (.bool true) ∧ Ext w w' := by
  have HE := Lib.hid hE
  clear hE
  go_enter Tryz.func25, Tryz.ntmps25
  go_wp2_with (go_at_call 35; fail)
  refine (parse_lit _ _ _ _ (by decide) HE.out parse_b0).mono ?_
  rintro e w1 ⟨rfl, hx1⟩
  rw [show nmCells ⟨2, 0, 18446744073709551615, 0, 0, 0⟩ = #[.int .u8 2, .int .u64 0, .int .u64 18446744073709551615, .int .u64 0, .int .u64 0, .int .u64 0] from rfl]
  have hb1 := newAt w1 (.cells (nmCells ⟨2, 0, 18446744073709551615, 0, 0, 0⟩) 63)
  have hxa : Ext w1 (w1.alloc (.cells (nmCells ⟨2, 0, 18446744073709551615, 0, 0, 0⟩) 63)) := (Upd.refl _ _).alloc _
  obtain ⟨wa, hwa⟩ : ∃ u, u = w1.alloc (.cells (nmCells ⟨2, 0, 18446744073709551615, 0, 0, 0⟩) 63) := ⟨_, rfl⟩
  obtain ⟨g1, hg1⟩ : ∃ u, u = w1.heap.size := ⟨_, rfl⟩
  rw [← hwa] at hb1 hxa
  rw [← hg1] at hb1
  have HB := Lib.hid hb1
  have HXA := Lib.hid (hx1.trans hxa)
  have HWA := Lib.hid hwa
  have HG1 := Lib.hid hg1
  clear hb1 hxa hwa hg1 hx1
  go_upto_region 2 with (fail)
  rw [show w1.alloc (.cells #[.int .u8 2, .int .u64 0, .int .u64 18446744073709551615, .int .u64 0, .int .u64 0, .int .u64 0] 63) = wa from HWA.out.symm, show w1.heap.size = g1 from HG1.out.symm]
  go_wp2_with (go_at_call 35; fail)
  refine (parse_lit _ _ _ _ (by decide) (HE.out.ext HXA.out) parse_s07).mono ?_
  rintro e w2 ⟨rfl, hx⟩
  have HX2 := Lib.hid ((HXA.out.trans hx).alloc (.cells #[.int .u8 0, .int .u64 0, .int .u64 0, .int .u64 0, .int .u64 0, .int .u64 0] 63))
  have HB0 := Lib.hid (((Upd.refl Nothing _).alloc (.cells #[.int .u8 0, .int .u64 0, .int .u64 0, .int .u64 0, .int .u64 0, .int .u64 0] 63)).at_ (hx.at_ HB.out id) id)
  clear hx
  rw [show nmCells Nm.zero = #[.int .u8 0, .int .u64 0, .int .u64 0, .int .u64 0, .int .u64 0, .int .u64 0] from rfl]
  go_wp2_with (go_at_call 35; fail)
  refine (parse_lit _ _ _ _ (by decide) (HE.out.ext HX2.out) parse_s1).mono ?_
  rintro e w3 ⟨rfl, hx⟩
  have HX3 := Lib.hid ((HX2.out.trans hx).alloc (.cells #[.int .u8 0, .int .u64 0, .int .u64 0, .int .u64 0, .int .u64 0, .int .u64 0] 63))
  have HB1 := Lib.hid (((Upd.refl Nothing _).alloc (.cells #[.int .u8 0, .int .u64 0, .int .u64 0, .int .u64 0, .int .u64 0, .int .u64 0] 63)).at_ (hx.at_ HB0.out id) id)
  clear hx
  rw [show nmCells Nm.zero = #[.int .u8 0, .int .u64 0, .int .u64 0, .int .u64 0, .int .u64 0, .int .u64 0] from rfl]
  go_wp2_with (go_at_call 35; fail)
  refine (parse_lit _ _ _ _ (by decide) (HE.out.ext HX3.out) parse_t4).mono ?_
  rintro e w4 ⟨rfl, hx⟩
  have HX4 := Lib.hid ((HX3.out.trans hx).alloc (.cells #[.int .u8 0, .int .u64 0, .int .u64 0, .int .u64 0, .int .u64 0, .int .u64 0] 63))
  have HB2 := Lib.hid (((Upd.refl Nothing _).alloc (.cells #[.int .u8 0, .int .u64 0, .int .u64 0, .int .u64 0, .int .u64 0, .int .u64 0] 63)).at_ (hx.at_ HB1.out id) id)
  clear hx
  rw [show nmCells Nm.zero = #[.int .u8 0, .int .u64 0, .int .u64 0, .int .u64 0, .int .u64 0, .int .u64 0] from rfl]
  go_wp2_with (go_at_call 35; fail)
  refine (parse_lit _ _ _ _ (by decide) (HE.out.ext HX4.out) parse_big).mono ?_
  rintro e w5 ⟨rfl, hx⟩
  have HX5 := Lib.hid ((HX4.out.trans hx).alloc (.cells #[.int .u8 0, .int .u64 0, .int .u64 0, .int .u64 0, .int .u64 0, .int .u64 0] 63))
  have HB3 := Lib.hid (((Upd.refl Nothing _).alloc (.cells #[.int .u8 0, .int .u64 0, .int .u64 0, .int .u64 0, .int .u64 0, .int .u64 0] 63)).at_ (hx.at_ HB2.out id) id)
  clear hx
  rw [show nmCells Nm.zero = #[.int .u8 0, .int .u64 0, .int .u64 0, .int .u64 0, .int .u64 0, .int .u64 0] from rfl]
  go_wp2_with (go_at_call 33; fail)
  refine (ofSlot_any _ 7 12 (by decide) (by decide) (HE.out.ext HX5.out).tab).mono ?_
  rintro e w6 ⟨rfl, hx6⟩
  rw [put_s712]
  have HX6 := Lib.hid (HX5.out.trans hx6)
  have HB6 := Lib.hid (hx6.at_ HB3.out id)
  clear hx6
  go_wp2_with (go_at_call 46; fail)
  refine (ofSeg_any _ 1 2 3 4 (by decide) (by decide) (by decide) (by decide) (HE.out.ext HX6.out).tab).mono ?_
  rintro e w7 ⟨rfl, hx7⟩
  rw [put_j1234]
  have HX7 := Lib.hid (HX6.out.trans hx7)
  have HB7 := Lib.hid (hx7.at_ HB6.out id)
  clear hx7
  have hb7 : w7.heap[g1]? = some (.cells #[.int .u8 2, .int .u64 0, .int .u64 18446744073709551615, .int .u64 0, .int .u64 0, .int .u64 0] 63) := HB7.out
  have HB8 := Lib.hid hb7
  clear hb7
  go_wp2_with (refine wpList_load_blk_g rfl _ _ rfl rfl HB8.out (Tryz.nmT ⟨2, 0, 18446744073709551615, 0, 0, 0⟩) ?_)
  go_ret
  exact ⟨rfl, HX7.out⟩
def nrdVal (x : Nm) (ok : Bool) (g3 g5 : Nat) : Nat → Value
  | 0 => .bool ok
  | 1 => .bool ok
  | 2 => .bool true
  | 3 => .bool true
  | 4 => .agg (nmCells x)
  | 5 => .agg (nmCells x)
  | 6 => .agg (nmCells x)
  | 7 => .bool true
  | 8 => .bool true
  | 9 => .bool true
  | 10 => .bool true
  | 11 => .bool true
  | 12 => .bool true
  | _ => undef
def nrdDst (i : Nat) : Tmp := if i = 12 then 2 else 21 + i
theorem nrdDst_ne {j t : Nat} (ht : t = 3 ∨ t = 4 ∨ t = 5 ∨ t = 6) (e : nrdDst j = t) : False := by
  unfold nrdDst at e
  have e : (if j = 12 then 2 else 21 + j : Nat) = t := e
  rcases ht with rfl | rfl | rfl | rfl <;> (repeat' (split at e)) <;> omega
def nrdPhi (x : Nm) (ok : Bool) (g3 g5 : Nat) (i : Nat) (v : Value) (w : World) : Prop := v = nrdVal x ok g3 g5 i
theorem nrdPhi.ext {x : Nm} {ok : Bool} {g3 g5 : Nat} {i : Nat} {v : Value} {w w' : World} (h : nrdPhi x ok g3 g5 i v w) (hu : Ext w w') : nrdPhi x ok g3 g5 i v w' := by
  unfold nrdPhi at h ⊢
  exact h
set_option maxRecDepth 100000 in
set_option maxHeartbeats 4000000 in
theorem nameReads_any (w : World) (s : List UInt8) (hE : Env w) :
    Calls Tryz.prog 32 #[str s] w fun e w' => e = .returned (.bool true) ∧ Ext w w' := by
  have hsz : (⟨s.toArray⟩ : ByteArray).size = s.length := rfl
  have HE := Lib.hid hE
  clear hE
  by_cases hl : s.length ≤ 120
  case neg =>
    have hl' : (120 : Int) < (s.length : Int) := by omega
    go_enter Tryz.func32, Tryz.ntmps32
    go_wp2_with (go_at_call 25; fail)
    refine (works_any _ HE.out).mono ?_
    rintro e w1 ⟨rfl, hx1⟩
    go_wp2
    go_ret
    exact ⟨rfl, hx1⟩
  have hl' : ¬ (120 : Int) < (s.length : Int) := by omega
  obtain ⟨x, hx⟩ : ∃ x, x = (parseF s).1 := ⟨_, rfl⟩
  obtain ⟨ok, hok⟩ : ∃ o, o = (parseF s).2 := ⟨_, rfl⟩
  have hpp : parseF s = (x, ok) := by rw [hx, hok]
  have HPP := Lib.hid hpp
  have HL := Lib.hid hl
  clear hx hok hpp hl
  obtain ⟨p0, p1, p2, p3, p4, p5, hp⟩ : ∃ a b c d e f, nmCells x = #[.int .u8 a, .int .u64 b, .int .u64 c, .int .u64 d, .int .u64 e, .int .u64 f] := ⟨_, _, _, _, _, _, rfl⟩
  have HP := Lib.hid hp
  clear hp
  go_enter Tryz.func32, Tryz.ntmps32
  go_wp2_with (go_at_call 35; fail)
  refine (parse_lit _ s x ok (by have := HL.out; omega) HE.out HPP.out).mono ?_
  rintro e w1 ⟨rfl, hx1⟩
  have HA1 := Lib.hid (hx1.alloc (.cells (nmCells x) 63))
  have HB1 := Lib.hid (newAt w1 (.cells (nmCells x) 63))
  clear hx1
  rw [HP.out]
  go_wp2_with (go_at_call 41; fail)
  rw [← HP.out]
  refine (rparse_any _ s (by have := HL.out; omega)).mono ?_
  rintro e w2 ⟨rfl, hx2⟩
  rw [HPP.out]
  obtain ⟨g3, hg3⟩ : ∃ g, g = w1.heap.size := ⟨_, rfl⟩
  obtain ⟨g5, hg5⟩ : ∃ g, g = w2.heap.size := ⟨_, rfl⟩
  obtain ⟨wz, hwz⟩ : ∃ u, u = w2.alloc (.cells (nmCells x) 61) := ⟨_, rfl⟩
  have hxz : Ext w2 wz := by rw [hwz]; exact (Upd.refl _ _).alloc _
  have HG3 := Lib.hid (show wz.heap[g3]? = some (.cells (nmCells x) 63) by rw [hg3]; exact hxz.at_ (hx2.at_ HB1.out id) id)
  have HG5 := Lib.hid (show wz.heap[g5]? = some (.cells (nmCells x) 61) by rw [hg5, hwz]; exact newAt _ _)
  have HXZ := Lib.hid ((HA1.out.trans hx2).trans hxz)
  have HEE := Lib.hid (HE.out.ext HXZ.out)
  have HWZ := Lib.hid hwz
  have HGQ3 := Lib.hid hg3
  have HGQ5 := Lib.hid hg5
  clear hx2 hxz hwz hg3 hg5
  dsimp only
  rw [HP.out]
  go_upto_region 5 with (fail)
  rw [← HP.out, show w2.alloc (.cells (nmCells x) 61) = wz from HWZ.out.symm, show w1.heap.size = g3 from HGQ3.out.symm, show w2.heap.size = g5 from HGQ5.out.symm]
  refine wp_region_invH Nothing (fun _ => Ext) 1000 nrdDst (nrdPhi x ok g3 g5) 33 (by kernel_rfl) (by decide) (by decide) rfl (fun i hi => .inl ((by decide : ∀ i, i < 13 → nrdDst i < 33) i hi)) (fun i w w' h => ⟨h, fun _ => h⟩) (fun i j v w w' _ _ _ _ h hu => h.ext hu) ?_ ?_
  · intro i o b' w1' ho hx1' hd hk hE hSZ
    have hi : i < 13 := (Array.getElem?_eq_some_iff.1 ho).1
    have his : i = 0 ∨ i = 1 ∨ i = 2 ∨ i = 3 ∨ i = 4 ∨ i = 5 ∨ i = 6 ∨ i = 7 ∨ i = 8 ∨ i = 9 ∨ i = 10 ∨ i = 11 ∨ i = 12 := by omega
    clear hE hSZ
    have HW1 := Lib.hid hx1'
    clear hx1'
    rcases his with rfl | rfl | rfl | rfl | rfl | rfl | rfl | rfl | rfl | rfl | rfl | rfl | rfl
    all_goals (simp at ho; subst ho)
    case inl =>
      refine .inl ⟨by simp [Region.wanted], ?_⟩
      have o4 : b'.tmps[4]?.getD undef = .bool ok := by
        have := hk 4 (fun j oj _ e => (nrdDst_ne (by decide) e).elim)
        simpa using this
      clear hd hk
      go_step
      exact ⟨_, rfl, rfl, Upd.refl _ _⟩
    case inr.inl =>
      refine .inl ⟨by simp [Region.wanted], ?_⟩
      have o6 : b'.tmps[6]?.getD undef = .bool ok := by
        have := hk 6 (fun j oj _ e => (nrdDst_ne (by decide) e).elim)
        simpa using this
      clear hd hk
      go_step
      exact ⟨_, rfl, rfl, Upd.refl _ _⟩
    case inr.inr.inl =>
      refine .inl ⟨by simp [Region.wanted], ?_⟩
      have e0 : b'.tmps[21]?.getD undef = .bool ok := by have := (show b'.tmps.getD 21 undef = .bool ok from hd ⟨0, .data⟩ (by simp) rfl); simpa using this
      have e1 : b'.tmps[22]?.getD undef = .bool ok := by have := (show b'.tmps.getD 22 undef = .bool ok from hd ⟨1, .data⟩ (by simp) rfl); simpa using this
      clear hd hk
      go_step
      exact ⟨_, rfl, rfl, Upd.refl _ _⟩
    case inr.inr.inr.inl =>
      refine .inl ⟨by simp [Region.wanted], ?_⟩
      have e2 : b'.tmps[23]?.getD undef = .bool true := by have := (show b'.tmps.getD 23 undef = .bool true from hd ⟨2, .data⟩ (by simp) rfl); simpa using this
      clear hd hk
      go_step
      exact ⟨_, rfl, rfl, Upd.refl _ _⟩
    case inr.inr.inr.inr.inl =>
      refine .inl ⟨by
        have := tmp_some (show b'.tmps.getD 24 undef = .bool true from hd ⟨3, .guard⟩ (by simp) rfl)
        simp [Region.wanted, yielded, this], ?_⟩
      have o3 : b'.eval (.tmp 3) = .pointer (some ⟨g3, 0, none⟩) := by
        have := hk 3 (fun j oj _ e => (nrdDst_ne (by decide) e).elim)
        simpa [Act.eval] using this
      have hg1 := HW1.out.at_ HG3.out id
      exact wp_load_mid (w := w1') 63 (.tmp 3) rfl g3 0 o3 (nmCells x).toList _ (fun j u hj => by have := cellAt hg1 j u (by simpa using hj); simpa using this) Tryz.underlying63 rfl (by kernel_rfl) ⟨_, rfl, rfl, Upd.refl _ _⟩
    case inr.inr.inr.inr.inr.inl =>
      refine .inl ⟨by
        have := tmp_some (show b'.tmps.getD 24 undef = .bool true from hd ⟨3, .guard⟩ (by simp) rfl)
        simp [Region.wanted, yielded, this], ?_⟩
      have e4 : b'.tmps[25]?.getD undef = .agg (nmCells x) := by have := (show b'.tmps.getD 25 undef = .agg (nmCells x) from hd ⟨4, .data⟩ (by simp) rfl); simpa using this
      clear hd hk
      go_step
      refine (lawRef_any w1' x).mono ?_
      rintro e w2 ⟨rfl, hu⟩
      exact ⟨_, rfl, rfl, hu⟩
    case inr.inr.inr.inr.inr.inr.inl =>
      refine .inl ⟨by
        have := tmp_some (show b'.tmps.getD 24 undef = .bool true from hd ⟨3, .guard⟩ (by simp) rfl)
        simp [Region.wanted, yielded, this], ?_⟩
      have o5 : b'.eval (.tmp 5) = .pointer (some ⟨g5, 0, none⟩) := by
        have := hk 5 (fun j oj _ e => (nrdDst_ne (by decide) e).elim)
        simpa [Act.eval] using this
      have hg1 := HW1.out.at_ HG5.out id
      exact wp_load_mid (w := w1') 61 (.tmp 5) rfl g5 0 o5 (nmCells x).toList _ (fun j u hj => by have := cellAt hg1 j u (by simpa using hj); simpa using this) Tryz.underlying61 rfl (by kernel_rfl) ⟨_, rfl, rfl, Upd.refl _ _⟩
    case inr.inr.inr.inr.inr.inr.inr.inl =>
      refine .inl ⟨by
        have := tmp_some (show b'.tmps.getD 24 undef = .bool true from hd ⟨3, .guard⟩ (by simp) rfl)
        simp [Region.wanted, yielded, this], ?_⟩
      have o26 : b'.eval (.tmp 26) = .agg (nmCells x) := by
        have := (show b'.tmps.getD 26 undef = .agg (nmCells x) from hd ⟨5, .data⟩ (by simp) rfl)
        simpa [Act.eval] using this
      have o27 : b'.eval (.tmp 27) = .agg (nmCells x) := by
        have := (show b'.tmps.getD 27 undef = .agg (nmCells x) from hd ⟨6, .data⟩ (by simp) rfl)
        simpa [Act.eval] using this
      exact wp_eql_rnm (.tmp 26) (.tmp 27) rfl o26 o27 ⟨_, rfl, by rw [eqB_self]; rfl, Upd.refl _ _⟩
    case inr.inr.inr.inr.inr.inr.inr.inr.inl =>
      refine .inl ⟨by simp [Region.wanted], ?_⟩
      have e3 : b'.tmps[24]?.getD undef = .bool true := by have := (show b'.tmps.getD 24 undef = .bool true from hd ⟨3, .data⟩ (by simp) rfl); simpa using this
      have e7 : b'.tmps[28]?.getD undef = .bool true := by have := (show b'.tmps.getD 28 undef = .bool true from hd ⟨7, .data⟩ (by simp) rfl); simpa using this
      clear hd hk
      go_step
      exact ⟨_, rfl, rfl, Upd.refl _ _⟩
    case inr.inr.inr.inr.inr.inr.inr.inr.inr.inl =>
      refine .inl ⟨by simp [Region.wanted], ?_⟩
      have e8 : b'.tmps[29]?.getD undef = .bool true := by have := (show b'.tmps.getD 29 undef = .bool true from hd ⟨8, .data⟩ (by simp) rfl); simpa using this
      clear hd hk
      go_step
      exact ⟨_, rfl, rfl, Upd.refl _ _⟩
    case inr.inr.inr.inr.inr.inr.inr.inr.inr.inr.inl =>
      refine .inl ⟨by
        have := tmp_some (show b'.tmps.getD 30 undef = .bool true from hd ⟨9, .guard⟩ (by simp) rfl)
        simp [Region.wanted, yielded, this], ?_⟩
      clear hd hk
      go_step
      refine (works_any w1' (HEE.out.ext HW1.out)).mono ?_
      rintro e w2 ⟨rfl, hu⟩
      exact ⟨_, rfl, rfl, hu⟩
    case inr.inr.inr.inr.inr.inr.inr.inr.inr.inr.inr.inl =>
      refine .inl ⟨by simp [Region.wanted], ?_⟩
      have e9 : b'.tmps[30]?.getD undef = .bool true := by have := (show b'.tmps.getD 30 undef = .bool true from hd ⟨9, .data⟩ (by simp) rfl); simpa using this
      have e10 : b'.tmps[31]?.getD undef = .bool true := by have := (show b'.tmps.getD 31 undef = .bool true from hd ⟨10, .data⟩ (by simp) rfl); simpa using this
      clear hd hk
      go_step
      exact ⟨_, rfl, rfl, Upd.refl _ _⟩
    case inr.inr.inr.inr.inr.inr.inr.inr.inr.inr.inr.inr =>
      refine .inl ⟨by simp [Region.wanted], ?_⟩
      have e11 : b'.tmps[32]?.getD undef = .bool true := by have := (show b'.tmps.getD 32 undef = .bool true from hd ⟨11, .data⟩ (by simp) rfl); simpa using this
      clear hd hk
      go_step
      exact ⟨_, rfl, rfl, Upd.refl _ _⟩
  · intro v w1' hx1' hp
    have h12 : v 12 = .bool true := hp 12 (by decide)
    have HX8 := Lib.hid (HXZ.out.trans hx1')
    clear hp hx1'
    simp only [List.size_toArray, List.length_cons, List.length_nil, Nat.reduceAdd, fillAll, nrdDst]
    go_simp
    go_wp2
    go_ret
    exact ⟨rfl, HX8.out⟩
end Go.Proofs.YtfniemagbapeaaaGreatDoor
