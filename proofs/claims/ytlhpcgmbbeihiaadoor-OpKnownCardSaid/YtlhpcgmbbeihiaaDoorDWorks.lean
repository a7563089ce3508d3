/-
  CONTRACT of the law's own function works: the chapter's examples. Condition: the library's table of powers of ten lies as it is laid.
-/
import Derived.Test.YtlhpcgmbbeihiaaDoorDFew
import Derived.Test.YtlhpcgmbbeihiaaDoorOSame
import Derived.Test.YtlhpcgmbbeihiaaDoorOParse
import Derived.Test.YtlhpcgmbbeihiaaDoorOPut
import Derived.Test.YtlhpcgmbbeihiaaDoorMF
namespace Go.Proofs.YtlhpcgmbbeihiaaDoor
open Go.RowKit

def wOp : Oper' := ⟨2, 0, [97], [], [], [], 0, 0, 0⟩
theorem vput0 : vput 0 = [0] := by rw [vput]; simp
theorem vput1 : vput 1 = [1] := by rw [vput]; simp
theorem wOp_right : opRight wOp = true := by decide
theorem wOp_put : opPut wOp = [2, 0, 1, 97, 0, 0, 0, 0, 0, 0] := by
  simp [opPut, opBody, opTail, wOp, vtext, vput0, vput1, editsPut]
theorem wOp_wf : WfOp wOp := ⟨by decide, by decide, ⟨by decide, by decide⟩, ⟨by decide, by decide⟩, ⟨by decide, by decide⟩, ⟨by decide, by decide⟩, by simp [wOp]⟩
theorem opP_short : opP [2, 0] = (10, Oper'.zero 0) := by
  simp [opP, hd, opEnd, opS, numS, textS, numF, textF, vtake]
theorem opP_kind : opP [18, 0] = (60, Oper'.zero 0) := by
  simp [opP, hd]
def wAns1 : Ans := ⟨0, 3, [97, 34, 98], [[120], [121]]⟩
def wAns2 : Ans := ⟨130, 0, [], []⟩
theorem dd (u : Nat) (h : u < 10) : Lib.decDigits u = [UInt8.ofNat (48 + u)] := by rw [Lib.decDigits, dif_pos h]
theorem wAns1_show : showF wAns1 = [48, 32, 51, 32, 34, 97, 92, 50, 50, 98, 34, 32, 34, 120, 34, 32, 34, 121, 34, 10] := by
  simp [showF, showWords, wAns1, Lib.itoa, dd, Lib.join_cons, Lib.joinTail, quoteF, quoteAcc]
  decide
theorem dd130 : Lib.decDigits 130 = [49, 51, 48] := by
  rw [Lib.decDigits, dif_neg (by decide), Lib.decDigits, dif_neg (by decide), dd _ (by decide)]; decide
theorem wAns2_show : showF wAns2 = [49, 51, 48, 32, 48, 32, 34, 34, 10] := by
  simp [showF, showWords, wAns2, Lib.itoa, dd, dd130, Lib.join_cons, Lib.joinTail, quoteF, quoteAcc]

theorem dlit2 (w : World) (n : Nat) (a : UInt8) (hn : n = w.heap.size) : Bytes (At n) (w.alloc (.cells #[.int .u8 (a.toNat : Int), .int .u8 0] 5)) (.slice (some ⟨n, 0, none⟩) 2 2) [a, 0] :=
  row_new w #[.int .u8 (a.toNat : Int), .int .u8 0] 5 2 n (by decide) hn
theorem dlit10 (w : World) (n : Nat) (hn : n = w.heap.size) : Bytes (At n) (w.alloc (.cells #[.int .u8 2, .int .u8 0, .int .u8 1, .int .u8 97, .int .u8 0, .int .u8 0, .int .u8 0, .int .u8 0, .int .u8 0, .int .u8 0] 5)) (.slice (some ⟨n, 0, none⟩) 10 10) [2, 0, 1, 97, 0, 0, 0, 0, 0, 0] :=
  row_new w #[.int .u8 2, .int .u8 0, .int .u8 1, .int .u8 97, .int .u8 0, .int .u8 0, .int .u8 0, .int .u8 0, .int .u8 0, .int .u8 0] 5 10 n (by decide) hn
theorem strs2 (w : World) (n : Nat) (hn : n = w.heap.size) : Texts (At n) (w.alloc (.cells #[.string ⟨#[120]⟩, .string ⟨#[121]⟩] 9)) (.slice (some ⟨n, 0, none⟩) 2 2) [[120], [121]] :=
  row_new w #[.string ⟨#[120]⟩, .string ⟨#[121]⟩] 9 2 n (by decide) hn
theorem wAns1_in : AnsIn wAns1 := ⟨by decide, by decide, by decide, by decide⟩
theorem wAns2_in : AnsIn wAns2 := ⟨by decide, by decide, by decide, by decide⟩
theorem wAns1_few : AnsFew wAns1 := ⟨by decide, by decide, by simp [wAns1]⟩
theorem wAns2_few : AnsFew wAns2 := ⟨by decide, by decide, by simp [wAns2]⟩

set_option maxRecDepth 100000 in
set_option maxHeartbeats 2000000 in
theorem works_any (w : World) (ht : Tab w) : Calls Tryd.prog 9 #[] w fun e w' => e = .returned (.bool true) ∧ Ext w w' := by
  have HT := Lib.hid ht
  clear ht
  go_enter Tryd.func9, Tryd.ntmps9
  go_wp2_with (go_at_call 11; fail)
  refine (oPut_any w wOp nilS (Row.nil Nothing w) wOp_wf (by rw [wOp_put]; decide)).mono ?_
  rintro e w1 ⟨v1, rfl, ho1, -, hx1⟩
  replace ho1 := ho1 wOp_right
  rw [wOp_put] at ho1
  rw [if_pos wOp_right]
  have HO1 := Lib.hid ho1
  have HX1 := Lib.hid hx1
  obtain ⟨a1, n1, c1, rfl⟩ := ownsForm ho1
  clear ho1 hx1
  go_wp2_with (go_at_call 14; fail)
  refine (oParse_any _ _ [2, 0] (dlit2 w1 w1.heap.size 2 rfl) (by decide)).mono ?_
  rintro e w2 ⟨v2, rfl, ho2, hx2⟩
  rw [opP_short] at ho2 ⊢
  obtain ⟨a2, n2, c2, rfl⟩ := ownsForm ho2
  have HX2 := Lib.hid ((HX1.out.alloc _).trans hx2)
  have HO2 := Lib.hid (((Upd.refl Nothing w1).alloc (.cells #[.int .u8 2, .int .u8 0] 5)).trans hx2 |>.ownsRow HO1.out (fun _ _ e => e))
  clear ho2 hx2
  rw [show opCells (Oper'.zero 0) (.slice a2 n2 c2) = #[.int .u8 0, .int .u64 0, .string ⟨#[]⟩, .string ⟨#[]⟩, .string ⟨#[]⟩, .slice a2 n2 c2, .int .u64 0, .int .u64 0, .int .u64 0] from rfl]
  go_wp2_with (go_at_call 14; fail)
  obtain ⟨B1, hB1⟩ : ∃ B, B = (Obj.cells #[.int .u8 0, .int .u64 0, .string ⟨#[]⟩, .string ⟨#[]⟩, .string ⟨#[]⟩, .slice a2 n2 c2, .int .u64 0, .int .u64 0, .int .u64 0] 25) := ⟨_, rfl⟩
  have h12 : Ext w (w2.alloc B1) := HX2.out.alloc _
  have h12o := ((Upd.refl Nothing w2).alloc B1).ownsRow HO2.out (fun _ _ e => e)
  rw [← hB1]
  refine (oParse_any _ _ [18, 0] (dlit2 _ (w2.heap.size + 1) 18 (by simp)) (by decide)).mono ?_
  rintro e w3 ⟨v3, rfl, ho3, hx3⟩
  rw [opP_kind] at ho3 ⊢
  obtain ⟨a3, n3, c3, rfl⟩ := ownsForm ho3
  have HX3 := Lib.hid ((h12.alloc _).trans hx3)
  have HO3 := Lib.hid (((Upd.refl Nothing (w2.alloc B1)).alloc (.cells #[.int .u8 18, .int .u8 0] 5)).trans hx3 |>.ownsRow h12o (fun _ _ e => e))
  clear ho3 hx3 h12 h12o hB1
  rw [show opCells (Oper'.zero 0) (.slice a3 n3 c3) = #[.int .u8 0, .int .u64 0, .string ⟨#[]⟩, .string ⟨#[]⟩, .string ⟨#[]⟩, .slice a3 n3 c3, .int .u64 0, .int .u64 0, .int .u64 0] from rfl]
  obtain ⟨B2, hB2⟩ : ∃ B, B = (Obj.cells #[.int .u8 0, .int .u64 0, .string ⟨#[]⟩, .string ⟨#[]⟩, .string ⟨#[]⟩, .slice a3 n3 c3, .int .u64 0, .int .u64 0, .int .u64 0] 25) := ⟨_, rfl⟩
  go_wp2_with (go_at_call 16; fail)
  rw [← hB2]
  have h23 : Ext w (w3.alloc B2) := HX3.out.alloc _
  have h23o := ((Upd.refl Nothing w3).alloc B2).ownsRow HO3.out (fun _ _ e => e)
  refine (sameBytes_any _ _ _ [2, 0, 1, 97, 0, 0, 0, 0, 0, 0] [2, 0, 1, 97, 0, 0, 0, 0, 0, 0] (Row.of_owns (((Upd.refl Nothing (w3.alloc B2)).alloc _).ownsRow h23o (fun _ _ e => e))) (dlit10 _ (w3.heap.size + 1) (by simp))).mono ?_
  rintro e w4 ⟨rfl, hx4⟩
  rw [beq_self_eq_true]
  have HX4 := Lib.hid ((h23.alloc _).trans hx4)
  clear hB2 h23 h23o hx4
  go_wp2_with (go_at_call 26; fail)
  refine (show_any _ wAns1 _ (strs2 w4 w4.heap.size rfl) wAns1_in wAns1_few (tab_ext HT.out (HX4.out.alloc _))).mono ?_
  rintro e w5 ⟨rfl, hx5⟩
  rw [wAns1_show]
  have HX5 := Lib.hid ((HX4.out.alloc _).trans hx5)
  clear hx5
  go_wp2_with (go_at_call 26; fail)
  refine (show_any _ wAns2 nilS (Row.nil Nothing w5) wAns2_in wAns2_few (tab_ext HT.out HX5.out)).mono ?_
  rintro e w6 ⟨rfl, hx6⟩
  rw [wAns2_show]
  have HX6 := Lib.hid (HX5.out.trans hx6)
  clear hx6
  go_wp2
  go_ret
  exact ⟨rfl, HX6.out⟩
end Go.Proofs.YtlhpcgmbbeihiaaDoor
