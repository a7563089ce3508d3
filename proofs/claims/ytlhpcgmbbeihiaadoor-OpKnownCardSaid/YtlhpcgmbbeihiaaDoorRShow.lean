/-
  CONTRACT of the reference's Show.
-/
import Derived.Test.YtlhpcgmbbeihiaaDoorShow
namespace Go.Proofs.YtlhpcgmbbeihiaaDoor
open Go.RowKit

/-- What is shown so far. -/
def shown (a : Ans) (k : Nat) : List UInt8 := Lib.join (showWords a k) [32]
theorem join_snoc (x : List UInt8) (r : List (List UInt8)) (y sep : List UInt8) : Lib.join ((x :: r) ++ [y]) sep = Lib.join (x :: r) sep ++ (sep ++ y) := by
  rw [List.cons_append, Lib.join_cons, Lib.join_cons, Lib.joinTail, Lib.joinTail, List.map_append, List.flatten_append]; simp
theorem shown_snoc {a : Ans} {k : Nat} (hk : k < a.names.length) : shown a (k + 1) = shown a k ++ [32] ++ quoteF a.names[k] := by
  rw [shown, showWords_snoc hk]
  unfold showWords
  rw [join_snoc, shown, showWords]; simp
theorem shown0 (a : Ans) : shown a 0 = Lib.itoa a.err ++ [32] ++ Lib.decDigits a.n.toNat ++ [32] ++ quoteF a.text := by
  simp [shown, showWords, Lib.join_cons, Lib.joinTail]
theorem showF_eq (a : Ans) : showF a = shown a a.names.length ++ [10] := rfl
theorem shown_len {a : Ans} (hi : AnsIn a) (hf : AnsFew a) (k : Nat) : (shown a k).length ≤ 13013 := by
  obtain ⟨g1, g2⟩ := showWords_len hi hf k
  have gj := join_len (showWords a k) 32 1000 g2
  exact Nat.le_trans gj (by have := Nat.mul_le_mul_right (1000 + 1) g1; omega)
/-- The sign. -/
def signF (n : Int) : List UInt8 := if n < 0 then [45] else []
theorem itoa_sign (n : Int) : Lib.itoa n = signF n ++ Lib.decDigits n.natAbs := by
  unfold Lib.itoa signF
  split
  · simp
  · have : n.toNat = n.natAbs := by omega
    rw [this]; simp

set_option maxRecDepth 100000 in
set_option maxHeartbeats 4000000 in
theorem rshow_any {S : Nat → Prop} (w : World) (a : Ans) (v : Value) (h : Texts S w v a.names) (hi : AnsIn a) (hf : AnsFew a) (hl : -4611686018427387904 < a.err) :
    Calls Tryd.prog 27 #[.agg (ansCells a v)] w fun e w' => e = .returned (str (showF a)) ∧ Ext w w' := by
  have hbx := newAt w (.cells (ansCells a v) 55)
  have hux : Ext w (w.alloc (.cells (ansCells a v) 55)) := (Upd.refl _ _).alloc _
  have HR := Lib.hid (h.ext hux)
  obtain ⟨va, vc, rfl, -, -, -⟩ := h
  obtain ⟨N, hN⟩ : ∃ N : Nat, a.n = N := Int.eq_ofNat_of_zero_le hi.n0
  have hN64 : N < 18446744073709551616 := by have := hi.n1; omega
  have p0 : (w.alloc (.cells (ansCells a (.slice va a.names.length vc)) 55)).cell? ⟨w.heap.size, 0, none⟩ = some (.int .i64 a.err) := cellAt hbx 0 _ rfl
  have p1 : (w.alloc (.cells (ansCells a (.slice va a.names.length vc)) 55)).cell? ⟨w.heap.size, 1, none⟩ = some (.int .u64 N) := by rw [← hN]; exact cellAt hbx 1 _ rfl
  have p2 : (w.alloc (.cells (ansCells a (.slice va a.names.length vc)) 55)).cell? ⟨w.heap.size, 2, none⟩ = some (str a.text) := cellAt hbx 2 _ rfl
  have HN := Lib.hid hN
  obtain ⟨wb, hwb⟩ : ∃ wb, wb = w.alloc (.cells (ansCells a (.slice va a.names.length vc)) 55) := ⟨_, rfl⟩
  rw [← hwb] at hbx hux p0 p1 p2 HR
  obtain ⟨M, hM⟩ : ∃ M : Nat, M = a.err.natAbs := ⟨_, rfl⟩
  obtain ⟨sg, hsg⟩ : ∃ sg, sg = signF a.err := ⟨_, rfl⟩
  have hsgl : sg.length ≤ 1 := by rw [hsg, signF]; split <;> simp
  have hM64 : M < 9223372036854775808 := by have := hi.e1; omega
  have he1 := hi.e1
  have HM := Lib.hid hM
  have HSG := Lib.hid hsg
  have HBX := Lib.hid hbx
  have HUX := Lib.hid hux
  have HWB := Lib.hid hwb
  have hswb : w.heap.size < wb.heap.size := lt_of_heap hbx
  clear hbx hux hN hwb hM hsg
  simp only [ansCells]
  go_enter Tryd.func27, Tryd.ntmps27
  go_upto_if 9 with (fail)
  rw [show (w.alloc (.cells #[.int .i64 a.err, .int .u64 a.n, str a.text, .slice va a.names.length vc] 55)) = wb from HWB.out.symm]
  go_cut [3, 4] from 10 to 11 (fun v3 v4 wx => v3 = str sg ∧ v4 = .int .i64 (M : Int) ∧ wx = wb)
  case first =>
    by_cases hneg : a.err < 0
    · go_wp2_with fail
      go_meet
      case rel => refine ⟨by rw [HSG.out, signF, if_pos hneg], ?_, rfl⟩; rw [HM.out]; congr 1; omega
    · go_wp2_with fail
      go_meet
      case rel => refine ⟨by rw [HSG.out, signF, if_neg (by omega)], ?_, rfl⟩; rw [HM.out]; congr 1; omega
  case rest =>
    obtain ⟨rfl, rfl, rfl⟩ := hcut
    obtain ⟨wb, hwb⟩ : ∃ x, x = wc := ⟨_, rfl⟩
    subst hwb
    have hdl1 := dec_len (u := M) (by omega)
    have hdl2 := dec_len (u := N) hN64
    have hql := quoteF_len a.text
    have hte : a.text.length ≤ 17592186044416 := by have := hf.1; omega
    have htl := hf.1
    have hsh0 : shown a 0 = sg ++ Lib.decDigits M ++ [32] ++ Lib.decDigits N ++ [32] ++ quoteF a.text := by rw [shown0, itoa_sign, HN.out, HM.out, HSG.out]; rfl
    have HSH := Lib.hid hsh0
    clear hsh0
    go_upto_region 6 with (fail)
    go_cut [3] from 12 to 26 (fun v3 wx => v3 = str (shown a 0) ∧ Ext wb wx)
    case first =>
      have E := (Upd.refl Nothing wb).drew
      have hwm : IntKind.u64.wrap (M : Int) = (M : Int) := by rw [IntKind.wrap_u64]; omega
      have z1 : ¬ 9223372036854775807 < sg.length + (Lib.decDigits M).length := by omega
      have z2 : ¬ 9223372036854775807 < sg.length + (Lib.decDigits M).length + 1 := by omega
      have z3 : ¬ 9223372036854775807 < sg.length + (Lib.decDigits M).length + 1 + (Lib.decDigits N).length := by omega
      have z4 : ¬ 9223372036854775807 < sg.length + (Lib.decDigits M).length + 1 + (Lib.decDigits N).length + 1 := by omega
      have z5 : ¬ 9223372036854775807 < sg.length + (Lib.decDigits M).length + 1 + (Lib.decDigits N).length + 1 + (quoteF a.text).length := by omega
      have hM64' : M < 18446744073709551616 := by omega
      go_region_held3 (fun w' => w'.cell? ⟨w.heap.size, 1, none⟩ = some (.int .u64 N) ∧ w'.cell? ⟨w.heap.size, 2, none⟩ = some (str a.text)) (first | go_keep | exact ⟨s1, s2⟩)
        ((first
          | (go_at_call 57; refine (digits_any _ _ (by assumption)).mono ?_; rintro e wx ⟨rfl, hu⟩; have E := E.trans hu; have s1 := E.cell p1 (fun e => e); have s2 := E.cell p2 (fun e => e))
          | (go_at_call 30; refine (rQuote_any _ a.text hte).mono ?_; rintro e wx ⟨rfl, hu⟩; have E := E.trans hu; have s1 := E.cell p1 (fun e => e); have s2 := E.cell p2 (fun e => e))))
      all_goals
        go_wp2_with fail
        go_meet
        case rel =>
          refine ⟨?_, E⟩
          rw [HSH.out]
          show Value.string _ = Value.string _
          congr 1
          first | done | (apply ByteArray.ext; simp)
    case rest =>
      obtain ⟨rfl, hx⟩ := hcut
      have hl0 := shown_len hi hf 0
      have HX := Lib.hid hx
      have G := HR.out.addr
      have HG := Lib.hid G
      have HB := Lib.hid (hx.at_ HBX.out id)
      have hfn := hf.2.1
      clear hx p0 p1 p2 G
      go_wp2
      go_loopw [3, 5] (fun v i wr => ∃ k : Nat, k ≤ a.names.length ∧ i = .int .i64 k ∧ Ext wb wr ∧ v = str (shown a k)) (fun _ i _ => a.names.length - (intOf i).toNat)
      case atStart => exact ⟨0, Nat.zero_le _, rfl, HX.out, rfl⟩
      case round =>
        obtain ⟨k, hk, rfl, hx, rfl⟩ := hrel
        have p3 : wr.cell? ⟨w.heap.size, 3, none⟩ = some (.slice va a.names.length vc) := hx.cell (cellAt HBX.out 3 _ rfl) id
        have HX1 := Lib.hid hx
        have hl1 := shown_len hi hf k
        have hnl : a.names.length ≤ 9223372036854775807 := by omega
        by_cases hlt : k < a.names.length
        · obtain ⟨b1, o1, c1, e1, -, -, -, hq1⟩ := HG.out (by omega)
          cases e1
          have hc1 := hx.cell (texts_cell hq1 k hlt) id
          obtain ⟨s, hs⟩ : ∃ s, s = a.names[k] := ⟨_, rfl⟩
          rw [← hs] at hc1
          have hsl : s.length ≤ 100 := hf.2.2 s (by rw [hs]; exact List.getElem_mem hlt)
          have hsl' : s.length ≤ 17592186044416 := by omega
          have hql := quoteF_len s
          have HS := Lib.hid hs
          clear hx hq1 hs
          go_wp2_with (go_at_call 30; fail)
          refine (rQuote_any _ s hsl').mono ?_
          rintro e w5 ⟨rfl, hx5⟩
          have HX5 := Lib.hid (HX1.out.trans hx5)
          clear hx5 hc1
          go_wp2
          go_roundw
          case rel =>
            refine ⟨k + 1, by omega, by go_num, HX5.out, ?_⟩
            rw [shown_snoc hlt, ← HS.out]
            show Value.string _ = Value.string _
            congr 1
            first | done | (apply ByteArray.ext; simp)
          case measure => simp [intOf]; omega
        · have hkl : k = a.names.length := by omega
          subst hkl
          go_wp2
          go_ret
          refine ⟨?_, HUX.out.trans HX1.out⟩
          rw [showF_eq]
          show Ending.returned (Value.string _) = _
          congr 2
          first | done | (apply ByteArray.ext; simp)
end Go.Proofs.YtlhpcgmbbeihiaaDoor
