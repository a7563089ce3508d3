/-
  CONTRACTS of the law's own functions few and little: where they say yes there are few bytes.
-/
import Derived.Test.YtlhpcgmbbeihiaaDoorDLRef
import Derived.Test.YtlhpcgmbbeihiaaDoorLAns
namespace Go.Proofs.YtlhpcgmbbeihiaaDoor
open Go.RowKit

def OpFew (o : Oper') : Prop := o.name.length ≤ 200 ∧ o.to.length ≤ 200 ∧ o.text.length ≤ 200 ∧ o.edits.length ≤ 20 ∧ ∀ e ∈ o.edits, e.text.length ≤ 200
def LawFew (p : Prop) (w : World) (e : Ending) (w' : World) : Prop := ∃ b, e = .returned (.bool b) ∧ (b = true → p) ∧ Ext w w'
theorem lawFew_no {p : Prop} {w w' : World} (h : Ext w w') : LawFew p w (.returned (.bool false)) w' := ⟨false, rfl, ⟨fun e => (by cases e), h⟩⟩
def EdFew (l : List Edit) (k : Nat) : Prop := ∀ e ∈ l.take k, e.text.length ≤ 200
theorem edFew_succ {l : List Edit} {k : Nat} (hk : k < l.length) (h : EdFew l k) (h1 : (l[k]).text.length ≤ 200) : EdFew l (k + 1) := by
  intro e he
  rw [List.take_succ_eq_append_getElem hk] at he
  rcases List.mem_append.1 he with he | he
  · exact h e he
  · simp at he; subst he; exact h1
def TxFew (l : List (List UInt8)) (k : Nat) : Prop := ∀ e ∈ l.take k, e.length ≤ 100
theorem txFew_succ {l : List (List UInt8)} {k : Nat} (hk : k < l.length) (h : TxFew l k) (h1 : (l[k]).length ≤ 100) : TxFew l (k + 1) := by
  intro e he
  rw [List.take_succ_eq_append_getElem hk] at he
  rcases List.mem_append.1 he with he | he
  · exact h e he
  · simp at he; subst he; exact h1

set_option maxRecDepth 100000 in
set_option maxHeartbeats 2000000 in
theorem lawFew_any {S : Nat → Prop} (w : World) (o : Oper') (v : Value) (h : Row S w v o.edits.length (editCells o.edits)) :
    Calls Tryd.prog 8 #[.agg (opCells o v)] w (LawFew (OpFew o) w) := by
  have hbx := newAt w (.cells (opCells o v) 25)
  have hux : Ext w (w.alloc (.cells (opCells o v) 25)) := (Upd.refl _ _).alloc _
  have g1 := (h.ext hux).addr
  obtain ⟨a, c, rfl, hn, hm, -⟩ := h
  obtain ⟨wb, hwb⟩ : ∃ wb, wb = w.alloc (.cells (opCells o (.slice a o.edits.length c)) 25) := ⟨_, rfl⟩
  rw [← hwb] at hbx hux g1
  unfold maxLen at hm
  have HBX := Lib.hid hbx
  have HUX := Lib.hid hux
  have HWB := Lib.hid hwb
  have G1 := Lib.hid g1
  clear hbx hux hwb g1
  simp only [opCells]
  go_enter Tryd.func8, Tryd.ntmps8
  go_wp2
  rw [show (w.alloc (.cells #[.int .u8 o.kind, .int .u64 o.doc, str o.name, str o.to, str o.text, .slice a o.edits.length c, .int .u64 o.epoch, .int .u64 o.version, .int .u64 o.dur] 25)) = wb from HWB.out.symm]
  go_loopw [3] (fun i wr => ∃ k : Nat, k ≤ o.edits.length ∧ k ≤ 21 ∧ i = .int .i64 k ∧ Ext wb wr ∧ EdFew o.edits k)
    (fun i _ => o.edits.length - (intOf i).toNat)
  case atStart => exact ⟨0, Nat.zero_le _, by omega, rfl, Upd.refl _ _, fun e he => by simp at he⟩
  case round =>
    obtain ⟨k, hk, hk21, rfl, hx, hfe⟩ := hrel
    have HX := Lib.hid hx
    have HFE := Lib.hid hfe
    have hbr := hx.at_ HBX.out id
    have y2 := cellAt hbr 2 (str o.name) rfl
    have y3 := cellAt hbr 3 (str o.to) rfl
    have y4 := cellAt hbr 4 (str o.text) rfl
    have y5 := cellAt hbr 5 (.slice a o.edits.length c) rfl
    clear hx hfe hbr
    by_cases hlt : k < o.edits.length
    case neg =>
      have hkl : k = o.edits.length := by omega
      have HFA := Lib.hid (show ∀ x ∈ o.edits, x.text.length ≤ 200 from by have := HFE.out; unfold EdFew at this; rwa [hkl, List.take_length] at this)
      by_cases h1 : o.name.length ≤ 200
      case neg =>
        have q : decide ((o.name.length : Int) ≤ 200) = false := by simp; omega
        clear h1 hkl
        go_wp2
        go_ret
        exact lawFew_no (HUX.out.trans HX.out)
      have q1 : decide ((o.name.length : Int) ≤ 200) = true := by simp; omega
      by_cases h2 : o.to.length ≤ 200
      case neg =>
        have q : decide ((o.to.length : Int) ≤ 200) = false := by simp; omega
        clear h1 h2 hkl
        go_wp2
        go_ret
        exact lawFew_no (HUX.out.trans HX.out)
      have q2 : decide ((o.to.length : Int) ≤ 200) = true := by simp; omega
      by_cases h3 : o.text.length ≤ 200
      case neg =>
        have q : decide ((o.text.length : Int) ≤ 200) = false := by simp; omega
        clear h1 h2 h3 hkl
        go_wp2
        go_ret
        exact lawFew_no (HUX.out.trans HX.out)
      have q3 : decide ((o.text.length : Int) ≤ 200) = true := by simp; omega
      by_cases h4 : o.edits.length ≤ 20
      case neg =>
        have q : decide ((o.edits.length : Int) ≤ 20) = false := by simp; omega
        clear h1 h2 h3 h4 hkl
        go_wp2
        go_ret
        exact lawFew_no (HUX.out.trans HX.out)
      have q4 : decide ((o.edits.length : Int) ≤ 20) = true := by simp; omega
      have HF := Lib.hid (show OpFew o from ⟨h1, h2, h3, h4, HFA.out⟩)
      clear h1 h2 h3 h4 hkl
      go_wp2
      go_ret
      exact ⟨true, rfl, fun _ => HF.out, HUX.out.trans HX.out⟩
    by_cases hlt2 : k < 21
    case neg =>
      have q2 : decide ((k : Int) < 21) = false := by simp; omega
      have q4 : decide ((o.edits.length : Int) ≤ 20) = false := by simp; omega
      have hzz : ¬ (o.edits.length : Int) ≤ 20 := by omega
      by_cases h1 : o.name.length ≤ 200
      case neg =>
        have q : decide ((o.name.length : Int) ≤ 200) = false := by simp; omega
        clear h1
        go_wp2
        go_ret
        exact lawFew_no (HUX.out.trans HX.out)
      have q1 : decide ((o.name.length : Int) ≤ 200) = true := by simp; omega
      by_cases h2 : o.to.length ≤ 200
      case neg =>
        have q : decide ((o.to.length : Int) ≤ 200) = false := by simp; omega
        clear h1 h2
        go_wp2
        go_ret
        exact lawFew_no (HUX.out.trans HX.out)
      have q2' : decide ((o.to.length : Int) ≤ 200) = true := by simp; omega
      by_cases h3 : o.text.length ≤ 200
      case neg =>
        have q : decide ((o.text.length : Int) ≤ 200) = false := by simp; omega
        clear h1 h2 h3
        go_wp2
        go_ret
        exact lawFew_no (HUX.out.trans HX.out)
      have q3 : decide ((o.text.length : Int) ≤ 200) = true := by simp; omega
      clear h1 h2 h3
      go_wp2
      go_ret
      exact lawFew_no (HUX.out.trans HX.out)
    have q2 : decide ((k : Int) < 21) = true := by simp; omega
    obtain ⟨b1, o1, c1', q1, -, -, -, hc1⟩ := G1.out (by omega)
    cases q1
    obtain ⟨-, -, p3⟩ := edit_cells hc1 k hlt
    have p3 := HX.out.cell p3 id
    clear hc1
    by_cases h1 : (o.edits[k]).text.length ≤ 200
    · have q : ¬ (200 : Int) < ((o.edits[k]).text.length : Int) := by omega
      have H1 := Lib.hid h1
      clear h1
      go_wp2
      go_roundw
      case rel => exact ⟨k + 1, by omega, by omega, by go_num, HX.out, edFew_succ hlt HFE.out H1.out⟩
      case measure => simp [intOf]; omega
    · have q : (200 : Int) < ((o.edits[k]).text.length : Int) := by omega
      clear h1
      go_wp2
      go_ret
      exact lawFew_no (HUX.out.trans HX.out)

set_option maxRecDepth 100000 in
set_option maxHeartbeats 2000000 in
theorem little_any {S : Nat → Prop} (w : World) (x : Ans) (v : Value) (h : Texts S w v x.names) :
    Calls Tryd.prog 23 #[.agg (ansCells x v)] w (LawFew (AnsFew x ∧ -4611686018427387904 < x.err) w) := by
  have hbx := newAt w (.cells (ansCells x v) 53)
  have hux : Ext w (w.alloc (.cells (ansCells x v) 53)) := (Upd.refl _ _).alloc _
  have g1 := (h.ext hux).addr
  obtain ⟨a, c, rfl, hn, hm, -⟩ := h
  obtain ⟨wb, hwb⟩ : ∃ wb, wb = w.alloc (.cells (ansCells x (.slice a x.names.length c)) 53) := ⟨_, rfl⟩
  rw [← hwb] at hbx hux g1
  unfold maxLen at hm
  have HBX := Lib.hid hbx
  have HUX := Lib.hid hux
  have HWB := Lib.hid hwb
  have G1 := Lib.hid g1
  clear hbx hux hwb g1
  simp only [ansCells]
  go_enter Tryd.func23, Tryd.ntmps23
  go_wp2
  rw [show (w.alloc (.cells #[.int .i64 x.err, .int .u64 x.n, str x.text, .slice a x.names.length c] 53)) = wb from HWB.out.symm]
  go_loopw [3] (fun i wr => ∃ k : Nat, k ≤ x.names.length ∧ k ≤ 11 ∧ i = .int .i64 k ∧ Ext wb wr ∧ TxFew x.names k)
    (fun i _ => x.names.length - (intOf i).toNat)
  case atStart => exact ⟨0, Nat.zero_le _, by omega, rfl, Upd.refl _ _, fun e he => by simp at he⟩
  case round =>
    obtain ⟨k, hk, hk21, rfl, hx, hfe⟩ := hrel
    have HX := Lib.hid hx
    have HFE := Lib.hid hfe
    have hbr := hx.at_ HBX.out id
    have y0 := cellAt hbr 0 (.int .i64 x.err) rfl
    have y2 := cellAt hbr 2 (str x.text) rfl
    have y5 := cellAt hbr 3 (.slice a x.names.length c) rfl
    clear hx hfe hbr
    by_cases hlt : k < x.names.length
    case neg =>
      have hkl : k = x.names.length := by omega
      have HFA := Lib.hid (show ∀ s ∈ x.names, s.length ≤ 100 from by have := HFE.out; unfold TxFew at this; rwa [hkl, List.take_length] at this)
      by_cases h1 : x.text.length ≤ 300
      case neg =>
        have q : decide ((x.text.length : Int) ≤ 300) = false := by simp; omega
        clear h1 hkl
        go_wp2
        go_ret
        exact lawFew_no (HUX.out.trans HX.out)
      have q1 : decide ((x.text.length : Int) ≤ 300) = true := by simp; omega
      by_cases h4 : x.names.length ≤ 10
      case neg =>
        have q : decide ((x.names.length : Int) ≤ 10) = false := by simp; omega
        clear h1 h4 hkl
        go_wp2
        go_ret
        exact lawFew_no (HUX.out.trans HX.out)
      have q4 : decide ((x.names.length : Int) ≤ 10) = true := by simp; omega
      by_cases h5 : -4611686018427387904 < x.err
      case neg =>
        have q : decide (-4611686018427387904 < x.err) = false := by simp; omega
        clear h1 h4 h5 hkl
        go_wp2
        go_ret
        exact lawFew_no (HUX.out.trans HX.out)
      have q5 : decide (-4611686018427387904 < x.err) = true := by simp; omega
      have HF := Lib.hid (show AnsFew x ∧ -4611686018427387904 < x.err from ⟨⟨h1, h4, HFA.out⟩, h5⟩)
      clear h1 h4 h5 hkl
      go_wp2
      go_ret
      exact ⟨true, rfl, fun _ => HF.out, HUX.out.trans HX.out⟩
    by_cases hlt2 : k < 11
    case neg =>
      have q2 : decide ((k : Int) < 11) = false := by simp; omega
      have q4 : decide ((x.names.length : Int) ≤ 10) = false := by simp; omega
      have hzz : ¬ (x.names.length : Int) ≤ 10 := by omega
      by_cases h1 : x.text.length ≤ 300
      case neg =>
        have q : decide ((x.text.length : Int) ≤ 300) = false := by simp; omega
        clear h1
        go_wp2
        go_ret
        exact lawFew_no (HUX.out.trans HX.out)
      have q1 : decide ((x.text.length : Int) ≤ 300) = true := by simp; omega
      clear h1
      go_wp2
      go_ret
      exact lawFew_no (HUX.out.trans HX.out)
    have q2 : decide ((k : Int) < 11) = true := by simp; omega
    obtain ⟨b1, o1, c1', q1, -, -, -, hc1⟩ := G1.out (by omega)
    cases q1
    have p3 := HX.out.cell (texts_cell hc1 k hlt) id
    clear hc1
    by_cases h1 : (x.names[k]).length ≤ 100
    · have q : ¬ (100 : Int) < ((x.names[k]).length : Int) := by omega
      have H1 := Lib.hid h1
      clear h1
      go_wp2
      go_roundw
      case rel => exact ⟨k + 1, by omega, by omega, by go_num, HX.out, txFew_succ hlt HFE.out H1.out⟩
      case measure => simp [intOf]; omega
    · have q : (100 : Int) < ((x.names[k]).length : Int) := by omega
      clear h1
      go_wp2
      go_ret
      exact lawFew_no (HUX.out.trans HX.out)
end Go.Proofs.YtlhpcgmbbeihiaaDoor
