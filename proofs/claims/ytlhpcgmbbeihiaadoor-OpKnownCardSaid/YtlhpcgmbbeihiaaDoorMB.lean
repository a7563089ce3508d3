/-
  CONTRACT of the reference's ref19.Right, kind by kind. By program (gen/ref19c.py).
  CONTRACT of the reference's ref19.Right, kind by kind. By program (gen/ref19c.py).
  CONTRACT of the reference's ref19.Right, kind by kind. By program (gen/ref19c.py).
  CONTRACT of the reference's ref19.Right, kind by kind. By program (gen/ref19c.py).
-/
import Derived.Test.YtlhpcgmbbeihiaaDoorDHas
namespace Go.Proofs.YtlhpcgmbbeihiaaDoor
open Go.RowKit

set_option maxRecDepth 100000 in
set_option maxHeartbeats 4000000 in
theorem rright1 {S : Nat → Prop} (w : World) (doc : Int) (name to text : List UInt8) (edits : List Edit) (epoch version dur : Int) (v : Value) (h : Row S w v edits.length (editCells edits)) (hwf : ∀ x ∈ edits, 0 ≤ x.kind) :
    Calls Tryd.prog 20 #[.agg (opCells ⟨1, doc, name, to, text, edits, epoch, version, dur⟩ v)] w (RightPost ⟨1, doc, name, to, text, edits, epoch, version, dur⟩ w) := by
  have hbx := newAt w (.cells (opCells ⟨1, doc, name, to, text, edits, epoch, version, dur⟩ v) 36)
  have hux : Ext w (w.alloc (.cells (opCells ⟨1, doc, name, to, text, edits, epoch, version, dur⟩ v) 36)) := (Upd.refl _ _).alloc _
  have HR := Lib.hid (h.ext hux)
  have HBX := Lib.hid hbx
  have HUX := Lib.hid hux
  have HWF := Lib.hid hwf
  obtain ⟨a, c, rfl, -, -, -⟩ := h
  clear hbx hux hwf
  simp only [opCells]
  go_enter Tryd.func20, Tryd.ntmps20
  go_wp2_with (go_at_call 52; fail)
  refine (rdeltaRight_any _ _ edits HR.out HWF.out).mono ?_
  rintro e w1 ⟨rfl, hu1⟩
  have HU := Lib.hid (HUX.out.trans hu1)
  have HB := Lib.hid (hu1.at_ HBX.out id)
  clear hu1 HR HBX HUX HWF
  by_cases hd : deltaRight edits = true
  case neg =>
    have hdf : deltaRight edits = false := by simpa using hd
    rw [hdf]
    have HD := Lib.hid hdf
    clear hd hdf
    go_wp2
    go_ret
    exact ⟨by rw [opRight]; simp [HD.out], HU.out⟩
  rw [hd]
  have HD := Lib.hid hd
  clear hd
  have x0 := cellAt HB.out 0 (.int .u8 1) rfl
  have x1 := cellAt HB.out 1 (.int .u64 doc) rfl
  go_wp2_with (go_at_call 53; fail)
  refine (has_any _ 1 (by decide) 100 100 rfl).mono ?_
  rintro e w2 ⟨rfl, hu⟩
  rw [show (partsF 1).contains 100 = false from by decide]
  dsimp only [List.append] at *
  have HU := Lib.hid (HU.out.trans hu)
  have HB := Lib.hid (hu.at_ HB.out id)
  clear hu x0 x1
  by_cases hb : doc = 0
  case neg =>
    have x1 := cellAt HB.out 1 (.int .u64 doc) rfl
    have hq : (doc == 0) = false := by simpa using hb
    have HN := Lib.hid hb
    clear hb
    go_wp2
    go_ret
    exact ⟨by rw [opRight]; simp [allParts, partsF, blankPart, HN.out], HU.out⟩
  subst hb
  have x1 := cellAt HB.out 1 (.int .u64 0) rfl
  have x0 := cellAt HB.out 0 (.int .u8 1) rfl
  have x2 := cellAt HB.out 2 (str name) rfl
  go_wp2_with (go_at_call 53; fail)
  refine (has_any _ 1 (by decide) 110 110 rfl).mono ?_
  rintro e w3 ⟨rfl, hu⟩
  rw [show (partsF 1).contains 110 = true from by decide]
  have HU := Lib.hid (HU.out.trans hu)
  have HB := Lib.hid (hu.at_ HB.out id)
  clear hu x0 x2
  have x0 := cellAt HB.out 0 (.int .u8 1) rfl
  have x3 := cellAt HB.out 3 (str to) rfl
  go_wp2_with (go_at_call 53; fail)
  refine (has_any _ 1 (by decide) 111 111 rfl).mono ?_
  rintro e w4 ⟨rfl, hu⟩
  rw [show (partsF 1).contains 111 = false from by decide]
  have HU := Lib.hid (HU.out.trans hu)
  have HB := Lib.hid (hu.at_ HB.out id)
  clear hu x0 x3
  by_cases hb : to = []
  case neg =>
    have x3 := cellAt HB.out 3 (str to) rfl
    have hq : ((⟨to.toArray⟩ : ByteArray).toList == ([] : List UInt8)) = false := by rw [beq_eq_false_iff_ne, bytes_toList]; exact hb
    have hq2 : to.isEmpty = false := by simpa using hb
    have HN := Lib.hid hb
    clear hb
    go_wp2
    go_ret
    exact ⟨by rw [opRight]; simp [allParts, partsF, blankPart, HN.out], HU.out⟩
  subst hb
  have x3 := cellAt HB.out 3 (str []) rfl
  have x0 := cellAt HB.out 0 (.int .u8 1) rfl
  have x4 := cellAt HB.out 4 (str text) rfl
  go_wp2_with (go_at_call 53; fail)
  refine (has_any _ 1 (by decide) 116 116 rfl).mono ?_
  rintro e w5 ⟨rfl, hu⟩
  rw [show (partsF 1).contains 116 = false from by decide]
  have HU := Lib.hid (HU.out.trans hu)
  have HB := Lib.hid (hu.at_ HB.out id)
  clear hu x0 x4
  by_cases hb : text = []
  case neg =>
    have x4 := cellAt HB.out 4 (str text) rfl
    have hq : ((⟨text.toArray⟩ : ByteArray).toList == ([] : List UInt8)) = false := by rw [beq_eq_false_iff_ne, bytes_toList]; exact hb
    have hq2 : text.isEmpty = false := by simpa using hb
    have HN := Lib.hid hb
    clear hb
    go_wp2
    go_ret
    exact ⟨by rw [opRight]; simp [allParts, partsF, blankPart, HN.out], HU.out⟩
  subst hb
  have x4 := cellAt HB.out 4 (str []) rfl
  have x0 := cellAt HB.out 0 (.int .u8 1) rfl
  have x5 := cellAt HB.out 5 (.slice a edits.length c) rfl
  go_wp2_with (go_at_call 53; fail)
  refine (has_any _ 1 (by decide) 101 101 rfl).mono ?_
  rintro e w6 ⟨rfl, hu⟩
  rw [show (partsF 1).contains 101 = false from by decide]
  have HU := Lib.hid (HU.out.trans hu)
  have HB := Lib.hid (hu.at_ HB.out id)
  clear hu x0 x5
  by_cases hb : edits = []
  case neg =>
    have x5 := cellAt HB.out 5 (.slice a edits.length c) rfl
    have hq : ((edits.length : Int) == 0) = false := by simpa using hb
    have HN := Lib.hid hb
    clear hb
    go_wp2
    go_ret
    exact ⟨by rw [opRight]; simp [allParts, partsF, blankPart, HN.out], HU.out⟩
  subst hb
  have x5 := cellAt HB.out 5 (.slice a 0 c) rfl
  have x0 := cellAt HB.out 0 (.int .u8 1) rfl
  have x6 := cellAt HB.out 6 (.int .u64 epoch) rfl
  go_wp2_with (go_at_call 53; fail)
  refine (has_any _ 1 (by decide) 112 112 rfl).mono ?_
  rintro e w7 ⟨rfl, hu⟩
  rw [show (partsF 1).contains 112 = false from by decide]
  have HU := Lib.hid (HU.out.trans hu)
  have HB := Lib.hid (hu.at_ HB.out id)
  clear hu x0 x6
  by_cases hb : epoch = 0
  case neg =>
    have x6 := cellAt HB.out 6 (.int .u64 epoch) rfl
    have hq : (epoch == 0) = false := by simpa using hb
    have HN := Lib.hid hb
    clear hb
    go_wp2
    go_ret
    exact ⟨by rw [opRight]; simp [allParts, partsF, blankPart, HN.out], HU.out⟩
  subst hb
  have x6 := cellAt HB.out 6 (.int .u64 0) rfl
  have x0 := cellAt HB.out 0 (.int .u8 1) rfl
  have x7 := cellAt HB.out 7 (.int .u64 version) rfl
  go_wp2_with (go_at_call 53; fail)
  refine (has_any _ 1 (by decide) 118 118 rfl).mono ?_
  rintro e w8 ⟨rfl, hu⟩
  rw [show (partsF 1).contains 118 = false from by decide]
  have HU := Lib.hid (HU.out.trans hu)
  have HB := Lib.hid (hu.at_ HB.out id)
  clear hu x0 x7
  by_cases hb : version = 0
  case neg =>
    have x7 := cellAt HB.out 7 (.int .u64 version) rfl
    have hq : (version == 0) = false := by simpa using hb
    have HN := Lib.hid hb
    clear hb
    go_wp2
    go_ret
    exact ⟨by rw [opRight]; simp [allParts, partsF, blankPart, HN.out], HU.out⟩
  subst hb
  have x7 := cellAt HB.out 7 (.int .u64 0) rfl
  have x0 := cellAt HB.out 0 (.int .u8 1) rfl
  have x8 := cellAt HB.out 8 (.int .u64 dur) rfl
  go_wp2_with (go_at_call 53; fail)
  refine (has_any _ 1 (by decide) 117 117 rfl).mono ?_
  rintro e w9 ⟨rfl, hu⟩
  rw [show (partsF 1).contains 117 = false from by decide]
  have HU := Lib.hid (HU.out.trans hu)
  have HB := Lib.hid (hu.at_ HB.out id)
  clear hu x0 x8
  by_cases hb : dur = 0
  case neg =>
    have x8 := cellAt HB.out 8 (.int .u64 dur) rfl
    have hq : (dur == 0) = false := by simpa using hb
    have HN := Lib.hid hb
    clear hb
    go_wp2
    go_ret
    exact ⟨by rw [opRight]; simp [allParts, partsF, blankPart, HN.out], HU.out⟩
  subst hb
  have x8 := cellAt HB.out 8 (.int .u64 0) rfl
  go_wp2
  go_ret
  exact ⟨by rw [opRight]; simp [allParts, partsF, blankPart, HD.out], HU.out⟩

set_option maxRecDepth 100000 in
set_option maxHeartbeats 4000000 in
theorem rright2 {S : Nat → Prop} (w : World) (doc : Int) (name to text : List UInt8) (edits : List Edit) (epoch version dur : Int) (v : Value) (h : Row S w v edits.length (editCells edits)) (hwf : ∀ x ∈ edits, 0 ≤ x.kind) :
    Calls Tryd.prog 20 #[.agg (opCells ⟨2, doc, name, to, text, edits, epoch, version, dur⟩ v)] w (RightPost ⟨2, doc, name, to, text, edits, epoch, version, dur⟩ w) := by
  have hbx := newAt w (.cells (opCells ⟨2, doc, name, to, text, edits, epoch, version, dur⟩ v) 36)
  have hux : Ext w (w.alloc (.cells (opCells ⟨2, doc, name, to, text, edits, epoch, version, dur⟩ v) 36)) := (Upd.refl _ _).alloc _
  have HR := Lib.hid (h.ext hux)
  have HBX := Lib.hid hbx
  have HUX := Lib.hid hux
  have HWF := Lib.hid hwf
  obtain ⟨a, c, rfl, -, -, -⟩ := h
  clear hbx hux hwf
  simp only [opCells]
  go_enter Tryd.func20, Tryd.ntmps20
  go_wp2_with (go_at_call 52; fail)
  refine (rdeltaRight_any _ _ edits HR.out HWF.out).mono ?_
  rintro e w1 ⟨rfl, hu1⟩
  have HU := Lib.hid (HUX.out.trans hu1)
  have HB := Lib.hid (hu1.at_ HBX.out id)
  clear hu1 HR HBX HUX HWF
  by_cases hd : deltaRight edits = true
  case neg =>
    have hdf : deltaRight edits = false := by simpa using hd
    rw [hdf]
    have HD := Lib.hid hdf
    clear hd hdf
    go_wp2
    go_ret
    exact ⟨by rw [opRight]; simp [HD.out], HU.out⟩
  rw [hd]
  have HD := Lib.hid hd
  clear hd
  have x0 := cellAt HB.out 0 (.int .u8 2) rfl
  have x1 := cellAt HB.out 1 (.int .u64 doc) rfl
  go_wp2_with (go_at_call 53; fail)
  refine (has_any _ 2 (by decide) 100 100 rfl).mono ?_
  rintro e w2 ⟨rfl, hu⟩
  rw [show (partsF 2).contains 100 = false from by decide]
  dsimp only [List.append] at *
  have HU := Lib.hid (HU.out.trans hu)
  have HB := Lib.hid (hu.at_ HB.out id)
  clear hu x0 x1
  by_cases hb : doc = 0
  case neg =>
    have x1 := cellAt HB.out 1 (.int .u64 doc) rfl
    have hq : (doc == 0) = false := by simpa using hb
    have HN := Lib.hid hb
    clear hb
    go_wp2
    go_ret
    exact ⟨by rw [opRight]; simp [allParts, partsF, blankPart, HN.out], HU.out⟩
  subst hb
  have x1 := cellAt HB.out 1 (.int .u64 0) rfl
  have x0 := cellAt HB.out 0 (.int .u8 2) rfl
  have x2 := cellAt HB.out 2 (str name) rfl
  go_wp2_with (go_at_call 53; fail)
  refine (has_any _ 2 (by decide) 110 110 rfl).mono ?_
  rintro e w3 ⟨rfl, hu⟩
  rw [show (partsF 2).contains 110 = true from by decide]
  have HU := Lib.hid (HU.out.trans hu)
  have HB := Lib.hid (hu.at_ HB.out id)
  clear hu x0 x2
  have x0 := cellAt HB.out 0 (.int .u8 2) rfl
  have x3 := cellAt HB.out 3 (str to) rfl
  go_wp2_with (go_at_call 53; fail)
  refine (has_any _ 2 (by decide) 111 111 rfl).mono ?_
  rintro e w4 ⟨rfl, hu⟩
  rw [show (partsF 2).contains 111 = false from by decide]
  have HU := Lib.hid (HU.out.trans hu)
  have HB := Lib.hid (hu.at_ HB.out id)
  clear hu x0 x3
  by_cases hb : to = []
  case neg =>
    have x3 := cellAt HB.out 3 (str to) rfl
    have hq : ((⟨to.toArray⟩ : ByteArray).toList == ([] : List UInt8)) = false := by rw [beq_eq_false_iff_ne, bytes_toList]; exact hb
    have hq2 : to.isEmpty = false := by simpa using hb
    have HN := Lib.hid hb
    clear hb
    go_wp2
    go_ret
    exact ⟨by rw [opRight]; simp [allParts, partsF, blankPart, HN.out], HU.out⟩
  subst hb
  have x3 := cellAt HB.out 3 (str []) rfl
  have x0 := cellAt HB.out 0 (.int .u8 2) rfl
  have x4 := cellAt HB.out 4 (str text) rfl
  go_wp2_with (go_at_call 53; fail)
  refine (has_any _ 2 (by decide) 116 116 rfl).mono ?_
  rintro e w5 ⟨rfl, hu⟩
  rw [show (partsF 2).contains 116 = false from by decide]
  have HU := Lib.hid (HU.out.trans hu)
  have HB := Lib.hid (hu.at_ HB.out id)
  clear hu x0 x4
  by_cases hb : text = []
  case neg =>
    have x4 := cellAt HB.out 4 (str text) rfl
    have hq : ((⟨text.toArray⟩ : ByteArray).toList == ([] : List UInt8)) = false := by rw [beq_eq_false_iff_ne, bytes_toList]; exact hb
    have hq2 : text.isEmpty = false := by simpa using hb
    have HN := Lib.hid hb
    clear hb
    go_wp2
    go_ret
    exact ⟨by rw [opRight]; simp [allParts, partsF, blankPart, HN.out], HU.out⟩
  subst hb
  have x4 := cellAt HB.out 4 (str []) rfl
  have x0 := cellAt HB.out 0 (.int .u8 2) rfl
  have x5 := cellAt HB.out 5 (.slice a edits.length c) rfl
  go_wp2_with (go_at_call 53; fail)
  refine (has_any _ 2 (by decide) 101 101 rfl).mono ?_
  rintro e w6 ⟨rfl, hu⟩
  rw [show (partsF 2).contains 101 = false from by decide]
  have HU := Lib.hid (HU.out.trans hu)
  have HB := Lib.hid (hu.at_ HB.out id)
  clear hu x0 x5
  by_cases hb : edits = []
  case neg =>
    have x5 := cellAt HB.out 5 (.slice a edits.length c) rfl
    have hq : ((edits.length : Int) == 0) = false := by simpa using hb
    have HN := Lib.hid hb
    clear hb
    go_wp2
    go_ret
    exact ⟨by rw [opRight]; simp [allParts, partsF, blankPart, HN.out], HU.out⟩
  subst hb
  have x5 := cellAt HB.out 5 (.slice a 0 c) rfl
  have x0 := cellAt HB.out 0 (.int .u8 2) rfl
  have x6 := cellAt HB.out 6 (.int .u64 epoch) rfl
  go_wp2_with (go_at_call 53; fail)
  refine (has_any _ 2 (by decide) 112 112 rfl).mono ?_
  rintro e w7 ⟨rfl, hu⟩
  rw [show (partsF 2).contains 112 = false from by decide]
  have HU := Lib.hid (HU.out.trans hu)
  have HB := Lib.hid (hu.at_ HB.out id)
  clear hu x0 x6
  by_cases hb : epoch = 0
  case neg =>
    have x6 := cellAt HB.out 6 (.int .u64 epoch) rfl
    have hq : (epoch == 0) = false := by simpa using hb
    have HN := Lib.hid hb
    clear hb
    go_wp2
    go_ret
    exact ⟨by rw [opRight]; simp [allParts, partsF, blankPart, HN.out], HU.out⟩
  subst hb
  have x6 := cellAt HB.out 6 (.int .u64 0) rfl
  have x0 := cellAt HB.out 0 (.int .u8 2) rfl
  have x7 := cellAt HB.out 7 (.int .u64 version) rfl
  go_wp2_with (go_at_call 53; fail)
  refine (has_any _ 2 (by decide) 118 118 rfl).mono ?_
  rintro e w8 ⟨rfl, hu⟩
  rw [show (partsF 2).contains 118 = false from by decide]
  have HU := Lib.hid (HU.out.trans hu)
  have HB := Lib.hid (hu.at_ HB.out id)
  clear hu x0 x7
  by_cases hb : version = 0
  case neg =>
    have x7 := cellAt HB.out 7 (.int .u64 version) rfl
    have hq : (version == 0) = false := by simpa using hb
    have HN := Lib.hid hb
    clear hb
    go_wp2
    go_ret
    exact ⟨by rw [opRight]; simp [allParts, partsF, blankPart, HN.out], HU.out⟩
  subst hb
  have x7 := cellAt HB.out 7 (.int .u64 0) rfl
  have x0 := cellAt HB.out 0 (.int .u8 2) rfl
  have x8 := cellAt HB.out 8 (.int .u64 dur) rfl
  go_wp2_with (go_at_call 53; fail)
  refine (has_any _ 2 (by decide) 117 117 rfl).mono ?_
  rintro e w9 ⟨rfl, hu⟩
  rw [show (partsF 2).contains 117 = false from by decide]
  have HU := Lib.hid (HU.out.trans hu)
  have HB := Lib.hid (hu.at_ HB.out id)
  clear hu x0 x8
  by_cases hb : dur = 0
  case neg =>
    have x8 := cellAt HB.out 8 (.int .u64 dur) rfl
    have hq : (dur == 0) = false := by simpa using hb
    have HN := Lib.hid hb
    clear hb
    go_wp2
    go_ret
    exact ⟨by rw [opRight]; simp [allParts, partsF, blankPart, HN.out], HU.out⟩
  subst hb
  have x8 := cellAt HB.out 8 (.int .u64 0) rfl
  go_wp2
  go_ret
  exact ⟨by rw [opRight]; simp [allParts, partsF, blankPart, HD.out], HU.out⟩

set_option maxRecDepth 100000 in
set_option maxHeartbeats 4000000 in
theorem rright3 {S : Nat → Prop} (w : World) (doc : Int) (name to text : List UInt8) (edits : List Edit) (epoch version dur : Int) (v : Value) (h : Row S w v edits.length (editCells edits)) (hwf : ∀ x ∈ edits, 0 ≤ x.kind) :
    Calls Tryd.prog 20 #[.agg (opCells ⟨3, doc, name, to, text, edits, epoch, version, dur⟩ v)] w (RightPost ⟨3, doc, name, to, text, edits, epoch, version, dur⟩ w) := by
  have hbx := newAt w (.cells (opCells ⟨3, doc, name, to, text, edits, epoch, version, dur⟩ v) 36)
  have hux : Ext w (w.alloc (.cells (opCells ⟨3, doc, name, to, text, edits, epoch, version, dur⟩ v) 36)) := (Upd.refl _ _).alloc _
  have HR := Lib.hid (h.ext hux)
  have HBX := Lib.hid hbx
  have HUX := Lib.hid hux
  have HWF := Lib.hid hwf
  obtain ⟨a, c, rfl, -, -, -⟩ := h
  clear hbx hux hwf
  simp only [opCells]
  go_enter Tryd.func20, Tryd.ntmps20
  go_wp2_with (go_at_call 52; fail)
  refine (rdeltaRight_any _ _ edits HR.out HWF.out).mono ?_
  rintro e w1 ⟨rfl, hu1⟩
  have HU := Lib.hid (HUX.out.trans hu1)
  have HB := Lib.hid (hu1.at_ HBX.out id)
  clear hu1 HR HBX HUX HWF
  by_cases hd : deltaRight edits = true
  case neg =>
    have hdf : deltaRight edits = false := by simpa using hd
    rw [hdf]
    have HD := Lib.hid hdf
    clear hd hdf
    go_wp2
    go_ret
    exact ⟨by rw [opRight]; simp [HD.out], HU.out⟩
  rw [hd]
  have HD := Lib.hid hd
  clear hd
  have x0 := cellAt HB.out 0 (.int .u8 3) rfl
  have x1 := cellAt HB.out 1 (.int .u64 doc) rfl
  go_wp2_with (go_at_call 53; fail)
  refine (has_any _ 3 (by decide) 100 100 rfl).mono ?_
  rintro e w2 ⟨rfl, hu⟩
  rw [show (partsF 3).contains 100 = false from by decide]
  dsimp only [List.append] at *
  have HU := Lib.hid (HU.out.trans hu)
  have HB := Lib.hid (hu.at_ HB.out id)
  clear hu x0 x1
  by_cases hb : doc = 0
  case neg =>
    have x1 := cellAt HB.out 1 (.int .u64 doc) rfl
    have hq : (doc == 0) = false := by simpa using hb
    have HN := Lib.hid hb
    clear hb
    go_wp2
    go_ret
    exact ⟨by rw [opRight]; simp [allParts, partsF, blankPart, HN.out], HU.out⟩
  subst hb
  have x1 := cellAt HB.out 1 (.int .u64 0) rfl
  have x0 := cellAt HB.out 0 (.int .u8 3) rfl
  have x2 := cellAt HB.out 2 (str name) rfl
  go_wp2_with (go_at_call 53; fail)
  refine (has_any _ 3 (by decide) 110 110 rfl).mono ?_
  rintro e w3 ⟨rfl, hu⟩
  rw [show (partsF 3).contains 110 = false from by decide]
  have HU := Lib.hid (HU.out.trans hu)
  have HB := Lib.hid (hu.at_ HB.out id)
  clear hu x0 x2
  by_cases hb : name = []
  case neg =>
    have x2 := cellAt HB.out 2 (str name) rfl
    have hq : ((⟨name.toArray⟩ : ByteArray).toList == ([] : List UInt8)) = false := by rw [beq_eq_false_iff_ne, bytes_toList]; exact hb
    have hq2 : name.isEmpty = false := by simpa using hb
    have HN := Lib.hid hb
    clear hb
    go_wp2
    go_ret
    exact ⟨by rw [opRight]; simp [allParts, partsF, blankPart, HN.out], HU.out⟩
  subst hb
  have x2 := cellAt HB.out 2 (str []) rfl
  have x0 := cellAt HB.out 0 (.int .u8 3) rfl
  have x3 := cellAt HB.out 3 (str to) rfl
  go_wp2_with (go_at_call 53; fail)
  refine (has_any _ 3 (by decide) 111 111 rfl).mono ?_
  rintro e w4 ⟨rfl, hu⟩
  rw [show (partsF 3).contains 111 = false from by decide]
  have HU := Lib.hid (HU.out.trans hu)
  have HB := Lib.hid (hu.at_ HB.out id)
  clear hu x0 x3
  by_cases hb : to = []
  case neg =>
    have x3 := cellAt HB.out 3 (str to) rfl
    have hq : ((⟨to.toArray⟩ : ByteArray).toList == ([] : List UInt8)) = false := by rw [beq_eq_false_iff_ne, bytes_toList]; exact hb
    have hq2 : to.isEmpty = false := by simpa using hb
    have HN := Lib.hid hb
    clear hb
    go_wp2
    go_ret
    exact ⟨by rw [opRight]; simp [allParts, partsF, blankPart, HN.out], HU.out⟩
  subst hb
  have x3 := cellAt HB.out 3 (str []) rfl
  have x0 := cellAt HB.out 0 (.int .u8 3) rfl
  have x4 := cellAt HB.out 4 (str text) rfl
  go_wp2_with (go_at_call 53; fail)
  refine (has_any _ 3 (by decide) 116 116 rfl).mono ?_
  rintro e w5 ⟨rfl, hu⟩
  rw [show (partsF 3).contains 116 = false from by decide]
  have HU := Lib.hid (HU.out.trans hu)
  have HB := Lib.hid (hu.at_ HB.out id)
  clear hu x0 x4
  by_cases hb : text = []
  case neg =>
    have x4 := cellAt HB.out 4 (str text) rfl
    have hq : ((⟨text.toArray⟩ : ByteArray).toList == ([] : List UInt8)) = false := by rw [beq_eq_false_iff_ne, bytes_toList]; exact hb
    have hq2 : text.isEmpty = false := by simpa using hb
    have HN := Lib.hid hb
    clear hb
    go_wp2
    go_ret
    exact ⟨by rw [opRight]; simp [allParts, partsF, blankPart, HN.out], HU.out⟩
  subst hb
  have x4 := cellAt HB.out 4 (str []) rfl
  have x0 := cellAt HB.out 0 (.int .u8 3) rfl
  have x5 := cellAt HB.out 5 (.slice a edits.length c) rfl
  go_wp2_with (go_at_call 53; fail)
  refine (has_any _ 3 (by decide) 101 101 rfl).mono ?_
  rintro e w6 ⟨rfl, hu⟩
  rw [show (partsF 3).contains 101 = false from by decide]
  have HU := Lib.hid (HU.out.trans hu)
  have HB := Lib.hid (hu.at_ HB.out id)
  clear hu x0 x5
  by_cases hb : edits = []
  case neg =>
    have x5 := cellAt HB.out 5 (.slice a edits.length c) rfl
    have hq : ((edits.length : Int) == 0) = false := by simpa using hb
    have HN := Lib.hid hb
    clear hb
    go_wp2
    go_ret
    exact ⟨by rw [opRight]; simp [allParts, partsF, blankPart, HN.out], HU.out⟩
  subst hb
  have x5 := cellAt HB.out 5 (.slice a 0 c) rfl
  have x0 := cellAt HB.out 0 (.int .u8 3) rfl
  have x6 := cellAt HB.out 6 (.int .u64 epoch) rfl
  go_wp2_with (go_at_call 53; fail)
  refine (has_any _ 3 (by decide) 112 112 rfl).mono ?_
  rintro e w7 ⟨rfl, hu⟩
  rw [show (partsF 3).contains 112 = false from by decide]
  have HU := Lib.hid (HU.out.trans hu)
  have HB := Lib.hid (hu.at_ HB.out id)
  clear hu x0 x6
  by_cases hb : epoch = 0
  case neg =>
    have x6 := cellAt HB.out 6 (.int .u64 epoch) rfl
    have hq : (epoch == 0) = false := by simpa using hb
    have HN := Lib.hid hb
    clear hb
    go_wp2
    go_ret
    exact ⟨by rw [opRight]; simp [allParts, partsF, blankPart, HN.out], HU.out⟩
  subst hb
  have x6 := cellAt HB.out 6 (.int .u64 0) rfl
  have x0 := cellAt HB.out 0 (.int .u8 3) rfl
  have x7 := cellAt HB.out 7 (.int .u64 version) rfl
  go_wp2_with (go_at_call 53; fail)
  refine (has_any _ 3 (by decide) 118 118 rfl).mono ?_
  rintro e w8 ⟨rfl, hu⟩
  rw [show (partsF 3).contains 118 = false from by decide]
  have HU := Lib.hid (HU.out.trans hu)
  have HB := Lib.hid (hu.at_ HB.out id)
  clear hu x0 x7
  by_cases hb : version = 0
  case neg =>
    have x7 := cellAt HB.out 7 (.int .u64 version) rfl
    have hq : (version == 0) = false := by simpa using hb
    have HN := Lib.hid hb
    clear hb
    go_wp2
    go_ret
    exact ⟨by rw [opRight]; simp [allParts, partsF, blankPart, HN.out], HU.out⟩
  subst hb
  have x7 := cellAt HB.out 7 (.int .u64 0) rfl
  have x0 := cellAt HB.out 0 (.int .u8 3) rfl
  have x8 := cellAt HB.out 8 (.int .u64 dur) rfl
  go_wp2_with (go_at_call 53; fail)
  refine (has_any _ 3 (by decide) 117 117 rfl).mono ?_
  rintro e w9 ⟨rfl, hu⟩
  rw [show (partsF 3).contains 117 = false from by decide]
  have HU := Lib.hid (HU.out.trans hu)
  have HB := Lib.hid (hu.at_ HB.out id)
  clear hu x0 x8
  by_cases hb : dur = 0
  case neg =>
    have x8 := cellAt HB.out 8 (.int .u64 dur) rfl
    have hq : (dur == 0) = false := by simpa using hb
    have HN := Lib.hid hb
    clear hb
    go_wp2
    go_ret
    exact ⟨by rw [opRight]; simp [allParts, partsF, blankPart, HN.out], HU.out⟩
  subst hb
  have x8 := cellAt HB.out 8 (.int .u64 0) rfl
  go_wp2
  go_ret
  exact ⟨by rw [opRight]; simp [allParts, partsF, blankPart, HD.out], HU.out⟩

set_option maxRecDepth 100000 in
set_option maxHeartbeats 4000000 in
theorem rright4 {S : Nat → Prop} (w : World) (doc : Int) (name to text : List UInt8) (edits : List Edit) (epoch version dur : Int) (v : Value) (h : Row S w v edits.length (editCells edits)) (hwf : ∀ x ∈ edits, 0 ≤ x.kind) :
    Calls Tryd.prog 20 #[.agg (opCells ⟨4, doc, name, to, text, edits, epoch, version, dur⟩ v)] w (RightPost ⟨4, doc, name, to, text, edits, epoch, version, dur⟩ w) := by
  have hbx := newAt w (.cells (opCells ⟨4, doc, name, to, text, edits, epoch, version, dur⟩ v) 36)
  have hux : Ext w (w.alloc (.cells (opCells ⟨4, doc, name, to, text, edits, epoch, version, dur⟩ v) 36)) := (Upd.refl _ _).alloc _
  have HR := Lib.hid (h.ext hux)
  have HBX := Lib.hid hbx
  have HUX := Lib.hid hux
  have HWF := Lib.hid hwf
  obtain ⟨a, c, rfl, -, -, -⟩ := h
  clear hbx hux hwf
  simp only [opCells]
  go_enter Tryd.func20, Tryd.ntmps20
  go_wp2_with (go_at_call 52; fail)
  refine (rdeltaRight_any _ _ edits HR.out HWF.out).mono ?_
  rintro e w1 ⟨rfl, hu1⟩
  have HU := Lib.hid (HUX.out.trans hu1)
  have HB := Lib.hid (hu1.at_ HBX.out id)
  clear hu1 HR HBX HUX HWF
  by_cases hd : deltaRight edits = true
  case neg =>
    have hdf : deltaRight edits = false := by simpa using hd
    rw [hdf]
    have HD := Lib.hid hdf
    clear hd hdf
    go_wp2
    go_ret
    exact ⟨by rw [opRight]; simp [HD.out], HU.out⟩
  rw [hd]
  have HD := Lib.hid hd
  clear hd
  have x0 := cellAt HB.out 0 (.int .u8 4) rfl
  have x1 := cellAt HB.out 1 (.int .u64 doc) rfl
  go_wp2_with (go_at_call 53; fail)
  refine (has_any _ 4 (by decide) 100 100 rfl).mono ?_
  rintro e w2 ⟨rfl, hu⟩
  rw [show (partsF 4).contains 100 = false from by decide]
  dsimp only [List.append] at *
  have HU := Lib.hid (HU.out.trans hu)
  have HB := Lib.hid (hu.at_ HB.out id)
  clear hu x0 x1
  by_cases hb : doc = 0
  case neg =>
    have x1 := cellAt HB.out 1 (.int .u64 doc) rfl
    have hq : (doc == 0) = false := by simpa using hb
    have HN := Lib.hid hb
    clear hb
    go_wp2
    go_ret
    exact ⟨by rw [opRight]; simp [allParts, partsF, blankPart, HN.out], HU.out⟩
  subst hb
  have x1 := cellAt HB.out 1 (.int .u64 0) rfl
  have x0 := cellAt HB.out 0 (.int .u8 4) rfl
  have x2 := cellAt HB.out 2 (str name) rfl
  go_wp2_with (go_at_call 53; fail)
  refine (has_any _ 4 (by decide) 110 110 rfl).mono ?_
  rintro e w3 ⟨rfl, hu⟩
  rw [show (partsF 4).contains 110 = true from by decide]
  have HU := Lib.hid (HU.out.trans hu)
  have HB := Lib.hid (hu.at_ HB.out id)
  clear hu x0 x2
  have x0 := cellAt HB.out 0 (.int .u8 4) rfl
  have x3 := cellAt HB.out 3 (str to) rfl
  go_wp2_with (go_at_call 53; fail)
  refine (has_any _ 4 (by decide) 111 111 rfl).mono ?_
  rintro e w4 ⟨rfl, hu⟩
  rw [show (partsF 4).contains 111 = true from by decide]
  have HU := Lib.hid (HU.out.trans hu)
  have HB := Lib.hid (hu.at_ HB.out id)
  clear hu x0 x3
  have x0 := cellAt HB.out 0 (.int .u8 4) rfl
  have x4 := cellAt HB.out 4 (str text) rfl
  go_wp2_with (go_at_call 53; fail)
  refine (has_any _ 4 (by decide) 116 116 rfl).mono ?_
  rintro e w5 ⟨rfl, hu⟩
  rw [show (partsF 4).contains 116 = false from by decide]
  have HU := Lib.hid (HU.out.trans hu)
  have HB := Lib.hid (hu.at_ HB.out id)
  clear hu x0 x4
  by_cases hb : text = []
  case neg =>
    have x4 := cellAt HB.out 4 (str text) rfl
    have hq : ((⟨text.toArray⟩ : ByteArray).toList == ([] : List UInt8)) = false := by rw [beq_eq_false_iff_ne, bytes_toList]; exact hb
    have hq2 : text.isEmpty = false := by simpa using hb
    have HN := Lib.hid hb
    clear hb
    go_wp2
    go_ret
    exact ⟨by rw [opRight]; simp [allParts, partsF, blankPart, HN.out], HU.out⟩
  subst hb
  have x4 := cellAt HB.out 4 (str []) rfl
  have x0 := cellAt HB.out 0 (.int .u8 4) rfl
  have x5 := cellAt HB.out 5 (.slice a edits.length c) rfl
  go_wp2_with (go_at_call 53; fail)
  refine (has_any _ 4 (by decide) 101 101 rfl).mono ?_
  rintro e w6 ⟨rfl, hu⟩
  rw [show (partsF 4).contains 101 = false from by decide]
  have HU := Lib.hid (HU.out.trans hu)
  have HB := Lib.hid (hu.at_ HB.out id)
  clear hu x0 x5
  by_cases hb : edits = []
  case neg =>
    have x5 := cellAt HB.out 5 (.slice a edits.length c) rfl
    have hq : ((edits.length : Int) == 0) = false := by simpa using hb
    have HN := Lib.hid hb
    clear hb
    go_wp2
    go_ret
    exact ⟨by rw [opRight]; simp [allParts, partsF, blankPart, HN.out], HU.out⟩
  subst hb
  have x5 := cellAt HB.out 5 (.slice a 0 c) rfl
  have x0 := cellAt HB.out 0 (.int .u8 4) rfl
  have x6 := cellAt HB.out 6 (.int .u64 epoch) rfl
  go_wp2_with (go_at_call 53; fail)
  refine (has_any _ 4 (by decide) 112 112 rfl).mono ?_
  rintro e w7 ⟨rfl, hu⟩
  rw [show (partsF 4).contains 112 = false from by decide]
  have HU := Lib.hid (HU.out.trans hu)
  have HB := Lib.hid (hu.at_ HB.out id)
  clear hu x0 x6
  by_cases hb : epoch = 0
  case neg =>
    have x6 := cellAt HB.out 6 (.int .u64 epoch) rfl
    have hq : (epoch == 0) = false := by simpa using hb
    have HN := Lib.hid hb
    clear hb
    go_wp2
    go_ret
    exact ⟨by rw [opRight]; simp [allParts, partsF, blankPart, HN.out], HU.out⟩
  subst hb
  have x6 := cellAt HB.out 6 (.int .u64 0) rfl
  have x0 := cellAt HB.out 0 (.int .u8 4) rfl
  have x7 := cellAt HB.out 7 (.int .u64 version) rfl
  go_wp2_with (go_at_call 53; fail)
  refine (has_any _ 4 (by decide) 118 118 rfl).mono ?_
  rintro e w8 ⟨rfl, hu⟩
  rw [show (partsF 4).contains 118 = false from by decide]
  have HU := Lib.hid (HU.out.trans hu)
  have HB := Lib.hid (hu.at_ HB.out id)
  clear hu x0 x7
  by_cases hb : version = 0
  case neg =>
    have x7 := cellAt HB.out 7 (.int .u64 version) rfl
    have hq : (version == 0) = false := by simpa using hb
    have HN := Lib.hid hb
    clear hb
    go_wp2
    go_ret
    exact ⟨by rw [opRight]; simp [allParts, partsF, blankPart, HN.out], HU.out⟩
  subst hb
  have x7 := cellAt HB.out 7 (.int .u64 0) rfl
  have x0 := cellAt HB.out 0 (.int .u8 4) rfl
  have x8 := cellAt HB.out 8 (.int .u64 dur) rfl
  go_wp2_with (go_at_call 53; fail)
  refine (has_any _ 4 (by decide) 117 117 rfl).mono ?_
  rintro e w9 ⟨rfl, hu⟩
  rw [show (partsF 4).contains 117 = false from by decide]
  have HU := Lib.hid (HU.out.trans hu)
  have HB := Lib.hid (hu.at_ HB.out id)
  clear hu x0 x8
  by_cases hb : dur = 0
  case neg =>
    have x8 := cellAt HB.out 8 (.int .u64 dur) rfl
    have hq : (dur == 0) = false := by simpa using hb
    have HN := Lib.hid hb
    clear hb
    go_wp2
    go_ret
    exact ⟨by rw [opRight]; simp [allParts, partsF, blankPart, HN.out], HU.out⟩
  subst hb
  have x8 := cellAt HB.out 8 (.int .u64 0) rfl
  go_wp2
  go_ret
  exact ⟨by rw [opRight]; simp [allParts, partsF, blankPart, HD.out], HU.out⟩

set_option maxRecDepth 100000 in
set_option maxHeartbeats 4000000 in
theorem rright5 {S : Nat → Prop} (w : World) (doc : Int) (name to text : List UInt8) (edits : List Edit) (epoch version dur : Int) (v : Value) (h : Row S w v edits.length (editCells edits)) (hwf : ∀ x ∈ edits, 0 ≤ x.kind) :
    Calls Tryd.prog 20 #[.agg (opCells ⟨5, doc, name, to, text, edits, epoch, version, dur⟩ v)] w (RightPost ⟨5, doc, name, to, text, edits, epoch, version, dur⟩ w) := by
  have hbx := newAt w (.cells (opCells ⟨5, doc, name, to, text, edits, epoch, version, dur⟩ v) 36)
  have hux : Ext w (w.alloc (.cells (opCells ⟨5, doc, name, to, text, edits, epoch, version, dur⟩ v) 36)) := (Upd.refl _ _).alloc _
  have HR := Lib.hid (h.ext hux)
  have HBX := Lib.hid hbx
  have HUX := Lib.hid hux
  have HWF := Lib.hid hwf
  obtain ⟨a, c, rfl, -, -, -⟩ := h
  clear hbx hux hwf
  simp only [opCells]
  go_enter Tryd.func20, Tryd.ntmps20
  go_wp2_with (go_at_call 52; fail)
  refine (rdeltaRight_any _ _ edits HR.out HWF.out).mono ?_
  rintro e w1 ⟨rfl, hu1⟩
  have HU := Lib.hid (HUX.out.trans hu1)
  have HB := Lib.hid (hu1.at_ HBX.out id)
  clear hu1 HR HBX HUX HWF
  by_cases hd : deltaRight edits = true
  case neg =>
    have hdf : deltaRight edits = false := by simpa using hd
    rw [hdf]
    have HD := Lib.hid hdf
    clear hd hdf
    go_wp2
    go_ret
    exact ⟨by rw [opRight]; simp [HD.out], HU.out⟩
  rw [hd]
  have HD := Lib.hid hd
  clear hd
  have x0 := cellAt HB.out 0 (.int .u8 5) rfl
  have x1 := cellAt HB.out 1 (.int .u64 doc) rfl
  go_wp2_with (go_at_call 53; fail)
  refine (has_any _ 5 (by decide) 100 100 rfl).mono ?_
  rintro e w2 ⟨rfl, hu⟩
  rw [show (partsF 5).contains 100 = false from by decide]
  dsimp only [List.append] at *
  have HU := Lib.hid (HU.out.trans hu)
  have HB := Lib.hid (hu.at_ HB.out id)
  clear hu x0 x1
  by_cases hb : doc = 0
  case neg =>
    have x1 := cellAt HB.out 1 (.int .u64 doc) rfl
    have hq : (doc == 0) = false := by simpa using hb
    have HN := Lib.hid hb
    clear hb
    go_wp2
    go_ret
    exact ⟨by rw [opRight]; simp [allParts, partsF, blankPart, HN.out], HU.out⟩
  subst hb
  have x1 := cellAt HB.out 1 (.int .u64 0) rfl
  have x0 := cellAt HB.out 0 (.int .u8 5) rfl
  have x2 := cellAt HB.out 2 (str name) rfl
  go_wp2_with (go_at_call 53; fail)
  refine (has_any _ 5 (by decide) 110 110 rfl).mono ?_
  rintro e w3 ⟨rfl, hu⟩
  rw [show (partsF 5).contains 110 = true from by decide]
  have HU := Lib.hid (HU.out.trans hu)
  have HB := Lib.hid (hu.at_ HB.out id)
  clear hu x0 x2
  have x0 := cellAt HB.out 0 (.int .u8 5) rfl
  have x3 := cellAt HB.out 3 (str to) rfl
  go_wp2_with (go_at_call 53; fail)
  refine (has_any _ 5 (by decide) 111 111 rfl).mono ?_
  rintro e w4 ⟨rfl, hu⟩
  rw [show (partsF 5).contains 111 = false from by decide]
  have HU := Lib.hid (HU.out.trans hu)
  have HB := Lib.hid (hu.at_ HB.out id)
  clear hu x0 x3
  by_cases hb : to = []
  case neg =>
    have x3 := cellAt HB.out 3 (str to) rfl
    have hq : ((⟨to.toArray⟩ : ByteArray).toList == ([] : List UInt8)) = false := by rw [beq_eq_false_iff_ne, bytes_toList]; exact hb
    have hq2 : to.isEmpty = false := by simpa using hb
    have HN := Lib.hid hb
    clear hb
    go_wp2
    go_ret
    exact ⟨by rw [opRight]; simp [allParts, partsF, blankPart, HN.out], HU.out⟩
  subst hb
  have x3 := cellAt HB.out 3 (str []) rfl
  have x0 := cellAt HB.out 0 (.int .u8 5) rfl
  have x4 := cellAt HB.out 4 (str text) rfl
  go_wp2_with (go_at_call 53; fail)
  refine (has_any _ 5 (by decide) 116 116 rfl).mono ?_
  rintro e w5 ⟨rfl, hu⟩
  rw [show (partsF 5).contains 116 = false from by decide]
  have HU := Lib.hid (HU.out.trans hu)
  have HB := Lib.hid (hu.at_ HB.out id)
  clear hu x0 x4
  by_cases hb : text = []
  case neg =>
    have x4 := cellAt HB.out 4 (str text) rfl
    have hq : ((⟨text.toArray⟩ : ByteArray).toList == ([] : List UInt8)) = false := by rw [beq_eq_false_iff_ne, bytes_toList]; exact hb
    have hq2 : text.isEmpty = false := by simpa using hb
    have HN := Lib.hid hb
    clear hb
    go_wp2
    go_ret
    exact ⟨by rw [opRight]; simp [allParts, partsF, blankPart, HN.out], HU.out⟩
  subst hb
  have x4 := cellAt HB.out 4 (str []) rfl
  have x0 := cellAt HB.out 0 (.int .u8 5) rfl
  have x5 := cellAt HB.out 5 (.slice a edits.length c) rfl
  go_wp2_with (go_at_call 53; fail)
  refine (has_any _ 5 (by decide) 101 101 rfl).mono ?_
  rintro e w6 ⟨rfl, hu⟩
  rw [show (partsF 5).contains 101 = false from by decide]
  have HU := Lib.hid (HU.out.trans hu)
  have HB := Lib.hid (hu.at_ HB.out id)
  clear hu x0 x5
  by_cases hb : edits = []
  case neg =>
    have x5 := cellAt HB.out 5 (.slice a edits.length c) rfl
    have hq : ((edits.length : Int) == 0) = false := by simpa using hb
    have HN := Lib.hid hb
    clear hb
    go_wp2
    go_ret
    exact ⟨by rw [opRight]; simp [allParts, partsF, blankPart, HN.out], HU.out⟩
  subst hb
  have x5 := cellAt HB.out 5 (.slice a 0 c) rfl
  have x0 := cellAt HB.out 0 (.int .u8 5) rfl
  have x6 := cellAt HB.out 6 (.int .u64 epoch) rfl
  go_wp2_with (go_at_call 53; fail)
  refine (has_any _ 5 (by decide) 112 112 rfl).mono ?_
  rintro e w7 ⟨rfl, hu⟩
  rw [show (partsF 5).contains 112 = false from by decide]
  have HU := Lib.hid (HU.out.trans hu)
  have HB := Lib.hid (hu.at_ HB.out id)
  clear hu x0 x6
  by_cases hb : epoch = 0
  case neg =>
    have x6 := cellAt HB.out 6 (.int .u64 epoch) rfl
    have hq : (epoch == 0) = false := by simpa using hb
    have HN := Lib.hid hb
    clear hb
    go_wp2
    go_ret
    exact ⟨by rw [opRight]; simp [allParts, partsF, blankPart, HN.out], HU.out⟩
  subst hb
  have x6 := cellAt HB.out 6 (.int .u64 0) rfl
  have x0 := cellAt HB.out 0 (.int .u8 5) rfl
  have x7 := cellAt HB.out 7 (.int .u64 version) rfl
  go_wp2_with (go_at_call 53; fail)
  refine (has_any _ 5 (by decide) 118 118 rfl).mono ?_
  rintro e w8 ⟨rfl, hu⟩
  rw [show (partsF 5).contains 118 = false from by decide]
  have HU := Lib.hid (HU.out.trans hu)
  have HB := Lib.hid (hu.at_ HB.out id)
  clear hu x0 x7
  by_cases hb : version = 0
  case neg =>
    have x7 := cellAt HB.out 7 (.int .u64 version) rfl
    have hq : (version == 0) = false := by simpa using hb
    have HN := Lib.hid hb
    clear hb
    go_wp2
    go_ret
    exact ⟨by rw [opRight]; simp [allParts, partsF, blankPart, HN.out], HU.out⟩
  subst hb
  have x7 := cellAt HB.out 7 (.int .u64 0) rfl
  have x0 := cellAt HB.out 0 (.int .u8 5) rfl
  have x8 := cellAt HB.out 8 (.int .u64 dur) rfl
  go_wp2_with (go_at_call 53; fail)
  refine (has_any _ 5 (by decide) 117 117 rfl).mono ?_
  rintro e w9 ⟨rfl, hu⟩
  rw [show (partsF 5).contains 117 = false from by decide]
  have HU := Lib.hid (HU.out.trans hu)
  have HB := Lib.hid (hu.at_ HB.out id)
  clear hu x0 x8
  by_cases hb : dur = 0
  case neg =>
    have x8 := cellAt HB.out 8 (.int .u64 dur) rfl
    have hq : (dur == 0) = false := by simpa using hb
    have HN := Lib.hid hb
    clear hb
    go_wp2
    go_ret
    exact ⟨by rw [opRight]; simp [allParts, partsF, blankPart, HN.out], HU.out⟩
  subst hb
  have x8 := cellAt HB.out 8 (.int .u64 0) rfl
  go_wp2
  go_ret
  exact ⟨by rw [opRight]; simp [allParts, partsF, blankPart, HD.out], HU.out⟩

set_option maxRecDepth 100000 in
set_option maxHeartbeats 4000000 in
theorem rright6 {S : Nat → Prop} (w : World) (doc : Int) (name to text : List UInt8) (edits : List Edit) (epoch version dur : Int) (v : Value) (h : Row S w v edits.length (editCells edits)) (hwf : ∀ x ∈ edits, 0 ≤ x.kind) :
    Calls Tryd.prog 20 #[.agg (opCells ⟨6, doc, name, to, text, edits, epoch, version, dur⟩ v)] w (RightPost ⟨6, doc, name, to, text, edits, epoch, version, dur⟩ w) := by
  have hbx := newAt w (.cells (opCells ⟨6, doc, name, to, text, edits, epoch, version, dur⟩ v) 36)
  have hux : Ext w (w.alloc (.cells (opCells ⟨6, doc, name, to, text, edits, epoch, version, dur⟩ v) 36)) := (Upd.refl _ _).alloc _
  have HR := Lib.hid (h.ext hux)
  have HBX := Lib.hid hbx
  have HUX := Lib.hid hux
  have HWF := Lib.hid hwf
  obtain ⟨a, c, rfl, -, -, -⟩ := h
  clear hbx hux hwf
  simp only [opCells]
  go_enter Tryd.func20, Tryd.ntmps20
  go_wp2_with (go_at_call 52; fail)
  refine (rdeltaRight_any _ _ edits HR.out HWF.out).mono ?_
  rintro e w1 ⟨rfl, hu1⟩
  have HU := Lib.hid (HUX.out.trans hu1)
  have HB := Lib.hid (hu1.at_ HBX.out id)
  clear hu1 HR HBX HUX HWF
  by_cases hd : deltaRight edits = true
  case neg =>
    have hdf : deltaRight edits = false := by simpa using hd
    rw [hdf]
    have HD := Lib.hid hdf
    clear hd hdf
    go_wp2
    go_ret
    exact ⟨by rw [opRight]; simp [HD.out], HU.out⟩
  rw [hd]
  have HD := Lib.hid hd
  clear hd
  have x0 := cellAt HB.out 0 (.int .u8 6) rfl
  have x1 := cellAt HB.out 1 (.int .u64 doc) rfl
  go_wp2_with (go_at_call 53; fail)
  refine (has_any _ 6 (by decide) 100 100 rfl).mono ?_
  rintro e w2 ⟨rfl, hu⟩
  rw [show (partsF 6).contains 100 = true from by decide]
  dsimp only [List.append] at *
  have HU := Lib.hid (HU.out.trans hu)
  have HB := Lib.hid (hu.at_ HB.out id)
  clear hu x0 x1
  have x0 := cellAt HB.out 0 (.int .u8 6) rfl
  have x2 := cellAt HB.out 2 (str name) rfl
  go_wp2_with (go_at_call 53; fail)
  refine (has_any _ 6 (by decide) 110 110 rfl).mono ?_
  rintro e w3 ⟨rfl, hu⟩
  rw [show (partsF 6).contains 110 = false from by decide]
  have HU := Lib.hid (HU.out.trans hu)
  have HB := Lib.hid (hu.at_ HB.out id)
  clear hu x0 x2
  by_cases hb : name = []
  case neg =>
    have x2 := cellAt HB.out 2 (str name) rfl
    have hq : ((⟨name.toArray⟩ : ByteArray).toList == ([] : List UInt8)) = false := by rw [beq_eq_false_iff_ne, bytes_toList]; exact hb
    have hq2 : name.isEmpty = false := by simpa using hb
    have HN := Lib.hid hb
    clear hb
    go_wp2
    go_ret
    exact ⟨by rw [opRight]; simp [allParts, partsF, blankPart, HN.out], HU.out⟩
  subst hb
  have x2 := cellAt HB.out 2 (str []) rfl
  have x0 := cellAt HB.out 0 (.int .u8 6) rfl
  have x3 := cellAt HB.out 3 (str to) rfl
  go_wp2_with (go_at_call 53; fail)
  refine (has_any _ 6 (by decide) 111 111 rfl).mono ?_
  rintro e w4 ⟨rfl, hu⟩
  rw [show (partsF 6).contains 111 = false from by decide]
  have HU := Lib.hid (HU.out.trans hu)
  have HB := Lib.hid (hu.at_ HB.out id)
  clear hu x0 x3
  by_cases hb : to = []
  case neg =>
    have x3 := cellAt HB.out 3 (str to) rfl
    have hq : ((⟨to.toArray⟩ : ByteArray).toList == ([] : List UInt8)) = false := by rw [beq_eq_false_iff_ne, bytes_toList]; exact hb
    have hq2 : to.isEmpty = false := by simpa using hb
    have HN := Lib.hid hb
    clear hb
    go_wp2
    go_ret
    exact ⟨by rw [opRight]; simp [allParts, partsF, blankPart, HN.out], HU.out⟩
  subst hb
  have x3 := cellAt HB.out 3 (str []) rfl
  have x0 := cellAt HB.out 0 (.int .u8 6) rfl
  have x4 := cellAt HB.out 4 (str text) rfl
  go_wp2_with (go_at_call 53; fail)
  refine (has_any _ 6 (by decide) 116 116 rfl).mono ?_
  rintro e w5 ⟨rfl, hu⟩
  rw [show (partsF 6).contains 116 = false from by decide]
  have HU := Lib.hid (HU.out.trans hu)
  have HB := Lib.hid (hu.at_ HB.out id)
  clear hu x0 x4
  by_cases hb : text = []
  case neg =>
    have x4 := cellAt HB.out 4 (str text) rfl
    have hq : ((⟨text.toArray⟩ : ByteArray).toList == ([] : List UInt8)) = false := by rw [beq_eq_false_iff_ne, bytes_toList]; exact hb
    have hq2 : text.isEmpty = false := by simpa using hb
    have HN := Lib.hid hb
    clear hb
    go_wp2
    go_ret
    exact ⟨by rw [opRight]; simp [allParts, partsF, blankPart, HN.out], HU.out⟩
  subst hb
  have x4 := cellAt HB.out 4 (str []) rfl
  have x0 := cellAt HB.out 0 (.int .u8 6) rfl
  have x5 := cellAt HB.out 5 (.slice a edits.length c) rfl
  go_wp2_with (go_at_call 53; fail)
  refine (has_any _ 6 (by decide) 101 101 rfl).mono ?_
  rintro e w6 ⟨rfl, hu⟩
  rw [show (partsF 6).contains 101 = false from by decide]
  have HU := Lib.hid (HU.out.trans hu)
  have HB := Lib.hid (hu.at_ HB.out id)
  clear hu x0 x5
  by_cases hb : edits = []
  case neg =>
    have x5 := cellAt HB.out 5 (.slice a edits.length c) rfl
    have hq : ((edits.length : Int) == 0) = false := by simpa using hb
    have HN := Lib.hid hb
    clear hb
    go_wp2
    go_ret
    exact ⟨by rw [opRight]; simp [allParts, partsF, blankPart, HN.out], HU.out⟩
  subst hb
  have x5 := cellAt HB.out 5 (.slice a 0 c) rfl
  have x0 := cellAt HB.out 0 (.int .u8 6) rfl
  have x6 := cellAt HB.out 6 (.int .u64 epoch) rfl
  go_wp2_with (go_at_call 53; fail)
  refine (has_any _ 6 (by decide) 112 112 rfl).mono ?_
  rintro e w7 ⟨rfl, hu⟩
  rw [show (partsF 6).contains 112 = false from by decide]
  have HU := Lib.hid (HU.out.trans hu)
  have HB := Lib.hid (hu.at_ HB.out id)
  clear hu x0 x6
  by_cases hb : epoch = 0
  case neg =>
    have x6 := cellAt HB.out 6 (.int .u64 epoch) rfl
    have hq : (epoch == 0) = false := by simpa using hb
    have HN := Lib.hid hb
    clear hb
    go_wp2
    go_ret
    exact ⟨by rw [opRight]; simp [allParts, partsF, blankPart, HN.out], HU.out⟩
  subst hb
  have x6 := cellAt HB.out 6 (.int .u64 0) rfl
  have x0 := cellAt HB.out 0 (.int .u8 6) rfl
  have x7 := cellAt HB.out 7 (.int .u64 version) rfl
  go_wp2_with (go_at_call 53; fail)
  refine (has_any _ 6 (by decide) 118 118 rfl).mono ?_
  rintro e w8 ⟨rfl, hu⟩
  rw [show (partsF 6).contains 118 = false from by decide]
  have HU := Lib.hid (HU.out.trans hu)
  have HB := Lib.hid (hu.at_ HB.out id)
  clear hu x0 x7
  by_cases hb : version = 0
  case neg =>
    have x7 := cellAt HB.out 7 (.int .u64 version) rfl
    have hq : (version == 0) = false := by simpa using hb
    have HN := Lib.hid hb
    clear hb
    go_wp2
    go_ret
    exact ⟨by rw [opRight]; simp [allParts, partsF, blankPart, HN.out], HU.out⟩
  subst hb
  have x7 := cellAt HB.out 7 (.int .u64 0) rfl
  have x0 := cellAt HB.out 0 (.int .u8 6) rfl
  have x8 := cellAt HB.out 8 (.int .u64 dur) rfl
  go_wp2_with (go_at_call 53; fail)
  refine (has_any _ 6 (by decide) 117 117 rfl).mono ?_
  rintro e w9 ⟨rfl, hu⟩
  rw [show (partsF 6).contains 117 = true from by decide]
  have HU := Lib.hid (HU.out.trans hu)
  have HB := Lib.hid (hu.at_ HB.out id)
  clear hu x0 x8
  go_wp2
  go_ret
  exact ⟨by rw [opRight]; simp [allParts, partsF, blankPart, HD.out], HU.out⟩
end Go.Proofs.YtlhpcgmbbeihiaaDoor
namespace Go.Proofs.YtlhpcgmbbeihiaaDoor
open Go.RowKit

set_option maxRecDepth 100000 in
set_option maxHeartbeats 4000000 in
theorem rright7 {S : Nat → Prop} (w : World) (doc : Int) (name to text : List UInt8) (edits : List Edit) (epoch version dur : Int) (v : Value) (h : Row S w v edits.length (editCells edits)) (hwf : ∀ x ∈ edits, 0 ≤ x.kind) :
    Calls Tryd.prog 20 #[.agg (opCells ⟨7, doc, name, to, text, edits, epoch, version, dur⟩ v)] w (RightPost ⟨7, doc, name, to, text, edits, epoch, version, dur⟩ w) := by
  have hbx := newAt w (.cells (opCells ⟨7, doc, name, to, text, edits, epoch, version, dur⟩ v) 36)
  have hux : Ext w (w.alloc (.cells (opCells ⟨7, doc, name, to, text, edits, epoch, version, dur⟩ v) 36)) := (Upd.refl _ _).alloc _
  have HR := Lib.hid (h.ext hux)
  have HBX := Lib.hid hbx
  have HUX := Lib.hid hux
  have HWF := Lib.hid hwf
  obtain ⟨a, c, rfl, -, -, -⟩ := h
  clear hbx hux hwf
  simp only [opCells]
  go_enter Tryd.func20, Tryd.ntmps20
  go_wp2_with (go_at_call 52; fail)
  refine (rdeltaRight_any _ _ edits HR.out HWF.out).mono ?_
  rintro e w1 ⟨rfl, hu1⟩
  have HU := Lib.hid (HUX.out.trans hu1)
  have HB := Lib.hid (hu1.at_ HBX.out id)
  clear hu1 HR HBX HUX HWF
  by_cases hd : deltaRight edits = true
  case neg =>
    have hdf : deltaRight edits = false := by simpa using hd
    rw [hdf]
    have HD := Lib.hid hdf
    clear hd hdf
    go_wp2
    go_ret
    exact ⟨by rw [opRight]; simp [HD.out], HU.out⟩
  rw [hd]
  have HD := Lib.hid hd
  clear hd
  have x0 := cellAt HB.out 0 (.int .u8 7) rfl
  have x1 := cellAt HB.out 1 (.int .u64 doc) rfl
  go_wp2_with (go_at_call 53; fail)
  refine (has_any _ 7 (by decide) 100 100 rfl).mono ?_
  rintro e w2 ⟨rfl, hu⟩
  rw [show (partsF 7).contains 100 = true from by decide]
  dsimp only [List.append] at *
  have HU := Lib.hid (HU.out.trans hu)
  have HB := Lib.hid (hu.at_ HB.out id)
  clear hu x0 x1
  have x0 := cellAt HB.out 0 (.int .u8 7) rfl
  have x2 := cellAt HB.out 2 (str name) rfl
  go_wp2_with (go_at_call 53; fail)
  refine (has_any _ 7 (by decide) 110 110 rfl).mono ?_
  rintro e w3 ⟨rfl, hu⟩
  rw [show (partsF 7).contains 110 = false from by decide]
  have HU := Lib.hid (HU.out.trans hu)
  have HB := Lib.hid (hu.at_ HB.out id)
  clear hu x0 x2
  by_cases hb : name = []
  case neg =>
    have x2 := cellAt HB.out 2 (str name) rfl
    have hq : ((⟨name.toArray⟩ : ByteArray).toList == ([] : List UInt8)) = false := by rw [beq_eq_false_iff_ne, bytes_toList]; exact hb
    have hq2 : name.isEmpty = false := by simpa using hb
    have HN := Lib.hid hb
    clear hb
    go_wp2
    go_ret
    exact ⟨by rw [opRight]; simp [allParts, partsF, blankPart, HN.out], HU.out⟩
  subst hb
  have x2 := cellAt HB.out 2 (str []) rfl
  have x0 := cellAt HB.out 0 (.int .u8 7) rfl
  have x3 := cellAt HB.out 3 (str to) rfl
  go_wp2_with (go_at_call 53; fail)
  refine (has_any _ 7 (by decide) 111 111 rfl).mono ?_
  rintro e w4 ⟨rfl, hu⟩
  rw [show (partsF 7).contains 111 = false from by decide]
  have HU := Lib.hid (HU.out.trans hu)
  have HB := Lib.hid (hu.at_ HB.out id)
  clear hu x0 x3
  by_cases hb : to = []
  case neg =>
    have x3 := cellAt HB.out 3 (str to) rfl
    have hq : ((⟨to.toArray⟩ : ByteArray).toList == ([] : List UInt8)) = false := by rw [beq_eq_false_iff_ne, bytes_toList]; exact hb
    have hq2 : to.isEmpty = false := by simpa using hb
    have HN := Lib.hid hb
    clear hb
    go_wp2
    go_ret
    exact ⟨by rw [opRight]; simp [allParts, partsF, blankPart, HN.out], HU.out⟩
  subst hb
  have x3 := cellAt HB.out 3 (str []) rfl
  have x0 := cellAt HB.out 0 (.int .u8 7) rfl
  have x4 := cellAt HB.out 4 (str text) rfl
  go_wp2_with (go_at_call 53; fail)
  refine (has_any _ 7 (by decide) 116 116 rfl).mono ?_
  rintro e w5 ⟨rfl, hu⟩
  rw [show (partsF 7).contains 116 = false from by decide]
  have HU := Lib.hid (HU.out.trans hu)
  have HB := Lib.hid (hu.at_ HB.out id)
  clear hu x0 x4
  by_cases hb : text = []
  case neg =>
    have x4 := cellAt HB.out 4 (str text) rfl
    have hq : ((⟨text.toArray⟩ : ByteArray).toList == ([] : List UInt8)) = false := by rw [beq_eq_false_iff_ne, bytes_toList]; exact hb
    have hq2 : text.isEmpty = false := by simpa using hb
    have HN := Lib.hid hb
    clear hb
    go_wp2
    go_ret
    exact ⟨by rw [opRight]; simp [allParts, partsF, blankPart, HN.out], HU.out⟩
  subst hb
  have x4 := cellAt HB.out 4 (str []) rfl
  have x0 := cellAt HB.out 0 (.int .u8 7) rfl
  have x5 := cellAt HB.out 5 (.slice a edits.length c) rfl
  go_wp2_with (go_at_call 53; fail)
  refine (has_any _ 7 (by decide) 101 101 rfl).mono ?_
  rintro e w6 ⟨rfl, hu⟩
  rw [show (partsF 7).contains 101 = false from by decide]
  have HU := Lib.hid (HU.out.trans hu)
  have HB := Lib.hid (hu.at_ HB.out id)
  clear hu x0 x5
  by_cases hb : edits = []
  case neg =>
    have x5 := cellAt HB.out 5 (.slice a edits.length c) rfl
    have hq : ((edits.length : Int) == 0) = false := by simpa using hb
    have HN := Lib.hid hb
    clear hb
    go_wp2
    go_ret
    exact ⟨by rw [opRight]; simp [allParts, partsF, blankPart, HN.out], HU.out⟩
  subst hb
  have x5 := cellAt HB.out 5 (.slice a 0 c) rfl
  have x0 := cellAt HB.out 0 (.int .u8 7) rfl
  have x6 := cellAt HB.out 6 (.int .u64 epoch) rfl
  go_wp2_with (go_at_call 53; fail)
  refine (has_any _ 7 (by decide) 112 112 rfl).mono ?_
  rintro e w7 ⟨rfl, hu⟩
  rw [show (partsF 7).contains 112 = true from by decide]
  have HU := Lib.hid (HU.out.trans hu)
  have HB := Lib.hid (hu.at_ HB.out id)
  clear hu x0 x6
  have x0 := cellAt HB.out 0 (.int .u8 7) rfl
  have x7 := cellAt HB.out 7 (.int .u64 version) rfl
  go_wp2_with (go_at_call 53; fail)
  refine (has_any _ 7 (by decide) 118 118 rfl).mono ?_
  rintro e w8 ⟨rfl, hu⟩
  rw [show (partsF 7).contains 118 = false from by decide]
  have HU := Lib.hid (HU.out.trans hu)
  have HB := Lib.hid (hu.at_ HB.out id)
  clear hu x0 x7
  by_cases hb : version = 0
  case neg =>
    have x7 := cellAt HB.out 7 (.int .u64 version) rfl
    have hq : (version == 0) = false := by simpa using hb
    have HN := Lib.hid hb
    clear hb
    go_wp2
    go_ret
    exact ⟨by rw [opRight]; simp [allParts, partsF, blankPart, HN.out], HU.out⟩
  subst hb
  have x7 := cellAt HB.out 7 (.int .u64 0) rfl
  have x0 := cellAt HB.out 0 (.int .u8 7) rfl
  have x8 := cellAt HB.out 8 (.int .u64 dur) rfl
  go_wp2_with (go_at_call 53; fail)
  refine (has_any _ 7 (by decide) 117 117 rfl).mono ?_
  rintro e w9 ⟨rfl, hu⟩
  rw [show (partsF 7).contains 117 = true from by decide]
  have HU := Lib.hid (HU.out.trans hu)
  have HB := Lib.hid (hu.at_ HB.out id)
  clear hu x0 x8
  go_wp2
  go_ret
  exact ⟨by rw [opRight]; simp [allParts, partsF, blankPart, HD.out], HU.out⟩

set_option maxRecDepth 100000 in
set_option maxHeartbeats 4000000 in
theorem rright8 {S : Nat → Prop} (w : World) (doc : Int) (name to text : List UInt8) (edits : List Edit) (epoch version dur : Int) (v : Value) (h : Row S w v edits.length (editCells edits)) (hwf : ∀ x ∈ edits, 0 ≤ x.kind) :
    Calls Tryd.prog 20 #[.agg (opCells ⟨8, doc, name, to, text, edits, epoch, version, dur⟩ v)] w (RightPost ⟨8, doc, name, to, text, edits, epoch, version, dur⟩ w) := by
  have hbx := newAt w (.cells (opCells ⟨8, doc, name, to, text, edits, epoch, version, dur⟩ v) 36)
  have hux : Ext w (w.alloc (.cells (opCells ⟨8, doc, name, to, text, edits, epoch, version, dur⟩ v) 36)) := (Upd.refl _ _).alloc _
  have HR := Lib.hid (h.ext hux)
  have HBX := Lib.hid hbx
  have HUX := Lib.hid hux
  have HWF := Lib.hid hwf
  obtain ⟨a, c, rfl, -, -, -⟩ := h
  clear hbx hux hwf
  simp only [opCells]
  go_enter Tryd.func20, Tryd.ntmps20
  go_wp2_with (go_at_call 52; fail)
  refine (rdeltaRight_any _ _ edits HR.out HWF.out).mono ?_
  rintro e w1 ⟨rfl, hu1⟩
  have HU := Lib.hid (HUX.out.trans hu1)
  have HB := Lib.hid (hu1.at_ HBX.out id)
  clear hu1 HR HBX HUX HWF
  by_cases hd : deltaRight edits = true
  case neg =>
    have hdf : deltaRight edits = false := by simpa using hd
    rw [hdf]
    have HD := Lib.hid hdf
    clear hd hdf
    go_wp2
    go_ret
    exact ⟨by rw [opRight]; simp [HD.out], HU.out⟩
  rw [hd]
  have HD := Lib.hid hd
  clear hd
  have x0 := cellAt HB.out 0 (.int .u8 8) rfl
  have x1 := cellAt HB.out 1 (.int .u64 doc) rfl
  go_wp2_with (go_at_call 53; fail)
  refine (has_any _ 8 (by decide) 100 100 rfl).mono ?_
  rintro e w2 ⟨rfl, hu⟩
  rw [show (partsF 8).contains 100 = true from by decide]
  dsimp only [List.append] at *
  have HU := Lib.hid (HU.out.trans hu)
  have HB := Lib.hid (hu.at_ HB.out id)
  clear hu x0 x1
  have x0 := cellAt HB.out 0 (.int .u8 8) rfl
  have x2 := cellAt HB.out 2 (str name) rfl
  go_wp2_with (go_at_call 53; fail)
  refine (has_any _ 8 (by decide) 110 110 rfl).mono ?_
  rintro e w3 ⟨rfl, hu⟩
  rw [show (partsF 8).contains 110 = false from by decide]
  have HU := Lib.hid (HU.out.trans hu)
  have HB := Lib.hid (hu.at_ HB.out id)
  clear hu x0 x2
  by_cases hb : name = []
  case neg =>
    have x2 := cellAt HB.out 2 (str name) rfl
    have hq : ((⟨name.toArray⟩ : ByteArray).toList == ([] : List UInt8)) = false := by rw [beq_eq_false_iff_ne, bytes_toList]; exact hb
    have hq2 : name.isEmpty = false := by simpa using hb
    have HN := Lib.hid hb
    clear hb
    go_wp2
    go_ret
    exact ⟨by rw [opRight]; simp [allParts, partsF, blankPart, HN.out], HU.out⟩
  subst hb
  have x2 := cellAt HB.out 2 (str []) rfl
  have x0 := cellAt HB.out 0 (.int .u8 8) rfl
  have x3 := cellAt HB.out 3 (str to) rfl
  go_wp2_with (go_at_call 53; fail)
  refine (has_any _ 8 (by decide) 111 111 rfl).mono ?_
  rintro e w4 ⟨rfl, hu⟩
  rw [show (partsF 8).contains 111 = false from by decide]
  have HU := Lib.hid (HU.out.trans hu)
  have HB := Lib.hid (hu.at_ HB.out id)
  clear hu x0 x3
  by_cases hb : to = []
  case neg =>
    have x3 := cellAt HB.out 3 (str to) rfl
    have hq : ((⟨to.toArray⟩ : ByteArray).toList == ([] : List UInt8)) = false := by rw [beq_eq_false_iff_ne, bytes_toList]; exact hb
    have hq2 : to.isEmpty = false := by simpa using hb
    have HN := Lib.hid hb
    clear hb
    go_wp2
    go_ret
    exact ⟨by rw [opRight]; simp [allParts, partsF, blankPart, HN.out], HU.out⟩
  subst hb
  have x3 := cellAt HB.out 3 (str []) rfl
  have x0 := cellAt HB.out 0 (.int .u8 8) rfl
  have x4 := cellAt HB.out 4 (str text) rfl
  go_wp2_with (go_at_call 53; fail)
  refine (has_any _ 8 (by decide) 116 116 rfl).mono ?_
  rintro e w5 ⟨rfl, hu⟩
  rw [show (partsF 8).contains 116 = false from by decide]
  have HU := Lib.hid (HU.out.trans hu)
  have HB := Lib.hid (hu.at_ HB.out id)
  clear hu x0 x4
  by_cases hb : text = []
  case neg =>
    have x4 := cellAt HB.out 4 (str text) rfl
    have hq : ((⟨text.toArray⟩ : ByteArray).toList == ([] : List UInt8)) = false := by rw [beq_eq_false_iff_ne, bytes_toList]; exact hb
    have hq2 : text.isEmpty = false := by simpa using hb
    have HN := Lib.hid hb
    clear hb
    go_wp2
    go_ret
    exact ⟨by rw [opRight]; simp [allParts, partsF, blankPart, HN.out], HU.out⟩
  subst hb
  have x4 := cellAt HB.out 4 (str []) rfl
  have x0 := cellAt HB.out 0 (.int .u8 8) rfl
  have x5 := cellAt HB.out 5 (.slice a edits.length c) rfl
  go_wp2_with (go_at_call 53; fail)
  refine (has_any _ 8 (by decide) 101 101 rfl).mono ?_
  rintro e w6 ⟨rfl, hu⟩
  rw [show (partsF 8).contains 101 = false from by decide]
  have HU := Lib.hid (HU.out.trans hu)
  have HB := Lib.hid (hu.at_ HB.out id)
  clear hu x0 x5
  by_cases hb : edits = []
  case neg =>
    have x5 := cellAt HB.out 5 (.slice a edits.length c) rfl
    have hq : ((edits.length : Int) == 0) = false := by simpa using hb
    have HN := Lib.hid hb
    clear hb
    go_wp2
    go_ret
    exact ⟨by rw [opRight]; simp [allParts, partsF, blankPart, HN.out], HU.out⟩
  subst hb
  have x5 := cellAt HB.out 5 (.slice a 0 c) rfl
  have x0 := cellAt HB.out 0 (.int .u8 8) rfl
  have x6 := cellAt HB.out 6 (.int .u64 epoch) rfl
  go_wp2_with (go_at_call 53; fail)
  refine (has_any _ 8 (by decide) 112 112 rfl).mono ?_
  rintro e w7 ⟨rfl, hu⟩
  rw [show (partsF 8).contains 112 = true from by decide]
  have HU := Lib.hid (HU.out.trans hu)
  have HB := Lib.hid (hu.at_ HB.out id)
  clear hu x0 x6
  have x0 := cellAt HB.out 0 (.int .u8 8) rfl
  have x7 := cellAt HB.out 7 (.int .u64 version) rfl
  go_wp2_with (go_at_call 53; fail)
  refine (has_any _ 8 (by decide) 118 118 rfl).mono ?_
  rintro e w8 ⟨rfl, hu⟩
  rw [show (partsF 8).contains 118 = false from by decide]
  have HU := Lib.hid (HU.out.trans hu)
  have HB := Lib.hid (hu.at_ HB.out id)
  clear hu x0 x7
  by_cases hb : version = 0
  case neg =>
    have x7 := cellAt HB.out 7 (.int .u64 version) rfl
    have hq : (version == 0) = false := by simpa using hb
    have HN := Lib.hid hb
    clear hb
    go_wp2
    go_ret
    exact ⟨by rw [opRight]; simp [allParts, partsF, blankPart, HN.out], HU.out⟩
  subst hb
  have x7 := cellAt HB.out 7 (.int .u64 0) rfl
  have x0 := cellAt HB.out 0 (.int .u8 8) rfl
  have x8 := cellAt HB.out 8 (.int .u64 dur) rfl
  go_wp2_with (go_at_call 53; fail)
  refine (has_any _ 8 (by decide) 117 117 rfl).mono ?_
  rintro e w9 ⟨rfl, hu⟩
  rw [show (partsF 8).contains 117 = false from by decide]
  have HU := Lib.hid (HU.out.trans hu)
  have HB := Lib.hid (hu.at_ HB.out id)
  clear hu x0 x8
  by_cases hb : dur = 0
  case neg =>
    have x8 := cellAt HB.out 8 (.int .u64 dur) rfl
    have hq : (dur == 0) = false := by simpa using hb
    have HN := Lib.hid hb
    clear hb
    go_wp2
    go_ret
    exact ⟨by rw [opRight]; simp [allParts, partsF, blankPart, HN.out], HU.out⟩
  subst hb
  have x8 := cellAt HB.out 8 (.int .u64 0) rfl
  go_wp2
  go_ret
  exact ⟨by rw [opRight]; simp [allParts, partsF, blankPart, HD.out], HU.out⟩

set_option maxRecDepth 100000 in
set_option maxHeartbeats 4000000 in
theorem rright9 {S : Nat → Prop} (w : World) (doc : Int) (name to text : List UInt8) (edits : List Edit) (epoch version dur : Int) (v : Value) (h : Row S w v edits.length (editCells edits)) (hwf : ∀ x ∈ edits, 0 ≤ x.kind) :
    Calls Tryd.prog 20 #[.agg (opCells ⟨9, doc, name, to, text, edits, epoch, version, dur⟩ v)] w (RightPost ⟨9, doc, name, to, text, edits, epoch, version, dur⟩ w) := by
  have hbx := newAt w (.cells (opCells ⟨9, doc, name, to, text, edits, epoch, version, dur⟩ v) 36)
  have hux : Ext w (w.alloc (.cells (opCells ⟨9, doc, name, to, text, edits, epoch, version, dur⟩ v) 36)) := (Upd.refl _ _).alloc _
  have HR := Lib.hid (h.ext hux)
  have HBX := Lib.hid hbx
  have HUX := Lib.hid hux
  have HWF := Lib.hid hwf
  obtain ⟨a, c, rfl, -, -, -⟩ := h
  clear hbx hux hwf
  simp only [opCells]
  go_enter Tryd.func20, Tryd.ntmps20
  go_wp2_with (go_at_call 52; fail)
  refine (rdeltaRight_any _ _ edits HR.out HWF.out).mono ?_
  rintro e w1 ⟨rfl, hu1⟩
  have HU := Lib.hid (HUX.out.trans hu1)
  have HB := Lib.hid (hu1.at_ HBX.out id)
  clear hu1 HR HBX HUX HWF
  by_cases hd : deltaRight edits = true
  case neg =>
    have hdf : deltaRight edits = false := by simpa using hd
    rw [hdf]
    have HD := Lib.hid hdf
    clear hd hdf
    go_wp2
    go_ret
    exact ⟨by rw [opRight]; simp [HD.out], HU.out⟩
  rw [hd]
  have HD := Lib.hid hd
  clear hd
  have x0 := cellAt HB.out 0 (.int .u8 9) rfl
  have x1 := cellAt HB.out 1 (.int .u64 doc) rfl
  go_wp2_with (go_at_call 53; fail)
  refine (has_any _ 9 (by decide) 100 100 rfl).mono ?_
  rintro e w2 ⟨rfl, hu⟩
  rw [show (partsF 9).contains 100 = true from by decide]
  dsimp only [List.append] at *
  have HU := Lib.hid (HU.out.trans hu)
  have HB := Lib.hid (hu.at_ HB.out id)
  clear hu x0 x1
  have x0 := cellAt HB.out 0 (.int .u8 9) rfl
  have x2 := cellAt HB.out 2 (str name) rfl
  go_wp2_with (go_at_call 53; fail)
  refine (has_any _ 9 (by decide) 110 110 rfl).mono ?_
  rintro e w3 ⟨rfl, hu⟩
  rw [show (partsF 9).contains 110 = false from by decide]
  have HU := Lib.hid (HU.out.trans hu)
  have HB := Lib.hid (hu.at_ HB.out id)
  clear hu x0 x2
  by_cases hb : name = []
  case neg =>
    have x2 := cellAt HB.out 2 (str name) rfl
    have hq : ((⟨name.toArray⟩ : ByteArray).toList == ([] : List UInt8)) = false := by rw [beq_eq_false_iff_ne, bytes_toList]; exact hb
    have hq2 : name.isEmpty = false := by simpa using hb
    have HN := Lib.hid hb
    clear hb
    go_wp2
    go_ret
    exact ⟨by rw [opRight]; simp [allParts, partsF, blankPart, HN.out], HU.out⟩
  subst hb
  have x2 := cellAt HB.out 2 (str []) rfl
  have x0 := cellAt HB.out 0 (.int .u8 9) rfl
  have x3 := cellAt HB.out 3 (str to) rfl
  go_wp2_with (go_at_call 53; fail)
  refine (has_any _ 9 (by decide) 111 111 rfl).mono ?_
  rintro e w4 ⟨rfl, hu⟩
  rw [show (partsF 9).contains 111 = false from by decide]
  have HU := Lib.hid (HU.out.trans hu)
  have HB := Lib.hid (hu.at_ HB.out id)
  clear hu x0 x3
  by_cases hb : to = []
  case neg =>
    have x3 := cellAt HB.out 3 (str to) rfl
    have hq : ((⟨to.toArray⟩ : ByteArray).toList == ([] : List UInt8)) = false := by rw [beq_eq_false_iff_ne, bytes_toList]; exact hb
    have hq2 : to.isEmpty = false := by simpa using hb
    have HN := Lib.hid hb
    clear hb
    go_wp2
    go_ret
    exact ⟨by rw [opRight]; simp [allParts, partsF, blankPart, HN.out], HU.out⟩
  subst hb
  have x3 := cellAt HB.out 3 (str []) rfl
  have x0 := cellAt HB.out 0 (.int .u8 9) rfl
  have x4 := cellAt HB.out 4 (str text) rfl
  go_wp2_with (go_at_call 53; fail)
  refine (has_any _ 9 (by decide) 116 116 rfl).mono ?_
  rintro e w5 ⟨rfl, hu⟩
  rw [show (partsF 9).contains 116 = true from by decide]
  have HU := Lib.hid (HU.out.trans hu)
  have HB := Lib.hid (hu.at_ HB.out id)
  clear hu x0 x4
  have x0 := cellAt HB.out 0 (.int .u8 9) rfl
  have x5 := cellAt HB.out 5 (.slice a edits.length c) rfl
  go_wp2_with (go_at_call 53; fail)
  refine (has_any _ 9 (by decide) 101 101 rfl).mono ?_
  rintro e w6 ⟨rfl, hu⟩
  rw [show (partsF 9).contains 101 = false from by decide]
  have HU := Lib.hid (HU.out.trans hu)
  have HB := Lib.hid (hu.at_ HB.out id)
  clear hu x0 x5
  by_cases hb : edits = []
  case neg =>
    have x5 := cellAt HB.out 5 (.slice a edits.length c) rfl
    have hq : ((edits.length : Int) == 0) = false := by simpa using hb
    have HN := Lib.hid hb
    clear hb
    go_wp2
    go_ret
    exact ⟨by rw [opRight]; simp [allParts, partsF, blankPart, HN.out], HU.out⟩
  subst hb
  have x5 := cellAt HB.out 5 (.slice a 0 c) rfl
  have x0 := cellAt HB.out 0 (.int .u8 9) rfl
  have x6 := cellAt HB.out 6 (.int .u64 epoch) rfl
  go_wp2_with (go_at_call 53; fail)
  refine (has_any _ 9 (by decide) 112 112 rfl).mono ?_
  rintro e w7 ⟨rfl, hu⟩
  rw [show (partsF 9).contains 112 = true from by decide]
  have HU := Lib.hid (HU.out.trans hu)
  have HB := Lib.hid (hu.at_ HB.out id)
  clear hu x0 x6
  have x0 := cellAt HB.out 0 (.int .u8 9) rfl
  have x7 := cellAt HB.out 7 (.int .u64 version) rfl
  go_wp2_with (go_at_call 53; fail)
  refine (has_any _ 9 (by decide) 118 118 rfl).mono ?_
  rintro e w8 ⟨rfl, hu⟩
  rw [show (partsF 9).contains 118 = false from by decide]
  have HU := Lib.hid (HU.out.trans hu)
  have HB := Lib.hid (hu.at_ HB.out id)
  clear hu x0 x7
  by_cases hb : version = 0
  case neg =>
    have x7 := cellAt HB.out 7 (.int .u64 version) rfl
    have hq : (version == 0) = false := by simpa using hb
    have HN := Lib.hid hb
    clear hb
    go_wp2
    go_ret
    exact ⟨by rw [opRight]; simp [allParts, partsF, blankPart, HN.out], HU.out⟩
  subst hb
  have x7 := cellAt HB.out 7 (.int .u64 0) rfl
  have x0 := cellAt HB.out 0 (.int .u8 9) rfl
  have x8 := cellAt HB.out 8 (.int .u64 dur) rfl
  go_wp2_with (go_at_call 53; fail)
  refine (has_any _ 9 (by decide) 117 117 rfl).mono ?_
  rintro e w9 ⟨rfl, hu⟩
  rw [show (partsF 9).contains 117 = false from by decide]
  have HU := Lib.hid (HU.out.trans hu)
  have HB := Lib.hid (hu.at_ HB.out id)
  clear hu x0 x8
  by_cases hb : dur = 0
  case neg =>
    have x8 := cellAt HB.out 8 (.int .u64 dur) rfl
    have hq : (dur == 0) = false := by simpa using hb
    have HN := Lib.hid hb
    clear hb
    go_wp2
    go_ret
    exact ⟨by rw [opRight]; simp [allParts, partsF, blankPart, HN.out], HU.out⟩
  subst hb
  have x8 := cellAt HB.out 8 (.int .u64 0) rfl
  go_wp2
  go_ret
  exact ⟨by rw [opRight]; simp [allParts, partsF, blankPart, HD.out], HU.out⟩

set_option maxRecDepth 100000 in
set_option maxHeartbeats 4000000 in
theorem rright10 {S : Nat → Prop} (w : World) (doc : Int) (name to text : List UInt8) (edits : List Edit) (epoch version dur : Int) (v : Value) (h : Row S w v edits.length (editCells edits)) (hwf : ∀ x ∈ edits, 0 ≤ x.kind) :
    Calls Tryd.prog 20 #[.agg (opCells ⟨10, doc, name, to, text, edits, epoch, version, dur⟩ v)] w (RightPost ⟨10, doc, name, to, text, edits, epoch, version, dur⟩ w) := by
  have hbx := newAt w (.cells (opCells ⟨10, doc, name, to, text, edits, epoch, version, dur⟩ v) 36)
  have hux : Ext w (w.alloc (.cells (opCells ⟨10, doc, name, to, text, edits, epoch, version, dur⟩ v) 36)) := (Upd.refl _ _).alloc _
  have HR := Lib.hid (h.ext hux)
  have HBX := Lib.hid hbx
  have HUX := Lib.hid hux
  have HWF := Lib.hid hwf
  obtain ⟨a, c, rfl, -, -, -⟩ := h
  clear hbx hux hwf
  simp only [opCells]
  go_enter Tryd.func20, Tryd.ntmps20
  go_wp2_with (go_at_call 52; fail)
  refine (rdeltaRight_any _ _ edits HR.out HWF.out).mono ?_
  rintro e w1 ⟨rfl, hu1⟩
  have HU := Lib.hid (HUX.out.trans hu1)
  have HB := Lib.hid (hu1.at_ HBX.out id)
  clear hu1 HR HBX HUX HWF
  by_cases hd : deltaRight edits = true
  case neg =>
    have hdf : deltaRight edits = false := by simpa using hd
    rw [hdf]
    have HD := Lib.hid hdf
    clear hd hdf
    go_wp2
    go_ret
    exact ⟨by rw [opRight]; simp [HD.out], HU.out⟩
  rw [hd]
  have HD := Lib.hid hd
  clear hd
  have x0 := cellAt HB.out 0 (.int .u8 10) rfl
  have x1 := cellAt HB.out 1 (.int .u64 doc) rfl
  go_wp2_with (go_at_call 53; fail)
  refine (has_any _ 10 (by decide) 100 100 rfl).mono ?_
  rintro e w2 ⟨rfl, hu⟩
  rw [show (partsF 10).contains 100 = true from by decide]
  dsimp only [List.append] at *
  have HU := Lib.hid (HU.out.trans hu)
  have HB := Lib.hid (hu.at_ HB.out id)
  clear hu x0 x1
  have x0 := cellAt HB.out 0 (.int .u8 10) rfl
  have x2 := cellAt HB.out 2 (str name) rfl
  go_wp2_with (go_at_call 53; fail)
  refine (has_any _ 10 (by decide) 110 110 rfl).mono ?_
  rintro e w3 ⟨rfl, hu⟩
  rw [show (partsF 10).contains 110 = false from by decide]
  have HU := Lib.hid (HU.out.trans hu)
  have HB := Lib.hid (hu.at_ HB.out id)
  clear hu x0 x2
  by_cases hb : name = []
  case neg =>
    have x2 := cellAt HB.out 2 (str name) rfl
    have hq : ((⟨name.toArray⟩ : ByteArray).toList == ([] : List UInt8)) = false := by rw [beq_eq_false_iff_ne, bytes_toList]; exact hb
    have hq2 : name.isEmpty = false := by simpa using hb
    have HN := Lib.hid hb
    clear hb
    go_wp2
    go_ret
    exact ⟨by rw [opRight]; simp [allParts, partsF, blankPart, HN.out], HU.out⟩
  subst hb
  have x2 := cellAt HB.out 2 (str []) rfl
  have x0 := cellAt HB.out 0 (.int .u8 10) rfl
  have x3 := cellAt HB.out 3 (str to) rfl
  go_wp2_with (go_at_call 53; fail)
  refine (has_any _ 10 (by decide) 111 111 rfl).mono ?_
  rintro e w4 ⟨rfl, hu⟩
  rw [show (partsF 10).contains 111 = false from by decide]
  have HU := Lib.hid (HU.out.trans hu)
  have HB := Lib.hid (hu.at_ HB.out id)
  clear hu x0 x3
  by_cases hb : to = []
  case neg =>
    have x3 := cellAt HB.out 3 (str to) rfl
    have hq : ((⟨to.toArray⟩ : ByteArray).toList == ([] : List UInt8)) = false := by rw [beq_eq_false_iff_ne, bytes_toList]; exact hb
    have hq2 : to.isEmpty = false := by simpa using hb
    have HN := Lib.hid hb
    clear hb
    go_wp2
    go_ret
    exact ⟨by rw [opRight]; simp [allParts, partsF, blankPart, HN.out], HU.out⟩
  subst hb
  have x3 := cellAt HB.out 3 (str []) rfl
  have x0 := cellAt HB.out 0 (.int .u8 10) rfl
  have x4 := cellAt HB.out 4 (str text) rfl
  go_wp2_with (go_at_call 53; fail)
  refine (has_any _ 10 (by decide) 116 116 rfl).mono ?_
  rintro e w5 ⟨rfl, hu⟩
  rw [show (partsF 10).contains 116 = false from by decide]
  have HU := Lib.hid (HU.out.trans hu)
  have HB := Lib.hid (hu.at_ HB.out id)
  clear hu x0 x4
  by_cases hb : text = []
  case neg =>
    have x4 := cellAt HB.out 4 (str text) rfl
    have hq : ((⟨text.toArray⟩ : ByteArray).toList == ([] : List UInt8)) = false := by rw [beq_eq_false_iff_ne, bytes_toList]; exact hb
    have hq2 : text.isEmpty = false := by simpa using hb
    have HN := Lib.hid hb
    clear hb
    go_wp2
    go_ret
    exact ⟨by rw [opRight]; simp [allParts, partsF, blankPart, HN.out], HU.out⟩
  subst hb
  have x4 := cellAt HB.out 4 (str []) rfl
  have x0 := cellAt HB.out 0 (.int .u8 10) rfl
  have x5 := cellAt HB.out 5 (.slice a edits.length c) rfl
  go_wp2_with (go_at_call 53; fail)
  refine (has_any _ 10 (by decide) 101 101 rfl).mono ?_
  rintro e w6 ⟨rfl, hu⟩
  rw [show (partsF 10).contains 101 = true from by decide]
  have HU := Lib.hid (HU.out.trans hu)
  have HB := Lib.hid (hu.at_ HB.out id)
  clear hu x0 x5
  have x0 := cellAt HB.out 0 (.int .u8 10) rfl
  have x6 := cellAt HB.out 6 (.int .u64 epoch) rfl
  go_wp2_with (go_at_call 53; fail)
  refine (has_any _ 10 (by decide) 112 112 rfl).mono ?_
  rintro e w7 ⟨rfl, hu⟩
  rw [show (partsF 10).contains 112 = true from by decide]
  have HU := Lib.hid (HU.out.trans hu)
  have HB := Lib.hid (hu.at_ HB.out id)
  clear hu x0 x6
  have x0 := cellAt HB.out 0 (.int .u8 10) rfl
  have x7 := cellAt HB.out 7 (.int .u64 version) rfl
  go_wp2_with (go_at_call 53; fail)
  refine (has_any _ 10 (by decide) 118 118 rfl).mono ?_
  rintro e w8 ⟨rfl, hu⟩
  rw [show (partsF 10).contains 118 = true from by decide]
  have HU := Lib.hid (HU.out.trans hu)
  have HB := Lib.hid (hu.at_ HB.out id)
  clear hu x0 x7
  have x0 := cellAt HB.out 0 (.int .u8 10) rfl
  have x8 := cellAt HB.out 8 (.int .u64 dur) rfl
  go_wp2_with (go_at_call 53; fail)
  refine (has_any _ 10 (by decide) 117 117 rfl).mono ?_
  rintro e w9 ⟨rfl, hu⟩
  rw [show (partsF 10).contains 117 = false from by decide]
  have HU := Lib.hid (HU.out.trans hu)
  have HB := Lib.hid (hu.at_ HB.out id)
  clear hu x0 x8
  by_cases hb : dur = 0
  case neg =>
    have x8 := cellAt HB.out 8 (.int .u64 dur) rfl
    have hq : (dur == 0) = false := by simpa using hb
    have HN := Lib.hid hb
    clear hb
    go_wp2
    go_ret
    exact ⟨by rw [opRight]; simp [allParts, partsF, blankPart, HN.out], HU.out⟩
  subst hb
  have x8 := cellAt HB.out 8 (.int .u64 0) rfl
  go_wp2
  go_ret
  exact ⟨by rw [opRight]; simp [allParts, partsF, blankPart, HD.out], HU.out⟩

set_option maxRecDepth 100000 in
set_option maxHeartbeats 4000000 in
theorem rright11 {S : Nat → Prop} (w : World) (doc : Int) (name to text : List UInt8) (edits : List Edit) (epoch version dur : Int) (v : Value) (h : Row S w v edits.length (editCells edits)) (hwf : ∀ x ∈ edits, 0 ≤ x.kind) :
    Calls Tryd.prog 20 #[.agg (opCells ⟨11, doc, name, to, text, edits, epoch, version, dur⟩ v)] w (RightPost ⟨11, doc, name, to, text, edits, epoch, version, dur⟩ w) := by
  have hbx := newAt w (.cells (opCells ⟨11, doc, name, to, text, edits, epoch, version, dur⟩ v) 36)
  have hux : Ext w (w.alloc (.cells (opCells ⟨11, doc, name, to, text, edits, epoch, version, dur⟩ v) 36)) := (Upd.refl _ _).alloc _
  have HR := Lib.hid (h.ext hux)
  have HBX := Lib.hid hbx
  have HUX := Lib.hid hux
  have HWF := Lib.hid hwf
  obtain ⟨a, c, rfl, -, -, -⟩ := h
  clear hbx hux hwf
  simp only [opCells]
  go_enter Tryd.func20, Tryd.ntmps20
  go_wp2_with (go_at_call 52; fail)
  refine (rdeltaRight_any _ _ edits HR.out HWF.out).mono ?_
  rintro e w1 ⟨rfl, hu1⟩
  have HU := Lib.hid (HUX.out.trans hu1)
  have HB := Lib.hid (hu1.at_ HBX.out id)
  clear hu1 HR HBX HUX HWF
  by_cases hd : deltaRight edits = true
  case neg =>
    have hdf : deltaRight edits = false := by simpa using hd
    rw [hdf]
    have HD := Lib.hid hdf
    clear hd hdf
    go_wp2
    go_ret
    exact ⟨by rw [opRight]; simp [HD.out], HU.out⟩
  rw [hd]
  have HD := Lib.hid hd
  clear hd
  have x0 := cellAt HB.out 0 (.int .u8 11) rfl
  have x1 := cellAt HB.out 1 (.int .u64 doc) rfl
  go_wp2_with (go_at_call 53; fail)
  refine (has_any _ 11 (by decide) 100 100 rfl).mono ?_
  rintro e w2 ⟨rfl, hu⟩
  rw [show (partsF 11).contains 100 = true from by decide]
  dsimp only [List.append] at *
  have HU := Lib.hid (HU.out.trans hu)
  have HB := Lib.hid (hu.at_ HB.out id)
  clear hu x0 x1
  have x0 := cellAt HB.out 0 (.int .u8 11) rfl
  have x2 := cellAt HB.out 2 (str name) rfl
  go_wp2_with (go_at_call 53; fail)
  refine (has_any _ 11 (by decide) 110 110 rfl).mono ?_
  rintro e w3 ⟨rfl, hu⟩
  rw [show (partsF 11).contains 110 = false from by decide]
  have HU := Lib.hid (HU.out.trans hu)
  have HB := Lib.hid (hu.at_ HB.out id)
  clear hu x0 x2
  by_cases hb : name = []
  case neg =>
    have x2 := cellAt HB.out 2 (str name) rfl
    have hq : ((⟨name.toArray⟩ : ByteArray).toList == ([] : List UInt8)) = false := by rw [beq_eq_false_iff_ne, bytes_toList]; exact hb
    have hq2 : name.isEmpty = false := by simpa using hb
    have HN := Lib.hid hb
    clear hb
    go_wp2
    go_ret
    exact ⟨by rw [opRight]; simp [allParts, partsF, blankPart, HN.out], HU.out⟩
  subst hb
  have x2 := cellAt HB.out 2 (str []) rfl
  have x0 := cellAt HB.out 0 (.int .u8 11) rfl
  have x3 := cellAt HB.out 3 (str to) rfl
  go_wp2_with (go_at_call 53; fail)
  refine (has_any _ 11 (by decide) 111 111 rfl).mono ?_
  rintro e w4 ⟨rfl, hu⟩
  rw [show (partsF 11).contains 111 = false from by decide]
  have HU := Lib.hid (HU.out.trans hu)
  have HB := Lib.hid (hu.at_ HB.out id)
  clear hu x0 x3
  by_cases hb : to = []
  case neg =>
    have x3 := cellAt HB.out 3 (str to) rfl
    have hq : ((⟨to.toArray⟩ : ByteArray).toList == ([] : List UInt8)) = false := by rw [beq_eq_false_iff_ne, bytes_toList]; exact hb
    have hq2 : to.isEmpty = false := by simpa using hb
    have HN := Lib.hid hb
    clear hb
    go_wp2
    go_ret
    exact ⟨by rw [opRight]; simp [allParts, partsF, blankPart, HN.out], HU.out⟩
  subst hb
  have x3 := cellAt HB.out 3 (str []) rfl
  have x0 := cellAt HB.out 0 (.int .u8 11) rfl
  have x4 := cellAt HB.out 4 (str text) rfl
  go_wp2_with (go_at_call 53; fail)
  refine (has_any _ 11 (by decide) 116 116 rfl).mono ?_
  rintro e w5 ⟨rfl, hu⟩
  rw [show (partsF 11).contains 116 = false from by decide]
  have HU := Lib.hid (HU.out.trans hu)
  have HB := Lib.hid (hu.at_ HB.out id)
  clear hu x0 x4
  by_cases hb : text = []
  case neg =>
    have x4 := cellAt HB.out 4 (str text) rfl
    have hq : ((⟨text.toArray⟩ : ByteArray).toList == ([] : List UInt8)) = false := by rw [beq_eq_false_iff_ne, bytes_toList]; exact hb
    have hq2 : text.isEmpty = false := by simpa using hb
    have HN := Lib.hid hb
    clear hb
    go_wp2
    go_ret
    exact ⟨by rw [opRight]; simp [allParts, partsF, blankPart, HN.out], HU.out⟩
  subst hb
  have x4 := cellAt HB.out 4 (str []) rfl
  have x0 := cellAt HB.out 0 (.int .u8 11) rfl
  have x5 := cellAt HB.out 5 (.slice a edits.length c) rfl
  go_wp2_with (go_at_call 53; fail)
  refine (has_any _ 11 (by decide) 101 101 rfl).mono ?_
  rintro e w6 ⟨rfl, hu⟩
  rw [show (partsF 11).contains 101 = false from by decide]
  have HU := Lib.hid (HU.out.trans hu)
  have HB := Lib.hid (hu.at_ HB.out id)
  clear hu x0 x5
  by_cases hb : edits = []
  case neg =>
    have x5 := cellAt HB.out 5 (.slice a edits.length c) rfl
    have hq : ((edits.length : Int) == 0) = false := by simpa using hb
    have HN := Lib.hid hb
    clear hb
    go_wp2
    go_ret
    exact ⟨by rw [opRight]; simp [allParts, partsF, blankPart, HN.out], HU.out⟩
  subst hb
  have x5 := cellAt HB.out 5 (.slice a 0 c) rfl
  have x0 := cellAt HB.out 0 (.int .u8 11) rfl
  have x6 := cellAt HB.out 6 (.int .u64 epoch) rfl
  go_wp2_with (go_at_call 53; fail)
  refine (has_any _ 11 (by decide) 112 112 rfl).mono ?_
  rintro e w7 ⟨rfl, hu⟩
  rw [show (partsF 11).contains 112 = false from by decide]
  have HU := Lib.hid (HU.out.trans hu)
  have HB := Lib.hid (hu.at_ HB.out id)
  clear hu x0 x6
  by_cases hb : epoch = 0
  case neg =>
    have x6 := cellAt HB.out 6 (.int .u64 epoch) rfl
    have hq : (epoch == 0) = false := by simpa using hb
    have HN := Lib.hid hb
    clear hb
    go_wp2
    go_ret
    exact ⟨by rw [opRight]; simp [allParts, partsF, blankPart, HN.out], HU.out⟩
  subst hb
  have x6 := cellAt HB.out 6 (.int .u64 0) rfl
  have x0 := cellAt HB.out 0 (.int .u8 11) rfl
  have x7 := cellAt HB.out 7 (.int .u64 version) rfl
  go_wp2_with (go_at_call 53; fail)
  refine (has_any _ 11 (by decide) 118 118 rfl).mono ?_
  rintro e w8 ⟨rfl, hu⟩
  rw [show (partsF 11).contains 118 = false from by decide]
  have HU := Lib.hid (HU.out.trans hu)
  have HB := Lib.hid (hu.at_ HB.out id)
  clear hu x0 x7
  by_cases hb : version = 0
  case neg =>
    have x7 := cellAt HB.out 7 (.int .u64 version) rfl
    have hq : (version == 0) = false := by simpa using hb
    have HN := Lib.hid hb
    clear hb
    go_wp2
    go_ret
    exact ⟨by rw [opRight]; simp [allParts, partsF, blankPart, HN.out], HU.out⟩
  subst hb
  have x7 := cellAt HB.out 7 (.int .u64 0) rfl
  have x0 := cellAt HB.out 0 (.int .u8 11) rfl
  have x8 := cellAt HB.out 8 (.int .u64 dur) rfl
  go_wp2_with (go_at_call 53; fail)
  refine (has_any _ 11 (by decide) 117 117 rfl).mono ?_
  rintro e w9 ⟨rfl, hu⟩
  rw [show (partsF 11).contains 117 = false from by decide]
  have HU := Lib.hid (HU.out.trans hu)
  have HB := Lib.hid (hu.at_ HB.out id)
  clear hu x0 x8
  by_cases hb : dur = 0
  case neg =>
    have x8 := cellAt HB.out 8 (.int .u64 dur) rfl
    have hq : (dur == 0) = false := by simpa using hb
    have HN := Lib.hid hb
    clear hb
    go_wp2
    go_ret
    exact ⟨by rw [opRight]; simp [allParts, partsF, blankPart, HN.out], HU.out⟩
  subst hb
  have x8 := cellAt HB.out 8 (.int .u64 0) rfl
  go_wp2
  go_ret
  exact ⟨by rw [opRight]; simp [allParts, partsF, blankPart, HD.out], HU.out⟩

set_option maxRecDepth 100000 in
set_option maxHeartbeats 4000000 in
theorem rright12 {S : Nat → Prop} (w : World) (doc : Int) (name to text : List UInt8) (edits : List Edit) (epoch version dur : Int) (v : Value) (h : Row S w v edits.length (editCells edits)) (hwf : ∀ x ∈ edits, 0 ≤ x.kind) :
    Calls Tryd.prog 20 #[.agg (opCells ⟨12, doc, name, to, text, edits, epoch, version, dur⟩ v)] w (RightPost ⟨12, doc, name, to, text, edits, epoch, version, dur⟩ w) := by
  have hbx := newAt w (.cells (opCells ⟨12, doc, name, to, text, edits, epoch, version, dur⟩ v) 36)
  have hux : Ext w (w.alloc (.cells (opCells ⟨12, doc, name, to, text, edits, epoch, version, dur⟩ v) 36)) := (Upd.refl _ _).alloc _
  have HR := Lib.hid (h.ext hux)
  have HBX := Lib.hid hbx
  have HUX := Lib.hid hux
  have HWF := Lib.hid hwf
  obtain ⟨a, c, rfl, -, -, -⟩ := h
  clear hbx hux hwf
  simp only [opCells]
  go_enter Tryd.func20, Tryd.ntmps20
  go_wp2_with (go_at_call 52; fail)
  refine (rdeltaRight_any _ _ edits HR.out HWF.out).mono ?_
  rintro e w1 ⟨rfl, hu1⟩
  have HU := Lib.hid (HUX.out.trans hu1)
  have HB := Lib.hid (hu1.at_ HBX.out id)
  clear hu1 HR HBX HUX HWF
  by_cases hd : deltaRight edits = true
  case neg =>
    have hdf : deltaRight edits = false := by simpa using hd
    rw [hdf]
    have HD := Lib.hid hdf
    clear hd hdf
    go_wp2
    go_ret
    exact ⟨by rw [opRight]; simp [HD.out], HU.out⟩
  rw [hd]
  have HD := Lib.hid hd
  clear hd
  have x0 := cellAt HB.out 0 (.int .u8 12) rfl
  have x1 := cellAt HB.out 1 (.int .u64 doc) rfl
  go_wp2_with (go_at_call 53; fail)
  refine (has_any _ 12 (by decide) 100 100 rfl).mono ?_
  rintro e w2 ⟨rfl, hu⟩
  rw [show (partsF 12).contains 100 = true from by decide]
  dsimp only [List.append] at *
  have HU := Lib.hid (HU.out.trans hu)
  have HB := Lib.hid (hu.at_ HB.out id)
  clear hu x0 x1
  have x0 := cellAt HB.out 0 (.int .u8 12) rfl
  have x2 := cellAt HB.out 2 (str name) rfl
  go_wp2_with (go_at_call 53; fail)
  refine (has_any _ 12 (by decide) 110 110 rfl).mono ?_
  rintro e w3 ⟨rfl, hu⟩
  rw [show (partsF 12).contains 110 = false from by decide]
  have HU := Lib.hid (HU.out.trans hu)
  have HB := Lib.hid (hu.at_ HB.out id)
  clear hu x0 x2
  by_cases hb : name = []
  case neg =>
    have x2 := cellAt HB.out 2 (str name) rfl
    have hq : ((⟨name.toArray⟩ : ByteArray).toList == ([] : List UInt8)) = false := by rw [beq_eq_false_iff_ne, bytes_toList]; exact hb
    have hq2 : name.isEmpty = false := by simpa using hb
    have HN := Lib.hid hb
    clear hb
    go_wp2
    go_ret
    exact ⟨by rw [opRight]; simp [allParts, partsF, blankPart, HN.out], HU.out⟩
  subst hb
  have x2 := cellAt HB.out 2 (str []) rfl
  have x0 := cellAt HB.out 0 (.int .u8 12) rfl
  have x3 := cellAt HB.out 3 (str to) rfl
  go_wp2_with (go_at_call 53; fail)
  refine (has_any _ 12 (by decide) 111 111 rfl).mono ?_
  rintro e w4 ⟨rfl, hu⟩
  rw [show (partsF 12).contains 111 = false from by decide]
  have HU := Lib.hid (HU.out.trans hu)
  have HB := Lib.hid (hu.at_ HB.out id)
  clear hu x0 x3
  by_cases hb : to = []
  case neg =>
    have x3 := cellAt HB.out 3 (str to) rfl
    have hq : ((⟨to.toArray⟩ : ByteArray).toList == ([] : List UInt8)) = false := by rw [beq_eq_false_iff_ne, bytes_toList]; exact hb
    have hq2 : to.isEmpty = false := by simpa using hb
    have HN := Lib.hid hb
    clear hb
    go_wp2
    go_ret
    exact ⟨by rw [opRight]; simp [allParts, partsF, blankPart, HN.out], HU.out⟩
  subst hb
  have x3 := cellAt HB.out 3 (str []) rfl
  have x0 := cellAt HB.out 0 (.int .u8 12) rfl
  have x4 := cellAt HB.out 4 (str text) rfl
  go_wp2_with (go_at_call 53; fail)
  refine (has_any _ 12 (by decide) 116 116 rfl).mono ?_
  rintro e w5 ⟨rfl, hu⟩
  rw [show (partsF 12).contains 116 = false from by decide]
  have HU := Lib.hid (HU.out.trans hu)
  have HB := Lib.hid (hu.at_ HB.out id)
  clear hu x0 x4
  by_cases hb : text = []
  case neg =>
    have x4 := cellAt HB.out 4 (str text) rfl
    have hq : ((⟨text.toArray⟩ : ByteArray).toList == ([] : List UInt8)) = false := by rw [beq_eq_false_iff_ne, bytes_toList]; exact hb
    have hq2 : text.isEmpty = false := by simpa using hb
    have HN := Lib.hid hb
    clear hb
    go_wp2
    go_ret
    exact ⟨by rw [opRight]; simp [allParts, partsF, blankPart, HN.out], HU.out⟩
  subst hb
  have x4 := cellAt HB.out 4 (str []) rfl
  have x0 := cellAt HB.out 0 (.int .u8 12) rfl
  have x5 := cellAt HB.out 5 (.slice a edits.length c) rfl
  go_wp2_with (go_at_call 53; fail)
  refine (has_any _ 12 (by decide) 101 101 rfl).mono ?_
  rintro e w6 ⟨rfl, hu⟩
  rw [show (partsF 12).contains 101 = false from by decide]
  have HU := Lib.hid (HU.out.trans hu)
  have HB := Lib.hid (hu.at_ HB.out id)
  clear hu x0 x5
  by_cases hb : edits = []
  case neg =>
    have x5 := cellAt HB.out 5 (.slice a edits.length c) rfl
    have hq : ((edits.length : Int) == 0) = false := by simpa using hb
    have HN := Lib.hid hb
    clear hb
    go_wp2
    go_ret
    exact ⟨by rw [opRight]; simp [allParts, partsF, blankPart, HN.out], HU.out⟩
  subst hb
  have x5 := cellAt HB.out 5 (.slice a 0 c) rfl
  have x0 := cellAt HB.out 0 (.int .u8 12) rfl
  have x6 := cellAt HB.out 6 (.int .u64 epoch) rfl
  go_wp2_with (go_at_call 53; fail)
  refine (has_any _ 12 (by decide) 112 112 rfl).mono ?_
  rintro e w7 ⟨rfl, hu⟩
  rw [show (partsF 12).contains 112 = false from by decide]
  have HU := Lib.hid (HU.out.trans hu)
  have HB := Lib.hid (hu.at_ HB.out id)
  clear hu x0 x6
  by_cases hb : epoch = 0
  case neg =>
    have x6 := cellAt HB.out 6 (.int .u64 epoch) rfl
    have hq : (epoch == 0) = false := by simpa using hb
    have HN := Lib.hid hb
    clear hb
    go_wp2
    go_ret
    exact ⟨by rw [opRight]; simp [allParts, partsF, blankPart, HN.out], HU.out⟩
  subst hb
  have x6 := cellAt HB.out 6 (.int .u64 0) rfl
  have x0 := cellAt HB.out 0 (.int .u8 12) rfl
  have x7 := cellAt HB.out 7 (.int .u64 version) rfl
  go_wp2_with (go_at_call 53; fail)
  refine (has_any _ 12 (by decide) 118 118 rfl).mono ?_
  rintro e w8 ⟨rfl, hu⟩
  rw [show (partsF 12).contains 118 = true from by decide]
  have HU := Lib.hid (HU.out.trans hu)
  have HB := Lib.hid (hu.at_ HB.out id)
  clear hu x0 x7
  have x0 := cellAt HB.out 0 (.int .u8 12) rfl
  have x8 := cellAt HB.out 8 (.int .u64 dur) rfl
  go_wp2_with (go_at_call 53; fail)
  refine (has_any _ 12 (by decide) 117 117 rfl).mono ?_
  rintro e w9 ⟨rfl, hu⟩
  rw [show (partsF 12).contains 117 = false from by decide]
  have HU := Lib.hid (HU.out.trans hu)
  have HB := Lib.hid (hu.at_ HB.out id)
  clear hu x0 x8
  by_cases hb : dur = 0
  case neg =>
    have x8 := cellAt HB.out 8 (.int .u64 dur) rfl
    have hq : (dur == 0) = false := by simpa using hb
    have HN := Lib.hid hb
    clear hb
    go_wp2
    go_ret
    exact ⟨by rw [opRight]; simp [allParts, partsF, blankPart, HN.out], HU.out⟩
  subst hb
  have x8 := cellAt HB.out 8 (.int .u64 0) rfl
  go_wp2
  go_ret
  exact ⟨by rw [opRight]; simp [allParts, partsF, blankPart, HD.out], HU.out⟩
end Go.Proofs.YtlhpcgmbbeihiaaDoor
namespace Go.Proofs.YtlhpcgmbbeihiaaDoor
open Go.RowKit

set_option maxRecDepth 100000 in
set_option maxHeartbeats 4000000 in
theorem rright13 {S : Nat → Prop} (w : World) (doc : Int) (name to text : List UInt8) (edits : List Edit) (epoch version dur : Int) (v : Value) (h : Row S w v edits.length (editCells edits)) (hwf : ∀ x ∈ edits, 0 ≤ x.kind) :
    Calls Tryd.prog 20 #[.agg (opCells ⟨13, doc, name, to, text, edits, epoch, version, dur⟩ v)] w (RightPost ⟨13, doc, name, to, text, edits, epoch, version, dur⟩ w) := by
  have hbx := newAt w (.cells (opCells ⟨13, doc, name, to, text, edits, epoch, version, dur⟩ v) 36)
  have hux : Ext w (w.alloc (.cells (opCells ⟨13, doc, name, to, text, edits, epoch, version, dur⟩ v) 36)) := (Upd.refl _ _).alloc _
  have HR := Lib.hid (h.ext hux)
  have HBX := Lib.hid hbx
  have HUX := Lib.hid hux
  have HWF := Lib.hid hwf
  obtain ⟨a, c, rfl, -, -, -⟩ := h
  clear hbx hux hwf
  simp only [opCells]
  go_enter Tryd.func20, Tryd.ntmps20
  go_wp2_with (go_at_call 52; fail)
  refine (rdeltaRight_any _ _ edits HR.out HWF.out).mono ?_
  rintro e w1 ⟨rfl, hu1⟩
  have HU := Lib.hid (HUX.out.trans hu1)
  have HB := Lib.hid (hu1.at_ HBX.out id)
  clear hu1 HR HBX HUX HWF
  by_cases hd : deltaRight edits = true
  case neg =>
    have hdf : deltaRight edits = false := by simpa using hd
    rw [hdf]
    have HD := Lib.hid hdf
    clear hd hdf
    go_wp2
    go_ret
    exact ⟨by rw [opRight]; simp [HD.out], HU.out⟩
  rw [hd]
  have HD := Lib.hid hd
  clear hd
  have x0 := cellAt HB.out 0 (.int .u8 13) rfl
  have x1 := cellAt HB.out 1 (.int .u64 doc) rfl
  go_wp2_with (go_at_call 53; fail)
  refine (has_any _ 13 (by decide) 100 100 rfl).mono ?_
  rintro e w2 ⟨rfl, hu⟩
  rw [show (partsF 13).contains 100 = true from by decide]
  dsimp only [List.append] at *
  have HU := Lib.hid (HU.out.trans hu)
  have HB := Lib.hid (hu.at_ HB.out id)
  clear hu x0 x1
  have x0 := cellAt HB.out 0 (.int .u8 13) rfl
  have x2 := cellAt HB.out 2 (str name) rfl
  go_wp2_with (go_at_call 53; fail)
  refine (has_any _ 13 (by decide) 110 110 rfl).mono ?_
  rintro e w3 ⟨rfl, hu⟩
  rw [show (partsF 13).contains 110 = false from by decide]
  have HU := Lib.hid (HU.out.trans hu)
  have HB := Lib.hid (hu.at_ HB.out id)
  clear hu x0 x2
  by_cases hb : name = []
  case neg =>
    have x2 := cellAt HB.out 2 (str name) rfl
    have hq : ((⟨name.toArray⟩ : ByteArray).toList == ([] : List UInt8)) = false := by rw [beq_eq_false_iff_ne, bytes_toList]; exact hb
    have hq2 : name.isEmpty = false := by simpa using hb
    have HN := Lib.hid hb
    clear hb
    go_wp2
    go_ret
    exact ⟨by rw [opRight]; simp [allParts, partsF, blankPart, HN.out], HU.out⟩
  subst hb
  have x2 := cellAt HB.out 2 (str []) rfl
  have x0 := cellAt HB.out 0 (.int .u8 13) rfl
  have x3 := cellAt HB.out 3 (str to) rfl
  go_wp2_with (go_at_call 53; fail)
  refine (has_any _ 13 (by decide) 111 111 rfl).mono ?_
  rintro e w4 ⟨rfl, hu⟩
  rw [show (partsF 13).contains 111 = false from by decide]
  have HU := Lib.hid (HU.out.trans hu)
  have HB := Lib.hid (hu.at_ HB.out id)
  clear hu x0 x3
  by_cases hb : to = []
  case neg =>
    have x3 := cellAt HB.out 3 (str to) rfl
    have hq : ((⟨to.toArray⟩ : ByteArray).toList == ([] : List UInt8)) = false := by rw [beq_eq_false_iff_ne, bytes_toList]; exact hb
    have hq2 : to.isEmpty = false := by simpa using hb
    have HN := Lib.hid hb
    clear hb
    go_wp2
    go_ret
    exact ⟨by rw [opRight]; simp [allParts, partsF, blankPart, HN.out], HU.out⟩
  subst hb
  have x3 := cellAt HB.out 3 (str []) rfl
  have x0 := cellAt HB.out 0 (.int .u8 13) rfl
  have x4 := cellAt HB.out 4 (str text) rfl
  go_wp2_with (go_at_call 53; fail)
  refine (has_any _ 13 (by decide) 116 116 rfl).mono ?_
  rintro e w5 ⟨rfl, hu⟩
  rw [show (partsF 13).contains 116 = false from by decide]
  have HU := Lib.hid (HU.out.trans hu)
  have HB := Lib.hid (hu.at_ HB.out id)
  clear hu x0 x4
  by_cases hb : text = []
  case neg =>
    have x4 := cellAt HB.out 4 (str text) rfl
    have hq : ((⟨text.toArray⟩ : ByteArray).toList == ([] : List UInt8)) = false := by rw [beq_eq_false_iff_ne, bytes_toList]; exact hb
    have hq2 : text.isEmpty = false := by simpa using hb
    have HN := Lib.hid hb
    clear hb
    go_wp2
    go_ret
    exact ⟨by rw [opRight]; simp [allParts, partsF, blankPart, HN.out], HU.out⟩
  subst hb
  have x4 := cellAt HB.out 4 (str []) rfl
  have x0 := cellAt HB.out 0 (.int .u8 13) rfl
  have x5 := cellAt HB.out 5 (.slice a edits.length c) rfl
  go_wp2_with (go_at_call 53; fail)
  refine (has_any _ 13 (by decide) 101 101 rfl).mono ?_
  rintro e w6 ⟨rfl, hu⟩
  rw [show (partsF 13).contains 101 = false from by decide]
  have HU := Lib.hid (HU.out.trans hu)
  have HB := Lib.hid (hu.at_ HB.out id)
  clear hu x0 x5
  by_cases hb : edits = []
  case neg =>
    have x5 := cellAt HB.out 5 (.slice a edits.length c) rfl
    have hq : ((edits.length : Int) == 0) = false := by simpa using hb
    have HN := Lib.hid hb
    clear hb
    go_wp2
    go_ret
    exact ⟨by rw [opRight]; simp [allParts, partsF, blankPart, HN.out], HU.out⟩
  subst hb
  have x5 := cellAt HB.out 5 (.slice a 0 c) rfl
  have x0 := cellAt HB.out 0 (.int .u8 13) rfl
  have x6 := cellAt HB.out 6 (.int .u64 epoch) rfl
  go_wp2_with (go_at_call 53; fail)
  refine (has_any _ 13 (by decide) 112 112 rfl).mono ?_
  rintro e w7 ⟨rfl, hu⟩
  rw [show (partsF 13).contains 112 = false from by decide]
  have HU := Lib.hid (HU.out.trans hu)
  have HB := Lib.hid (hu.at_ HB.out id)
  clear hu x0 x6
  by_cases hb : epoch = 0
  case neg =>
    have x6 := cellAt HB.out 6 (.int .u64 epoch) rfl
    have hq : (epoch == 0) = false := by simpa using hb
    have HN := Lib.hid hb
    clear hb
    go_wp2
    go_ret
    exact ⟨by rw [opRight]; simp [allParts, partsF, blankPart, HN.out], HU.out⟩
  subst hb
  have x6 := cellAt HB.out 6 (.int .u64 0) rfl
  have x0 := cellAt HB.out 0 (.int .u8 13) rfl
  have x7 := cellAt HB.out 7 (.int .u64 version) rfl
  go_wp2_with (go_at_call 53; fail)
  refine (has_any _ 13 (by decide) 118 118 rfl).mono ?_
  rintro e w8 ⟨rfl, hu⟩
  rw [show (partsF 13).contains 118 = true from by decide]
  have HU := Lib.hid (HU.out.trans hu)
  have HB := Lib.hid (hu.at_ HB.out id)
  clear hu x0 x7
  have x0 := cellAt HB.out 0 (.int .u8 13) rfl
  have x8 := cellAt HB.out 8 (.int .u64 dur) rfl
  go_wp2_with (go_at_call 53; fail)
  refine (has_any _ 13 (by decide) 117 117 rfl).mono ?_
  rintro e w9 ⟨rfl, hu⟩
  rw [show (partsF 13).contains 117 = true from by decide]
  have HU := Lib.hid (HU.out.trans hu)
  have HB := Lib.hid (hu.at_ HB.out id)
  clear hu x0 x8
  go_wp2
  go_ret
  exact ⟨by rw [opRight]; simp [allParts, partsF, blankPart, HD.out], HU.out⟩

set_option maxRecDepth 100000 in
set_option maxHeartbeats 4000000 in
theorem rright14 {S : Nat → Prop} (w : World) (doc : Int) (name to text : List UInt8) (edits : List Edit) (epoch version dur : Int) (v : Value) (h : Row S w v edits.length (editCells edits)) (hwf : ∀ x ∈ edits, 0 ≤ x.kind) :
    Calls Tryd.prog 20 #[.agg (opCells ⟨14, doc, name, to, text, edits, epoch, version, dur⟩ v)] w (RightPost ⟨14, doc, name, to, text, edits, epoch, version, dur⟩ w) := by
  have hbx := newAt w (.cells (opCells ⟨14, doc, name, to, text, edits, epoch, version, dur⟩ v) 36)
  have hux : Ext w (w.alloc (.cells (opCells ⟨14, doc, name, to, text, edits, epoch, version, dur⟩ v) 36)) := (Upd.refl _ _).alloc _
  have HR := Lib.hid (h.ext hux)
  have HBX := Lib.hid hbx
  have HUX := Lib.hid hux
  have HWF := Lib.hid hwf
  obtain ⟨a, c, rfl, -, -, -⟩ := h
  clear hbx hux hwf
  simp only [opCells]
  go_enter Tryd.func20, Tryd.ntmps20
  go_wp2_with (go_at_call 52; fail)
  refine (rdeltaRight_any _ _ edits HR.out HWF.out).mono ?_
  rintro e w1 ⟨rfl, hu1⟩
  have HU := Lib.hid (HUX.out.trans hu1)
  have HB := Lib.hid (hu1.at_ HBX.out id)
  clear hu1 HR HBX HUX HWF
  by_cases hd : deltaRight edits = true
  case neg =>
    have hdf : deltaRight edits = false := by simpa using hd
    rw [hdf]
    have HD := Lib.hid hdf
    clear hd hdf
    go_wp2
    go_ret
    exact ⟨by rw [opRight]; simp [HD.out], HU.out⟩
  rw [hd]
  have HD := Lib.hid hd
  clear hd
  have x0 := cellAt HB.out 0 (.int .u8 14) rfl
  have x1 := cellAt HB.out 1 (.int .u64 doc) rfl
  go_wp2_with (go_at_call 53; fail)
  refine (has_any _ 14 (by decide) 100 100 rfl).mono ?_
  rintro e w2 ⟨rfl, hu⟩
  rw [show (partsF 14).contains 100 = true from by decide]
  dsimp only [List.append] at *
  have HU := Lib.hid (HU.out.trans hu)
  have HB := Lib.hid (hu.at_ HB.out id)
  clear hu x0 x1
  have x0 := cellAt HB.out 0 (.int .u8 14) rfl
  have x2 := cellAt HB.out 2 (str name) rfl
  go_wp2_with (go_at_call 53; fail)
  refine (has_any _ 14 (by decide) 110 110 rfl).mono ?_
  rintro e w3 ⟨rfl, hu⟩
  rw [show (partsF 14).contains 110 = false from by decide]
  have HU := Lib.hid (HU.out.trans hu)
  have HB := Lib.hid (hu.at_ HB.out id)
  clear hu x0 x2
  by_cases hb : name = []
  case neg =>
    have x2 := cellAt HB.out 2 (str name) rfl
    have hq : ((⟨name.toArray⟩ : ByteArray).toList == ([] : List UInt8)) = false := by rw [beq_eq_false_iff_ne, bytes_toList]; exact hb
    have hq2 : name.isEmpty = false := by simpa using hb
    have HN := Lib.hid hb
    clear hb
    go_wp2
    go_ret
    exact ⟨by rw [opRight]; simp [allParts, partsF, blankPart, HN.out], HU.out⟩
  subst hb
  have x2 := cellAt HB.out 2 (str []) rfl
  have x0 := cellAt HB.out 0 (.int .u8 14) rfl
  have x3 := cellAt HB.out 3 (str to) rfl
  go_wp2_with (go_at_call 53; fail)
  refine (has_any _ 14 (by decide) 111 111 rfl).mono ?_
  rintro e w4 ⟨rfl, hu⟩
  rw [show (partsF 14).contains 111 = false from by decide]
  have HU := Lib.hid (HU.out.trans hu)
  have HB := Lib.hid (hu.at_ HB.out id)
  clear hu x0 x3
  by_cases hb : to = []
  case neg =>
    have x3 := cellAt HB.out 3 (str to) rfl
    have hq : ((⟨to.toArray⟩ : ByteArray).toList == ([] : List UInt8)) = false := by rw [beq_eq_false_iff_ne, bytes_toList]; exact hb
    have hq2 : to.isEmpty = false := by simpa using hb
    have HN := Lib.hid hb
    clear hb
    go_wp2
    go_ret
    exact ⟨by rw [opRight]; simp [allParts, partsF, blankPart, HN.out], HU.out⟩
  subst hb
  have x3 := cellAt HB.out 3 (str []) rfl
  have x0 := cellAt HB.out 0 (.int .u8 14) rfl
  have x4 := cellAt HB.out 4 (str text) rfl
  go_wp2_with (go_at_call 53; fail)
  refine (has_any _ 14 (by decide) 116 116 rfl).mono ?_
  rintro e w5 ⟨rfl, hu⟩
  rw [show (partsF 14).contains 116 = false from by decide]
  have HU := Lib.hid (HU.out.trans hu)
  have HB := Lib.hid (hu.at_ HB.out id)
  clear hu x0 x4
  by_cases hb : text = []
  case neg =>
    have x4 := cellAt HB.out 4 (str text) rfl
    have hq : ((⟨text.toArray⟩ : ByteArray).toList == ([] : List UInt8)) = false := by rw [beq_eq_false_iff_ne, bytes_toList]; exact hb
    have hq2 : text.isEmpty = false := by simpa using hb
    have HN := Lib.hid hb
    clear hb
    go_wp2
    go_ret
    exact ⟨by rw [opRight]; simp [allParts, partsF, blankPart, HN.out], HU.out⟩
  subst hb
  have x4 := cellAt HB.out 4 (str []) rfl
  have x0 := cellAt HB.out 0 (.int .u8 14) rfl
  have x5 := cellAt HB.out 5 (.slice a edits.length c) rfl
  go_wp2_with (go_at_call 53; fail)
  refine (has_any _ 14 (by decide) 101 101 rfl).mono ?_
  rintro e w6 ⟨rfl, hu⟩
  rw [show (partsF 14).contains 101 = false from by decide]
  have HU := Lib.hid (HU.out.trans hu)
  have HB := Lib.hid (hu.at_ HB.out id)
  clear hu x0 x5
  by_cases hb : edits = []
  case neg =>
    have x5 := cellAt HB.out 5 (.slice a edits.length c) rfl
    have hq : ((edits.length : Int) == 0) = false := by simpa using hb
    have HN := Lib.hid hb
    clear hb
    go_wp2
    go_ret
    exact ⟨by rw [opRight]; simp [allParts, partsF, blankPart, HN.out], HU.out⟩
  subst hb
  have x5 := cellAt HB.out 5 (.slice a 0 c) rfl
  have x0 := cellAt HB.out 0 (.int .u8 14) rfl
  have x6 := cellAt HB.out 6 (.int .u64 epoch) rfl
  go_wp2_with (go_at_call 53; fail)
  refine (has_any _ 14 (by decide) 112 112 rfl).mono ?_
  rintro e w7 ⟨rfl, hu⟩
  rw [show (partsF 14).contains 112 = false from by decide]
  have HU := Lib.hid (HU.out.trans hu)
  have HB := Lib.hid (hu.at_ HB.out id)
  clear hu x0 x6
  by_cases hb : epoch = 0
  case neg =>
    have x6 := cellAt HB.out 6 (.int .u64 epoch) rfl
    have hq : (epoch == 0) = false := by simpa using hb
    have HN := Lib.hid hb
    clear hb
    go_wp2
    go_ret
    exact ⟨by rw [opRight]; simp [allParts, partsF, blankPart, HN.out], HU.out⟩
  subst hb
  have x6 := cellAt HB.out 6 (.int .u64 0) rfl
  have x0 := cellAt HB.out 0 (.int .u8 14) rfl
  have x7 := cellAt HB.out 7 (.int .u64 version) rfl
  go_wp2_with (go_at_call 53; fail)
  refine (has_any _ 14 (by decide) 118 118 rfl).mono ?_
  rintro e w8 ⟨rfl, hu⟩
  rw [show (partsF 14).contains 118 = true from by decide]
  have HU := Lib.hid (HU.out.trans hu)
  have HB := Lib.hid (hu.at_ HB.out id)
  clear hu x0 x7
  have x0 := cellAt HB.out 0 (.int .u8 14) rfl
  have x8 := cellAt HB.out 8 (.int .u64 dur) rfl
  go_wp2_with (go_at_call 53; fail)
  refine (has_any _ 14 (by decide) 117 117 rfl).mono ?_
  rintro e w9 ⟨rfl, hu⟩
  rw [show (partsF 14).contains 117 = false from by decide]
  have HU := Lib.hid (HU.out.trans hu)
  have HB := Lib.hid (hu.at_ HB.out id)
  clear hu x0 x8
  by_cases hb : dur = 0
  case neg =>
    have x8 := cellAt HB.out 8 (.int .u64 dur) rfl
    have hq : (dur == 0) = false := by simpa using hb
    have HN := Lib.hid hb
    clear hb
    go_wp2
    go_ret
    exact ⟨by rw [opRight]; simp [allParts, partsF, blankPart, HN.out], HU.out⟩
  subst hb
  have x8 := cellAt HB.out 8 (.int .u64 0) rfl
  go_wp2
  go_ret
  exact ⟨by rw [opRight]; simp [allParts, partsF, blankPart, HD.out], HU.out⟩

set_option maxRecDepth 100000 in
set_option maxHeartbeats 4000000 in
theorem rright15 {S : Nat → Prop} (w : World) (doc : Int) (name to text : List UInt8) (edits : List Edit) (epoch version dur : Int) (v : Value) (h : Row S w v edits.length (editCells edits)) (hwf : ∀ x ∈ edits, 0 ≤ x.kind) :
    Calls Tryd.prog 20 #[.agg (opCells ⟨15, doc, name, to, text, edits, epoch, version, dur⟩ v)] w (RightPost ⟨15, doc, name, to, text, edits, epoch, version, dur⟩ w) := by
  have hbx := newAt w (.cells (opCells ⟨15, doc, name, to, text, edits, epoch, version, dur⟩ v) 36)
  have hux : Ext w (w.alloc (.cells (opCells ⟨15, doc, name, to, text, edits, epoch, version, dur⟩ v) 36)) := (Upd.refl _ _).alloc _
  have HR := Lib.hid (h.ext hux)
  have HBX := Lib.hid hbx
  have HUX := Lib.hid hux
  have HWF := Lib.hid hwf
  obtain ⟨a, c, rfl, -, -, -⟩ := h
  clear hbx hux hwf
  simp only [opCells]
  go_enter Tryd.func20, Tryd.ntmps20
  go_wp2_with (go_at_call 52; fail)
  refine (rdeltaRight_any _ _ edits HR.out HWF.out).mono ?_
  rintro e w1 ⟨rfl, hu1⟩
  have HU := Lib.hid (HUX.out.trans hu1)
  have HB := Lib.hid (hu1.at_ HBX.out id)
  clear hu1 HR HBX HUX HWF
  by_cases hd : deltaRight edits = true
  case neg =>
    have hdf : deltaRight edits = false := by simpa using hd
    rw [hdf]
    have HD := Lib.hid hdf
    clear hd hdf
    go_wp2
    go_ret
    exact ⟨by rw [opRight]; simp [HD.out], HU.out⟩
  rw [hd]
  have HD := Lib.hid hd
  clear hd
  have x0 := cellAt HB.out 0 (.int .u8 15) rfl
  have x1 := cellAt HB.out 1 (.int .u64 doc) rfl
  go_wp2_with (go_at_call 53; fail)
  refine (has_any _ 15 (by decide) 100 100 rfl).mono ?_
  rintro e w2 ⟨rfl, hu⟩
  rw [show (partsF 15).contains 100 = true from by decide]
  dsimp only [List.append] at *
  have HU := Lib.hid (HU.out.trans hu)
  have HB := Lib.hid (hu.at_ HB.out id)
  clear hu x0 x1
  have x0 := cellAt HB.out 0 (.int .u8 15) rfl
  have x2 := cellAt HB.out 2 (str name) rfl
  go_wp2_with (go_at_call 53; fail)
  refine (has_any _ 15 (by decide) 110 110 rfl).mono ?_
  rintro e w3 ⟨rfl, hu⟩
  rw [show (partsF 15).contains 110 = false from by decide]
  have HU := Lib.hid (HU.out.trans hu)
  have HB := Lib.hid (hu.at_ HB.out id)
  clear hu x0 x2
  by_cases hb : name = []
  case neg =>
    have x2 := cellAt HB.out 2 (str name) rfl
    have hq : ((⟨name.toArray⟩ : ByteArray).toList == ([] : List UInt8)) = false := by rw [beq_eq_false_iff_ne, bytes_toList]; exact hb
    have hq2 : name.isEmpty = false := by simpa using hb
    have HN := Lib.hid hb
    clear hb
    go_wp2
    go_ret
    exact ⟨by rw [opRight]; simp [allParts, partsF, blankPart, HN.out], HU.out⟩
  subst hb
  have x2 := cellAt HB.out 2 (str []) rfl
  have x0 := cellAt HB.out 0 (.int .u8 15) rfl
  have x3 := cellAt HB.out 3 (str to) rfl
  go_wp2_with (go_at_call 53; fail)
  refine (has_any _ 15 (by decide) 111 111 rfl).mono ?_
  rintro e w4 ⟨rfl, hu⟩
  rw [show (partsF 15).contains 111 = false from by decide]
  have HU := Lib.hid (HU.out.trans hu)
  have HB := Lib.hid (hu.at_ HB.out id)
  clear hu x0 x3
  by_cases hb : to = []
  case neg =>
    have x3 := cellAt HB.out 3 (str to) rfl
    have hq : ((⟨to.toArray⟩ : ByteArray).toList == ([] : List UInt8)) = false := by rw [beq_eq_false_iff_ne, bytes_toList]; exact hb
    have hq2 : to.isEmpty = false := by simpa using hb
    have HN := Lib.hid hb
    clear hb
    go_wp2
    go_ret
    exact ⟨by rw [opRight]; simp [allParts, partsF, blankPart, HN.out], HU.out⟩
  subst hb
  have x3 := cellAt HB.out 3 (str []) rfl
  have x0 := cellAt HB.out 0 (.int .u8 15) rfl
  have x4 := cellAt HB.out 4 (str text) rfl
  go_wp2_with (go_at_call 53; fail)
  refine (has_any _ 15 (by decide) 116 116 rfl).mono ?_
  rintro e w5 ⟨rfl, hu⟩
  rw [show (partsF 15).contains 116 = false from by decide]
  have HU := Lib.hid (HU.out.trans hu)
  have HB := Lib.hid (hu.at_ HB.out id)
  clear hu x0 x4
  by_cases hb : text = []
  case neg =>
    have x4 := cellAt HB.out 4 (str text) rfl
    have hq : ((⟨text.toArray⟩ : ByteArray).toList == ([] : List UInt8)) = false := by rw [beq_eq_false_iff_ne, bytes_toList]; exact hb
    have hq2 : text.isEmpty = false := by simpa using hb
    have HN := Lib.hid hb
    clear hb
    go_wp2
    go_ret
    exact ⟨by rw [opRight]; simp [allParts, partsF, blankPart, HN.out], HU.out⟩
  subst hb
  have x4 := cellAt HB.out 4 (str []) rfl
  have x0 := cellAt HB.out 0 (.int .u8 15) rfl
  have x5 := cellAt HB.out 5 (.slice a edits.length c) rfl
  go_wp2_with (go_at_call 53; fail)
  refine (has_any _ 15 (by decide) 101 101 rfl).mono ?_
  rintro e w6 ⟨rfl, hu⟩
  rw [show (partsF 15).contains 101 = false from by decide]
  have HU := Lib.hid (HU.out.trans hu)
  have HB := Lib.hid (hu.at_ HB.out id)
  clear hu x0 x5
  by_cases hb : edits = []
  case neg =>
    have x5 := cellAt HB.out 5 (.slice a edits.length c) rfl
    have hq : ((edits.length : Int) == 0) = false := by simpa using hb
    have HN := Lib.hid hb
    clear hb
    go_wp2
    go_ret
    exact ⟨by rw [opRight]; simp [allParts, partsF, blankPart, HN.out], HU.out⟩
  subst hb
  have x5 := cellAt HB.out 5 (.slice a 0 c) rfl
  have x0 := cellAt HB.out 0 (.int .u8 15) rfl
  have x6 := cellAt HB.out 6 (.int .u64 epoch) rfl
  go_wp2_with (go_at_call 53; fail)
  refine (has_any _ 15 (by decide) 112 112 rfl).mono ?_
  rintro e w7 ⟨rfl, hu⟩
  rw [show (partsF 15).contains 112 = true from by decide]
  have HU := Lib.hid (HU.out.trans hu)
  have HB := Lib.hid (hu.at_ HB.out id)
  clear hu x0 x6
  have x0 := cellAt HB.out 0 (.int .u8 15) rfl
  have x7 := cellAt HB.out 7 (.int .u64 version) rfl
  go_wp2_with (go_at_call 53; fail)
  refine (has_any _ 15 (by decide) 118 118 rfl).mono ?_
  rintro e w8 ⟨rfl, hu⟩
  rw [show (partsF 15).contains 118 = false from by decide]
  have HU := Lib.hid (HU.out.trans hu)
  have HB := Lib.hid (hu.at_ HB.out id)
  clear hu x0 x7
  by_cases hb : version = 0
  case neg =>
    have x7 := cellAt HB.out 7 (.int .u64 version) rfl
    have hq : (version == 0) = false := by simpa using hb
    have HN := Lib.hid hb
    clear hb
    go_wp2
    go_ret
    exact ⟨by rw [opRight]; simp [allParts, partsF, blankPart, HN.out], HU.out⟩
  subst hb
  have x7 := cellAt HB.out 7 (.int .u64 0) rfl
  have x0 := cellAt HB.out 0 (.int .u8 15) rfl
  have x8 := cellAt HB.out 8 (.int .u64 dur) rfl
  go_wp2_with (go_at_call 53; fail)
  refine (has_any _ 15 (by decide) 117 117 rfl).mono ?_
  rintro e w9 ⟨rfl, hu⟩
  rw [show (partsF 15).contains 117 = false from by decide]
  have HU := Lib.hid (HU.out.trans hu)
  have HB := Lib.hid (hu.at_ HB.out id)
  clear hu x0 x8
  by_cases hb : dur = 0
  case neg =>
    have x8 := cellAt HB.out 8 (.int .u64 dur) rfl
    have hq : (dur == 0) = false := by simpa using hb
    have HN := Lib.hid hb
    clear hb
    go_wp2
    go_ret
    exact ⟨by rw [opRight]; simp [allParts, partsF, blankPart, HN.out], HU.out⟩
  subst hb
  have x8 := cellAt HB.out 8 (.int .u64 0) rfl
  go_wp2
  go_ret
  exact ⟨by rw [opRight]; simp [allParts, partsF, blankPart, HD.out], HU.out⟩

set_option maxRecDepth 100000 in
set_option maxHeartbeats 4000000 in
theorem rright16 {S : Nat → Prop} (w : World) (doc : Int) (name to text : List UInt8) (edits : List Edit) (epoch version dur : Int) (v : Value) (h : Row S w v edits.length (editCells edits)) (hwf : ∀ x ∈ edits, 0 ≤ x.kind) :
    Calls Tryd.prog 20 #[.agg (opCells ⟨16, doc, name, to, text, edits, epoch, version, dur⟩ v)] w (RightPost ⟨16, doc, name, to, text, edits, epoch, version, dur⟩ w) := by
  have hbx := newAt w (.cells (opCells ⟨16, doc, name, to, text, edits, epoch, version, dur⟩ v) 36)
  have hux : Ext w (w.alloc (.cells (opCells ⟨16, doc, name, to, text, edits, epoch, version, dur⟩ v) 36)) := (Upd.refl _ _).alloc _
  have HR := Lib.hid (h.ext hux)
  have HBX := Lib.hid hbx
  have HUX := Lib.hid hux
  have HWF := Lib.hid hwf
  obtain ⟨a, c, rfl, -, -, -⟩ := h
  clear hbx hux hwf
  simp only [opCells]
  go_enter Tryd.func20, Tryd.ntmps20
  go_wp2_with (go_at_call 52; fail)
  refine (rdeltaRight_any _ _ edits HR.out HWF.out).mono ?_
  rintro e w1 ⟨rfl, hu1⟩
  have HU := Lib.hid (HUX.out.trans hu1)
  have HB := Lib.hid (hu1.at_ HBX.out id)
  clear hu1 HR HBX HUX HWF
  by_cases hd : deltaRight edits = true
  case neg =>
    have hdf : deltaRight edits = false := by simpa using hd
    rw [hdf]
    have HD := Lib.hid hdf
    clear hd hdf
    go_wp2
    go_ret
    exact ⟨by rw [opRight]; simp [HD.out], HU.out⟩
  rw [hd]
  have HD := Lib.hid hd
  clear hd
  have x0 := cellAt HB.out 0 (.int .u8 16) rfl
  have x1 := cellAt HB.out 1 (.int .u64 doc) rfl
  go_wp2_with (go_at_call 53; fail)
  refine (has_any _ 16 (by decide) 100 100 rfl).mono ?_
  rintro e w2 ⟨rfl, hu⟩
  rw [show (partsF 16).contains 100 = true from by decide]
  dsimp only [List.append] at *
  have HU := Lib.hid (HU.out.trans hu)
  have HB := Lib.hid (hu.at_ HB.out id)
  clear hu x0 x1
  have x0 := cellAt HB.out 0 (.int .u8 16) rfl
  have x2 := cellAt HB.out 2 (str name) rfl
  go_wp2_with (go_at_call 53; fail)
  refine (has_any _ 16 (by decide) 110 110 rfl).mono ?_
  rintro e w3 ⟨rfl, hu⟩
  rw [show (partsF 16).contains 110 = false from by decide]
  have HU := Lib.hid (HU.out.trans hu)
  have HB := Lib.hid (hu.at_ HB.out id)
  clear hu x0 x2
  by_cases hb : name = []
  case neg =>
    have x2 := cellAt HB.out 2 (str name) rfl
    have hq : ((⟨name.toArray⟩ : ByteArray).toList == ([] : List UInt8)) = false := by rw [beq_eq_false_iff_ne, bytes_toList]; exact hb
    have hq2 : name.isEmpty = false := by simpa using hb
    have HN := Lib.hid hb
    clear hb
    go_wp2
    go_ret
    exact ⟨by rw [opRight]; simp [allParts, partsF, blankPart, HN.out], HU.out⟩
  subst hb
  have x2 := cellAt HB.out 2 (str []) rfl
  have x0 := cellAt HB.out 0 (.int .u8 16) rfl
  have x3 := cellAt HB.out 3 (str to) rfl
  go_wp2_with (go_at_call 53; fail)
  refine (has_any _ 16 (by decide) 111 111 rfl).mono ?_
  rintro e w4 ⟨rfl, hu⟩
  rw [show (partsF 16).contains 111 = false from by decide]
  have HU := Lib.hid (HU.out.trans hu)
  have HB := Lib.hid (hu.at_ HB.out id)
  clear hu x0 x3
  by_cases hb : to = []
  case neg =>
    have x3 := cellAt HB.out 3 (str to) rfl
    have hq : ((⟨to.toArray⟩ : ByteArray).toList == ([] : List UInt8)) = false := by rw [beq_eq_false_iff_ne, bytes_toList]; exact hb
    have hq2 : to.isEmpty = false := by simpa using hb
    have HN := Lib.hid hb
    clear hb
    go_wp2
    go_ret
    exact ⟨by rw [opRight]; simp [allParts, partsF, blankPart, HN.out], HU.out⟩
  subst hb
  have x3 := cellAt HB.out 3 (str []) rfl
  have x0 := cellAt HB.out 0 (.int .u8 16) rfl
  have x4 := cellAt HB.out 4 (str text) rfl
  go_wp2_with (go_at_call 53; fail)
  refine (has_any _ 16 (by decide) 116 116 rfl).mono ?_
  rintro e w5 ⟨rfl, hu⟩
  rw [show (partsF 16).contains 116 = false from by decide]
  have HU := Lib.hid (HU.out.trans hu)
  have HB := Lib.hid (hu.at_ HB.out id)
  clear hu x0 x4
  by_cases hb : text = []
  case neg =>
    have x4 := cellAt HB.out 4 (str text) rfl
    have hq : ((⟨text.toArray⟩ : ByteArray).toList == ([] : List UInt8)) = false := by rw [beq_eq_false_iff_ne, bytes_toList]; exact hb
    have hq2 : text.isEmpty = false := by simpa using hb
    have HN := Lib.hid hb
    clear hb
    go_wp2
    go_ret
    exact ⟨by rw [opRight]; simp [allParts, partsF, blankPart, HN.out], HU.out⟩
  subst hb
  have x4 := cellAt HB.out 4 (str []) rfl
  have x0 := cellAt HB.out 0 (.int .u8 16) rfl
  have x5 := cellAt HB.out 5 (.slice a edits.length c) rfl
  go_wp2_with (go_at_call 53; fail)
  refine (has_any _ 16 (by decide) 101 101 rfl).mono ?_
  rintro e w6 ⟨rfl, hu⟩
  rw [show (partsF 16).contains 101 = false from by decide]
  have HU := Lib.hid (HU.out.trans hu)
  have HB := Lib.hid (hu.at_ HB.out id)
  clear hu x0 x5
  by_cases hb : edits = []
  case neg =>
    have x5 := cellAt HB.out 5 (.slice a edits.length c) rfl
    have hq : ((edits.length : Int) == 0) = false := by simpa using hb
    have HN := Lib.hid hb
    clear hb
    go_wp2
    go_ret
    exact ⟨by rw [opRight]; simp [allParts, partsF, blankPart, HN.out], HU.out⟩
  subst hb
  have x5 := cellAt HB.out 5 (.slice a 0 c) rfl
  have x0 := cellAt HB.out 0 (.int .u8 16) rfl
  have x6 := cellAt HB.out 6 (.int .u64 epoch) rfl
  go_wp2_with (go_at_call 53; fail)
  refine (has_any _ 16 (by decide) 112 112 rfl).mono ?_
  rintro e w7 ⟨rfl, hu⟩
  rw [show (partsF 16).contains 112 = false from by decide]
  have HU := Lib.hid (HU.out.trans hu)
  have HB := Lib.hid (hu.at_ HB.out id)
  clear hu x0 x6
  by_cases hb : epoch = 0
  case neg =>
    have x6 := cellAt HB.out 6 (.int .u64 epoch) rfl
    have hq : (epoch == 0) = false := by simpa using hb
    have HN := Lib.hid hb
    clear hb
    go_wp2
    go_ret
    exact ⟨by rw [opRight]; simp [allParts, partsF, blankPart, HN.out], HU.out⟩
  subst hb
  have x6 := cellAt HB.out 6 (.int .u64 0) rfl
  have x0 := cellAt HB.out 0 (.int .u8 16) rfl
  have x7 := cellAt HB.out 7 (.int .u64 version) rfl
  go_wp2_with (go_at_call 53; fail)
  refine (has_any _ 16 (by decide) 118 118 rfl).mono ?_
  rintro e w8 ⟨rfl, hu⟩
  rw [show (partsF 16).contains 118 = false from by decide]
  have HU := Lib.hid (HU.out.trans hu)
  have HB := Lib.hid (hu.at_ HB.out id)
  clear hu x0 x7
  by_cases hb : version = 0
  case neg =>
    have x7 := cellAt HB.out 7 (.int .u64 version) rfl
    have hq : (version == 0) = false := by simpa using hb
    have HN := Lib.hid hb
    clear hb
    go_wp2
    go_ret
    exact ⟨by rw [opRight]; simp [allParts, partsF, blankPart, HN.out], HU.out⟩
  subst hb
  have x7 := cellAt HB.out 7 (.int .u64 0) rfl
  have x0 := cellAt HB.out 0 (.int .u8 16) rfl
  have x8 := cellAt HB.out 8 (.int .u64 dur) rfl
  go_wp2_with (go_at_call 53; fail)
  refine (has_any _ 16 (by decide) 117 117 rfl).mono ?_
  rintro e w9 ⟨rfl, hu⟩
  rw [show (partsF 16).contains 117 = false from by decide]
  have HU := Lib.hid (HU.out.trans hu)
  have HB := Lib.hid (hu.at_ HB.out id)
  clear hu x0 x8
  by_cases hb : dur = 0
  case neg =>
    have x8 := cellAt HB.out 8 (.int .u64 dur) rfl
    have hq : (dur == 0) = false := by simpa using hb
    have HN := Lib.hid hb
    clear hb
    go_wp2
    go_ret
    exact ⟨by rw [opRight]; simp [allParts, partsF, blankPart, HN.out], HU.out⟩
  subst hb
  have x8 := cellAt HB.out 8 (.int .u64 0) rfl
  go_wp2
  go_ret
  exact ⟨by rw [opRight]; simp [allParts, partsF, blankPart, HD.out], HU.out⟩

set_option maxRecDepth 100000 in
set_option maxHeartbeats 4000000 in
theorem rright17 {S : Nat → Prop} (w : World) (doc : Int) (name to text : List UInt8) (edits : List Edit) (epoch version dur : Int) (v : Value) (h : Row S w v edits.length (editCells edits)) (hwf : ∀ x ∈ edits, 0 ≤ x.kind) :
    Calls Tryd.prog 20 #[.agg (opCells ⟨17, doc, name, to, text, edits, epoch, version, dur⟩ v)] w (RightPost ⟨17, doc, name, to, text, edits, epoch, version, dur⟩ w) := by
  have hbx := newAt w (.cells (opCells ⟨17, doc, name, to, text, edits, epoch, version, dur⟩ v) 36)
  have hux : Ext w (w.alloc (.cells (opCells ⟨17, doc, name, to, text, edits, epoch, version, dur⟩ v) 36)) := (Upd.refl _ _).alloc _
  have HR := Lib.hid (h.ext hux)
  have HBX := Lib.hid hbx
  have HUX := Lib.hid hux
  have HWF := Lib.hid hwf
  obtain ⟨a, c, rfl, -, -, -⟩ := h
  clear hbx hux hwf
  simp only [opCells]
  go_enter Tryd.func20, Tryd.ntmps20
  go_wp2_with (go_at_call 52; fail)
  refine (rdeltaRight_any _ _ edits HR.out HWF.out).mono ?_
  rintro e w1 ⟨rfl, hu1⟩
  have HU := Lib.hid (HUX.out.trans hu1)
  have HB := Lib.hid (hu1.at_ HBX.out id)
  clear hu1 HR HBX HUX HWF
  by_cases hd : deltaRight edits = true
  case neg =>
    have hdf : deltaRight edits = false := by simpa using hd
    rw [hdf]
    have HD := Lib.hid hdf
    clear hd hdf
    go_wp2
    go_ret
    exact ⟨by rw [opRight]; simp [HD.out], HU.out⟩
  rw [hd]
  have HD := Lib.hid hd
  clear hd
  have x0 := cellAt HB.out 0 (.int .u8 17) rfl
  have x1 := cellAt HB.out 1 (.int .u64 doc) rfl
  go_wp2_with (go_at_call 53; fail)
  refine (has_any _ 17 (by decide) 100 100 rfl).mono ?_
  rintro e w2 ⟨rfl, hu⟩
  rw [show (partsF 17).contains 100 = true from by decide]
  dsimp only [List.append] at *
  have HU := Lib.hid (HU.out.trans hu)
  have HB := Lib.hid (hu.at_ HB.out id)
  clear hu x0 x1
  have x0 := cellAt HB.out 0 (.int .u8 17) rfl
  have x2 := cellAt HB.out 2 (str name) rfl
  go_wp2_with (go_at_call 53; fail)
  refine (has_any _ 17 (by decide) 110 110 rfl).mono ?_
  rintro e w3 ⟨rfl, hu⟩
  rw [show (partsF 17).contains 110 = false from by decide]
  have HU := Lib.hid (HU.out.trans hu)
  have HB := Lib.hid (hu.at_ HB.out id)
  clear hu x0 x2
  by_cases hb : name = []
  case neg =>
    have x2 := cellAt HB.out 2 (str name) rfl
    have hq : ((⟨name.toArray⟩ : ByteArray).toList == ([] : List UInt8)) = false := by rw [beq_eq_false_iff_ne, bytes_toList]; exact hb
    have hq2 : name.isEmpty = false := by simpa using hb
    have HN := Lib.hid hb
    clear hb
    go_wp2
    go_ret
    exact ⟨by rw [opRight]; simp [allParts, partsF, blankPart, HN.out], HU.out⟩
  subst hb
  have x2 := cellAt HB.out 2 (str []) rfl
  have x0 := cellAt HB.out 0 (.int .u8 17) rfl
  have x3 := cellAt HB.out 3 (str to) rfl
  go_wp2_with (go_at_call 53; fail)
  refine (has_any _ 17 (by decide) 111 111 rfl).mono ?_
  rintro e w4 ⟨rfl, hu⟩
  rw [show (partsF 17).contains 111 = false from by decide]
  have HU := Lib.hid (HU.out.trans hu)
  have HB := Lib.hid (hu.at_ HB.out id)
  clear hu x0 x3
  by_cases hb : to = []
  case neg =>
    have x3 := cellAt HB.out 3 (str to) rfl
    have hq : ((⟨to.toArray⟩ : ByteArray).toList == ([] : List UInt8)) = false := by rw [beq_eq_false_iff_ne, bytes_toList]; exact hb
    have hq2 : to.isEmpty = false := by simpa using hb
    have HN := Lib.hid hb
    clear hb
    go_wp2
    go_ret
    exact ⟨by rw [opRight]; simp [allParts, partsF, blankPart, HN.out], HU.out⟩
  subst hb
  have x3 := cellAt HB.out 3 (str []) rfl
  have x0 := cellAt HB.out 0 (.int .u8 17) rfl
  have x4 := cellAt HB.out 4 (str text) rfl
  go_wp2_with (go_at_call 53; fail)
  refine (has_any _ 17 (by decide) 116 116 rfl).mono ?_
  rintro e w5 ⟨rfl, hu⟩
  rw [show (partsF 17).contains 116 = false from by decide]
  have HU := Lib.hid (HU.out.trans hu)
  have HB := Lib.hid (hu.at_ HB.out id)
  clear hu x0 x4
  by_cases hb : text = []
  case neg =>
    have x4 := cellAt HB.out 4 (str text) rfl
    have hq : ((⟨text.toArray⟩ : ByteArray).toList == ([] : List UInt8)) = false := by rw [beq_eq_false_iff_ne, bytes_toList]; exact hb
    have hq2 : text.isEmpty = false := by simpa using hb
    have HN := Lib.hid hb
    clear hb
    go_wp2
    go_ret
    exact ⟨by rw [opRight]; simp [allParts, partsF, blankPart, HN.out], HU.out⟩
  subst hb
  have x4 := cellAt HB.out 4 (str []) rfl
  have x0 := cellAt HB.out 0 (.int .u8 17) rfl
  have x5 := cellAt HB.out 5 (.slice a edits.length c) rfl
  go_wp2_with (go_at_call 53; fail)
  refine (has_any _ 17 (by decide) 101 101 rfl).mono ?_
  rintro e w6 ⟨rfl, hu⟩
  rw [show (partsF 17).contains 101 = false from by decide]
  have HU := Lib.hid (HU.out.trans hu)
  have HB := Lib.hid (hu.at_ HB.out id)
  clear hu x0 x5
  by_cases hb : edits = []
  case neg =>
    have x5 := cellAt HB.out 5 (.slice a edits.length c) rfl
    have hq : ((edits.length : Int) == 0) = false := by simpa using hb
    have HN := Lib.hid hb
    clear hb
    go_wp2
    go_ret
    exact ⟨by rw [opRight]; simp [allParts, partsF, blankPart, HN.out], HU.out⟩
  subst hb
  have x5 := cellAt HB.out 5 (.slice a 0 c) rfl
  have x0 := cellAt HB.out 0 (.int .u8 17) rfl
  have x6 := cellAt HB.out 6 (.int .u64 epoch) rfl
  go_wp2_with (go_at_call 53; fail)
  refine (has_any _ 17 (by decide) 112 112 rfl).mono ?_
  rintro e w7 ⟨rfl, hu⟩
  rw [show (partsF 17).contains 112 = false from by decide]
  have HU := Lib.hid (HU.out.trans hu)
  have HB := Lib.hid (hu.at_ HB.out id)
  clear hu x0 x6
  by_cases hb : epoch = 0
  case neg =>
    have x6 := cellAt HB.out 6 (.int .u64 epoch) rfl
    have hq : (epoch == 0) = false := by simpa using hb
    have HN := Lib.hid hb
    clear hb
    go_wp2
    go_ret
    exact ⟨by rw [opRight]; simp [allParts, partsF, blankPart, HN.out], HU.out⟩
  subst hb
  have x6 := cellAt HB.out 6 (.int .u64 0) rfl
  have x0 := cellAt HB.out 0 (.int .u8 17) rfl
  have x7 := cellAt HB.out 7 (.int .u64 version) rfl
  go_wp2_with (go_at_call 53; fail)
  refine (has_any _ 17 (by decide) 118 118 rfl).mono ?_
  rintro e w8 ⟨rfl, hu⟩
  rw [show (partsF 17).contains 118 = false from by decide]
  have HU := Lib.hid (HU.out.trans hu)
  have HB := Lib.hid (hu.at_ HB.out id)
  clear hu x0 x7
  by_cases hb : version = 0
  case neg =>
    have x7 := cellAt HB.out 7 (.int .u64 version) rfl
    have hq : (version == 0) = false := by simpa using hb
    have HN := Lib.hid hb
    clear hb
    go_wp2
    go_ret
    exact ⟨by rw [opRight]; simp [allParts, partsF, blankPart, HN.out], HU.out⟩
  subst hb
  have x7 := cellAt HB.out 7 (.int .u64 0) rfl
  have x0 := cellAt HB.out 0 (.int .u8 17) rfl
  have x8 := cellAt HB.out 8 (.int .u64 dur) rfl
  go_wp2_with (go_at_call 53; fail)
  refine (has_any _ 17 (by decide) 117 117 rfl).mono ?_
  rintro e w9 ⟨rfl, hu⟩
  rw [show (partsF 17).contains 117 = false from by decide]
  have HU := Lib.hid (HU.out.trans hu)
  have HB := Lib.hid (hu.at_ HB.out id)
  clear hu x0 x8
  by_cases hb : dur = 0
  case neg =>
    have x8 := cellAt HB.out 8 (.int .u64 dur) rfl
    have hq : (dur == 0) = false := by simpa using hb
    have HN := Lib.hid hb
    clear hb
    go_wp2
    go_ret
    exact ⟨by rw [opRight]; simp [allParts, partsF, blankPart, HN.out], HU.out⟩
  subst hb
  have x8 := cellAt HB.out 8 (.int .u64 0) rfl
  go_wp2
  go_ret
  exact ⟨by rw [opRight]; simp [allParts, partsF, blankPart, HD.out], HU.out⟩
end Go.Proofs.YtlhpcgmbbeihiaaDoor
namespace Go.Proofs.YtlhpcgmbbeihiaaDoor
open Go.RowKit

set_option maxRecDepth 100000 in
set_option maxHeartbeats 1000000 in
theorem rright_any {S : Nat → Prop} (w : World) (o : Oper') (v : Value) (h : Row S w v o.edits.length (editCells o.edits)) (hwf : ∀ x ∈ o.edits, 0 ≤ x.kind) (hk0 : 0 ≤ o.kind) :
    Calls Tryd.prog 20 #[.agg (opCells o v)] w (RightPost o w) := by
  obtain ⟨kind, doc, name, to, text, edits, epoch, version, dur⟩ := o
  dsimp only at h hwf hk0
  have hk : kind = 1 ∨ kind = 2 ∨ kind = 3 ∨ kind = 4 ∨ kind = 5 ∨ kind = 6 ∨ kind = 7 ∨ kind = 8 ∨ kind = 9 ∨ kind = 10 ∨ kind = 11 ∨ kind = 12 ∨ kind = 13 ∨ kind = 14 ∨ kind = 15 ∨ kind = 16 ∨ kind = 17 ∨ (kind < 1 ∨ 17 < kind) := by omega
  rcases hk with rfl | rfl | rfl | rfl | rfl | rfl | rfl | rfl | rfl | rfl | rfl | rfl | rfl | rfl | rfl | rfl | rfl | hk
  · exact rright1 w doc name to text edits epoch version dur v h hwf
  · exact rright2 w doc name to text edits epoch version dur v h hwf
  · exact rright3 w doc name to text edits epoch version dur v h hwf
  · exact rright4 w doc name to text edits epoch version dur v h hwf
  · exact rright5 w doc name to text edits epoch version dur v h hwf
  · exact rright6 w doc name to text edits epoch version dur v h hwf
  · exact rright7 w doc name to text edits epoch version dur v h hwf
  · exact rright8 w doc name to text edits epoch version dur v h hwf
  · exact rright9 w doc name to text edits epoch version dur v h hwf
  · exact rright10 w doc name to text edits epoch version dur v h hwf
  · exact rright11 w doc name to text edits epoch version dur v h hwf
  · exact rright12 w doc name to text edits epoch version dur v h hwf
  · exact rright13 w doc name to text edits epoch version dur v h hwf
  · exact rright14 w doc name to text edits epoch version dur v h hwf
  · exact rright15 w doc name to text edits epoch version dur v h hwf
  · exact rright16 w doc name to text edits epoch version dur v h hwf
  · exact rright17 w doc name to text edits epoch version dur v h hwf
  · have HK := Lib.hid (show opRight ⟨kind, doc, name, to, text, edits, epoch, version, dur⟩ = false from by
      rw [opRight]
      rcases hk with hk | hk
      · have : decide (1 ≤ kind) = false := by simp; omega
        simp [this]
      · have : decide (kind ≤ 17) = false := by simp; omega
        simp [this])
    have hux : Ext w (w.alloc (.cells (opCells ⟨kind, doc, name, to, text, edits, epoch, version, dur⟩ v) 36)) := (Upd.refl _ _).alloc _
    have HUX := Lib.hid hux
    obtain ⟨a, c, rfl, -, -, -⟩ := h
    clear hux hwf
    simp only [opCells]
    go_enter Tryd.func20, Tryd.ntmps20
    rcases hk with hk | hk
    · have d1 : decide (kind < 1) = true := by simpa using hk
      go_wp2
      go_ret
      exact ⟨by rw [HK.out]; rfl, HUX.out⟩
    · have d1 : decide (kind < 1) = false := by simp; omega
      have d2 : decide (17 < kind) = true := by simpa using hk
      go_wp2
      go_ret
      exact ⟨by rw [HK.out]; rfl, HUX.out⟩
end Go.Proofs.YtlhpcgmbbeihiaaDoor
