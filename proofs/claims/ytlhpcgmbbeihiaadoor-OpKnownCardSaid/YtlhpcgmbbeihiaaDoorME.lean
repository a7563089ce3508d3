/-
  CONTRACT of op.parts (its table), at each kind from 0 to 17.
  CONTRACT of op.Op.Right.
-/
import Derived.Test.YtlhpcgmbbeihiaaDoorDRight
import Derived.Test.YtlhpcgmbbeihiaaDoorShelf
namespace Go.Proofs.YtlhpcgmbbeihiaaDoor
open Go.RowKit

set_option maxRecDepth 100000 in
set_option maxHeartbeats 4000000 in
theorem opParts_any (w : World) (k : Nat) (hk : k < 18) :
    Calls Tryd.prog 50 #[.int .u8 k] w fun e w' => e = .returned (str (partsF k)) ∧ Ext w w' := by
    have hki : (k : Int) < 18 := by omega
    have hb : ∀ w, (Instr.build 123 #[(1, .string ⟨#[110]⟩), (2, .string ⟨#[110]⟩), (3, .string ⟨#[]⟩), (4, .string ⟨#[110, 111]⟩), (5, .string ⟨#[110]⟩), (6, .string ⟨#[100, 117]⟩), (7, .string ⟨#[100, 112, 117]⟩), (8, .string ⟨#[100, 112]⟩), (9, .string ⟨#[100, 112, 116]⟩), (10, .string ⟨#[100, 112, 118, 101]⟩), (11, .string ⟨#[100]⟩), (12, .string ⟨#[100, 118]⟩), (13, .string ⟨#[100, 118, 117]⟩), (14, .string ⟨#[100, 118]⟩), (15, .string ⟨#[100, 112]⟩), (16, .string ⟨#[100]⟩), (17, .string ⟨#[100]⟩)]).run Tryd.prog w = .ok (.agg #[.string ⟨#[]⟩, .string ⟨#[110]⟩, .string ⟨#[110]⟩, .string ⟨#[]⟩, .string ⟨#[110, 111]⟩, .string ⟨#[110]⟩, .string ⟨#[100, 117]⟩, .string ⟨#[100, 112, 117]⟩, .string ⟨#[100, 112]⟩, .string ⟨#[100, 112, 116]⟩, .string ⟨#[100, 112, 118, 101]⟩, .string ⟨#[100]⟩, .string ⟨#[100, 118]⟩, .string ⟨#[100, 118, 117]⟩, .string ⟨#[100, 118]⟩, .string ⟨#[100, 112]⟩, .string ⟨#[100]⟩, .string ⟨#[100]⟩]) w := fun w => run_build w _ _ _ (by kernel_rfl)
    have ht := partsTable k hk
    have HT := Lib.hid ht
    clear ht
    go_enter Tryd.func50, Tryd.ntmps50
    go_wp2
    go_ret
    refine ⟨?_, (Upd.refl _ _).alloc _⟩
    have hget := List.getElem?_eq_some_iff.1 HT.out
    obtain ⟨_, hv⟩ := hget
    rw [← hv]
    rfl
theorem indexByte_contains (l : List UInt8) (c : UInt8) : decide (0 ≤ Lib.indexByte l c) = l.contains c := by
  induction l with
  | nil => simp [Lib.indexByte]
  | cons b l ih =>
    rw [Lib.indexByte, List.contains_cons]
    by_cases hb : b = c
    · subst hb; simp
    · have hg := Lib.indexByte_ge l c
      have h1 : (b == c) = false := by simpa using hb
      have h2 : (c == b) = false := by simp; exact fun e => hb e.symm
      rw [h1, h2, ← ih]
      simp only [Bool.false_eq_true, if_false, Bool.false_or]
      by_cases hi : Lib.indexByte l c = -1
      · simp [hi]
      · rw [if_neg (by simpa using hi)]
        congr 1
        apply propext
        omega

def blankLit (o : Oper') : Array Value := #[.bool (o.doc == 0), .bool o.name.isEmpty, .bool o.to.isEmpty, .bool o.text.isEmpty, .bool ((o.edits.length : Int) == 0), .bool (o.epoch == 0), .bool (o.version == 0), .bool (o.dur == 0)]
theorem allParts_len : allParts.length = 8 := rfl
theorem allParts_ascii : ∀ k : Fin 8, (allParts[k.val]'(by rw [allParts_len]; exact k.isLt)).toNat < 128 := by decide
theorem blankLit_at (o : Oper') (k : Nat) (hk : k < 8) : (blankLit o)[k]? = some (.bool (blankPart o (allParts[k]'(by rw [allParts_len]; exact hk)))) := by
  have h : k = 0 ∨ k = 1 ∨ k = 2 ∨ k = 3 ∨ k = 4 ∨ k = 5 ∨ k = 6 ∨ k = 7 := by omega
  rcases h with rfl | rfl | rfl | rfl | rfl | rfl | rfl | rfl
  all_goals simp [blankLit, blankPart, allParts]
  all_goals (try (first | (apply Bool.eq_iff_iff.2; simp) | skip))
def partFine (o : Oper') (c : UInt8) : Bool := blankPart o c || (partsF o.kind.toNat).contains c
theorem opRight_eq (o : Oper') : opRight o = (decide (1 ≤ o.kind) && decide (o.kind ≤ 17) && deltaRight o.edits && allParts.all (partFine o)) := rfl

def RightLoop (it g b : Nat) (o : Oper') (v : Value) (w wr : World) : Prop :=
  ∃ k : Nat, k ≤ 8 ∧ (allParts.take k).all (partFine o) = true ∧ Ext w wr ∧ wr.heap[it]? = some (.stringIter ⟨allParts.toArray⟩ k) ∧ wr.heap[g]? = some (.cells (blankLit o) 94 (0, 0)) ∧ wr.heap[b]? = some (.cells (opCells o v) 25 (0, 0))

set_option maxRecDepth 100000 in
set_option maxHeartbeats 2000000 in
theorem right_any {S : Nat → Prop} (w : World) (o : Oper') (v : Value) (h : Row S w v o.edits.length (editCells o.edits)) :
    Calls Tryd.prog 18 #[.agg (opCells o v)] w fun e w' => e = .returned (.bool (opRight o)) ∧ Ext w w' := by
  have hbx := newAt w (.cells (opCells o v) 25)
  have hux : Ext w (w.alloc (.cells (opCells o v) 25)) := (Upd.refl _ _).alloc _
  have HR := Lib.hid (h.ext hux)
  have HBX := Lib.hid hbx
  have HUX := Lib.hid hux
  have HEQ := Lib.hid (opRight_eq o)
  obtain ⟨a, c, rfl, -, -, -⟩ := h
  clear hbx hux
  by_cases hkn : (decide (1 ≤ o.kind) && decide (o.kind ≤ 17)) = true
  · have hkf : (!(decide (1 ≤ o.kind) && decide (o.kind ≤ 17))) = false := by rw [hkn]; rfl
    have HKN := Lib.hid hkn
    simp only [opCells]
    go_enter Tryd.func18, Tryd.ntmps18
    go_wp2_with (go_at_call 40; fail)
    refine (known_any _ o.kind).mono ?_
    rintro e w1 ⟨rfl, rfl⟩
    rw [HKN.out]
    clear hkf hkn
    go_wp2_with (go_at_call 48; fail)
    refine (deltaRight_any _ _ o.edits HR.out).mono ?_
    rintro e w1 ⟨rfl, hu1⟩
    have hb1 := hu1.at_ HBX.out id
    have HU1 := Lib.hid (HUX.out.trans hu1)
    have hlt1 : w.heap.size < w1.heap.size := by have := hu1.size; simp at this; omega
    have HB1 := Lib.hid hb1
    clear hu1 hb1
    by_cases hd : deltaRight o.edits = true
    · have HD := Lib.hid hd
      rw [hd]
      clear hd
      have y1 := cellAt HB1.out 1 (.int .u64 o.doc) rfl
      have y2 := cellAt HB1.out 2 (str o.name) rfl
      have y3 := cellAt HB1.out 3 (str o.to) rfl
      have y4 := cellAt HB1.out 4 (str o.text) rfl
      have y5 := cellAt HB1.out 5 (.slice a o.edits.length c) rfl
      have y6 := cellAt HB1.out 6 (.int .u64 o.epoch) rfl
      have y7 := cellAt HB1.out 7 (.int .u64 o.version) rfl
      have y8 := cellAt HB1.out 8 (.int .u64 o.dur) rfl
      obtain ⟨kn, hkn⟩ : ∃ kn : Nat, o.kind = kn := ⟨o.kind.toNat, by have := HKN.out; simp at this; omega⟩
      have hkl : kn < 18 := by have := HKN.out; simp at this; omega
      have hk1 : 1 ≤ kn := by have := HKN.out; simp at this; omega
      have HKQ := Lib.hid hkn
      clear hkn
      go_wp2
      obtain ⟨wi, hwi⟩ : ∃ wi, wi = (w1.alloc (.cells (blankLit o) 94)).alloc (.stringIter ⟨allParts.toArray⟩ 0) := ⟨_, rfl⟩
      have hui : Ext w1 wi := by rw [hwi]; exact ((Upd.refl _ _).alloc _).alloc _
      have hit0 : wi.heap[w1.heap.size + 1]? = some (.stringIter ⟨allParts.toArray⟩ 0) := by
        rw [hwi]; have := newAt (w1.alloc (.cells (blankLit o) 94)) (.stringIter ⟨allParts.toArray⟩ 0); simpa using this
      have hbl0 : wi.heap[w1.heap.size]? = some (.cells (blankLit o) 94 (0, 0)) := by rw [hwi]; exact ((Upd.refl Nothing _).alloc _).at_ (newAt _ _) id
      have HATS := Lib.hid (show RightLoop (w1.heap.size + 1) w1.heap.size w.heap.size o (.slice a o.edits.length c) w wi from ⟨0, by omega, rfl, HU1.out.trans hui, hit0, hbl0, hui.at_ HB1.out id⟩)
      have hlti := lt_of_heap hit0
      clear y1 y2 y3 y4 y5 y6 y7 y8 hui hit0 hbl0 hlti
      go_loopw [5] (fun _ wr => RightLoop (w1.heap.size + 1) w1.heap.size w.heap.size o (.slice a o.edits.length c) w wr) (fun _ wr => 8 - wr.iterPos (w1.heap.size + 1))
      case atStart =>
        rw [hwi] at HATS; exact HATS.out
      case round =>
        clear hwi
        obtain ⟨k, hk, hall, hx, hit, hbl, hbo⟩ := hrel
        have hpos := iterPos_at hit
        have HPOS := Lib.hid hpos
        have HALL := Lib.hid hall
        have HX := Lib.hid hx
        have hne1 : ¬ w1.heap.size = w1.heap.size + 1 := by omega
        have hne2 : ¬ w.heap.size = w1.heap.size + 1 := by omega
        clear hpos hall hx
        by_cases hlt : k < 8
        · have hlt' : k < allParts.length := hlt
          have hasc := allParts_ascii ⟨k, hlt⟩
          obtain ⟨x, hxq⟩ : ∃ x, x = allParts[k] := ⟨_, rfl⟩
          obtain ⟨m, hm⟩ : ∃ m : Int, m = x.toNat := ⟨_, rfl⟩
          have hxa : x.toNat < 128 := by rw [hxq]; exact hasc
          have hm0 : 0 ≤ m := by omega
          have hm1 : m < 128 := by omega
          have hmx : m.toNat.toUInt8 = x := by rw [hm]; simp
          obtain ⟨ws, hnx, hus, his⟩ := next_at (P := Tryd.prog) wr _ allParts k x m hit (by rw [hxq]; exact List.getElem?_eq_getElem hlt') hxa hm.symm
          have hbls := hus.at_ hbl (fun e => hne1 e)
          have hbos := hus.at_ hbo (fun e => hne2 e)
          have hxs : Ext w ws := HX.out.step hus (fun i hi e => by unfold At at e; have := HU1.out.size; omega)
          have hcell := cellAt hbls k (.bool (blankPart o x)) (by rw [blankLit_at o k hlt, hxq])
          have hkind := cellAt hbos 0 (.int .u8 kn) (by rw [← HKQ.out]; rfl)
          have hipos := iterPos_at his
          have HXQ := Lib.hid hxq
          have HMX := Lib.hid hmx
          have HXS := Lib.hid hxs
          have HIS := Lib.hid his
          have HBLS := Lib.hid hbls
          have HBOS := Lib.hid hbos
          have HM := Lib.hid hm
          have HIP := Lib.hid hipos
          clear hasc hxq hm hmx hit hbl hbo hus his hbls hbos hxs hxa hipos
          have htake : (allParts.take (k + 1)).all (partFine o) = partFine o x := by
            rw [List.take_succ_eq_append_getElem hlt', List.all_append, HALL.out, ← HXQ.out]; simp
          have HTAKE := Lib.hid htake
          clear htake
          by_cases hbp : blankPart o x = true
          · have hq : (!blankPart o x) = false := by rw [hbp]; rfl
            have HBP := Lib.hid hbp
            rw [hbp] at hcell
            clear hbp hq
            go_wp2
            go_roundw
            case rel => exact ⟨k + 1, by omega, by rw [HTAKE.out, partFine, HBP.out]; rfl, HXS.out, HIS.out, HBLS.out, HBOS.out⟩
            case measure => (have := HPOS.out; have := HIP.out; omega)
          · have hbpf : blankPart o x = false := by simpa using hbp
            have HBP := Lib.hid hbpf
            rw [hbpf] at hcell
            clear hbp hbpf
            go_wp2_with (go_at_call 50; fail)
            refine (opParts_any _ kn hkl).mono ?_
            rintro e w3 ⟨rfl, hu3⟩
            have HIS3 := Lib.hid (hu3.at_ HIS.out id)
            have HBLS3 := Lib.hid (hu3.at_ HBLS.out id)
            have HBOS3 := Lib.hid (hu3.at_ HBOS.out id)
            have HX3 := Lib.hid (HXS.out.trans hu3)
            have HIP3 := Lib.hid (iterPos_at HIS3.out)
            clear hu3 hcell hkind hnx
            go_wp2_with (go_at_call 49; fail)
            refine (Tryd.strings_ContainsRune_ascii ⟨(partsF kn).toArray⟩ m w3 hm0 hm1).mono ?_
            rintro e w4 ⟨rfl, hw4⟩
            subst hw4
            rw [show decide (0 ≤ Lib.indexByte (⟨(partsF kn).toArray⟩ : ByteArray).data.toList m.toNat.toUInt8) = (partsF kn).contains x from by rw [indexByte_contains, HMX.out]]
            by_cases hc : (partsF kn).contains x = true
            · rw [hc]
              have HC := Lib.hid hc
              clear hc
              go_wp2
              go_roundw
              case rel => exact ⟨k + 1, by omega, by rw [HTAKE.out, partFine, HBP.out, HKQ.out, Int.toNat_natCast, HC.out]; rfl, HX3.out, HIS3.out, HBLS3.out, HBOS3.out⟩
              case measure => (have := HPOS.out; have := HIP3.out; omega)
            · have hcf : (partsF kn).contains x = false := by simpa using hc
              rw [hcf]
              have HC := Lib.hid hcf
              clear hc hcf
              go_wp2
              go_ret
              refine ⟨?_, HX3.out⟩
              have hpf : partFine o x = false := by rw [partFine, HBP.out, HKQ.out, Int.toNat_natCast, HC.out]; rfl
              have : allParts.all (partFine o) = false := by
                rw [List.all_eq_false]; exact ⟨x, by rw [HXQ.out]; exact List.getElem_mem _, by rw [hpf]; decide⟩
              rw [HEQ.out, this]; simp
        · have hk8 : k = 8 := by omega
          subst hk8
          have hnx := next_done (P := Tryd.prog) wr _ allParts hit
          have HKN' := Lib.hid HKN.out
          clear hit hbl hbo
          go_wp2
          go_ret
          have ha := HALL.out
          rw [show allParts.take 8 = allParts from rfl] at ha
          exact ⟨by rw [HEQ.out, HKN.out, HD.out, ha]; rfl, HX.out⟩
    · have hdf : deltaRight o.edits = false := by simpa using hd
      rw [hdf]
      have HDF := Lib.hid hdf
      clear hd hdf
      go_wp2
      go_ret
      exact ⟨by rw [HEQ.out, HDF.out]; simp, HU1.out⟩
  · have hkf : (decide (1 ≤ o.kind) && decide (o.kind ≤ 17)) = false := by simpa using hkn
    have HKF := Lib.hid hkf
    simp only [opCells]
    clear hkn hkf
    go_enter Tryd.func18, Tryd.ntmps18
    go_wp2_with (go_at_call 40; fail)
    refine (known_any _ o.kind).mono ?_
    rintro e w1 ⟨rfl, rfl⟩
    rw [HKF.out]
    go_wp2
    go_ret
    exact ⟨by rw [HEQ.out, HKF.out]; simp, HUX.out⟩
end Go.Proofs.YtlhpcgmbbeihiaaDoor
