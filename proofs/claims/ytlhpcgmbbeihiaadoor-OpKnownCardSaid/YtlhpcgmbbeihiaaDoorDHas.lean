/-
  CONTRACT of the reference's ref19.has.
  THE POST of the contract of ref19.Right.
-/
import Derived.Test.YtlhpcgmbbeihiaaDoorDRef19a
namespace Go.Proofs.YtlhpcgmbbeihiaaDoor
open Go.RowKit

theorem World.gen {R : World → Prop} {w : World} (P : World → Prop) (hp : P w) (h : ∀ w2, P w2 → R w2) : R w := h w hp
theorem contains_take {ps : List UInt8} {c : UInt8} {j : Nat} (hj : j < ps.length) (h : (ps.take j).contains c = false) (hne : ¬ ps[j] = c) : (ps.take (j + 1)).contains c = false := by
  rw [List.take_succ_eq_append_getElem hj]
  simp only [List.contains_eq_mem, List.mem_append, List.mem_singleton, decide_eq_false_iff_not] at h ⊢
  rintro (h1 | h1)
  · exact h h1
  · exact hne h1.symm

set_option maxRecDepth 100000 in
set_option maxHeartbeats 2000000 in
theorem has_any (w : World) (k : Nat) (hk : k < 18) (c : UInt8) (cc : Int) (hcc : cc = c.toNat) :
    Calls Tryd.prog 53 #[.int .u8 k, .int .u8 cc] w fun e w' => e = .returned (.bool ((partsF k).contains c)) ∧ Ext w w' := by
  have hki : (k : Int) < 18 := by omega
  have ht := partsTable k hk
  have HT := Lib.hid ht
  have hpl := partsLen k hk
  have HCC := Lib.hid hcc
  have hc0 : 0 ≤ cc := by omega
  have hc1 : cc < 256 := by have := UInt8.toNat_lt c; omega
  obtain ⟨ps, hps⟩ : ∃ ps, ps = partsF k := ⟨_, rfl⟩
  rw [← hps] at ht hpl HT ⊢
  clear ht hcc hps
  go_enter Tryd.func53, Tryd.ntmps53
  go_wp2
  refine World.gen (fun w2 => Ext w w2 ∧ w2.cell? ⟨w.heap.size, k, none⟩ = some (str ps)) ⟨(Upd.refl _ _).alloc _, cellAt (newAt _ _) k _ (by have := HT.out; simpa using this)⟩ ?_
  rintro w2 ⟨hx2, hcell⟩
  have HX2 := Lib.hid hx2
  clear hx2
  go_loopw [6] (fun i wr => ∃ j : Nat, j ≤ ps.length ∧ i = .int .i64 j ∧ (ps.take j).contains c = false ∧ wr = w2) (fun i _ => ps.length - (intOf i).toNat)
  case atStart => exact ⟨0, Nat.zero_le _, rfl, by simp, rfl⟩
  case round =>
    obtain ⟨j, hj, rfl, hno, hwr⟩ := hrel
    rw [hwr]
    clear hwr
    have HNO := Lib.hid hno
    clear hno
    by_cases hlt : j < ps.length
    · obtain ⟨m, hm⟩ : ∃ m : Int, m = ps[j].toNat := ⟨_, rfl⟩
      have hidx := run_index_str (P := Tryd.prog) Tryd.underlying9 (m := m) (List.getElem?_eq_getElem hlt) hm.symm
      have HM := Lib.hid hm
      clear hm
      by_cases he : m = cc
      · have hq : (m == cc) = true := by simp [he]
        have HE := Lib.hid (show ps[j] = c from UInt8.toNat_inj.1 (by have := HM.out; have := HCC.out; omega))
        clear he
        go_wp2
        go_ret
        refine ⟨?_, HX2.out⟩
        have : ps.contains c = true := by simp only [List.contains_eq_mem, decide_eq_true_eq]; rw [← HE.out]; exact List.getElem_mem hlt
        rw [this]; rfl
      · have hq : (m == cc) = false := by simp [he]
        have HE := Lib.hid (show ¬ ps[j] = c from fun e => he (by have h1 := HM.out; rw [e] at h1; have h2 := HCC.out; omega))
        clear he
        go_wp2
        go_roundw
        case rel => exact ⟨j + 1, by omega, by go_num, contains_take hlt HNO.out HE.out, (by first | trivial | rfl)⟩
        case measure => simp [intOf]; omega
    · have hjl : j = ps.length := by omega
      go_wp2
      go_ret
      have := HNO.out
      rw [hjl, List.take_length] at this
      exact ⟨by rw [this]; rfl, HX2.out⟩
end Go.Proofs.YtlhpcgmbbeihiaaDoor
namespace Go.Proofs.YtlhpcgmbbeihiaaDoor
open Go.RowKit
def RightPost (o : Oper') (w : World) (e : Ending) (w' : World) : Prop := e = .returned (.bool (opRight o)) ∧ Ext w w'
end Go.Proofs.YtlhpcgmbbeihiaaDoor
