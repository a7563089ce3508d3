/-
  CONTRACTS of the law's own functions: same.
-/
import Derived.Test.YtlhpcgmbbeihiaaGEvs
namespace Go.Proofs.Ytlhpcgmbbeihiaa
open Go.RowKit

set_option maxRecDepth 100000 in

set_option maxHeartbeats 2000000 in
theorem lsame_any {S T : Nat → Prop} (w : World) (v1 v2 : Value) (l1 l2 : List Ev) (h1 : EvsRow S w v1 l1) (h2 : EvsRow T w v2 l2) :
    Calls Try.prog 12 #[v1, v2] w fun e w' => e = .returned (.bool (eqB l1 l2)) ∧ Ext w w' := by
  obtain ⟨hml1, ⟨a1, c1, rfl, hn1, hm1⟩, hat1⟩ := h1.at_
  obtain ⟨hml2, ⟨a2, c2, rfl, hn2, hm2⟩, hat2⟩ := h2.at_
  unfold maxLen at hm1 hml1 hm2 hml2
  clear h1 h2
  by_cases hl : l1.length = l2.length
  · have hb : ((l1.length : Int) != (l2.length : Int)) = false := by simp [hl]
    have HL := Lib.hid hl
    have G1 := Lib.hid hat1
    have G2 := Lib.hid hat2
    clear hl hat1 hat2
    go_enter Try.func12, Try.ntmps12
    go_wp2
    go_loopw [5] (fun i wr => ∃ k : Nat, k ≤ l1.length ∧ i = .int .i64 k ∧ l1.take k = l2.take k ∧ Ext w wr)
      (fun i _ => l1.length - (intOf i).toNat)
    case atStart => exact ⟨0, Nat.zero_le _, rfl, rfl, Upd.refl _ _⟩
    case round =>
      obtain ⟨k, hk, rfl, ht, hx⟩ := hrel
      have HT := Lib.hid ht
      have HX := Lib.hid hx
      clear ht hx
      by_cases hlt : k < l1.length
      · have hlt2 : k < l2.length := by rw [← HL.out]; exact hlt
        obtain ⟨b1, o1, c1', e1, k1, q1, -, r1, s1, t1⟩ := G1.out k hlt
        obtain ⟨b2, o2, c2', e2, k2, q2, -, r2, s2, t2⟩ := G2.out k hlt2
        cases q1; cases q2
        obtain ⟨x1, hx1⟩ : ∃ x, x = l1[k] := ⟨_, rfl⟩
        obtain ⟨x2, hx2⟩ : ∃ x, x = l2[k] := ⟨_, rfl⟩
        rw [← hx1] at r1 s1 t1
        rw [← hx2] at r2 s2 t2
        have p0 := HX.out.cell (a := ⟨b1, o1 + k * 14, none⟩) (v := .int .u8 x1.kind) (r1 0 _ rfl) id
        have p1 := HX.out.cell (a := ⟨b1, o1 + k * 14 + 1, none⟩) (v := .int .i64 x1.proc) (r1 1 _ rfl) id
        have p2 := HX.out.cell (a := ⟨b1, o1 + k * 14 + 2, none⟩) (v := .int .u8 x1.op.kind) (r1 2 _ rfl) id
        have p3 := HX.out.cell (a := ⟨b1, o1 + k * 14 + 3, none⟩) (v := .int .u64 x1.op.doc) (r1 3 _ rfl) id
        have p4 := HX.out.cell (a := ⟨b1, o1 + k * 14 + 4, none⟩) (v := str x1.op.name) (r1 4 _ rfl) id
        have p5 := HX.out.cell (a := ⟨b1, o1 + k * 14 + 5, none⟩) (v := str x1.op.to) (r1 5 _ rfl) id
        have p6 := HX.out.cell (a := ⟨b1, o1 + k * 14 + 6, none⟩) (v := str x1.op.text) (r1 6 _ rfl) id
        have p7 := HX.out.cell (a := ⟨b1, o1 + k * 14 + 7, none⟩) (v := e1) (r1 7 _ rfl) id
        have p8 := HX.out.cell (a := ⟨b1, o1 + k * 14 + 8, none⟩) (v := .int .u64 x1.op.epoch) (r1 8 _ rfl) id
        have p9 := HX.out.cell (a := ⟨b1, o1 + k * 14 + 9, none⟩) (v := .int .u64 x1.op.version) (r1 9 _ rfl) id
        have p10 := HX.out.cell (a := ⟨b1, o1 + k * 14 + 10, none⟩) (v := .int .u64 x1.op.dur) (r1 10 _ rfl) id
        have p11 := HX.out.cell (a := ⟨b1, o1 + k * 14 + 11, none⟩) (v := .int .u64 x1.by_) (r1 11 _ rfl) id
        have p12 := HX.out.cell (a := ⟨b1, o1 + k * 14 + 12, none⟩) (v := .int .i64 x1.ops) (r1 12 _ rfl) id
        have p13 := HX.out.cell (a := ⟨b1, o1 + k * 14 + 13, none⟩) (v := k1) (r1 13 _ rfl) id
        have q0 := HX.out.cell (a := ⟨b2, o2 + k * 14, none⟩) (v := .int .u8 x2.kind) (r2 0 _ rfl) id
        have q1 := HX.out.cell (a := ⟨b2, o2 + k * 14 + 1, none⟩) (v := .int .i64 x2.proc) (r2 1 _ rfl) id
        have q2 := HX.out.cell (a := ⟨b2, o2 + k * 14 + 2, none⟩) (v := .int .u8 x2.op.kind) (r2 2 _ rfl) id
        have q3 := HX.out.cell (a := ⟨b2, o2 + k * 14 + 3, none⟩) (v := .int .u64 x2.op.doc) (r2 3 _ rfl) id
        have q4 := HX.out.cell (a := ⟨b2, o2 + k * 14 + 4, none⟩) (v := str x2.op.name) (r2 4 _ rfl) id
        have q5 := HX.out.cell (a := ⟨b2, o2 + k * 14 + 5, none⟩) (v := str x2.op.to) (r2 5 _ rfl) id
        have q6 := HX.out.cell (a := ⟨b2, o2 + k * 14 + 6, none⟩) (v := str x2.op.text) (r2 6 _ rfl) id
        have q7 := HX.out.cell (a := ⟨b2, o2 + k * 14 + 7, none⟩) (v := e2) (r2 7 _ rfl) id
        have q8 := HX.out.cell (a := ⟨b2, o2 + k * 14 + 8, none⟩) (v := .int .u64 x2.op.epoch) (r2 8 _ rfl) id
        have q9 := HX.out.cell (a := ⟨b2, o2 + k * 14 + 9, none⟩) (v := .int .u64 x2.op.version) (r2 9 _ rfl) id
        have q10 := HX.out.cell (a := ⟨b2, o2 + k * 14 + 10, none⟩) (v := .int .u64 x2.op.dur) (r2 10 _ rfl) id
        have q11 := HX.out.cell (a := ⟨b2, o2 + k * 14 + 11, none⟩) (v := .int .u64 x2.by_) (r2 11 _ rfl) id
        have q12 := HX.out.cell (a := ⟨b2, o2 + k * 14 + 12, none⟩) (v := .int .i64 x2.ops) (r2 12 _ rfl) id
        have q13 := HX.out.cell (a := ⟨b2, o2 + k * 14 + 13, none⟩) (v := k2) (r2 13 _ rfl) id
        have S1 := Lib.hid (s1.ext HX.out)
        have T1 := Lib.hid (t1.ext HX.out)
        have S2 := Lib.hid (s2.ext HX.out)
        have T2 := Lib.hid (t2.ext HX.out)
        have HX1 := Lib.hid hx1
        have HX2 := Lib.hid hx2
        clear r1 r2 s1 t1 s2 t2 hx1 hx2
        go_wp2_with fail
        go_region_held3 (fun w' => w'.cell? ⟨b1, o1 + k * 14, none⟩ = some (.int .u8 x1.kind) ∧ w'.cell? ⟨b1, o1 + k * 14 + 1, none⟩ = some (.int .i64 x1.proc) ∧ w'.cell? ⟨b1, o1 + k * 14 + 2, none⟩ = some (.int .u8 x1.op.kind) ∧ w'.cell? ⟨b1, o1 + k * 14 + 3, none⟩ = some (.int .u64 x1.op.doc) ∧ w'.cell? ⟨b1, o1 + k * 14 + 4, none⟩ = some (str x1.op.name) ∧ w'.cell? ⟨b1, o1 + k * 14 + 5, none⟩ = some (str x1.op.to) ∧ w'.cell? ⟨b1, o1 + k * 14 + 6, none⟩ = some (str x1.op.text) ∧ w'.cell? ⟨b1, o1 + k * 14 + 7, none⟩ = some (e1) ∧ w'.cell? ⟨b1, o1 + k * 14 + 8, none⟩ = some (.int .u64 x1.op.epoch) ∧ w'.cell? ⟨b1, o1 + k * 14 + 9, none⟩ = some (.int .u64 x1.op.version) ∧ w'.cell? ⟨b1, o1 + k * 14 + 10, none⟩ = some (.int .u64 x1.op.dur) ∧ w'.cell? ⟨b1, o1 + k * 14 + 11, none⟩ = some (.int .u64 x1.by_) ∧ w'.cell? ⟨b1, o1 + k * 14 + 12, none⟩ = some (.int .i64 x1.ops) ∧ w'.cell? ⟨b1, o1 + k * 14 + 13, none⟩ = some (k1) ∧ w'.cell? ⟨b2, o2 + k * 14, none⟩ = some (.int .u8 x2.kind) ∧ w'.cell? ⟨b2, o2 + k * 14 + 1, none⟩ = some (.int .i64 x2.proc) ∧ w'.cell? ⟨b2, o2 + k * 14 + 2, none⟩ = some (.int .u8 x2.op.kind) ∧ w'.cell? ⟨b2, o2 + k * 14 + 3, none⟩ = some (.int .u64 x2.op.doc) ∧ w'.cell? ⟨b2, o2 + k * 14 + 4, none⟩ = some (str x2.op.name) ∧ w'.cell? ⟨b2, o2 + k * 14 + 5, none⟩ = some (str x2.op.to) ∧ w'.cell? ⟨b2, o2 + k * 14 + 6, none⟩ = some (str x2.op.text) ∧ w'.cell? ⟨b2, o2 + k * 14 + 7, none⟩ = some (e2) ∧ w'.cell? ⟨b2, o2 + k * 14 + 8, none⟩ = some (.int .u64 x2.op.epoch) ∧ w'.cell? ⟨b2, o2 + k * 14 + 9, none⟩ = some (.int .u64 x2.op.version) ∧ w'.cell? ⟨b2, o2 + k * 14 + 10, none⟩ = some (.int .u64 x2.op.dur) ∧ w'.cell? ⟨b2, o2 + k * 14 + 11, none⟩ = some (.int .u64 x2.by_) ∧ w'.cell? ⟨b2, o2 + k * 14 + 12, none⟩ = some (.int .i64 x2.ops) ∧ w'.cell? ⟨b2, o2 + k * 14 + 13, none⟩ = some (k2)) (first | go_keep | exact ⟨s0, s1, s2, s3, s4, s5, s6, s7, s8, s9, s10, s11, s12, s13, s14, s15, s16, s17, s18, s19, s20, s21, s22, s23, s24, s25, s26, s27⟩)
          ((go_at_call 23; refine (rsame_any _ x1 x2 e1 e2 k1 k2 (S1.out.ext (Upd.refl _ _).drew) (S2.out.ext (Upd.refl _ _).drew) (T1.out.ext (Upd.refl _ _).drew) (T2.out.ext (Upd.refl _ _).drew)).mono ?_; rintro e w1 ⟨rfl, hu⟩; have hw1 : Ext wr w1 := (((Upd.refl _ wr).drew).trans hu); have s0 := hw1.cell p0 (fun e => e); have s1 := hw1.cell p1 (fun e => e); have s2 := hw1.cell p2 (fun e => e); have s3 := hw1.cell p3 (fun e => e); have s4 := hw1.cell p4 (fun e => e); have s5 := hw1.cell p5 (fun e => e); have s6 := hw1.cell p6 (fun e => e); have s7 := hw1.cell p7 (fun e => e); have s8 := hw1.cell p8 (fun e => e); have s9 := hw1.cell p9 (fun e => e); have s10 := hw1.cell p10 (fun e => e); have s11 := hw1.cell p11 (fun e => e); have s12 := hw1.cell p12 (fun e => e); have s13 := hw1.cell p13 (fun e => e); have s14 := hw1.cell q0 (fun e => e); have s15 := hw1.cell q1 (fun e => e); have s16 := hw1.cell q2 (fun e => e); have s17 := hw1.cell q3 (fun e => e); have s18 := hw1.cell q4 (fun e => e); have s19 := hw1.cell q5 (fun e => e); have s20 := hw1.cell q6 (fun e => e); have s21 := hw1.cell q7 (fun e => e); have s22 := hw1.cell q8 (fun e => e); have s23 := hw1.cell q9 (fun e => e); have s24 := hw1.cell q10 (fun e => e); have s25 := hw1.cell q11 (fun e => e); have s26 := hw1.cell q12 (fun e => e); have s27 := hw1.cell q13 (fun e => e)))
        rename_i hHeld
        clear p0 p1 p2 p3 p4 p5 p6 p7 p8 p9 p10 p11 p12 p13 q0 q1 q2 q3 q4 q5 q6 q7 q8 q9 q10 q11 q12 q13 s0 s1 s2 s3 s4 s5 s6 s7 s8 s9 s10 s11 s12 s13 s14 s15 s16 s17 s18 s19 s20 s21 s22 s23 s24 s25 s26 s27 hHeld
        have HW1 := Lib.hid (HX.out.trans hw1)
        clear hu hw1
        go_wp2
        · rename_i hq
          have he : ¬ x1 = x2 := fun e => by rw [e, eqB_self] at hq; cases hq
          have HE := Lib.hid (show ¬ l1[k] = l2[k] from fun e => he (by rw [HX1.out, HX2.out, e]))
          clear he hq
          go_ret
          exact ⟨by rw [decide_ne_at hlt hlt2 HE.out]; rfl, HW1.out⟩
        · rename_i hq
          have he : x1 = x2 := by
            by_cases e : x1 = x2
            · exact e
            · rw [eqB_ne e] at hq; cases hq
          have HE := Lib.hid (show l1[k] = l2[k] from by rw [← HX1.out, ← HX2.out, he])
          clear he hq
          go_roundw
          case rel => exact ⟨k + 1, by omega, by go_num, take_extG hlt hlt2 HT.out HE.out, HW1.out⟩
          case measure => simp [intOf]; omega
      · go_wp2
        go_ret
        have hkl : k = l1.length := by omega
        subst hkl
        exact ⟨by rw [decide_of_take HL.out HT.out]; rfl, HX.out⟩
  · have hb : ((l1.length : Int) != (l2.length : Int)) = true := by simp; omega
    have HL := Lib.hid hl
    clear hl hat1 hat2
    go_enter Try.func12, Try.ntmps12
    go_wp2
    go_ret
    exact ⟨by rw [decide_len_ne HL.out]; rfl, Upd.refl _ _⟩
end Go.Proofs.Ytlhpcgmbbeihiaa
