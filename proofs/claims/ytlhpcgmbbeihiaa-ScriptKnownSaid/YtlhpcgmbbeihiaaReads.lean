/-
  CONTRACT of the law ScriptReads: whatever the bytes, it hands back true and turns nothing that was there.
-/
import Derived.Test.YtlhpcgmbbeihiaaWorks
import Derived.Test.YtlhpcgmbbeihiaaSoft
namespace Go.Proofs.Ytlhpcgmbbeihiaa
open Go.RowKit

theorem partF_edits (l : List UInt8) (x : Oper' × Nat) (c : UInt8) : (partF l x c).1.edits.length ≤ max x.1.edits.length 3 := by
  unfold partF; dsimp only
  repeat' split
  all_goals simp only [editsF_length]
  all_goals omega
theorem opF_edits (l : List UInt8) : (opF l).1.edits.length ≤ 3 := by
  unfold opF
  have : ∀ (ps : List UInt8) (x : Oper' × Nat), x.1.edits.length ≤ 3 → (ps.foldl (partF l) x).1.edits.length ≤ 3 := by
    intro ps
    induction ps with
    | nil => intro x h; exact h
    | cons p ps ih => intro x h; exact ih _ (by have := partF_edits l x p; omega)
  exact this _ _ (by simp [Oper'.zero])
theorem eventF_few (n : Nat) (l : List UInt8) : (eventF n l).1.op.edits.length ≤ 1000 ∧ (eventF n l).1.keep.length ≤ 1000 := by
  have h := opF_edits (l.drop 2)
  unfold eventF; dsimp only
  repeat' split
  all_goals simp [Ev.zero, Oper'.zero, bitsF_length]
  omega
theorem eventsF_few (n : Nat) : ∀ (m : Nat) (l : List UInt8), ∀ x ∈ eventsF n m l, x.op.edits.length ≤ 1000 ∧ x.keep.length ≤ 1000
  | 0, _ => by intro x h; simp [eventsF] at h
  | m + 1, l => by
    intro x h
    unfold eventsF at h
    split at h
    · simp at h
    · rcases List.mem_cons.1 h with rfl | h
      · exact eventF_few n l
      · exact eventsF_few n m _ x h
theorem eventsF_len (n : Nat) : ∀ (m : Nat) (l : List UInt8), (eventsF n m l).length ≤ m
  | 0, _ => by simp [eventsF]
  | m + 1, l => by
    unfold eventsF
    split
    · simp
    · have := eventsF_len n m (l.drop (eventF n l).2)
      simp; omega
theorem readF_few (l : List UInt8) : (readF l).2.length ≤ 65536 ∧ ∀ x ∈ (readF l).2, x.op.edits.length ≤ 1000 ∧ x.keep.length ≤ 1000 :=
  ⟨by have := eventsF_len (1 + hd (l.take 65536) % 64) (l.take 65536).length ((l.take 65536).drop 4); simp only [readF]; rw [List.length_take] at this ⊢; omega, eventsF_few _ _ _⟩

set_option maxRecDepth 100000 in
set_option maxHeartbeats 4000000 in
theorem reads_any {S : Nat → Prop} (w : World) (v : Value) (l : List UInt8) (h : Bytes S w v l) (hS : ∀ k, S k → k < w.heap.size) :
    Calls Try.prog 3 #[v] w fun e w' => e = .returned (.bool true) ∧ Ext w w' := by
  have h' := h
  obtain ⟨a, c, rfl, hn, hm, -⟩ := h'
  unfold maxLen at hm
  have HB := Lib.hid h
  have HS := Lib.hid hS
  clear h hS
  go_enter Try.func3, Try.ntmps3
  by_cases hlen : l.length ≤ 1500
  · have hlt : ¬ (1500 : Int) < (l.length : Int) := by omega
    go_wp2_with (go_at_call 8; fail)
    refine (own_any w _ l HB.out (by omega)).mono ?_
    rintro e w1 ⟨v1, rfl, ho1, hu1⟩
    have HO1 := Lib.hid ho1
    have HU1 := Lib.hid hu1
    obtain ⟨a1, c1, rfl, -⟩ := ho1
    clear hu1
    go_wp2_with (go_at_call 9; fail)
    refine (rread_any w1 _ l HO1.out (by omega)).mono ?_
    rintro e w2 ⟨v2, rfl, ho2, hu2⟩
    obtain ⟨evs, hevs⟩ : ∃ evs, evs = (readF l).2 := ⟨_, rfl⟩
    obtain ⟨cfg, hcfg⟩ : ∃ cfg, cfg = (readF l).1 := ⟨_, rfl⟩
    rw [← hevs] at ho2
    rw [← hcfg]
    have hfew := readF_few l
    rw [← hevs] at hfew
    have HEVS := Lib.hid hevs
    have HCFG := Lib.hid hcfg
    have HFEW := Lib.hid hfew
    have h2 := EvsRow.of_rowns ho2
    obtain ⟨-, ⟨a2, c2, rfl, -, -⟩, -⟩ := h2.at_
    obtain ⟨wb, hwb⟩ : ∃ wb, wb = w2.alloc (.cells #[.int .i64 cfg.n, .int .u64 cfg.slack, .int .i64 cfg.bytes, .int .i64 cfg.entries] 27) := ⟨_, rfl⟩
    have hxb : Ext w2 wb := by rw [hwb]; exact (Upd.refl _ _).alloc _
    have HW2 := Lib.hid (h2.ext hxb)
    have HOB := Lib.hid (HO1.out.ext (hu2.trans hxb))
    have HXB := Lib.hid ((HU1.out.trans hu2).trans hxb)
    have hbb : wb.heap[w2.heap.size]? = some (.cells #[.int .i64 cfg.n, .int .u64 cfg.slack, .int .i64 cfg.bytes, .int .i64 cfg.entries] 27 (0, 0)) := by rw [hwb]; exact newAt _ _
    have HBB := Lib.hid hbb
    have HWB := Lib.hid hwb
    clear hevs hcfg hfew ho2 hu2 h2 hxb hbb hwb hlt
    unfold cfgCells
    go_wp2
    rw [show w2.alloc (.cells #[.int .i64 cfg.n, .int .u64 cfg.slack, .int .i64 cfg.bytes, .int .i64 cfg.entries] 27) = wb from HWB.out.symm]
    generalize w2.heap.size = gb at HBB ⊢
    go_loopw [6] (fun t wr => ∃ k : Nat, k ≤ 2 ∧ t = .int .i64 k ∧ Ext wb wr) (fun t _ => 2 - (intOf t).toNat)
    case atStart => exact ⟨0, by omega, rfl, Upd.refl _ _⟩
    case round =>
      obtain ⟨k, hk, rfl, hx⟩ := hrel
      obtain ⟨w0, hw0⟩ : ∃ x, x = wr := ⟨_, rfl⟩
      subst hw0
      have HX := Lib.hid hx
      by_cases hk2 : k < 2
      · have hrb := HB.out.ext (HXB.out.trans hx)
        have hsb : ∀ i, S i → i < w0.heap.size := fun i hi => by have := HS.out i hi; have := (HXB.out.trans hx).size; omega
        have HRB := Lib.hid hrb
        have HSB := Lib.hid hsb
        clear hrb hsb hx
        go_wp2_with (go_at_call 10; fail)
        refine (read_any w0 _ l HRB.out HSB.out (by omega)).mono ?_
        rintro e w3 ⟨v3, rfl, ho3, hu3⟩
        rw [← HEVS.out] at ho3
        rw [← HCFG.out]
        have hr3 := EvsRow.of_owns ho3
        have hs3 := SoftEvs.of_owns ho3
        obtain ⟨hn3, ⟨a3, c3, rfl, hn3c, hm3⟩, -⟩ := hr3.at_
        unfold maxLen at hn3 hm3
        obtain ⟨wd, hwd⟩ : ∃ wd, wd = w3.alloc (.cells #[.int .i64 cfg.n, .int .u64 cfg.slack, .int .i64 cfg.bytes, .int .i64 cfg.entries] 31) := ⟨_, rfl⟩
        have hxd : Ext w3 wd := by rw [hwd]; exact (Upd.refl _ _).alloc _
        have HXD := Lib.hid (hu3.trans hxd)
        have HR3 := Lib.hid (hr3.ext hxd)
        have HS3 := Lib.hid (hs3.ext hxd)
        have hbd : wd.heap[w3.heap.size]? = some (.cells #[.int .i64 cfg.n, .int .u64 cfg.slack, .int .i64 cfg.bytes, .int .i64 cfg.entries] 31 (0, 0)) := by rw [hwd]; exact newAt _ _
        have hbb := (HX.out.trans HXD.out).at_ HBB.out id
        have HWD := Lib.hid hwd
        clear ho3 hu3 hr3 hs3 hxd hwd
        unfold cfgCells
        go_wp2_with fail
        rw [show w3.alloc (.cells #[.int .i64 cfg.n, .int .u64 cfg.slack, .int .i64 cfg.bytes, .int .i64 cfg.entries] 31) = wd from HWD.out.symm]
        obtain ⟨gd, hgd⟩ : ∃ gd, gd = w3.heap.size := ⟨_, rfl⟩
        rw [← hgd] at hbd ⊢
        clear hgd
        have q0 := cellAt hbd 0 (.int .i64 cfg.n) rfl
        have q1 := cellAt hbd 1 (.int .u64 cfg.slack) rfl
        have q2 := cellAt hbd 2 (.int .i64 cfg.bytes) rfl
        have q3 := cellAt hbd 3 (.int .i64 cfg.entries) rfl
        have q4 := cellAt hbb 0 (.int .i64 cfg.n) rfl
        have q5 := cellAt hbb 1 (.int .u64 cfg.slack) rfl
        have q6 := cellAt hbb 2 (.int .i64 cfg.bytes) rfl
        have q7 := cellAt hbb 3 (.int .i64 cfg.entries) rfl
        clear hbd hbb
        go_region_held3 (fun w' => w'.cell? ⟨gd, 0, none⟩ = some (.int .i64 cfg.n) ∧ w'.cell? ⟨gd, 1, none⟩ = some (.int .u64 cfg.slack) ∧ w'.cell? ⟨gd, 2, none⟩ = some (.int .i64 cfg.bytes) ∧ w'.cell? ⟨gd, 3, none⟩ = some (.int .i64 cfg.entries) ∧ w'.cell? ⟨gb, 0, none⟩ = some (.int .i64 cfg.n) ∧ w'.cell? ⟨gb, 1, none⟩ = some (.int .u64 cfg.slack) ∧ w'.cell? ⟨gb, 2, none⟩ = some (.int .i64 cfg.bytes) ∧ w'.cell? ⟨gb, 3, none⟩ = some (.int .i64 cfg.entries)) (first | go_keep | exact ⟨s0, s1, s2, s3, s4, s5, s6, s7⟩)
          ((first | (go_at_call 11; refine (config_any _ cfg).mono ?_; rintro e w4 ⟨rfl, hu4⟩; have E4 : Ext wd w4 := ((Upd.refl _ wd).drew).trans hu4; unfold cfgCells; have s0 := E4.cell q0 (fun e => e); have s1 := E4.cell q1 (fun e => e); have s2 := E4.cell q2 (fun e => e); have s3 := E4.cell q3 (fun e => e); have s4 := E4.cell q4 (fun e => e); have s5 := E4.cell q5 (fun e => e); have s6 := E4.cell q6 (fun e => e); have s7 := E4.cell q7 (fun e => e)) | (go_at_call 13; refine (refs_any _ _ evs (HR3.out.ext E4) (by have := HFEW.out.1; omega) HFEW.out.2).mono ?_; rintro e w5 ⟨v5, rfl, ho5, hu5⟩; have E5 := E4.trans hu5; obtain ⟨-, ⟨a5, c5, rfl, -, -⟩, -⟩ := (EvsRow.of_rowns ho5).at_; have s0 := E5.cell q0 (fun e => e); have s1 := E5.cell q1 (fun e => e); have s2 := E5.cell q2 (fun e => e); have s3 := E5.cell q3 (fun e => e); have s4 := E5.cell q4 (fun e => e); have s5 := E5.cell q5 (fun e => e); have s6 := E5.cell q6 (fun e => e); have s7 := E5.cell q7 (fun e => e)) | (go_at_call 12; refine (lsame_any _ _ _ evs evs (EvsRow.of_rowns ho5) (HW2.out.ext (HX.out.trans (HXD.out.trans E5)))).mono ?_; rintro e w6 ⟨rfl, hu6⟩; rw [eqB_self]; have E6 := E5.trans hu6; have s0 := E6.cell q0 (fun e => e); have s1 := E6.cell q1 (fun e => e); have s2 := E6.cell q2 (fun e => e); have s3 := E6.cell q3 (fun e => e); have s4 := E6.cell q4 (fun e => e); have s5 := E6.cell q5 (fun e => e); have s6 := E6.cell q6 (fun e => e); have s7 := E6.cell q7 (fun e => e)) | (go_at_call 14; refine (sameBytes_any _ _ _ l l (HRB.out.ext (HXD.out.trans E6)) (HOB.out.ext (HX.out.trans (HXD.out.trans E6)))).mono ?_; rintro e w7 ⟨rfl, hu7⟩; rw [beq_self_eq_true]; have E7 := E6.trans hu7; have s0 := E7.cell q0 (fun e => e); have s1 := E7.cell q1 (fun e => e); have s2 := E7.cell q2 (fun e => e); have s3 := E7.cell q3 (fun e => e); have s4 := E7.cell q4 (fun e => e); have s5 := E7.cell q5 (fun e => e); have s6 := E7.cell q6 (fun e => e); have s7 := E7.cell q7 (fun e => e))))
        rename_i hHeld
        have HX7 := Lib.hid (HXD.out.trans E7)
        have hs7 := HS3.out.ext E7
        have HXW := Lib.hid (HX.out.trans HX7.out)
        have HS7 := Lib.hid hs7
        clear hHeld s0 s1 s2 s3 s4 s5 s6 s7 q0 q1 q2 q3 q4 q5 q6 q7 E4 E5 E6 E7 hu4 hu5 hu6 hu7 ho5 hs7 HXD HR3 HS3 HWD
        go_wp2
        go_loopw [9] (fun i wq => ∃ j : Nat, j ≤ evs.length ∧ i = .int .i64 j ∧ Ext w0 wq ∧ SoftEvs w0.heap.size wq (.slice a3 evs.length c3) evs.length) (fun i _ => evs.length - (intOf i).toNat)
        case atStart => exact ⟨0, Nat.zero_le _, rfl, HX7.out, HS7.out⟩
        case round =>
          obtain ⟨j, hj, rfl, hxq, hsq⟩ := hrel
          obtain ⟨wq, hwq⟩ : ∃ x, x = wr := ⟨_, rfl⟩
          subst hwq
          have HXQ := Lib.hid hxq
          have HSQ := Lib.hid hsq
          clear hxq hsq
          by_cases hjn : j < evs.length
          · obtain ⟨g, c', cur, e, ve, vk, xs, bs, hv, hb, hg, hs, hnc, hra, hoe, hok⟩ := HSQ.out.at_.2.2 j hjn
            cases hv
            have y13 := hra 13 vk rfl
            have y7 := hra 7 ve rfl
            obtain ⟨ak, ck, rfl, hk1, hk2, -⟩ := Row.of_owns hok
            obtain ⟨ae, ce, rfl, he1, he2, -⟩ := Row.of_owns hoe
            obtain ⟨m, hm⟩ : ∃ m, m = e.keep.length := ⟨_, rfl⟩
            obtain ⟨me, hme⟩ : ∃ me, me = e.op.edits.length := ⟨_, rfl⟩
            rw [← hm] at y13 hk1
            rw [← hme] at y7 he1
            unfold maxLen at hk2 he2
            clear hra hoe hok hm hme hg hs
            go_wp2
            go_loopw [10] (fun kk wz => ∃ p : Nat, p ≤ m ∧ kk = .int .i64 p ∧ Ext w0 wz ∧ SoftEvs w0.heap.size wz (.slice (some ⟨g, 0, none⟩) evs.length c3) evs.length ∧ wz.cell? ⟨g, j * 14 + 13, none⟩ = some (.slice ak m ck) ∧ wz.cell? ⟨g, j * 14 + 7, none⟩ = some (.slice ae me ce)) (fun kk _ => m - (intOf kk).toNat)
            case atStart => exact ⟨0, Nat.zero_le _, rfl, HXQ.out, HSQ.out, y13, y7⟩
            case round =>
              obtain ⟨p, hp, rfl, hxz, hsz, z13, z7⟩ := hrel
              obtain ⟨wz, hwz⟩ : ∃ x, x = wr := ⟨_, rfl⟩
              subst hwz
              have HXZ := Lib.hid hxz
              have HSZ := Lib.hid hsz
              clear hxz hsz y13 y7
              by_cases hpm : p < m
              · obtain ⟨gk, curk, b, rfl, hbk, hgk, hcb, hne, -, -⟩ := HSZ.out.keep_at hjn z13 hpm
                have hfk := freeAt hgk p
                have HGK := Lib.hid hgk
                clear hgk
                go_wp2
                go_region
                go_wp2
                go_roundw
                case rel => exact ⟨p + 1, by omega, by go_num, (HXZ.out.setCell (p := ⟨gk, p, none⟩) (fun h => by simp only at h; omega) _).drew, (HSZ.out.putBool HGK.out).ext ((Upd.refl _ _).drew), (Upd.own _ _ _ _).cell z13 (fun e => hne e.symm), (Upd.own _ _ _ _).cell z7 (fun e => hne e.symm)⟩
                case measure => simp [intOf]; omega
              · go_wp2
                go_loopw [11] (fun kk wz => ∃ p : Nat, p ≤ me ∧ kk = .int .i64 p ∧ Ext w0 wz ∧ SoftEvs w0.heap.size wz (.slice (some ⟨g, 0, none⟩) evs.length c3) evs.length ∧ wz.cell? ⟨g, j * 14 + 7, none⟩ = some (.slice ae me ce)) (fun kk _ => me - (intOf kk).toNat)
                case atStart => exact ⟨0, Nat.zero_le _, rfl, HXZ.out, HSZ.out, z7⟩
                case round =>
                  obtain ⟨q, hq, rfl, hxy, hsy, x7⟩ := hrel
                  obtain ⟨wy, hwy⟩ : ∃ x, x = wr := ⟨_, rfl⟩
                  subst hwy
                  have HXY := Lib.hid hxy
                  have HSY := Lib.hid hsy
                  clear hxy hsy z7 z13
                  by_cases hqm : q < me
                  · obtain ⟨ge, cure, rfl, hbe, hge, hqe, hne, -, -⟩ := HSY.out.edit_at hjn x7 hqm
                    have HGE := Lib.hid hge
                    clear hge
                    go_wp2_with (refine wpList_store_in rfl _ _ _ rfl rfl (cells := #[.int .u8 0, .int .i64 0, str []]) rfl HGE.out ⟨_, Try.underlying46, rfl, by kernel_rfl⟩ hqe (by simp [AllOne, Value.oneCell']) ?_)
                    intro w8 hu8 hb8
                    go_wp2
                    go_roundw
                    case rel => exact ⟨q + 1, by omega, by go_num, HXY.out.step hu8 (fun i hi e => by unfold At at e; omega), HSY.out.putEdit HGE.out hu8 hb8 (setL_size _ _ _), hu8.cell x7 (fun e => hne e.symm)⟩
                    case measure => simp [intOf]; omega
                  · obtain ⟨g', c', cur, e, ve, vk, xs, bs, hv, hb, hg, hs, hnc, -⟩ := HSY.out.at_.2.2 j hjn
                    cases hv
                    have HG := Lib.hid hg
                    clear hg
                    have hfit : j * 14 + 14 ≤ cur.size := by
                      have : (j + 1) * 14 ≤ c3 * 14 := Nat.mul_le_mul_right _ (by omega)
                      rw [Nat.succ_mul] at this; omega
                    have HFIT := Lib.hid hfit
                    clear hfit hs
                    go_wp2_with (refine wpList_store_in rfl _ _ _ rfl rfl (cells := evCells (Ev.zero 0 0) nilS nilS) rfl HG.out (Try.evT _ _ _) HFIT.out (evCells_one _ _ _ _ _ _ _) ?_)
                    intro w8 hu8 hb8
                    go_wp2
                    go_roundw
                    case rel => exact ⟨j + 1, by omega, by go_num, HXY.out.step hu8 (fun i hi e => by unfold At at e; omega), HSY.out.putEvent hjn HG.out hu8 hb8⟩
                    case measure => simp [intOf]; omega
          · go_wp2
            go_roundw
            case rel => exact ⟨k + 1, by omega, by go_num, HX.out.trans HXQ.out⟩
            case measure => simp [intOf]; omega
      · go_wp2_with (go_at_call 7; fail)
        refine (works_any _).mono ?_
        rintro e w9 ⟨rfl, hu⟩
        go_wp2
        go_ret
        exact ⟨rfl, HXB.out.trans (HX.out.trans hu)⟩
  · have hlt : (1500 : Int) < (l.length : Int) := by omega
    go_wp2_with (go_at_call 7; fail)
    refine (works_any w).mono ?_
    rintro e w1 ⟨rfl, hu⟩
    go_wp2
    go_ret
    exact ⟨rfl, hu⟩
end Go.Proofs.Ytlhpcgmbbeihiaa
