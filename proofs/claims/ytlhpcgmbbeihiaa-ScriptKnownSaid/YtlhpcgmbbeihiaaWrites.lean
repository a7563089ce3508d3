/-
  CONTRACT of the law ScriptWrites: whatever comes in, it hands back true and turns nothing that was there. By program (gen/writes.py).
-/
import Derived.Test.YtlhpcgmbbeihiaaRWrite
import Derived.Test.YtlhpcgmbbeihiaaWorks
namespace Go.Proofs.Ytlhpcgmbbeihiaa
open Go.RowKit

def wErr (s : WSt) : Int := if s.2 then 2 else if 65536 < s.1.length then 3 else 0
def wBytes (s : WSt) : List UInt8 := if s.2 then [] else if 65536 < s.1.length then [] else s.1
theorem WroteAs.uni {B : Nat} {s : WSt} {e : Ending} {w' : World} (h : WroteAs B s e w') : ∃ vb, e = .returned (.tuple #[vb, .int .i64 (wErr s)]) ∧ Bytes (fun k => B ≤ k ∧ k < w'.heap.size) w' vb (wBytes s) := by
  rcases h with ⟨h1, rfl⟩ | ⟨h1, h2, rfl⟩ | ⟨h1, h2, vb, rfl, hb⟩
  · exact ⟨.slice none 0 0, by simp [wErr, h1], by simp only [wBytes, h1, if_true]; exact Row.nil _ _⟩
  · exact ⟨.slice none 0 0, by simp [wErr, h1, h2], by simp only [wBytes, h1, h2, if_true, Bool.false_eq_true, if_false]; exact Row.nil _ _⟩
  · exact ⟨vb, by simp [wErr, h1, Nat.not_lt.2 h2], by simp only [wBytes, h1, Nat.not_lt.2 h2, Bool.false_eq_true, if_false]; exact hb⟩
theorem EvsRow.in_mem {S T : Nat → Prop} {w : World} {v : Value} {l : List Ev} (h : EvsRow S w v l) (hs : ∀ k, S k → T k) : EvsRow T w v l := h.mono hs
theorem evin_wf {x : Ev} (h : EvIn x) : EvWf x := ⟨h.kind.1, h.kind.2, fun e he => (h.op.edits e he).1⟩
theorem few_evsum (l : List Ev) (h : ∀ x ∈ l, FewEv x) : evsum l ≤ 10000 * l.length := by
  induction l with
  | nil => simp [evsum]
  | cons x l ih =>
    have i1 := ih fun y hy => h y (by simp [hy])
    have hx := h x (by simp)
    have i2 := (few_cap hx).2
    obtain ⟨a1, a2, a3, -⟩ := hx
    simp only [evsum, List.map_cons, List.sum_cons, List.length_cons, ecap, ocap] at i1 ⊢
    omega

set_option maxRecDepth 100000 in
set_option maxHeartbeats 8000000 in
theorem writes_any (w : World) (c : Cfg) (v : Value) (l : List Ev) (kind : Int) (h : EvsRow (Till w.heap.size) w v l) (hin : ∀ x ∈ l, EvIn x) (hc : CfgWf c) (hs : 0 ≤ c.slack) (hk0 : 0 ≤ kind) (hk1 : kind < 256) :
    Calls Try.prog 5 #[.agg (cfgCells c), v, .int .u8 kind] w fun e w' => e = .returned (.bool true) ∧ Ext w w' := by
  have hbx := newAt w (.cells (cfgCells c) 31)
  obtain ⟨wb, hwb⟩ : ∃ wb, wb = w.alloc (.cells (cfgCells c) 31) := ⟨_, rfl⟩
  rw [← hwb] at hbx
  have hub : Ext w wb := by rw [hwb]; exact (Upd.refl _ _).alloc _
  obtain ⟨hml, ⟨a, cc, rfl, hn, hm⟩, -⟩ := h.at_
  unfold maxLen at hm hml
  have HB := Lib.hid hbx
  have HU := Lib.hid hub
  have HL := Lib.hid (h.ext hub)
  have HIN := Lib.hid hin
  have HC := Lib.hid hc
  have HS := Lib.hid hs
  have HWB := Lib.hid hwb
  obtain ⟨cn, cs, cb, ce⟩ := c
  clear h hin hc hs hbx hub hwb
  simp only [cfgCells]
  go_enter Try.func5, Try.ntmps5
  go_wp2_with (go_at_call 18; fail)
  rw [show w.alloc (.cells #[.int .i64 cn, .int .u64 cs, .int .i64 cb, .int .i64 ce] 31) = wb from HWB.out.symm]
  refine (few_any wb _ l HL.out).mono ?_
  rintro e w1 ⟨bf, rfl, hfew, hu1⟩
  have HF := Lib.hid hfew
  have HU1 := Lib.hid (HU.out.trans hu1)
  have HB1 := Lib.hid (hu1.at_ HB.out id)
  have HL1 := Lib.hid (HL.out.ext hu1)
  clear hfew hu1
  cases bf with
  | false =>
    go_wp2_with (go_at_call 7; fail)
    refine (works_any _).mono ?_
    rintro e w2 ⟨rfl, hu2⟩
    go_wp2
    go_ret
    exact ⟨rfl, HU1.out.trans hu2⟩
  | true =>
    obtain ⟨hl60, hfx⟩ := HF.out rfl
    have HFX := Lib.hid hfx
    have hevs := few_evsum l hfx
    clear hfx HF
    go_wp2_with (go_at_call 13; fail)
    refine (refs_any _ _ l HL1.out (by omega) (fun x hx => by have := HFX.out x hx; exact ⟨by have := this.2.2.2.1; omega, by have := this.2.2.2.2.1; omega⟩)).mono ?_
    rintro e w2 ⟨vr, rfl, ho2, hu2⟩
    have HR2 := Lib.hid (EvsRow.of_rowns ho2)
    obtain ⟨-, ⟨ra, rc, rfl, hrn, hrm⟩, -⟩ := HR2.out.at_
    unfold maxLen at hrm
    have HU2 := Lib.hid (HU1.out.trans hu2)
    have HB2 := Lib.hid (hu2.at_ HB1.out id)
    have HL2 := Lib.hid (HL1.out.ext hu2)
    clear ho2 hu2
    go_wp2_with (first | (refine wpList_load_blk rfl _ _ rfl rfl HB2.out (Try.cfgT ⟨cn, cs, cb, ce⟩) ?_) | (go_at_call 17; fail))
    refine (write_any w2 ⟨cn, cs, cb, ce⟩ _ l (HL2.out.mono (fun k hk => by have := HU2.out.size; have : k < w.heap.size := hk; unfold Till; omega)) (fun x hx => evin_wf (HIN.out x hx)) HC.out (by omega)).mono ?_
    rintro e w3 ⟨hwr, hu3⟩
    obtain ⟨vb, rfl, hvb⟩ := hwr.uni
    have HVB := Lib.hid hvb
    obtain ⟨ba, bc, rfl, hbn, hbm, -⟩ := hvb
    unfold maxLen at hbm
    have HU3 := Lib.hid (HU2.out.trans hu3)
    have HB3 := Lib.hid (hu3.at_ HB2.out id)
    have HL3 := Lib.hid (HL2.out.ext hu3)
    have HR3 := Lib.hid (HR2.out.ext hu3)
    clear hwr hu3
    go_wp2_with (first | (refine wpList_load_blk rfl _ _ rfl rfl HB3.out (Try.cfgT ⟨cn, cs, cb, ce⟩) ?_) | (go_at_call 11; fail))
    refine (config_any w3 ⟨cn, cs, cb, ce⟩).mono ?_
    rintro e w4 ⟨rfl, hu4⟩
    have HU4 := Lib.hid (HU3.out.trans hu4)
    have HL4 := Lib.hid (HL3.out.ext hu4)
    have HR4 := Lib.hid (HR3.out.ext hu4)
    have HV4 := Lib.hid (HVB.out.ext hu4)
    clear hu4
    go_wp2_with (go_at_call 19; fail)
    refine (rwrite_any w4 ⟨cn, cs, cb, ce⟩ _ l HR4.out HIN.out HC.out HS.out hl60 HFX.out).mono ?_
    rintro e w5 ⟨hwr, hu5⟩
    obtain ⟨vd, rfl, hvd⟩ := hwr.uni
    have HVD := Lib.hid hvd
    obtain ⟨da, dc, rfl, hdn, hdm, -⟩ := hvd
    unfold maxLen at hdm
    obtain ⟨er, her⟩ : ∃ er, er = wErr (writeF ⟨cn, cs, cb, ce⟩ l) := ⟨_, rfl⟩
    rw [← her]
    have HU5 := Lib.hid (HU4.out.trans hu5)
    have HL5 := Lib.hid (HL4.out.ext hu5)
    have HR5 := Lib.hid (HR4.out.ext hu5)
    have HV5 := Lib.hid (HV4.out.ext hu5)
    clear hwr hu5 her
    go_wp2_with (go_at_call 14; fail)
    refine (sameBytes_any w5 _ _ _ _ HV5.out HVD.out).mono ?_
    rintro e w6 ⟨rfl, hu6⟩
    rw [beq_self_eq_true]
    have HU6 := Lib.hid (HU5.out.trans hu6)
    have HL6 := Lib.hid (HL5.out.ext hu6)
    have HR6 := Lib.hid (HR5.out.ext hu6)
    clear hu6
    go_wp2_with (go_at_call 20; fail)
    refine (sword_any w6 kind hk0 hk1).mono ?_
    rintro e w7 ⟨rfl, hu7⟩
    have HU7 := Lib.hid (HU6.out.trans hu7)
    have HL7 := Lib.hid (HL6.out.ext hu7)
    have HR7 := Lib.hid (HR6.out.ext hu7)
    clear hu7
    go_wp2_with (go_at_call 21; fail)
    refine (rword_any w7 kind hk0 hk1).mono ?_
    rintro e w8 ⟨rfl, hu8⟩
    obtain ⟨wd, hwd⟩ : ∃ wd, wd = wordOf kind := ⟨_, rfl⟩
    rw [← hwd]
    have HU8 := Lib.hid (HU7.out.trans hu8)
    have HL8 := Lib.hid (HL7.out.ext hu8)
    have HR8 := Lib.hid (HR7.out.ext hu8)
    clear hu8 hwd
    go_wp2_with (go_at_call 13; fail)
    refine (refs_any w8 _ l HL8.out (by omega) (fun x hx => by have := HFX.out x hx; exact ⟨by have := this.2.2.2.1; omega, by have := this.2.2.2.2.1; omega⟩)).mono ?_
    rintro e w9 ⟨v9, rfl, ho9, hu9⟩
    have HR9 := Lib.hid (EvsRow.of_rowns ho9)
    obtain ⟨-, ⟨qa, qc, rfl, -, -⟩, -⟩ := HR9.out.at_
    have HU9 := Lib.hid (HU8.out.trans hu9)
    have HL9 := Lib.hid (HL8.out.ext hu9)
    have HS9 := Lib.hid (HR8.out.ext hu9)
    clear hu9 ho9
    go_wp2_with (go_at_call 12; fail)
    refine (lsame_any w9 _ _ l l HR9.out HS9.out).mono ?_
    rintro e wA ⟨rfl, huA⟩
    rw [eqB_self]
    have HUA := Lib.hid (HU9.out.trans huA)
    have HLA := Lib.hid (HL9.out.ext huA).at_.2.2
    have HRA := Lib.hid (HS9.out.ext huA).at_.2.2
    clear huA HU HB HL HC HS HWB HU1 HB1 HL1 HR2 HU2 HB2 HL2 HVB HU3 HB3 HL3 HR3 HU4 HL4 HR4 HV4 HVD HU5 HL5 HR5 HV5 HU6 HL6 HR6 HU7 HL7 HR7 HU8 HL8 HR8 HR9 HU9 HL9 HS9 hbn hbm hdn hdm
    go_wp2
    go_loopw [12] (fun i wr => ∃ k : Nat, k ≤ l.length ∧ i = .int .i64 k ∧ Ext wA wr) (fun i _ => l.length - (intOf i).toNat)
    case atStart => exact ⟨0, Nat.zero_le _, rfl, Upd.refl _ _⟩
    case round =>
      obtain ⟨k, hk, rfl, hx⟩ := hrel
      have HX := Lib.hid hx
      clear hx
      by_cases hlt : k < l.length
      case neg =>
        go_wp2_with (go_at_call 7; fail)
        refine (works_any _).mono ?_
        rintro e wB ⟨rfl, huB⟩
        have HUB := Lib.hid (HUA.out.trans (HX.out.trans huB))
        clear huB
        go_wp2
        go_ret
        exact ⟨rfl, HUB.out⟩
      have h0l : 0 < l.length := by omega
      obtain ⟨b1, o1, c1', e1, k1, g1, -, r1, s1, t1⟩ := HLA.out k hlt
      obtain ⟨b1', o1', c1'', e0, k0, g0, -, r0, s0, t0⟩ := HLA.out 0 h0l
      cases g1; cases g0
      obtain ⟨b2, o2, c2', f1, m1, g2, -, r2, s2, t2⟩ := HRA.out k hlt
      obtain ⟨b2', o2', c2'', f0, m0, g3, -, r3, s3, t3⟩ := HRA.out 0 h0l
      cases g2; cases g3
      obtain ⟨x, hx1⟩ : ∃ x, x = l[k] := ⟨_, rfl⟩
      obtain ⟨z, hz1⟩ : ∃ z, z = l[0] := ⟨_, rfl⟩
      rw [← hx1] at r1 s1 t1 r2 s2 t2
      rw [← hz1] at r0 s0 t0 r3 s3 t3
      rw [Nat.zero_mul, Nat.add_zero] at r0 r3
      have R1 := Lib.hid r1
      have R0 := Lib.hid r0
      have Q1 := Lib.hid r2
      have Q0 := Lib.hid r3
      have A1 := Lib.hid (s1.ext HX.out)
      have B1 := Lib.hid (t1.ext HX.out)
      have A0 := Lib.hid (s0.ext HX.out)
      have B0 := Lib.hid (t0.ext HX.out)
      have C1 := Lib.hid (s2.ext HX.out)
      have D1 := Lib.hid (t2.ext HX.out)
      have C0 := Lib.hid (s3.ext HX.out)
      have D0 := Lib.hid (t3.ext HX.out)
      clear r1 s1 t1 r0 s0 t0 r2 s2 t2 r3 s3 t3 hx1 hz1
      have p0 := HX.out.cell (a := ⟨b1, o1 + k * 14, none⟩) (v := .int .u8 x.kind) (R1.out 0 _ rfl) id
      have p1 := HX.out.cell (a := ⟨b1, o1 + k * 14 + 1, none⟩) (v := .int .i64 x.proc) (R1.out 1 _ rfl) id
      have p2 := HX.out.cell (a := ⟨b1, o1 + k * 14 + 2, none⟩) (v := .int .u8 x.op.kind) (R1.out 2 _ rfl) id
      have p3 := HX.out.cell (a := ⟨b1, o1 + k * 14 + 3, none⟩) (v := .int .u64 x.op.doc) (R1.out 3 _ rfl) id
      have p4 := HX.out.cell (a := ⟨b1, o1 + k * 14 + 4, none⟩) (v := str x.op.name) (R1.out 4 _ rfl) id
      have p5 := HX.out.cell (a := ⟨b1, o1 + k * 14 + 5, none⟩) (v := str x.op.to) (R1.out 5 _ rfl) id
      have p6 := HX.out.cell (a := ⟨b1, o1 + k * 14 + 6, none⟩) (v := str x.op.text) (R1.out 6 _ rfl) id
      have p7 := HX.out.cell (a := ⟨b1, o1 + k * 14 + 7, none⟩) (v := e1) (R1.out 7 _ rfl) id
      have p8 := HX.out.cell (a := ⟨b1, o1 + k * 14 + 8, none⟩) (v := .int .u64 x.op.epoch) (R1.out 8 _ rfl) id
      have p9 := HX.out.cell (a := ⟨b1, o1 + k * 14 + 9, none⟩) (v := .int .u64 x.op.version) (R1.out 9 _ rfl) id
      have p10 := HX.out.cell (a := ⟨b1, o1 + k * 14 + 10, none⟩) (v := .int .u64 x.op.dur) (R1.out 10 _ rfl) id
      have p11 := HX.out.cell (a := ⟨b1, o1 + k * 14 + 11, none⟩) (v := .int .u64 x.by_) (R1.out 11 _ rfl) id
      have p12 := HX.out.cell (a := ⟨b1, o1 + k * 14 + 12, none⟩) (v := .int .i64 x.ops) (R1.out 12 _ rfl) id
      have p13 := HX.out.cell (a := ⟨b1, o1 + k * 14 + 13, none⟩) (v := k1) (R1.out 13 _ rfl) id
      have p14 := HX.out.cell (a := ⟨b1, o1, none⟩) (v := .int .u8 z.kind) (R0.out 0 _ rfl) id
      have p15 := HX.out.cell (a := ⟨b1, o1 + 1, none⟩) (v := .int .i64 z.proc) (R0.out 1 _ rfl) id
      have p16 := HX.out.cell (a := ⟨b1, o1 + 2, none⟩) (v := .int .u8 z.op.kind) (R0.out 2 _ rfl) id
      have p17 := HX.out.cell (a := ⟨b1, o1 + 3, none⟩) (v := .int .u64 z.op.doc) (R0.out 3 _ rfl) id
      have p18 := HX.out.cell (a := ⟨b1, o1 + 4, none⟩) (v := str z.op.name) (R0.out 4 _ rfl) id
      have p19 := HX.out.cell (a := ⟨b1, o1 + 5, none⟩) (v := str z.op.to) (R0.out 5 _ rfl) id
      have p20 := HX.out.cell (a := ⟨b1, o1 + 6, none⟩) (v := str z.op.text) (R0.out 6 _ rfl) id
      have p21 := HX.out.cell (a := ⟨b1, o1 + 7, none⟩) (v := e0) (R0.out 7 _ rfl) id
      have p22 := HX.out.cell (a := ⟨b1, o1 + 8, none⟩) (v := .int .u64 z.op.epoch) (R0.out 8 _ rfl) id
      have p23 := HX.out.cell (a := ⟨b1, o1 + 9, none⟩) (v := .int .u64 z.op.version) (R0.out 9 _ rfl) id
      have p24 := HX.out.cell (a := ⟨b1, o1 + 10, none⟩) (v := .int .u64 z.op.dur) (R0.out 10 _ rfl) id
      have p25 := HX.out.cell (a := ⟨b1, o1 + 11, none⟩) (v := .int .u64 z.by_) (R0.out 11 _ rfl) id
      have p26 := HX.out.cell (a := ⟨b1, o1 + 12, none⟩) (v := .int .i64 z.ops) (R0.out 12 _ rfl) id
      have p27 := HX.out.cell (a := ⟨b1, o1 + 13, none⟩) (v := k0) (R0.out 13 _ rfl) id
      have p28 := HX.out.cell (a := ⟨b2, o2 + k * 14, none⟩) (v := .int .u8 x.kind) (Q1.out 0 _ rfl) id
      have p29 := HX.out.cell (a := ⟨b2, o2 + k * 14 + 1, none⟩) (v := .int .i64 x.proc) (Q1.out 1 _ rfl) id
      have p30 := HX.out.cell (a := ⟨b2, o2 + k * 14 + 2, none⟩) (v := .int .u8 x.op.kind) (Q1.out 2 _ rfl) id
      have p31 := HX.out.cell (a := ⟨b2, o2 + k * 14 + 3, none⟩) (v := .int .u64 x.op.doc) (Q1.out 3 _ rfl) id
      have p32 := HX.out.cell (a := ⟨b2, o2 + k * 14 + 4, none⟩) (v := str x.op.name) (Q1.out 4 _ rfl) id
      have p33 := HX.out.cell (a := ⟨b2, o2 + k * 14 + 5, none⟩) (v := str x.op.to) (Q1.out 5 _ rfl) id
      have p34 := HX.out.cell (a := ⟨b2, o2 + k * 14 + 6, none⟩) (v := str x.op.text) (Q1.out 6 _ rfl) id
      have p35 := HX.out.cell (a := ⟨b2, o2 + k * 14 + 7, none⟩) (v := f1) (Q1.out 7 _ rfl) id
      have p36 := HX.out.cell (a := ⟨b2, o2 + k * 14 + 8, none⟩) (v := .int .u64 x.op.epoch) (Q1.out 8 _ rfl) id
      have p37 := HX.out.cell (a := ⟨b2, o2 + k * 14 + 9, none⟩) (v := .int .u64 x.op.version) (Q1.out 9 _ rfl) id
      have p38 := HX.out.cell (a := ⟨b2, o2 + k * 14 + 10, none⟩) (v := .int .u64 x.op.dur) (Q1.out 10 _ rfl) id
      have p39 := HX.out.cell (a := ⟨b2, o2 + k * 14 + 11, none⟩) (v := .int .u64 x.by_) (Q1.out 11 _ rfl) id
      have p40 := HX.out.cell (a := ⟨b2, o2 + k * 14 + 12, none⟩) (v := .int .i64 x.ops) (Q1.out 12 _ rfl) id
      have p41 := HX.out.cell (a := ⟨b2, o2 + k * 14 + 13, none⟩) (v := m1) (Q1.out 13 _ rfl) id
      have p42 := HX.out.cell (a := ⟨b2, o2, none⟩) (v := .int .u8 z.kind) (Q0.out 0 _ rfl) id
      have p43 := HX.out.cell (a := ⟨b2, o2 + 1, none⟩) (v := .int .i64 z.proc) (Q0.out 1 _ rfl) id
      have p44 := HX.out.cell (a := ⟨b2, o2 + 2, none⟩) (v := .int .u8 z.op.kind) (Q0.out 2 _ rfl) id
      have p45 := HX.out.cell (a := ⟨b2, o2 + 3, none⟩) (v := .int .u64 z.op.doc) (Q0.out 3 _ rfl) id
      have p46 := HX.out.cell (a := ⟨b2, o2 + 4, none⟩) (v := str z.op.name) (Q0.out 4 _ rfl) id
      have p47 := HX.out.cell (a := ⟨b2, o2 + 5, none⟩) (v := str z.op.to) (Q0.out 5 _ rfl) id
      have p48 := HX.out.cell (a := ⟨b2, o2 + 6, none⟩) (v := str z.op.text) (Q0.out 6 _ rfl) id
      have p49 := HX.out.cell (a := ⟨b2, o2 + 7, none⟩) (v := f0) (Q0.out 7 _ rfl) id
      have p50 := HX.out.cell (a := ⟨b2, o2 + 8, none⟩) (v := .int .u64 z.op.epoch) (Q0.out 8 _ rfl) id
      have p51 := HX.out.cell (a := ⟨b2, o2 + 9, none⟩) (v := .int .u64 z.op.version) (Q0.out 9 _ rfl) id
      have p52 := HX.out.cell (a := ⟨b2, o2 + 10, none⟩) (v := .int .u64 z.op.dur) (Q0.out 10 _ rfl) id
      have p53 := HX.out.cell (a := ⟨b2, o2 + 11, none⟩) (v := .int .u64 z.by_) (Q0.out 11 _ rfl) id
      have p54 := HX.out.cell (a := ⟨b2, o2 + 12, none⟩) (v := .int .i64 z.ops) (Q0.out 12 _ rfl) id
      have p55 := HX.out.cell (a := ⟨b2, o2 + 13, none⟩) (v := m0) (Q0.out 13 _ rfl) id
      go_wp2_with fail
      go_region_held3 (fun w' => w'.cell? ⟨b1, o1 + k * 14, none⟩ = some (.int .u8 x.kind) ∧ w'.cell? ⟨b1, o1 + k * 14 + 1, none⟩ = some (.int .i64 x.proc) ∧ w'.cell? ⟨b1, o1 + k * 14 + 2, none⟩ = some (.int .u8 x.op.kind) ∧ w'.cell? ⟨b1, o1 + k * 14 + 3, none⟩ = some (.int .u64 x.op.doc) ∧ w'.cell? ⟨b1, o1 + k * 14 + 4, none⟩ = some (str x.op.name) ∧ w'.cell? ⟨b1, o1 + k * 14 + 5, none⟩ = some (str x.op.to) ∧ w'.cell? ⟨b1, o1 + k * 14 + 6, none⟩ = some (str x.op.text) ∧ w'.cell? ⟨b1, o1 + k * 14 + 7, none⟩ = some (e1) ∧ w'.cell? ⟨b1, o1 + k * 14 + 8, none⟩ = some (.int .u64 x.op.epoch) ∧ w'.cell? ⟨b1, o1 + k * 14 + 9, none⟩ = some (.int .u64 x.op.version) ∧ w'.cell? ⟨b1, o1 + k * 14 + 10, none⟩ = some (.int .u64 x.op.dur) ∧ w'.cell? ⟨b1, o1 + k * 14 + 11, none⟩ = some (.int .u64 x.by_) ∧ w'.cell? ⟨b1, o1 + k * 14 + 12, none⟩ = some (.int .i64 x.ops) ∧ w'.cell? ⟨b1, o1 + k * 14 + 13, none⟩ = some (k1) ∧ w'.cell? ⟨b1, o1, none⟩ = some (.int .u8 z.kind) ∧ w'.cell? ⟨b1, o1 + 1, none⟩ = some (.int .i64 z.proc) ∧ w'.cell? ⟨b1, o1 + 2, none⟩ = some (.int .u8 z.op.kind) ∧ w'.cell? ⟨b1, o1 + 3, none⟩ = some (.int .u64 z.op.doc) ∧ w'.cell? ⟨b1, o1 + 4, none⟩ = some (str z.op.name) ∧ w'.cell? ⟨b1, o1 + 5, none⟩ = some (str z.op.to) ∧ w'.cell? ⟨b1, o1 + 6, none⟩ = some (str z.op.text) ∧ w'.cell? ⟨b1, o1 + 7, none⟩ = some (e0) ∧ w'.cell? ⟨b1, o1 + 8, none⟩ = some (.int .u64 z.op.epoch) ∧ w'.cell? ⟨b1, o1 + 9, none⟩ = some (.int .u64 z.op.version) ∧ w'.cell? ⟨b1, o1 + 10, none⟩ = some (.int .u64 z.op.dur) ∧ w'.cell? ⟨b1, o1 + 11, none⟩ = some (.int .u64 z.by_) ∧ w'.cell? ⟨b1, o1 + 12, none⟩ = some (.int .i64 z.ops) ∧ w'.cell? ⟨b1, o1 + 13, none⟩ = some (k0) ∧ w'.cell? ⟨b2, o2 + k * 14, none⟩ = some (.int .u8 x.kind) ∧ w'.cell? ⟨b2, o2 + k * 14 + 1, none⟩ = some (.int .i64 x.proc) ∧ w'.cell? ⟨b2, o2 + k * 14 + 2, none⟩ = some (.int .u8 x.op.kind) ∧ w'.cell? ⟨b2, o2 + k * 14 + 3, none⟩ = some (.int .u64 x.op.doc) ∧ w'.cell? ⟨b2, o2 + k * 14 + 4, none⟩ = some (str x.op.name) ∧ w'.cell? ⟨b2, o2 + k * 14 + 5, none⟩ = some (str x.op.to) ∧ w'.cell? ⟨b2, o2 + k * 14 + 6, none⟩ = some (str x.op.text) ∧ w'.cell? ⟨b2, o2 + k * 14 + 7, none⟩ = some (f1) ∧ w'.cell? ⟨b2, o2 + k * 14 + 8, none⟩ = some (.int .u64 x.op.epoch) ∧ w'.cell? ⟨b2, o2 + k * 14 + 9, none⟩ = some (.int .u64 x.op.version) ∧ w'.cell? ⟨b2, o2 + k * 14 + 10, none⟩ = some (.int .u64 x.op.dur) ∧ w'.cell? ⟨b2, o2 + k * 14 + 11, none⟩ = some (.int .u64 x.by_) ∧ w'.cell? ⟨b2, o2 + k * 14 + 12, none⟩ = some (.int .i64 x.ops) ∧ w'.cell? ⟨b2, o2 + k * 14 + 13, none⟩ = some (m1) ∧ w'.cell? ⟨b2, o2, none⟩ = some (.int .u8 z.kind) ∧ w'.cell? ⟨b2, o2 + 1, none⟩ = some (.int .i64 z.proc) ∧ w'.cell? ⟨b2, o2 + 2, none⟩ = some (.int .u8 z.op.kind) ∧ w'.cell? ⟨b2, o2 + 3, none⟩ = some (.int .u64 z.op.doc) ∧ w'.cell? ⟨b2, o2 + 4, none⟩ = some (str z.op.name) ∧ w'.cell? ⟨b2, o2 + 5, none⟩ = some (str z.op.to) ∧ w'.cell? ⟨b2, o2 + 6, none⟩ = some (str z.op.text) ∧ w'.cell? ⟨b2, o2 + 7, none⟩ = some (f0) ∧ w'.cell? ⟨b2, o2 + 8, none⟩ = some (.int .u64 z.op.epoch) ∧ w'.cell? ⟨b2, o2 + 9, none⟩ = some (.int .u64 z.op.version) ∧ w'.cell? ⟨b2, o2 + 10, none⟩ = some (.int .u64 z.op.dur) ∧ w'.cell? ⟨b2, o2 + 11, none⟩ = some (.int .u64 z.by_) ∧ w'.cell? ⟨b2, o2 + 12, none⟩ = some (.int .i64 z.ops) ∧ w'.cell? ⟨b2, o2 + 13, none⟩ = some (m0)) (first | go_keep | exact ⟨s0, s1, s2, s3, s4, s5, s6, s7, s8, s9, s10, s11, s12, s13, s14, s15, s16, s17, s18, s19, s20, s21, s22, s23, s24, s25, s26, s27, s28, s29, s30, s31, s32, s33, s34, s35, s36, s37, s38, s39, s40, s41, s42, s43, s44, s45, s46, s47, s48, s49, s50, s51, s52, s53, s54, s55⟩)
        ((first | (go_at_call 22; have hE5 := E5; refine (scriptSame_any _ x x e1 e1 k1 k1 (A1.out.ext E5) (A1.out.ext E5) (B1.out.ext E5) (B1.out.ext E5)).mono ?_; rintro e w6 ⟨rfl, hu6⟩; rw [eqB_self]; have E6 := E5.trans hu6; have s0 := E6.cell p0 (fun e => e); have s1 := E6.cell p1 (fun e => e); have s2 := E6.cell p2 (fun e => e); have s3 := E6.cell p3 (fun e => e); have s4 := E6.cell p4 (fun e => e); have s5 := E6.cell p5 (fun e => e); have s6 := E6.cell p6 (fun e => e); have s7 := E6.cell p7 (fun e => e); have s8 := E6.cell p8 (fun e => e); have s9 := E6.cell p9 (fun e => e); have s10 := E6.cell p10 (fun e => e); have s11 := E6.cell p11 (fun e => e); have s12 := E6.cell p12 (fun e => e); have s13 := E6.cell p13 (fun e => e); have s14 := E6.cell p14 (fun e => e); have s15 := E6.cell p15 (fun e => e); have s16 := E6.cell p16 (fun e => e); have s17 := E6.cell p17 (fun e => e); have s18 := E6.cell p18 (fun e => e); have s19 := E6.cell p19 (fun e => e); have s20 := E6.cell p20 (fun e => e); have s21 := E6.cell p21 (fun e => e); have s22 := E6.cell p22 (fun e => e); have s23 := E6.cell p23 (fun e => e); have s24 := E6.cell p24 (fun e => e); have s25 := E6.cell p25 (fun e => e); have s26 := E6.cell p26 (fun e => e); have s27 := E6.cell p27 (fun e => e); have s28 := E6.cell p28 (fun e => e); have s29 := E6.cell p29 (fun e => e); have s30 := E6.cell p30 (fun e => e); have s31 := E6.cell p31 (fun e => e); have s32 := E6.cell p32 (fun e => e); have s33 := E6.cell p33 (fun e => e); have s34 := E6.cell p34 (fun e => e); have s35 := E6.cell p35 (fun e => e); have s36 := E6.cell p36 (fun e => e); have s37 := E6.cell p37 (fun e => e); have s38 := E6.cell p38 (fun e => e); have s39 := E6.cell p39 (fun e => e); have s40 := E6.cell p40 (fun e => e); have s41 := E6.cell p41 (fun e => e); have s42 := E6.cell p42 (fun e => e); have s43 := E6.cell p43 (fun e => e); have s44 := E6.cell p44 (fun e => e); have s45 := E6.cell p45 (fun e => e); have s46 := E6.cell p46 (fun e => e); have s47 := E6.cell p47 (fun e => e); have s48 := E6.cell p48 (fun e => e); have s49 := E6.cell p49 (fun e => e); have s50 := E6.cell p50 (fun e => e); have s51 := E6.cell p51 (fun e => e); have s52 := E6.cell p52 (fun e => e); have s53 := E6.cell p53 (fun e => e); have s54 := E6.cell p54 (fun e => e); have s55 := E6.cell p55 (fun e => e)) | (go_at_call 23; refine (rsame_any _ x z f1 f0 m1 m0 (C1.out.ext E4) (C0.out.ext E4) (D1.out.ext E4) (D0.out.ext E4)).mono ?_; rintro e w5 ⟨rfl, hu5⟩; have E5 := E4.trans hu5; have s0 := E5.cell p0 (fun e => e); have s1 := E5.cell p1 (fun e => e); have s2 := E5.cell p2 (fun e => e); have s3 := E5.cell p3 (fun e => e); have s4 := E5.cell p4 (fun e => e); have s5 := E5.cell p5 (fun e => e); have s6 := E5.cell p6 (fun e => e); have s7 := E5.cell p7 (fun e => e); have s8 := E5.cell p8 (fun e => e); have s9 := E5.cell p9 (fun e => e); have s10 := E5.cell p10 (fun e => e); have s11 := E5.cell p11 (fun e => e); have s12 := E5.cell p12 (fun e => e); have s13 := E5.cell p13 (fun e => e); have s14 := E5.cell p14 (fun e => e); have s15 := E5.cell p15 (fun e => e); have s16 := E5.cell p16 (fun e => e); have s17 := E5.cell p17 (fun e => e); have s18 := E5.cell p18 (fun e => e); have s19 := E5.cell p19 (fun e => e); have s20 := E5.cell p20 (fun e => e); have s21 := E5.cell p21 (fun e => e); have s22 := E5.cell p22 (fun e => e); have s23 := E5.cell p23 (fun e => e); have s24 := E5.cell p24 (fun e => e); have s25 := E5.cell p25 (fun e => e); have s26 := E5.cell p26 (fun e => e); have s27 := E5.cell p27 (fun e => e); have s28 := E5.cell p28 (fun e => e); have s29 := E5.cell p29 (fun e => e); have s30 := E5.cell p30 (fun e => e); have s31 := E5.cell p31 (fun e => e); have s32 := E5.cell p32 (fun e => e); have s33 := E5.cell p33 (fun e => e); have s34 := E5.cell p34 (fun e => e); have s35 := E5.cell p35 (fun e => e); have s36 := E5.cell p36 (fun e => e); have s37 := E5.cell p37 (fun e => e); have s38 := E5.cell p38 (fun e => e); have s39 := E5.cell p39 (fun e => e); have s40 := E5.cell p40 (fun e => e); have s41 := E5.cell p41 (fun e => e); have s42 := E5.cell p42 (fun e => e); have s43 := E5.cell p43 (fun e => e); have s44 := E5.cell p44 (fun e => e); have s45 := E5.cell p45 (fun e => e); have s46 := E5.cell p46 (fun e => e); have s47 := E5.cell p47 (fun e => e); have s48 := E5.cell p48 (fun e => e); have s49 := E5.cell p49 (fun e => e); have s50 := E5.cell p50 (fun e => e); have s51 := E5.cell p51 (fun e => e); have s52 := E5.cell p52 (fun e => e); have s53 := E5.cell p53 (fun e => e); have s54 := E5.cell p54 (fun e => e); have s55 := E5.cell p55 (fun e => e)) | (go_at_call 22; refine (scriptSame_any _ x z e1 e0 k1 k0 (A1.out.ext (Upd.refl _ _).drew) (A0.out.ext (Upd.refl _ _).drew) (B1.out.ext (Upd.refl _ _).drew) (B0.out.ext (Upd.refl _ _).drew)).mono ?_; rintro e w4 ⟨rfl, hu4⟩; have E4 : Ext wr w4 := ((Upd.refl _ wr).drew).trans hu4; have s0 := E4.cell p0 (fun e => e); have s1 := E4.cell p1 (fun e => e); have s2 := E4.cell p2 (fun e => e); have s3 := E4.cell p3 (fun e => e); have s4 := E4.cell p4 (fun e => e); have s5 := E4.cell p5 (fun e => e); have s6 := E4.cell p6 (fun e => e); have s7 := E4.cell p7 (fun e => e); have s8 := E4.cell p8 (fun e => e); have s9 := E4.cell p9 (fun e => e); have s10 := E4.cell p10 (fun e => e); have s11 := E4.cell p11 (fun e => e); have s12 := E4.cell p12 (fun e => e); have s13 := E4.cell p13 (fun e => e); have s14 := E4.cell p14 (fun e => e); have s15 := E4.cell p15 (fun e => e); have s16 := E4.cell p16 (fun e => e); have s17 := E4.cell p17 (fun e => e); have s18 := E4.cell p18 (fun e => e); have s19 := E4.cell p19 (fun e => e); have s20 := E4.cell p20 (fun e => e); have s21 := E4.cell p21 (fun e => e); have s22 := E4.cell p22 (fun e => e); have s23 := E4.cell p23 (fun e => e); have s24 := E4.cell p24 (fun e => e); have s25 := E4.cell p25 (fun e => e); have s26 := E4.cell p26 (fun e => e); have s27 := E4.cell p27 (fun e => e); have s28 := E4.cell p28 (fun e => e); have s29 := E4.cell p29 (fun e => e); have s30 := E4.cell p30 (fun e => e); have s31 := E4.cell p31 (fun e => e); have s32 := E4.cell p32 (fun e => e); have s33 := E4.cell p33 (fun e => e); have s34 := E4.cell p34 (fun e => e); have s35 := E4.cell p35 (fun e => e); have s36 := E4.cell p36 (fun e => e); have s37 := E4.cell p37 (fun e => e); have s38 := E4.cell p38 (fun e => e); have s39 := E4.cell p39 (fun e => e); have s40 := E4.cell p40 (fun e => e); have s41 := E4.cell p41 (fun e => e); have s42 := E4.cell p42 (fun e => e); have s43 := E4.cell p43 (fun e => e); have s44 := E4.cell p44 (fun e => e); have s45 := E4.cell p45 (fun e => e); have s46 := E4.cell p46 (fun e => e); have s47 := E4.cell p47 (fun e => e); have s48 := E4.cell p48 (fun e => e); have s49 := E4.cell p49 (fun e => e); have s50 := E4.cell p50 (fun e => e); have s51 := E4.cell p51 (fun e => e); have s52 := E4.cell p52 (fun e => e); have s53 := E4.cell p53 (fun e => e); have s54 := E4.cell p54 (fun e => e); have s55 := E4.cell p55 (fun e => e))))
      rename_i hHeld
      have HX6 := Lib.hid (HX.out.trans E6)
      clear hu4 hu5 hu6 E4 E5 E6
      clear p0 p1 p2 p3 p4 p5 p6 p7 p8 p9 p10 p11 p12 p13 p14 p15 p16 p17 p18 p19 p20 p21 p22 p23 p24 p25 p26 p27 p28 p29 p30 p31 p32 p33 p34 p35 p36 p37 p38 p39 p40 p41 p42 p43 p44 p45 p46 p47 p48 p49 p50 p51 p52 p53 p54 p55 s0 s1 s2 s3 s4 s5 s6 s7 s8 s9 s10 s11 s12 s13 s14 s15 s16 s17 s18 s19 s20 s21 s22 s23 s24 s25 s26 s27 s28 s29 s30 s31 s32 s33 s34 s35 s36 s37 s38 s39 s40 s41 s42 s43 s44 s45 s46 s47 s48 s49 s50 s51 s52 s53 s54 s55 hHeld
      go_wp2
      go_roundw
      case rel => exact ⟨k + 1, by omega, by go_num, HX6.out⟩
      case measure => simp [intOf]; omega
end Go.Proofs.Ytlhpcgmbbeihiaa
