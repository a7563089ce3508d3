/-
  CONTRACT of the law ScriptBack: whatever the bytes, it hands back true and turns nothing that was there.
-/
import Derived.Test.YtlhpcgmbbeihiaaWr10
import Derived.Test.YtlhpcgmbbeihiaaGRt
import Derived.Test.YtlhpcgmbbeihiaaReads
namespace Go.Proofs.Ytlhpcgmbbeihiaa
open Go.RowKit

theorem EvsOwn.ext {B : Nat} {w w1 : World} {v : Value} {l : List Ev} (h : EvsOwn B w v l) (hu : Ext w w1) : EvsOwn B w1 v l := by
  obtain ⟨css, hl, hr, he⟩ := h
  exact ⟨css, hl, hu.ownsRow hr (fun _ _ e => e), fun i cs e h1 h2 => (he i cs e h1 h2).upd hu (fun _ _ e => e.elim)⟩
theorem EvsRow.till {B : Nat} {w : World} {v : Value} {l : List Ev} (h : EvsOwn B w v l) : EvsRow (Till w.heap.size) w v l := by
  obtain ⟨css, hl, hr, he⟩ := h
  exact ⟨css, hl, (row_in hr).mono (fun k hk => hk.2), fun i cs e h1 h2 => by
    obtain ⟨ve, vk, hc, h3, h4⟩ := he i cs e h1 h2
    exact ⟨ve, vk, hc, (row_in h3).mono (fun k hk => hk.2), (row_in h4).mono (fun k hk => hk.2)⟩⟩

/-- What an event that was read is. -/
structure EvGood (n : Int) (x : Ev) : Prop where
  kind : 1 ≤ x.kind ∧ x.kind ≤ 6
  proc : 0 ≤ x.proc ∧ x.proc < n
  by_ : 0 ≤ x.by_ ∧ x.by_ ≤ 255
  ops : 0 ≤ x.ops ∧ x.ops ≤ 255
  right : x.kind = 2 → opRight x.op = true
  zero : x.kind ≠ 2 → x.op = Oper'.zero 0
  keep : x.kind = 6 → x.keep.length = 8
  op : GoodOp x.op
theorem eventF_goodEv (n : Nat) (h1 : 1 ≤ n) (h2 : n ≤ 64) (l : List UInt8) : EvGood n (eventF n l).1 := by
  have hp : ∀ x : Nat, 0 ≤ (x : Int) % n ∧ (x : Int) % n < n := fun x => ⟨Int.emod_nonneg _ (by omega), Int.emod_lt_of_pos _ (by omega)⟩
  have a1 := hd_lt l
  have a2 := hd_lt (l.drop 1)
  have a3 := hd_lt (l.drop 2)
  have p1 := hp (hd l)
  have p2 := hp (hd (l.drop 1))
  have hr := (opF_shape (l.drop 2)).2.1
  have hg := opF_good (l.drop 2)
  have z0 := zero_good 0
  unfold eventF; dsimp only
  split
  · exact ⟨by simp [Ev.zero], p1, by simp [Ev.zero], by simp [Ev.zero], by simp [Ev.zero], fun _ => rfl, by simp [Ev.zero], z0⟩
  split
  · exact ⟨by simp [Ev.zero], by dsimp only [Ev.zero]; omega, by simp [Ev.zero], by dsimp only [Ev.zero]; omega, by simp [Ev.zero], fun _ => rfl, fun _ => bitsF_len _ _, z0⟩
  split
  · exact ⟨by simp [Ev.zero], p2, by simp [Ev.zero], by simp [Ev.zero], fun _ => hr, fun h => absurd rfl h, by simp [Ev.zero], hg⟩
  split
  · exact ⟨by simp [Ev.zero], p2, by dsimp only [Ev.zero]; omega, by simp [Ev.zero], by simp [Ev.zero], fun _ => rfl, by simp [Ev.zero], z0⟩
  · exact ⟨by dsimp only [Ev.zero]; omega, p2, by simp [Ev.zero], by simp [Ev.zero], by dsimp only [Ev.zero]; omega, fun _ => rfl, by dsimp only [Ev.zero]; omega, z0⟩
theorem eventsF_goodEv (n : Nat) (h1 : 1 ≤ n) (h2 : n ≤ 64) : ∀ (m : Nat) (l : List UInt8), ∀ x ∈ eventsF n m l, EvGood n x
  | 0, _ => by intro x h; simp [eventsF] at h
  | m + 1, l => by
    intro x h
    unfold eventsF at h
    split at h
    · simp at h
    · rcases List.mem_cons.1 h with rfl | h
      · exact eventF_goodEv n h1 h2 l
      · exact eventsF_goodEv n h1 h2 m _ x h
theorem readF_goodEv (l : List UInt8) : (1 ≤ (readF l).1.n ∧ (readF l).1.n ≤ 64) ∧ (0 ≤ (readF l).1.slack ∧ (readF l).1.slack ≤ 255) ∧ (16 ≤ (readF l).1.bytes ∧ (readF l).1.bytes ≤ 4096) ∧ (1 ≤ (readF l).1.entries ∧ (readF l).1.entries ≤ 256) ∧ ∀ x ∈ (readF l).2, EvGood (readF l).1.n x := by
  have a1 := hd_lt (l.take 65536)
  have a2 := hd_lt ((l.take 65536).drop 1)
  have a3 := hd_lt ((l.take 65536).drop 2)
  have a4 := hd_lt ((l.take 65536).drop 3)
  have hn : (readF l).1.n = ((1 + hd (l.take 65536) % 64 : Nat) : Int) := by simp [readF, cfgF]
  refine ⟨by rw [hn]; omega, by simp only [readF, cfgF]; omega, by simp only [readF, cfgF]; omega, by simp only [readF, cfgF]; omega, ?_⟩
  rw [hn]
  exact eventsF_goodEv _ (by omega) (by omega) _ _
theorem goodEv_wf {n : Int} {x : Ev} (h : EvGood n x) : EvWf x := by
  refine ⟨by have := h.kind; omega, by have := h.kind; omega, fun e he => ?_⟩
  rcases h.op.edits.2 e he with ⟨h1, h2, -⟩ | ⟨h1, h2, h3, -⟩
  · exact ⟨by omega, by omega, by omega, by omega⟩
  · exact ⟨by omega, by omega, by omega, by omega⟩
theorem goodOp_cap {o : Oper'} (h : GoodOp o) : ocap o ≤ 100 := by
  have h1 : ∀ t, GoodName t → t.length ≤ 1 := fun t ht => by rcases ht with rfl | ⟨k, _, rfl⟩ <;> simp
  have h2 := h1 _ h.name
  have h3 := h1 _ h.to
  have h4 := h.text.1
  have h5 : ∀ es : List Edit, (∀ e ∈ es, GoodEdit e) → esum es ≤ 6 * es.length := by
    intro es
    induction es with
    | nil => intro _; simp [esum]
    | cons e es ih =>
      intro hh
      have i1 := ih fun x hx => hh x (by simp [hx])
      have i2 : e.text.length ≤ 4 := by
        rcases hh e (by simp) with ⟨_, _, _, h7, _⟩ | ⟨_, _, _, h7⟩
        · omega
        · rw [h7]; simp
      unfold esum at i1 ⊢
      simp only [List.map_cons, List.sum_cons, List.length_cons]; omega
  have h6 := h5 _ h.edits.2
  have h7 := h.edits.1
  unfold ocap; omega
theorem goodEvs_cap {n : Int} (l : List Ev) (h : ∀ x ∈ l, EvGood n x) : evsum l ≤ 410 * l.length := by
  induction l with
  | nil => simp [evsum]
  | cons x l ih =>
    have i1 := ih fun y hy => h y (by simp [hy])
    have i2 := goodOp_cap (h x (by simp)).op
    simp only [evsum, List.map_cons, List.sum_cons, List.length_cons, ecap] at i1 ⊢
    omega

set_option maxRecDepth 100000 in
set_option maxHeartbeats 4000000 in
theorem back_any {S : Nat → Prop} (w : World) (v : Value) (l : List UInt8) (h : Bytes S w v l) (hS : ∀ k, S k → k < w.heap.size) :
    Calls Try.prog 4 #[v] w fun e w' => e = .returned (.bool true) ∧ Ext w w' := by
  have h' := h
  obtain ⟨a, c, rfl, hn, hm, -⟩ := h'
  unfold maxLen at hm
  have HB := Lib.hid h
  have HS := Lib.hid hS
  clear h hS
  go_enter Try.func4, Try.ntmps4
  by_cases hlen : l.length ≤ 1500
  · have hlt : ¬ (1500 : Int) < (l.length : Int) := by omega
    go_wp2_with (go_at_call 10; fail)
    refine (read_any w _ l HB.out HS.out (by omega)).mono ?_
    rintro e w1 ⟨v1, rfl, ho1, hu1⟩
    obtain ⟨⟨g1, g2⟩, ⟨g3, g4⟩, ⟨g5, g6⟩, ⟨g7, g8⟩, hgood⟩ := readF_goodEv l
    obtain ⟨bs, hbs, hbl, hrr⟩ := read_write l (by omega)
    have hfew := readF_few l
    have hevl := eventsF_len (1 + hd (l.take 65536) % 64) (l.take 65536).length ((l.take 65536).drop 4)
    obtain ⟨evs, hevs⟩ : ∃ evs, evs = (readF l).2 := ⟨_, rfl⟩
    obtain ⟨cfg, hcfg⟩ : ∃ cfg, cfg = (readF l).1 := ⟨_, rfl⟩
    rw [← hevs] at ho1 hgood hbs hfew
    rw [← hcfg] at g1 g2 g3 g4 g5 g6 g7 g8 hgood hbs ⊢
    have hrr2 : readF bs = (cfg, evs) := by rw [hrr, hcfg, hevs]
    have hcap := goodEvs_cap evs hgood
    have hcap2 : evsum evs < 70368744160000 := by have := hfew.1; omega
    obtain ⟨cn, cs, cb, ce⟩ := cfg
    dsimp only at g1 g2 g3 g4 g5 g6 g7 g8 hgood
    have HGOOD := Lib.hid hgood
    have HBS := Lib.hid hbs
    have HBL := Lib.hid hbl
    have HRR := Lib.hid hrr2
    have HFEW := Lib.hid hfew
    have HCAP := Lib.hid hcap2
    have HWF := Lib.hid (show ∀ x ∈ evs, EvWf x from fun x hx => goodEv_wf (hgood x hx))
    have HCW := Lib.hid (show CfgWf ⟨cn, cs, cb, ce⟩ from by refine ⟨?_, ?_, ?_, ?_, ?_, ?_⟩ <;> dsimp only <;> omega)
    have d1 : decide (cn < 1) = false := by simp; omega
    have d2 : decide (64 < cn) = false := by simp; omega
    have d3 : decide (255 < cs) = false := by simp; omega
    have d4 : decide (cb < 16) = false := by simp; omega
    have d5 : decide (4096 < cb) = false := by simp; omega
    have d6 : decide (ce < 1) = false := by simp; omega
    have d7 : decide (256 < ce) = false := by simp; omega
    obtain ⟨hn1, ⟨a1, c1, rfl, hn1c, hm1⟩, -⟩ := (EvsRow.of_owns ho1).at_
    unfold maxLen at hn1 hm1
    obtain ⟨wb, hwb⟩ : ∃ wb, wb = w1.alloc (.cells #[.int .i64 cn, .int .u64 cs, .int .i64 cb, .int .i64 ce] 31) := ⟨_, rfl⟩
    have hxb : Ext w1 wb := by rw [hwb]; exact (Upd.refl _ _).alloc _
    have hbb : wb.heap[w1.heap.size]? = some (.cells (cfgCells ⟨cn, cs, cb, ce⟩) 31 (0, 0)) := by rw [hwb]; exact newAt _ _
    have HWB := Lib.hid hwb
    have HOB := Lib.hid (ho1.ext hxb)
    have HXB := Lib.hid (hu1.trans hxb)
    have HBB := Lib.hid hbb
    clear hgood hbs hbl hrr hrr2 hfew hevl hevs hcfg hcap hcap2 ho1 hu1 hxb hwb hlt hbb
    unfold cfgCells
    go_wp2_with fail
    rw [show w1.alloc (.cells #[.int .i64 cn, .int .u64 cs, .int .i64 cb, .int .i64 ce] 31) = wb from HWB.out.symm]
    generalize w1.heap.size = gb at HBB ⊢
    go_loopw [5] (fun i wr => ∃ k : Nat, k ≤ evs.length ∧ i = .int .i64 k ∧ Ext wb wr) (fun i _ => evs.length - (intOf i).toNat)
    case atStart => exact ⟨0, Nat.zero_le _, rfl, Upd.refl _ _⟩
    case round =>
      obtain ⟨k, hk, rfl, hx⟩ := hrel
      have HX := Lib.hid hx
      have hzb := hx.at_ HBB.out id
      obtain ⟨z0, z1, z2, z3⟩ := cfg_parts' hzb
      have hgl := lt_of_heap hzb
      have HZB := Lib.hid hzb
      clear hx hzb
      by_cases hlt : k < evs.length
      · have hrow := EvsRow.of_owns (HOB.out.ext HX.out)
        obtain ⟨b1, o1, c1, ve, vk, e1, -, hra, hr1, hr2⟩ := hrow.at_.2.2 k hlt
        cases e1
        have hg := HGOOD.out evs[k] (List.getElem_mem hlt)
        obtain ⟨x, hxx⟩ : ∃ x, x = evs[k] := ⟨_, rfl⟩
        rw [← hxx] at hra hr1 hr2 hg
        have hr1' := hr1
        have hr2' := hr2
        obtain ⟨ea, ec, rfl, -⟩ := hr1'
        obtain ⟨ka, kc, rfl, -⟩ := hr2'
        obtain ⟨p0, p1, p2, p3, p4, p5, p6, p7, p8, p9, p10, p11, p12, p13⟩ := ev_cells' hra
        have hal : Ext wr (wr.alloc (.cells (evCells x (.slice ea x.op.edits.length ec) (.slice ka x.keep.length kc)) 44)) := (Upd.refl _ _).alloc _
        have HAL := Lib.hid hal
        have HNB := Lib.hid (newAt wr (.cells (evCells x (.slice ea x.op.edits.length ec) (.slice ka x.keep.length kc)) 44))
        have HR1 := Lib.hid (hr1.ext hal)
        obtain ⟨⟨q1, q2⟩, ⟨q3, q4⟩, ⟨q5, q6⟩, ⟨q7, q8⟩, qr, qz, qk, -⟩ := hg
        have e1 : decide (x.kind < 1) = false := by simp; omega
        have e2 : decide (6 < x.kind) = false := by simp; omega
        have e3 : decide (x.proc < 0) = false := by simp; omega
        have e4 : decide (cn ≤ x.proc) = false := by simp; omega
        have e5 : decide (255 < x.by_) = false := by simp; omega
        have e6 : decide (x.ops < 0) = false := by simp; omega
        have e7 : decide (255 < x.ops) = false := by simp; omega
        clear hrow hra hr1 hr2 hxx hal q1 q2 q3 q4 q5 q6 q7 q8
        by_cases hk2 : x.kind = 2
        · have f1 : (x.kind == 2) = true := by simp [hk2]
          have f2 : (x.kind != 2) = false := by simp [hk2]
          have f3 : (x.kind == 6) = false := by simp [hk2]
          have HRT := Lib.hid (qr hk2)
          clear qr qz qk hk2
          go_wp2_with (go_at_call 15; fail)
          refine (right_any _ x.op (.slice ea x.op.edits.length ec) HR1.out).mono ?_
          rintro e w5 ⟨rfl, hu5⟩
          rw [HRT.out]
          have HX5 := Lib.hid (HX.out.trans (HAL.out.trans hu5))
          have hb5 := hu5.at_ HNB.out id
          obtain ⟨n0, n1, n2, n3, n4, n5, n6, n7, n8, n9, n10, n11, n12, n13⟩ := blk_cells hb5
          clear hu5 hb5 p0 p1 p2 p3 p4 p5 p6 p7 p8 p9 p10 p11 p12 p13 z0 z1 z2 z3
          go_wp2
          go_roundw
          case rel => exact ⟨k + 1, by omega, by go_num, HX5.out⟩
          case measure => simp [intOf]; omega
        · have f1 : (x.kind == 2) = false := by simp [hk2]
          have f2 : (x.kind != 2) = true := by simp [hk2]
          have HZ := Lib.hid (qz hk2)
          clear qr qz hk2
          by_cases hk6 : x.kind = 6
          · have f3 : (x.kind == 6) = true := by simp [hk6]
            have f4 : ((x.keep.length : Int) != 8) = false := by rw [qk hk6]; rfl
            clear qk hk6
            go_wp2_with (go_at_call 16; fail)
            refine (sameOp_any _ x.op (Oper'.zero 0) (.slice ea x.op.edits.length ec) nilS HR1.out (Row.nil Nothing _)).mono ?_
            rintro e w5 ⟨rfl, hu5⟩
            rw [show eqB x.op (Oper'.zero 0) = true from by rw [HZ.out, eqB_self]]
            have HX5 := Lib.hid (HX.out.trans (HAL.out.trans hu5))
            have hb5 := hu5.at_ HNB.out id
            obtain ⟨n0, n1, n2, n3, n4, n5, n6, n7, n8, n9, n10, n11, n12, n13⟩ := blk_cells hb5
            clear hu5 hb5 p0 p1 p2 p3 p4 p5 p6 p7 p8 p9 p10 p11 p12 p13 z0 z1 z2 z3
            go_wp2
            go_roundw
            case rel => exact ⟨k + 1, by omega, by go_num, HX5.out⟩
            case measure => simp [intOf]; omega
          · have f3 : (x.kind == 6) = false := by simp [hk6]
            clear qk hk6
            go_wp2_with (go_at_call 16; fail)
            refine (sameOp_any _ x.op (Oper'.zero 0) (.slice ea x.op.edits.length ec) nilS HR1.out (Row.nil Nothing _)).mono ?_
            rintro e w5 ⟨rfl, hu5⟩
            rw [show eqB x.op (Oper'.zero 0) = true from by rw [HZ.out, eqB_self]]
            have HX5 := Lib.hid (HX.out.trans (HAL.out.trans hu5))
            have hb5 := hu5.at_ HNB.out id
            obtain ⟨n0, n1, n2, n3, n4, n5, n6, n7, n8, n9, n10, n11, n12, n13⟩ := blk_cells hb5
            clear hu5 hb5 p0 p1 p2 p3 p4 p5 p6 p7 p8 p9 p10 p11 p12 p13 z0 z1 z2 z3
            go_wp2
            go_roundw
            case rel => exact ⟨k + 1, by omega, by go_num, HX5.out⟩
            case measure => simp [intOf]; omega
      · have hle : evs.length ≤ k := by omega
        have hnl : ¬ (k : Int) < (evs.length : Int) := by omega
        clear hlt
        go_wp2_with (go_at_call 17; fail)
        refine (write_any wr ⟨cn, cs, cb, ce⟩ _ evs (EvsRow.till (HOB.out.ext HX.out)) HWF.out HCW.out HCAP.out).mono ?_
        rintro e w5 ⟨hw, hu5⟩
        rw [HBS.out] at hw
        rcases hw with ⟨hbad, -⟩ | ⟨-, hbig, -⟩ | ⟨-, hbl, vb, rfl, hb5⟩
        · cases hbad
        · have := HBL.out; dsimp only at hbig; omega
        · dsimp only at hbl hb5
          have hb5' := hb5
          obtain ⟨a5, c5, rfl, hn5, hm5, -⟩ := hb5'
          unfold maxLen at hm5
          have HB5 := Lib.hid hb5
          have HZB5 := Lib.hid (hu5.at_ HZB.out id)
          have HX5 := Lib.hid (HX.out.trans hu5)
          clear hu5 hb5 z0 z1 z2 z3
          go_wp2_with (go_at_call 10; fail)
          refine (read_any w5 _ bs HB5.out (fun k hk => hk.2) hbl).mono ?_
          rintro e w6 ⟨v6, rfl, ho6, hu6⟩
          rw [HRR.out] at ho6 ⊢
          obtain ⟨hn6, ⟨a6, c6, rfl, hn6c, hm6⟩, -⟩ := (EvsRow.of_owns ho6).at_
          unfold maxLen at hn6 hm6
          obtain ⟨wc, hwc⟩ : ∃ wc, wc = w6.alloc (.cells #[.int .i64 cn, .int .u64 cs, .int .i64 cb, .int .i64 ce] 31) := ⟨_, rfl⟩
          have hxc : Ext w6 wc := by rw [hwc]; exact (Upd.refl _ _).alloc _
          have hbc : wc.heap[w6.heap.size]? = some (.cells (cfgCells ⟨cn, cs, cb, ce⟩) 31 (0, 0)) := by rw [hwc]; exact newAt _ _
          have HWC := Lib.hid hwc
          have HOC := Lib.hid (ho6.ext hxc)
          have HXC := Lib.hid (HX5.out.trans (hu6.trans hxc))
          have HBC := Lib.hid hbc
          have HB5c := Lib.hid (HB5.out.ext (hu6.trans hxc))
          have HZBc := Lib.hid ((hu6.trans hxc).at_ HZB5.out id)
          clear ho6 hu6 hxc hwc hbc
          unfold cfgCells
          go_wp2_with fail
          rw [show w6.alloc (.cells #[.int .i64 cn, .int .u64 cs, .int .i64 cb, .int .i64 ce] 31) = wc from HWC.out.symm]
          generalize w6.heap.size = gc at HBC ⊢
          refine (write_any wc ⟨cn, cs, cb, ce⟩ _ evs (EvsRow.till HOC.out) HWF.out HCW.out HCAP.out).mono ?_
          rintro e w7 ⟨hw, hu7⟩
          rw [HBS.out] at hw
          rcases hw with ⟨hbad, -⟩ | ⟨-, hbig, -⟩ | ⟨-, hbl2, vc, rfl, hb7⟩
          · cases hbad
          · have := HBL.out; dsimp only at hbig; omega
          · dsimp only at hbl2 hb7
            have hb7' := hb7
            obtain ⟨a7, c7, rfl, hn7, hm7, -⟩ := hb7'
            have HB7 := Lib.hid hb7
            have HX7 := Lib.hid (HXC.out.trans hu7)
            have HO7 := Lib.hid (HOC.out.ext hu7)
            have HB57 := Lib.hid (HB5c.out.ext hu7)
            obtain ⟨z0, z1, z2, z3⟩ := cfg_parts' (hu7.at_ HZBc.out id)
            obtain ⟨y0, y1, y2, y3⟩ := cfg_parts' (hu7.at_ HBC.out id)
            clear hu7 hb7 hm7
            go_wp2_with (go_at_call 13; fail)
            refine (refs_any w7 _ evs (EvsRow.of_owns HO7.out) (by have := HFEW.out.1; omega) HFEW.out.2).mono ?_
            rintro e w8 ⟨v8, rfl, ho8, hu8⟩
            obtain ⟨-, ⟨a8, c8, rfl, -, -⟩, -⟩ := (EvsRow.of_rowns ho8).at_
            clear z0 z1 z2 z3 y0 y1 y2 y3
            have HR8 := Lib.hid (EvsRow.of_rowns ho8)
            have HX8 := Lib.hid (HX7.out.trans hu8)
            have HB8 := Lib.hid (HB7.out.ext hu8)
            have HB58 := Lib.hid (HB57.out.ext hu8)
            clear ho8 hu8
            go_wp2_with (go_at_call 13; fail)
            refine (refs_any w8 _ evs (EvsRow.of_owns (HOB.out.ext HX8.out)) (by have := HFEW.out.1; omega) HFEW.out.2).mono ?_
            rintro e w9 ⟨v9, rfl, ho9, hu9⟩
            obtain ⟨-, ⟨a9, c9, rfl, -, -⟩, -⟩ := (EvsRow.of_rowns ho9).at_
            have HR9 := Lib.hid (EvsRow.of_rowns ho9)
            have HR89 := Lib.hid (HR8.out.ext hu9)
            have HX9 := Lib.hid (HX8.out.trans hu9)
            have HB9 := Lib.hid (HB8.out.ext hu9)
            have HB59 := Lib.hid (HB58.out.ext hu9)
            clear ho9 hu9
            go_wp2_with (go_at_call 12; fail)
            refine (lsame_any w9 _ _ evs evs HR89.out HR9.out).mono ?_
            rintro e w10 ⟨rfl, hu10⟩
            rw [eqB_self]
            have HX10 := Lib.hid (HX9.out.trans hu10)
            have HB10 := Lib.hid (HB9.out.ext hu10)
            have HB510 := Lib.hid (HB59.out.ext hu10)
            clear hu10
            go_wp2_with (go_at_call 14; fail)
            refine (sameBytes_any w10 _ _ bs bs HB10.out HB510.out).mono ?_
            rintro e w11 ⟨rfl, hu11⟩
            rw [beq_self_eq_true]
            have HX11 := Lib.hid (HX10.out.trans hu11)
            clear hu11
            go_wp2_with (go_at_call 7; fail)
            refine (works_any w11).mono ?_
            rintro e w12 ⟨rfl, hu12⟩
            go_wp2
            go_ret
            exact ⟨rfl, HXB.out.trans (HX11.out.trans hu12)⟩
  · have hlt : (1500 : Int) < (l.length : Int) := by omega
    go_wp2_with (go_at_call 7; fail)
    refine (works_any w).mono ?_
    rintro e w1 ⟨rfl, hu⟩
    go_wp2
    go_ret
    exact ⟨rfl, hu⟩
end Go.Proofs.Ytlhpcgmbbeihiaa
