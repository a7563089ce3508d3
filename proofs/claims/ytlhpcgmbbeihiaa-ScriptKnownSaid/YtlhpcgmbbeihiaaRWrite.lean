/-
  CONTRACT of the reference's Write: of at most 60 events of few bytes it answers what the plain function tells.
-/
import Derived.Test.YtlhpcgmbbeihiaaGuess
import Derived.Test.YtlhpcgmbbeihiaaGWlaw
import Derived.Test.YtlhpcgmbbeihiaaGIn
import Derived.Test.YtlhpcgmbbeihiaaWr10
namespace Go.Proofs.Ytlhpcgmbbeihiaa
open Go.RowKit

theorem few_cap {x : Ev} (h : FewEv x) : smallCap x.op ≤ 3000 ∧ esum x.op.edits ≤ 2040 := by
  obtain ⟨h1, h2, h3, h4, -, h6⟩ := h
  have key : ∀ l : List Edit, (∀ e ∈ l, e.text.length ≤ 100) → esum l ≤ 102 * l.length := by
    intro l; induction l with
    | nil => intro _; simp [esum]
    | cons e l ih =>
      intro hh
      have := ih (fun y hy => hh y (by simp [hy]))
      have h0 := hh e (by simp)
      simp only [esum, List.map_cons, List.sum_cons, List.length_cons] at this ⊢; omega
  have := key _ h6
  unfold smallCap; omega
theorem guess_len {x : Ev} (h : FewEv x) : (guessF x).length ≤ 13000 := by
  have hc := (few_cap h).1
  have h1 := smallParts_len x.op (partsF x.op.kind.toNat)
  unfold guessF
  repeat' split
  all_goals simp
  have hr := (opRight_blank ‹opRight x.op = true›).1
  have h2 : (partsF x.op.kind.toNat).length ≤ 4 := partsLen _ (by omega)
  have h3 := Nat.mul_le_mul_right (smallCap x.op) h2
  unfold smallF; rw [List.length_cons]; omega
theorem guesses_len (l : List Ev) (h : ∀ x ∈ l, FewEv x) : (guesses l).length ≤ 13000 * l.length := by
  induction l with
  | nil => simp [guesses]
  | cons x l ih =>
    have h1 := ih (fun y hy => h y (by simp [hy]))
    have h2 := guess_len (h x (by simp))
    simp only [guesses, List.map_cons, List.flatten_cons, List.length_append, List.length_cons] at h1 ⊢
    omega
def RWPost (c : Cfg) (l : List Ev) (w : World) (e : Ending) (w' : World) : Prop := WroteAs w.heap.size (writeF c l) e w' ∧ Ext w w'
theorem rw_bad {c : Cfg} {l : List Ev} {w w' : World} (h : (writeF c l).2 = true) (hu : Ext w w') : RWPost c l w (.returned (.tuple #[.slice none 0 0, .int .i64 2])) w' := ⟨.inl ⟨h, rfl⟩, hu⟩

set_option maxRecDepth 100000 in
set_option maxHeartbeats 4000000 in
theorem rwrite_any {S : Nat → Prop} (w : World) (c : Cfg) (v : Value) (l : List Ev) (h : EvsRow S w v l) (hin : ∀ x ∈ l, EvIn x) (hc : CfgWf c) (hs : 0 ≤ c.slack) (hl : l.length ≤ 60) (hfew : ∀ x ∈ l, FewEv x) :
    Calls Try.prog 19 #[.agg (cfgCells c), v] w (RWPost c l w) := by
  obtain ⟨cn, cs, cb, ce⟩ := c
  obtain ⟨n0, n1, b0, b1, e0, e1⟩ := hc
  dsimp only at n0 n1 b0 b1 e0 e1 hs
  obtain ⟨hml, ⟨a, cc, rfl, hn, hm⟩, hat⟩ := h.at_
  unfold maxLen at hm hml
  obtain ⟨t0, t1⟩ := tdiv16 b0 b1
  have HAT := Lib.hid hat
  have HIN := Lib.hid hin
  have HFEW := Lib.hid hfew
  obtain ⟨wb, hwb⟩ : ∃ wb, wb = (w.alloc (.cells #[.int .i64 cn, .int .u64 cs, .int .i64 cb, .int .i64 ce] 27)).alloc (.cells #[.int .u8 (wrap64 (cn - 1) % 256), .int .u8 (cs % 256), .int .u8 (wrap64 (cb.tdiv 16 - 1) % 256), .int .u8 (wrap64 (ce - 1) % 256)] 5) := ⟨_, rfl⟩
  have hub : Ext w wb := by rw [hwb]; exact ((Upd.refl _ _).alloc _).alloc _
  have HBB := Lib.hid (show wb.heap[w.heap.size]? = some (.cells #[.int .i64 cn, .int .u64 cs, .int .i64 cb, .int .i64 ce] 27 (0, 0)) from by rw [hwb]; exact ((Upd.refl Nothing _).alloc _).at_ (newAt _ _) id)
  have hob : wb.ownsRow w.heap.size 5 1 (.slice (some ⟨w.heap.size + 1, 0, none⟩) 4 4) 4 ((out0 ⟨cn, cs, cb, ce⟩).map u8) := by
    have := own_lit (w.alloc (.cells #[.int .i64 cn, .int .u64 cs, .int .i64 cb, .int .i64 ce] 27)) #[.int .u8 (wrap64 (cn - 1) % 256), .int .u8 (cs % 256), .int .u8 (wrap64 (cb.tdiv 16 - 1) % 256), .int .u8 (wrap64 (ce - 1) % 256)] 5 4 w.heap.size (w.heap.size + 1) (by decide) rfl (by simp) (by simp)
    rw [← hwb] at this
    simpa only [out0, List.map_cons, List.map_nil, byteOne, wrapByte n0 n1, wrapByte t0 t1, wrapByte e0 e1] using this
  have HOB := Lib.hid hob
  have HUB := Lib.hid hub
  have HWB := Lib.hid hwb
  have HRB := Lib.hid (show Bytes (From w.heap.size) wb (.slice (some ⟨w.heap.size + 1, 0, none⟩) 4 4) (out0 ⟨cn, cs, cb, ce⟩) from Row.of_owns hob)
  clear h hat hin hfew hub hwb hob
  simp only [cfgCells]
  go_enter Try.func19, Try.ntmps19
  go_wp2_with (go_at_call 9; fail)
  rw [show (w.alloc (.cells #[.int .i64 cn, .int .u64 cs, .int .i64 cb, .int .i64 ce] 27)).alloc (.cells #[.int .u8 (wrap64 (cn - 1) % 256), .int .u8 (cs % 256), .int .u8 (wrap64 (cb.tdiv 16 - 1) % 256), .int .u8 (wrap64 (ce - 1) % 256)] 5) = wb from HWB.out.symm]
  refine (rread_any wb _ (out0 ⟨cn, cs, cb, ce⟩) HRB.out (by simp [out0])).mono ?_
  rintro e w1 ⟨v1, rfl, ho1, hu1⟩
  obtain ⟨-, ⟨a1, c1, rfl, -, -⟩, -⟩ := (EvsRow.of_rowns ho1).at_
  rw [readF_out0]
  obtain ⟨cf, hcf⟩ : ∃ cf, cf = cfgF (out0 ⟨cn, cs, cb, ce⟩) := ⟨_, rfl⟩
  rw [← hcf]
  obtain ⟨wc, hwc⟩ : ∃ wc, wc = w1.alloc (.cells #[.int .i64 cf.n, .int .u64 cf.slack, .int .i64 cf.bytes, .int .i64 cf.entries] 27) := ⟨_, rfl⟩
  have huc : Ext w1 wc := by rw [hwc]; exact (Upd.refl _ _).alloc _
  have HUC := Lib.hid (HUB.out.trans (hu1.trans huc))
  have HOC := Lib.hid ((hu1.trans huc).ownsRow HOB.out (fun _ _ e => e))
  have hbc := (hu1.trans huc).at_ HBB.out id
  have hcc : wc.heap[w1.heap.size]? = some (.cells #[.int .i64 cf.n, .int .u64 cf.slack, .int .i64 cf.bytes, .int .i64 cf.entries] 27 (0, 0)) := by rw [hwc]; exact newAt _ _
  have HWC := Lib.hid hwc
  have HCF := Lib.hid hcf
  have HU1 := Lib.hid (HUB.out.trans hu1)
  have HBC := Lib.hid hbc
  have HCC := Lib.hid hcc
  have hlt1 : w.heap.size < w1.heap.size := by have := lt_of_heap HBB.out; have := hu1.size; omega
  have hb1 := hu1.at_ HBB.out id
  have z0 := cellAt hb1 0 (.int .i64 cn) rfl
  have z1 := cellAt hb1 1 (.int .u64 cs) rfl
  have z2 := cellAt hb1 2 (.int .i64 cb) rfl
  have z3 := cellAt hb1 3 (.int .i64 ce) rfl
  clear ho1 hu1 huc hwc hcf hbc hcc hb1
  unfold cfgCells
  by_cases hcq : cfgF (out0 ⟨cn, cs, cb, ce⟩) = ⟨cn, cs, cb, ce⟩
  case neg =>
    have HNQ := Lib.hid (show ∀ w', Ext w w' → RWPost ⟨cn, cs, cb, ce⟩ l w (.returned (.tuple #[.slice none 0 0, .int .i64 2])) w' from fun w' hu => rw_bad (write_bad hs hcq l) hu)
    have hne : ¬ cf.n = cn ∨ (cf.n = cn ∧ ¬ cf.slack = cs) ∨ (cf.n = cn ∧ cf.slack = cs ∧ ¬ cf.bytes = cb) ∨ (cf.n = cn ∧ cf.slack = cs ∧ cf.bytes = cb ∧ ¬ cf.entries = ce) := by
      by_cases a1 : cf.n = cn
      · by_cases a2 : cf.slack = cs
        · by_cases a3 : cf.bytes = cb
          · by_cases a4 : cf.entries = ce
            · exfalso; apply hcq; rw [← HCF.out]; obtain ⟨f1, f2, f3, f4⟩ := cf; dsimp only at a1 a2 a3 a4; rw [a1, a2, a3, a4]
            · exact .inr (.inr (.inr ⟨a1, a2, a3, a4⟩))
          · exact .inr (.inr (.inl ⟨a1, a2, a3⟩))
        · exact .inr (.inl ⟨a1, a2⟩)
      · exact .inl a1
    clear hcq
    rcases hne with a1 | ⟨a1, a2⟩ | ⟨a1, a2, a3⟩ | ⟨a1, a2, a3, a4⟩
    all_goals
      go_wp2
      go_ret2
      exact HNQ.out _ (HU1.out.alloc _)
  have hcn := cfgF_n hcq
  dsimp only at hcn
  obtain ⟨n, hnn⟩ : ∃ n : Nat, cn = n := ⟨cn.toNat, by omega⟩
  subst hnn
  have HQ := Lib.hid hcq
  rw [hcq] at HCF
  have hcf2 := HCF.out
  subst hcf2
  clear hcq HCF
  dsimp only at HWC HCC
  go_wp2
  rw [show w1.alloc (.cells #[.int .i64 (n : Int), .int .u64 cs, .int .i64 cb, .int .i64 ce] 27) = wc from HWC.out.symm]
  have HLT1 := Lib.hid hlt1
  clear z0 z1 z2 z3 hlt1 HUB HOB HWB HRB HBB HU1 HWC HCC
  generalize w1.heap.size = g1
  go_loopw [6, 9] (fun ou i wr => ∃ k : Nat, k ≤ l.length ∧ i = .int .i64 k ∧ Ext w wr ∧ wr.heap[w.heap.size]? = some (.cells #[.int .i64 (n : Int), .int .u64 cs, .int .i64 cb, .int .i64 ce] 27 (0, 0)) ∧ (∀ x ∈ l.take k, okEv n x) ∧ wr.ownsRow w.heap.size 5 1 ou (out0 ⟨n, cs, cb, ce⟩ ++ guesses (l.take k)).length ((out0 ⟨n, cs, cb, ce⟩ ++ guesses (l.take k)).map u8))
    (fun _ i _ => l.length - (intOf i).toNat)
  case atStart => exact ⟨0, Nat.zero_le _, rfl, HUC.out, HBC.out, fun x hx => by simp at hx, by simpa [guesses, out0] using HOC.out⟩
  case round =>
    obtain ⟨k, hk, rfl, hx, hbr, hok, hown⟩ := hrel
    have HX := Lib.hid hx
    have HBR := Lib.hid hbr
    have HOK := Lib.hid hok
    have HOW := Lib.hid hown
    have hgl : (guesses (l.take k)).length ≤ 13000 * 60 := by
      have h1 := guesses_len (l.take k) (fun x hx => HFEW.out x (List.mem_of_mem_take hx))
      have h2 : (l.take k).length ≤ 60 := by rw [List.length_take]; omega
      omega
    have hol : (out0 ⟨n, cs, cb, ce⟩).length = 4 := rfl
    obtain ⟨acc, hacc⟩ : ∃ acc, acc = out0 ⟨n, cs, cb, ce⟩ ++ guesses (l.take k) := ⟨_, rfl⟩
    have hal : acc.length ≤ 4 + 13000 * 60 := by rw [hacc, List.length_append]; omega
    rw [← hacc] at HOW
    have HACC := Lib.hid hacc
    obtain ⟨oa, on, oc, rfl⟩ := ownsForm HOW.out
    clear hx hbr hok hown hgl hol hacc
    by_cases hlt : k < l.length
    case neg =>
      have hkl : k = l.length := by omega
      have HFIN := Lib.hid (show writeF ⟨n, cs, cb, ce⟩ l = (acc, false) from by
        have hall : ∀ x ∈ l, okEv n x := by have := HOK.out; rwa [hkl, List.take_length] at this
        rw [write_ok hs HQ.out rfl l (fun x hx => ⟨(HIN.out x hx).op.nat, (HIN.out x hx).by_⟩) hall, HACC.out, hkl, List.take_length])
      clear hkl
      obtain ⟨_, c2, e2, hon, hom, -⟩ := Row.of_owns HOW.out
      cases e2
      unfold maxLen at hom
      by_cases hbig : 65536 < acc.length
      · have hqb : (65536 : Int) < (acc.length : Int) := by omega
        go_wp2
        go_ret2
        exact ⟨by rw [HFIN.out]; exact .inr (.inl ⟨rfl, hbig, rfl⟩), HX.out⟩
      · have hqb : ¬ (65536 : Int) < (acc.length : Int) := by omega
        go_wp2
        go_ret2
        exact ⟨by rw [HFIN.out]; exact .inr (.inr ⟨rfl, Nat.le_of_not_lt hbig, _, rfl, row_in HOW.out⟩), HX.out⟩
    obtain ⟨b, o, c', e1, k1, q1, -, hra, hr1, hr2⟩ := HAT.out k hlt
    cases q1
    have hfx := HFEW.out l[k] (List.getElem_mem hlt)
    have hix := HIN.out l[k] (List.getElem_mem hlt)
    have HSN := Lib.hid (guesses_snoc hlt)
    have HNO := Lib.hid (show ¬ okEv n l[k] → (writeF ⟨n, cs, cb, ce⟩ l).2 = true from fun hno => write_no hs HQ.out rfl l (fun x hx => ⟨(HIN.out x hx).op.nat, (HIN.out x hx).by_⟩) hlt HOK.out hno)
    have HYES := Lib.hid (show okEv n l[k] → ∀ x ∈ l.take (k + 1), okEv n x from fun hy x hx => by
      rw [List.take_succ_eq_append_getElem hlt] at hx
      rcases List.mem_append.1 hx with hx | hx
      · exact HOK.out x hx
      · simp at hx; subst hx; exact hy)
    obtain ⟨x, hxq⟩ : ∃ x, x = l[k] := ⟨_, rfl⟩
    rw [← hxq] at hra hr1 hr2 hfx hix HSN HNO HYES
    have hra' : World.rangeAt _ b (o + k * 14) (evCells x e1 k1).toList := fun j u hj => HX.out.cell (hra j u hj) id
    have HRA := Lib.hid hra'
    have HR1 := Lib.hid (hr1.ext HX.out)
    have HR2 := Lib.hid (hr2.ext HX.out)
    have HIX := Lib.hid hix
    have HFX := Lib.hid hfx
    clear hra hra' hr1 hr2 hxq hix
    have hgx := guess_len hfx
    have hcx := (few_cap hfx).1
    clear hfx
    go_wp2_with (first | (refine wpList_load_mid rfl _ _ rfl b (o + k * 14) rfl (evCells x e1 k1).toList _ HRA.out Try.underlying61 rfl (by kernel_rfl) ?_) | (go_at_call 37; fail))
    refine (guess_any _ x e1 k1 HR1.out HR2.out HIX.out.kind.1 HIX.out.kind.2 (fun e he => (HIX.out.op.edits e he).1) HIX.out.op.kind.1 (by omega)).mono ?_
    rintro e w2 ⟨vg, Sg, rfl, hg, hu2⟩
    have HG := Lib.hid hg
    obtain ⟨ga, gc, rfl, hgn, hgm, -⟩ := hg
    unfold maxLen at hgm
    have HX2 := Lib.hid (HX.out.trans hu2)
    have y0 := hu2.cell (cellAt HBR.out 0 (.int .i64 (n : Int)) rfl) id
    have HB2 := Lib.hid (hu2.at_ HBR.out id)
    have HO2 := Lib.hid (hu2.ownsRow HOW.out (fun _ _ e => e))
    have HU2 := Lib.hid hu2
    clear hu2
    go_wp2_with (go_at_call 25; fail)
    have hn1 : 1 ≤ n := by omega
    have hn2 : n ≤ 64 := by omega
    refine (revent_any _ _ (guessF x) HG.out 0 0 n rfl hn1 hn2 (by omega)).mono ?_
    rintro e w3 ⟨ve, vk, rfl, hu3, ho3, hp3⟩
    rw [List.drop_zero] at ho3 hp3 ⊢
    rw [Nat.zero_add]
    have HOKX := Lib.hid (show okEv n x ↔ (eventF n (guessF x)).1 = x ∧ (eventF n (guessF x)).2 = (guessF x).length from ⟨fun h => ⟨congrArg Prod.fst h, congrArg Prod.snd h⟩, fun h => Prod.ext h.1 h.2⟩)
    obtain ⟨y, hy⟩ : ∃ y, y = (eventF n (guessF x)).1 := ⟨_, rfl⟩
    obtain ⟨m, hm2⟩ : ∃ m, m = (eventF n (guessF x)).2 := ⟨_, rfl⟩
    rw [← hy, ← hm2] at HOKX
    rw [← hy] at ho3 hp3 ⊢
    rw [← hm2]
    clear hy hm2
    obtain ⟨sa, sn, sc, rfl⟩ := ownsForm ho3
    obtain ⟨ta, tn, tc, rfl⟩ := ownsForm hp3
    obtain ⟨_, sc', e3, -⟩ := Row.of_owns ho3
    cases e3
    obtain ⟨_, tc', e4, -⟩ := Row.of_owns hp3
    cases e4
    obtain ⟨wd, hwd⟩ : ∃ wd, wd = w3.alloc (.cells (evCells y (.slice sa y.op.edits.length sc) (.slice ta y.keep.length tc)) 61) := ⟨_, rfl⟩
    have hud : Ext w3 wd := by rw [hwd]; exact (Upd.refl _ _).alloc _
    have HXD := Lib.hid ((HU2.out.trans hu3).trans hud)
    have HXA := Lib.hid (HX.out.trans HXD.out)
    have hbd : wd.heap[w3.heap.size]? = some (.cells (evCells y (.slice sa y.op.edits.length sc) (.slice ta y.keep.length tc)) 61 (0, 0)) := by rw [hwd]; exact newAt _ _
    have HOD := Lib.hid ((hu3.trans hud).ownsRow HO2.out (fun _ _ e => e))
    have HBC2 := Lib.hid ((hu3.trans hud).at_ HB2.out id)
    have HGD := Lib.hid (HG.out.ext (hu3.trans hud))
    have SY := Lib.hid (Row.of_owns (hud.ownsRow ho3 (fun _ _ e => e)))
    have TY := Lib.hid (Row.of_owns (hud.ownsRow hp3 (fun _ _ e => e)))
    have SX := Lib.hid (HR1.out.ext HXD.out)
    have TX := Lib.hid (HR2.out.ext HXD.out)
    have HWD := Lib.hid hwd
    clear hu3 ho3 hp3 hud hwd y0 HG HU2 HO2 HB2
    unfold evCells
    go_wp2_with fail
    rw [show w3.alloc (.cells #[.int .u8 y.kind, .int .i64 y.proc, .int .u8 y.op.kind, .int .u64 y.op.doc, str y.op.name, str y.op.to, str y.op.text, .slice sa y.op.edits.length sc, .int .u64 y.op.epoch, .int .u64 y.op.version, .int .u64 y.op.dur, .int .u64 y.by_, .int .i64 y.ops, .slice ta y.keep.length tc] 61) = wd from HWD.out.symm]
    clear HWD
    generalize w3.heap.size = g at hbd ⊢
    by_cases hml2 : m = (guessF x).length
    case neg =>
      have hqm : ((m : Int) != ((guessF x).length : Int)) = true := by simp; omega
      have HNM := Lib.hid hml2
      clear hml2 hbd
      go_quiet (fail)
      go_wp2
      go_ret2
      exact rw_bad (HNO.out (fun h => HNM.out (HOKX.out.1 h).2)) (by first | exact HXA.out | exact HXA.out.drew | exact HXA.out.drewN _)
    · have hqm : ((m : Int) != ((guessF x).length : Int)) = false := by simp; omega
      have HNM := Lib.hid hml2
      clear hml2
      have p0 := cellAt hbd 0 (.int .u8 y.kind) rfl
      have p1 := cellAt hbd 1 (.int .i64 y.proc) rfl
      have p2 := cellAt hbd 2 (.int .u8 y.op.kind) rfl
      have p3 := cellAt hbd 3 (.int .u64 y.op.doc) rfl
      have p4 := cellAt hbd 4 (str y.op.name) rfl
      have p5 := cellAt hbd 5 (str y.op.to) rfl
      have p6 := cellAt hbd 6 (str y.op.text) rfl
      have p7 := cellAt hbd 7 ((.slice sa y.op.edits.length sc)) rfl
      have p8 := cellAt hbd 8 (.int .u64 y.op.epoch) rfl
      have p9 := cellAt hbd 9 (.int .u64 y.op.version) rfl
      have p10 := cellAt hbd 10 (.int .u64 y.op.dur) rfl
      have p11 := cellAt hbd 11 (.int .u64 y.by_) rfl
      have p12 := cellAt hbd 12 (.int .i64 y.ops) rfl
      have p13 := cellAt hbd 13 ((.slice ta y.keep.length tc)) rfl
      have q0 := HXD.out.cell (a := ⟨b, o + k * 14, none⟩) (v := .int .u8 x.kind) (HRA.out 0 _ rfl) id
      have q1 := HXD.out.cell (a := ⟨b, o + k * 14 + 1, none⟩) (v := .int .i64 x.proc) (HRA.out 1 _ rfl) id
      have q2 := HXD.out.cell (a := ⟨b, o + k * 14 + 2, none⟩) (v := .int .u8 x.op.kind) (HRA.out 2 _ rfl) id
      have q3 := HXD.out.cell (a := ⟨b, o + k * 14 + 3, none⟩) (v := .int .u64 x.op.doc) (HRA.out 3 _ rfl) id
      have q4 := HXD.out.cell (a := ⟨b, o + k * 14 + 4, none⟩) (v := str x.op.name) (HRA.out 4 _ rfl) id
      have q5 := HXD.out.cell (a := ⟨b, o + k * 14 + 5, none⟩) (v := str x.op.to) (HRA.out 5 _ rfl) id
      have q6 := HXD.out.cell (a := ⟨b, o + k * 14 + 6, none⟩) (v := str x.op.text) (HRA.out 6 _ rfl) id
      have q7 := HXD.out.cell (a := ⟨b, o + k * 14 + 7, none⟩) (v := e1) (HRA.out 7 _ rfl) id
      have q8 := HXD.out.cell (a := ⟨b, o + k * 14 + 8, none⟩) (v := .int .u64 x.op.epoch) (HRA.out 8 _ rfl) id
      have q9 := HXD.out.cell (a := ⟨b, o + k * 14 + 9, none⟩) (v := .int .u64 x.op.version) (HRA.out 9 _ rfl) id
      have q10 := HXD.out.cell (a := ⟨b, o + k * 14 + 10, none⟩) (v := .int .u64 x.op.dur) (HRA.out 10 _ rfl) id
      have q11 := HXD.out.cell (a := ⟨b, o + k * 14 + 11, none⟩) (v := .int .u64 x.by_) (HRA.out 11 _ rfl) id
      have q12 := HXD.out.cell (a := ⟨b, o + k * 14 + 12, none⟩) (v := .int .i64 x.ops) (HRA.out 12 _ rfl) id
      have q13 := HXD.out.cell (a := ⟨b, o + k * 14 + 13, none⟩) (v := k1) (HRA.out 13 _ rfl) id
      go_region_held3 (fun w' => w'.cell? ⟨g, 0, none⟩ = some (.int .u8 y.kind) ∧ w'.cell? ⟨g, 1, none⟩ = some (.int .i64 y.proc) ∧ w'.cell? ⟨g, 2, none⟩ = some (.int .u8 y.op.kind) ∧ w'.cell? ⟨g, 3, none⟩ = some (.int .u64 y.op.doc) ∧ w'.cell? ⟨g, 4, none⟩ = some (str y.op.name) ∧ w'.cell? ⟨g, 5, none⟩ = some (str y.op.to) ∧ w'.cell? ⟨g, 6, none⟩ = some (str y.op.text) ∧ w'.cell? ⟨g, 7, none⟩ = some ((.slice sa y.op.edits.length sc)) ∧ w'.cell? ⟨g, 8, none⟩ = some (.int .u64 y.op.epoch) ∧ w'.cell? ⟨g, 9, none⟩ = some (.int .u64 y.op.version) ∧ w'.cell? ⟨g, 10, none⟩ = some (.int .u64 y.op.dur) ∧ w'.cell? ⟨g, 11, none⟩ = some (.int .u64 y.by_) ∧ w'.cell? ⟨g, 12, none⟩ = some (.int .i64 y.ops) ∧ w'.cell? ⟨g, 13, none⟩ = some ((.slice ta y.keep.length tc)) ∧ w'.cell? ⟨b, o + k * 14, none⟩ = some (.int .u8 x.kind) ∧ w'.cell? ⟨b, o + k * 14 + 1, none⟩ = some (.int .i64 x.proc) ∧ w'.cell? ⟨b, o + k * 14 + 2, none⟩ = some (.int .u8 x.op.kind) ∧ w'.cell? ⟨b, o + k * 14 + 3, none⟩ = some (.int .u64 x.op.doc) ∧ w'.cell? ⟨b, o + k * 14 + 4, none⟩ = some (str x.op.name) ∧ w'.cell? ⟨b, o + k * 14 + 5, none⟩ = some (str x.op.to) ∧ w'.cell? ⟨b, o + k * 14 + 6, none⟩ = some (str x.op.text) ∧ w'.cell? ⟨b, o + k * 14 + 7, none⟩ = some (e1) ∧ w'.cell? ⟨b, o + k * 14 + 8, none⟩ = some (.int .u64 x.op.epoch) ∧ w'.cell? ⟨b, o + k * 14 + 9, none⟩ = some (.int .u64 x.op.version) ∧ w'.cell? ⟨b, o + k * 14 + 10, none⟩ = some (.int .u64 x.op.dur) ∧ w'.cell? ⟨b, o + k * 14 + 11, none⟩ = some (.int .u64 x.by_) ∧ w'.cell? ⟨b, o + k * 14 + 12, none⟩ = some (.int .i64 x.ops) ∧ w'.cell? ⟨b, o + k * 14 + 13, none⟩ = some (k1)) (first | go_keep | exact ⟨s0, s1, s2, s3, s4, s5, s6, s7, s8, s9, s10, s11, s12, s13, s14, s15, s16, s17, s18, s19, s20, s21, s22, s23, s24, s25, s26, s27⟩)
        ((go_at_call 23; refine (rsame_any _ y x (.slice sa y.op.edits.length sc) e1 (.slice ta y.keep.length tc) k1 (SY.out.ext (Upd.refl _ _).drew) (SX.out.ext (Upd.refl _ _).drew) (TY.out.ext (Upd.refl _ _).drew) (TX.out.ext (Upd.refl _ _).drew)).mono ?_; rintro e w6 ⟨rfl, hu⟩; have hw1 : Ext wd w6 := (((Upd.refl _ wd).drew).trans hu); have s0 := hw1.cell p0 (fun e => e); have s1 := hw1.cell p1 (fun e => e); have s2 := hw1.cell p2 (fun e => e); have s3 := hw1.cell p3 (fun e => e); have s4 := hw1.cell p4 (fun e => e); have s5 := hw1.cell p5 (fun e => e); have s6 := hw1.cell p6 (fun e => e); have s7 := hw1.cell p7 (fun e => e); have s8 := hw1.cell p8 (fun e => e); have s9 := hw1.cell p9 (fun e => e); have s10 := hw1.cell p10 (fun e => e); have s11 := hw1.cell p11 (fun e => e); have s12 := hw1.cell p12 (fun e => e); have s13 := hw1.cell p13 (fun e => e); have s14 := hw1.cell q0 (fun e => e); have s15 := hw1.cell q1 (fun e => e); have s16 := hw1.cell q2 (fun e => e); have s17 := hw1.cell q3 (fun e => e); have s18 := hw1.cell q4 (fun e => e); have s19 := hw1.cell q5 (fun e => e); have s20 := hw1.cell q6 (fun e => e); have s21 := hw1.cell q7 (fun e => e); have s22 := hw1.cell q8 (fun e => e); have s23 := hw1.cell q9 (fun e => e); have s24 := hw1.cell q10 (fun e => e); have s25 := hw1.cell q11 (fun e => e); have s26 := hw1.cell q12 (fun e => e); have s27 := hw1.cell q13 (fun e => e)))
      rename_i hHeld
      clear p0 p1 p2 p3 p4 p5 p6 p7 p8 p9 p10 p11 p12 p13 q0 q1 q2 q3 q4 q5 q6 q7 q8 q9 q10 q11 q12 q13 s0 s1 s2 s3 s4 s5 s6 s7 s8 s9 s10 s11 s12 s13 s14 s15 s16 s17 s18 s19 s20 s21 s22 s23 s24 s25 s26 s27 hHeld
      have HX6 := Lib.hid (HXA.out.trans hw1)
      have HO6 := Lib.hid (hw1.ownsRow HOD.out (fun _ _ e => e))
      have HG6 := Lib.hid (HGD.out.ext hw1)
      have HB6 := Lib.hid (hw1.at_ HBC2.out id)
      have hsz := HX6.out.size
      have hlb := lt_of_heap HB6.out
      have HNB := Lib.hid (show ∀ g, (Value.slice oa on oc).ownBlock = some g → ¬ g = w.heap.size from fun g hg e => by subst e; obtain ⟨cur, hc⟩ := owns_tag HO6.out hg; exact tag_ne HB6.out (by decide) hc)
      clear hu hw1
      go_wp2_with (at_builtin; go_must (refine wpList_append_row rfl _ _ _ rfl Try.bytesT rfl HO6.out rfl HG6.out (by simp) (u8_one _) ?c3 ?c4 ?c5 ?_))
      case c3 => unfold maxLen; omega
      case c4 => omega
      case c5 => omega
      · rename_i hq
        have HNE := Lib.hid (show ¬ okEv n x from fun h => by rw [(HOKX.out.1 h).1, eqB_self] at hq; cases hq)
        clear hq
        go_ret2
        exact rw_bad (HNO.out HNE.out) HX6.out
      · rename_i hq
        have hyx : y = x := by
          by_cases e : y = x
          · exact e
          · rw [eqB_ne e] at hq; cases hq
        have HYX := Lib.hid (show okEv n x from HOKX.out.2 ⟨hyx, HNM.out⟩)
        clear hyx
        clear hq
        intro v' w7 hown7 hg7 _
        have HX7 := Lib.hid (HX6.out.grown hg7 (fun j hj h => by have := (HO6.out.lt j hj).1; omega))
        have HB7 := Lib.hid ((grownUpd hg7).at_ HB6.out (fun e => HNB.out _ e rfl))
        have HO7 := Lib.hid (own_more hown7)
        clear hown7 hg7
        go_wp2
        go_roundw
        case rel => exact ⟨k + 1, by omega, by go_num, HX7.out, HB7.out, HYES.out HYX.out, by rw [HSN.out, ← List.append_assoc, ← HACC.out]; exact HO7.out⟩
        case measure => simp [intOf]; omega
end Go.Proofs.Ytlhpcgmbbeihiaa
