/-
  CONTRACT of script.Write: any configuration, any events.
-/
import Derived.Test.YtlhpcgmbbeihiaaWr9
import Derived.Test.YtlhpcgmbbeihiaaGEvs
namespace Go.Proofs.Ytlhpcgmbbeihiaa
open Go.RowKit

theorem opW_len' (o : Oper') (s : WSt) : (opW o s).1.length ≤ s.1.length + 1 + 4 * ocap o := by
  by_cases h : opRight o = true
  · exact opW_len o s (by have := opRight_kind h; omega)
  · unfold opW
    rw [if_pos (by simp; right; simpa using h)]; simp; omega
theorem eventW_len (n : Int) (s : WSt) (x : Ev) : (eventW n s x).1.length ≤ s.1.length + ecap x := by
  unfold eventW ecap
  split
  · simp
  · dsimp only
    have h1 : ∀ t : WSt, (opW x.op t).1.length ≤ t.1.length + 1 + 4 * ocap x.op := opW_len' x.op
    have h2 : (if x.kind = 1 then s else putF (192 + (x.kind + 1) % 5) 256 s).1.length ≤ s.1.length + 1 := by split <;> simp [putF]
    obtain ⟨t, ht⟩ : ∃ t, t = (if x.kind = 1 then s else putF (192 + (x.kind + 1) % 5) 256 s) := ⟨_, rfl⟩
    rw [← ht] at h2 ⊢
    have h3 : (if x.kind = 6 then t else putF x.proc n t).1.length ≤ s.1.length + 2 := by
      split
      · omega
      · simp [putF]; omega
    obtain ⟨q, hq⟩ : ∃ q, q = (if x.kind = 6 then t else putF x.proc n t) := ⟨_, rfl⟩
    rw [← hq] at h3 ⊢
    have h4 := h1 q
    split
    · omega
    · split
      · simp [numberF]; omega
      · split
        · simp [putF]; omega
        · omega
def evsum (l : List Ev) : Nat := (l.map ecap).sum
theorem eventsW_len (n : Int) (l : List Ev) : ∀ s : WSt, (l.foldl (eventW n) s).1.length ≤ s.1.length + evsum l := by
  induction l with
  | nil => intro s; simp [evsum]
  | cons x l ih =>
    intro s
    have h1 := ih (eventW n s x)
    have h2 := eventW_len n s x
    simp only [List.foldl_cons, evsum, List.map_cons, List.sum_cons] at h1 ⊢
    omega
theorem evsum_take {l : List Ev} {k : Nat} (hk : k < l.length) : evsum (l.take k) + ecap l[k] ≤ evsum l := by
  induction l generalizing k with
  | nil => simp at hk
  | cons x l ih =>
    cases k with
    | zero => simp [evsum]
    | succ k =>
      have := ih (k := k) (by simpa using hk)
      simp only [evsum, List.take_succ_cons, List.map_cons, List.sum_cons, List.getElem_cons_succ] at this ⊢
      omega
theorem row_in {w : World} {base e size n : Nat} {v : Value} {xs : List Value} (h : w.ownsRow base e size v n xs) : Row (fun k => base ≤ k ∧ k < w.heap.size) w v n xs := by
  obtain ⟨a, c, rfl, h1, h2, h3, h4, h5⟩ := Row.of_owns h
  refine ⟨a, c, rfl, h1, h2, h3, fun x e g => ⟨(h4 x e g).1, (h4 x e g).2, ?_⟩, h5⟩
  subst e
  exact (h.lt x.block rfl).2
theorem tdiv16 {n : Int} (h0 : -9223372036854775808 ≤ n) (h1 : n ≤ 9223372036854775807) : -9223372036854775808 ≤ n.tdiv 16 ∧ n.tdiv 16 ≤ 9223372036854775807 := by
  rcases Int.le_total 0 n with h | h
  · rw [Int.tdiv_eq_ediv_of_nonneg h]; omega
  · have e : n.tdiv 16 = -((-n).tdiv 16) := by rw [Int.neg_tdiv, Int.neg_neg]
    rw [e, Int.tdiv_eq_ediv_of_nonneg (by omega)]; omega
def CfgWf (c : Cfg) : Prop := -9223372036854775808 ≤ c.n ∧ c.n ≤ 9223372036854775807 ∧ -9223372036854775808 ≤ c.bytes ∧ c.bytes ≤ 9223372036854775807 ∧ -9223372036854775808 ≤ c.entries ∧ c.entries ≤ 9223372036854775807
/-- The cells of an event at a place. -/
theorem ev_cells' {w : World} {b o : Nat} {e : Ev} {ve vk : Value} (h : w.rangeAt b o (evCells e ve vk).toList) : w.cell? ⟨b, o, none⟩ = some (.int .u8 e.kind) ∧ w.cell? ⟨b, o + 1, none⟩ = some (.int .i64 e.proc) ∧ w.cell? ⟨b, o + 2, none⟩ = some (.int .u8 e.op.kind) ∧ w.cell? ⟨b, o + 3, none⟩ = some (.int .u64 e.op.doc) ∧ w.cell? ⟨b, o + 4, none⟩ = some (str e.op.name) ∧ w.cell? ⟨b, o + 5, none⟩ = some (str e.op.to) ∧ w.cell? ⟨b, o + 6, none⟩ = some (str e.op.text) ∧ w.cell? ⟨b, o + 7, none⟩ = some (ve) ∧ w.cell? ⟨b, o + 8, none⟩ = some (.int .u64 e.op.epoch) ∧ w.cell? ⟨b, o + 9, none⟩ = some (.int .u64 e.op.version) ∧ w.cell? ⟨b, o + 10, none⟩ = some (.int .u64 e.op.dur) ∧ w.cell? ⟨b, o + 11, none⟩ = some (.int .u64 e.by_) ∧ w.cell? ⟨b, o + 12, none⟩ = some (.int .i64 e.ops) ∧ w.cell? ⟨b, o + 13, none⟩ = some (vk) :=
  ⟨h 0 _ rfl, h 1 _ rfl, h 2 _ rfl, h 3 _ rfl, h 4 _ rfl, h 5 _ rfl, h 6 _ rfl, h 7 _ rfl, h 8 _ rfl, h 9 _ rfl, h 10 _ rfl, h 11 _ rfl, h 12 _ rfl, h 13 _ rfl⟩
theorem cfg_parts' {w : World} {b : Nat} {c : Cfg} {T : TypeId} {fr : Nat × Nat} (h : w.heap[b]? = some (.cells (cfgCells c) T fr)) : w.cell? ⟨b, 0, none⟩ = some (.int .i64 c.n) ∧ w.cell? ⟨b, 1, none⟩ = some (.int .u64 c.slack) ∧ w.cell? ⟨b, 2, none⟩ = some (.int .i64 c.bytes) ∧ w.cell? ⟨b, 3, none⟩ = some (.int .i64 c.entries) :=
  ⟨cellAt h 0 _ rfl, cellAt h 1 _ rfl, cellAt h 2 _ rfl, cellAt h 3 _ rfl⟩
/-- What Write answers. -/
def WroteAs (B : Nat) (s : WSt) (e : Ending) (w' : World) : Prop :=
  (s.2 = true ∧ e = .returned (.tuple #[.slice none 0 0, .int .i64 2])) ∨ (s.2 = false ∧ 65536 < s.1.length ∧ e = .returned (.tuple #[.slice none 0 0, .int .i64 3])) ∨
    (s.2 = false ∧ s.1.length ≤ 65536 ∧ ∃ vb, e = .returned (.tuple #[vb, .int .i64 0]) ∧ Bytes (fun k => B ≤ k ∧ k < w'.heap.size) w' vb s.1)

set_option maxRecDepth 100000 in
set_option maxHeartbeats 4000000 in
theorem write_any (w : World) (c : Cfg) (v : Value) (l : List Ev) (h : EvsRow (Till w.heap.size) w v l) (hwf : ∀ x ∈ l, EvWf x) (hc : CfgWf c) (hl : evsum l < 70368744160000) :
    Calls Try.prog 17 #[.agg (cfgCells c), v] w fun e w' => WroteAs w.heap.size (writeF c l) e w' ∧ Ext w w' := by
  have hbx := newAt w (.cells (cfgCells c) 31)
  have hux : Ext w (w.alloc (.cells (cfgCells c) 31)) := (Upd.refl _ _).alloc _
  obtain ⟨wa, hwa⟩ : ∃ wa, wa = (w.alloc (.cells (cfgCells c) 31)).alloc (.cells #[.slice none 0 0, .bool false] 81) := ⟨_, rfl⟩
  have hxa : Ext w wa := by rw [hwa]; exact hux.alloc _
  have hb0 : wa.heap[w.heap.size]? = some (.cells (cfgCells c) 31 (0, 0)) := by rw [hwa]; exact ((Upd.refl Nothing _).alloc _).at_ hbx id
  have hwr : wa.heap[w.heap.size + 1]? = some (.cells #[.slice none 0 0, .bool false] 81 (0, 0)) := by
    rw [hwa]; have := newAt (w.alloc (.cells (cfgCells c) 31)) (.cells #[.slice none 0 0, .bool false] 81); simpa using this
  have HW := Lib.hid (show Writer w.heap.size wa (w.heap.size + 1) ([], false) from ⟨by omega, hxa.size, _, hwr, World.ownsRow_nil _ _ _ _⟩)
  have HL := Lib.hid (h.ext hxa)
  have HL0 := Lib.hid h
  have HX := Lib.hid hxa
  have HWF := Lib.hid hwf
  have HWA := Lib.hid hwa
  have HB0 := Lib.hid hb0
  obtain ⟨hml, ⟨a, cc, rfl, hn, hm⟩, -⟩ := h.at_
  unfold maxLen at hm hml
  obtain ⟨cn, cs, cb, ce⟩ := c
  obtain ⟨n0, n1, b0, b1, e0, e1⟩ := hc
  dsimp only at n0 n1 b0 b1 e0 e1
  clear h hbx hux hwa hxa hb0 hwr hwf
  simp only [cfgCells]
  go_enter Try.func17, Try.ntmps17
  go_wp2_with fail
  rw [show (w.alloc (.cells #[.int .i64 cn, .int .u64 cs, .int .i64 cb, .int .i64 ce] 31)).alloc (.cells #[.slice none 0 0, .bool false] 81) = wa from HWA.out.symm]
  generalize hr : w.heap.size + 1 = r at HW ⊢
  have hbr : w.heap.size < r := by omega
  have HBr := Lib.hid (show w.heap.size ≤ r by omega)
  have HU := Lib.hid (show Upd (WS w.heap.size r w) w wa from HX.out.mono (fun _ _ e => e.elim))
  clear hr
  refine (put_any _ r (wrap64 (cn - 1)) 64 _ HW.out (by simp)).mono ?_
  rintro e w1 ⟨rfl, hw, hu⟩
  rw [put_wrap n0 n1 (by decide) (by decide)] at hw
  have HW1 := Lib.hid hw
  have HU1 := Lib.hid (WS.trans HU.out hu)
  have HB1 := Lib.hid (WS.at_ hu HB0.out (by decide) (by omega))
  clear hw hu
  obtain ⟨z0, z1, z2, z3⟩ := cfg_parts' HB1.out
  go_wp2_with (go_at_call 35; fail)
  refine (number_any _ r cs 256 _ HW1.out (by simp [putF])).mono ?_
  rintro e w2 ⟨rfl, hw, hu⟩
  have HW2 := Lib.hid hw
  have HU2 := Lib.hid (WS.trans HU1.out hu)
  have HB2 := Lib.hid (WS.at_ hu HB1.out (by decide) (by omega))
  clear hw hu z0 z1 z2 z3
  obtain ⟨z0, z1, z2, z3⟩ := cfg_parts' HB2.out
  go_wp2_with (go_at_call 34; fail)
  refine (put_any _ r (wrap64 (cb.tdiv 16 - 1)) 256 _ HW2.out (by simp [putF, numberF])).mono ?_
  rintro e w3 ⟨rfl, hw, hu⟩
  rw [put_wrap (tdiv16 b0 b1).1 (tdiv16 b0 b1).2 (by decide) (by decide)] at hw
  have HW3 := Lib.hid hw
  have HU3 := Lib.hid (WS.trans HU2.out hu)
  have HB3 := Lib.hid (WS.at_ hu HB2.out (by decide) (by omega))
  clear hw hu z0 z1 z2 z3
  obtain ⟨z0, z1, z2, z3⟩ := cfg_parts' HB3.out
  go_wp2_with (go_at_call 34; fail)
  refine (put_any _ r (wrap64 (ce - 1)) 256 _ HW3.out (by simp [putF, numberF])).mono ?_
  rintro e w4 ⟨rfl, hw, hu⟩
  rw [put_wrap e0 e1 (by decide) (by decide)] at hw
  have HW4 := Lib.hid hw
  have HU4 := Lib.hid (WS.trans HU3.out hu)
  have HB4 := Lib.hid (WS.at_ hu HB3.out (by decide) (by omega))
  clear hw hu z0 z1 z2 z3
  obtain ⟨z0, z1, z2, z3⟩ := cfg_parts' HB4.out
  obtain ⟨st, hst⟩ : ∃ st, st = putF (ce - 1) 256 (putF (cb.tdiv 16 - 1) 256 (numberF cs 256 (putF (cn - 1) 64 ([], false)))) := ⟨_, rfl⟩
  rw [← hst] at HW4
  have hlen : st.1.length = 4 := by rw [hst]; simp [putF, numberF]
  have HF := Lib.hid (show writeF ⟨cn, cs, cb, ce⟩ l = l.foldl (eventW cn) (st.1, st.2 || decide (cb.tmod 16 ≠ 0)) from by rw [writeF, hst])
  clear hst
  obtain ⟨sb, bad⟩ := st
  obtain ⟨-, -, gv, g2, -⟩ := HW4.out
  have y1 := cellAt g2 1 (.bool bad) rfl
  have f1 := freeAt g2 1
  clear g2
  dsimp only at hlen
  cases bad with
  | true =>
    obtain ⟨hw5, hu5⟩ := HW4.out.bad true
    have hb5 := WS.at_ hu5 HB4.out (by decide) (by omega)
    have HW5 := Lib.hid hw5
    have HU5 := Lib.hid (WS.trans HU4.out hu5)
    have HB5 := Lib.hid hb5
    have HFF := Lib.hid (show writeF ⟨cn, cs, cb, ce⟩ l = l.foldl (eventW cn) (sb, true) from by rw [HF.out]; rfl)
    clear hw5 hu5 hb5
    go_wp2
    clear y1 f1 z0 z1 z2 z3
    go_loopw [46] (fun i wr => ∃ k : Nat, k ≤ l.length ∧ i = .int .i64 k ∧ Writer w.heap.size wr r ((l.take k).foldl (eventW cn) (sb, true)) ∧ Upd (WS w.heap.size r w) w wr ∧ wr.heap[w.heap.size]? = some (.cells (cfgCells ⟨cn, cs, cb, ce⟩) 31 (0, 0))) (fun i _ => l.length - (intOf i).toNat)
    case atStart => exact ⟨0, Nat.zero_le _, rfl, HW5.out, HU5.out, HB5.out⟩
    case round =>
      obtain ⟨k, hk, rfl, hw, hu, hb⟩ := hrel
      have HW6 := Lib.hid hw
      have HU6 := Lib.hid hu
      have HB6 := Lib.hid hb
      clear hw hu hb
      by_cases hlt : k < l.length
      · have hrow : EvsRow (Till w.heap.size) wr (.slice a l.length cc) l := HL0.out.upd HU6.out (fun k hk e => by
          unfold Till at hk
          rcases e with e | ⟨e, _⟩ <;> omega)
        obtain ⟨b1, o1, c1, ve, vk, e1, -, hra, hr1, hr2⟩ := hrow.at_.2.2 k hlt
        cases e1
        have hwf := HWF.out l[k] (List.getElem_mem hlt)
        have hlen2 : _ ≤ sb.length + evsum _ := eventsW_len cn (l.take k) (sb, true)
        have hsum := evsum_take hlt
        obtain ⟨x, hxx⟩ : ∃ x, x = l[k] := ⟨_, rfl⟩
        rw [← hxx] at hra hr1 hr2 hwf hsum
        have hr1' := hr1
        have hr2' := hr2
        obtain ⟨ea, ec, rfl, -⟩ := hr1'
        obtain ⟨ka, kc, rfl, -⟩ := hr2'
        obtain ⟨p0, p1, p2, p3, p4, p5, p6, p7, p8, p9, p10, p11, p12, p13⟩ := ev_cells' hra
        have hal : Ext wr (wr.alloc (.cells (evCells x (.slice ea x.op.edits.length ec) (.slice ka x.keep.length kc)) 44)) := (Upd.refl _ _).alloc _
        have hzw := cellAt (hal.at_ HB6.out id) 0 (.int .i64 cn) rfl
        simp only [evCells] at hzw
        have HAL := Lib.hid hal
        have HR1 := Lib.hid (hr1.ext hal)
        have HR2 := Lib.hid (hr2.ext hal)
        have HWX := Lib.hid hwf
        have HXX := Lib.hid hxx
        have HLEN := Lib.hid hlen2
        have HSUM := Lib.hid hsum
        have hltw := lt_of_heap HB6.out
        clear hrow hra hr1 hr2 hwf hxx hal hlen2 hsum
        go_wp2_with (go_at_call 36; fail)
        refine (event_any' _ r x cn _ _ _ (HW6.out.ext HAL.out) HR1.out HR2.out HWX.out (by have := HLEN.out; have := HSUM.out; omega)).mono ?_
        rintro e w7 ⟨rfl, hw, hu⟩
        have HW7 := Lib.hid hw
        have HU7 := Lib.hid (WS.trans HU6.out (WS.ext HAL.out hu))
        have HB7 := Lib.hid (WS.at_ hu (HAL.out.at_ HB6.out id) (by decide) (by omega))
        clear hw hu p0 p1 p2 p3 p4 p5 p6 p7 p8 p9 p10 p11 p12 p13 hzw
        go_wp2
        go_roundw
        case rel =>
          refine ⟨k + 1, by omega, by go_num, ?_, HU7.out, HB7.out⟩
          rw [List.take_succ_eq_append_getElem hlt, List.foldl_append, ← HXX.out]
          exact HW7.out
        case measure => simp [intOf]; omega
      · have hkl : k = l.length := by omega
        rw [hkl, List.take_length, ← HFF.out] at HW6
        obtain ⟨fb, fbad, hsf⟩ : ∃ fb fbad, writeF ⟨cn, cs, cb, ce⟩ l = (fb, fbad) := ⟨_, _, rfl⟩
        rw [hsf] at HW6
        have HSF := Lib.hid hsf
        clear hsf
        obtain ⟨h60, h61, gv2, g3, g4⟩ := HW6.out
        have HX6 := Lib.hid (show Ext w wr from HU6.out.mono (fun i hi e => by rcases e with e | ⟨e, _⟩ <;> omega))
        have y1 := cellAt g3 1 (.bool fbad) rfl
        have y0 := cellAt g3 0 gv2 rfl
        have G4 := Lib.hid g4
        obtain ⟨ga, gc, rfl, gn, gm, -⟩ := Row.of_owns g4
        dsimp only at gn gm
        unfold maxLen at gm
        clear g3 g4
        cases fbad with
        | true =>
          go_wp2
          go_ret2
          exact ⟨by rw [HSF.out]; exact .inl ⟨rfl, rfl⟩, HX6.out⟩
        | false =>
          by_cases hbig : 65536 < fb.length
          · have hqb : (65536 : Int) < (fb.length : Int) := by omega
            go_wp2
            go_ret2
            exact ⟨by rw [HSF.out]; exact .inr (.inl ⟨rfl, hbig, rfl⟩), HX6.out⟩
          · have hqb : ¬ (65536 : Int) < (fb.length : Int) := by omega
            go_wp2
            go_ret2
            exact ⟨by rw [HSF.out]; exact .inr (.inr ⟨rfl, Nat.le_of_not_lt hbig, _, rfl, row_in G4.out⟩), HX6.out⟩
  | false =>
    by_cases hm16 : cb.tmod 16 = 0
    · have hq : (cb.tmod 16 != 0) = false := by simp [hm16]
      have HM := Lib.hid hm16
      clear hm16
      obtain ⟨hw5, hu5⟩ := HW4.out.bad false
      have hb5 := WS.at_ hu5 HB4.out (by decide) (by omega)
      have HW5 := Lib.hid hw5
      have HU5 := Lib.hid (WS.trans HU4.out hu5)
      have HB5 := Lib.hid hb5
      have HFF := Lib.hid (show writeF ⟨cn, cs, cb, ce⟩ l = l.foldl (eventW cn) (sb, false) from by rw [HF.out]; simp [HM.out])
      clear hw5 hu5 hb5
      go_wp2
      clear y1 f1 z0 z1 z2 z3
      go_loopw [46] (fun i wr => ∃ k : Nat, k ≤ l.length ∧ i = .int .i64 k ∧ Writer w.heap.size wr r ((l.take k).foldl (eventW cn) (sb, false)) ∧ Upd (WS w.heap.size r w) w wr ∧ wr.heap[w.heap.size]? = some (.cells (cfgCells ⟨cn, cs, cb, ce⟩) 31 (0, 0))) (fun i _ => l.length - (intOf i).toNat)
      case atStart => exact ⟨0, Nat.zero_le _, rfl, HW5.out, HU5.out, HB5.out⟩
      case round =>
        obtain ⟨k, hk, rfl, hw, hu, hb⟩ := hrel
        have HW6 := Lib.hid hw
        have HU6 := Lib.hid hu
        have HB6 := Lib.hid hb
        clear hw hu hb
        by_cases hlt : k < l.length
        · have hrow : EvsRow (Till w.heap.size) wr (.slice a l.length cc) l := HL0.out.upd HU6.out (fun k hk e => by
            unfold Till at hk
            rcases e with e | ⟨e, _⟩ <;> omega)
          obtain ⟨b1, o1, c1, ve, vk, e1, -, hra, hr1, hr2⟩ := hrow.at_.2.2 k hlt
          cases e1
          have hwf := HWF.out l[k] (List.getElem_mem hlt)
          have hlen2 : _ ≤ sb.length + evsum _ := eventsW_len cn (l.take k) (sb, false)
          have hsum := evsum_take hlt
          obtain ⟨x, hxx⟩ : ∃ x, x = l[k] := ⟨_, rfl⟩
          rw [← hxx] at hra hr1 hr2 hwf hsum
          have hr1' := hr1
          have hr2' := hr2
          obtain ⟨ea, ec, rfl, -⟩ := hr1'
          obtain ⟨ka, kc, rfl, -⟩ := hr2'
          obtain ⟨p0, p1, p2, p3, p4, p5, p6, p7, p8, p9, p10, p11, p12, p13⟩ := ev_cells' hra
          have hal : Ext wr (wr.alloc (.cells (evCells x (.slice ea x.op.edits.length ec) (.slice ka x.keep.length kc)) 44)) := (Upd.refl _ _).alloc _
          have hzw := cellAt (hal.at_ HB6.out id) 0 (.int .i64 cn) rfl
          simp only [evCells] at hzw
          have HAL := Lib.hid hal
          have HR1 := Lib.hid (hr1.ext hal)
          have HR2 := Lib.hid (hr2.ext hal)
          have HWX := Lib.hid hwf
          have HXX := Lib.hid hxx
          have HLEN := Lib.hid hlen2
          have HSUM := Lib.hid hsum
          have hltw := lt_of_heap HB6.out
          clear hrow hra hr1 hr2 hwf hxx hal hlen2 hsum
          go_wp2_with (go_at_call 36; fail)
          refine (event_any' _ r x cn _ _ _ (HW6.out.ext HAL.out) HR1.out HR2.out HWX.out (by have := HLEN.out; have := HSUM.out; omega)).mono ?_
          rintro e w7 ⟨rfl, hw, hu⟩
          have HW7 := Lib.hid hw
          have HU7 := Lib.hid (WS.trans HU6.out (WS.ext HAL.out hu))
          have HB7 := Lib.hid (WS.at_ hu (HAL.out.at_ HB6.out id) (by decide) (by omega))
          clear hw hu p0 p1 p2 p3 p4 p5 p6 p7 p8 p9 p10 p11 p12 p13 hzw
          go_wp2
          go_roundw
          case rel =>
            refine ⟨k + 1, by omega, by go_num, ?_, HU7.out, HB7.out⟩
            rw [List.take_succ_eq_append_getElem hlt, List.foldl_append, ← HXX.out]
            exact HW7.out
          case measure => simp [intOf]; omega
        · have hkl : k = l.length := by omega
          rw [hkl, List.take_length, ← HFF.out] at HW6
          obtain ⟨fb, fbad, hsf⟩ : ∃ fb fbad, writeF ⟨cn, cs, cb, ce⟩ l = (fb, fbad) := ⟨_, _, rfl⟩
          rw [hsf] at HW6
          have HSF := Lib.hid hsf
          clear hsf
          obtain ⟨h60, h61, gv2, g3, g4⟩ := HW6.out
          have HX6 := Lib.hid (show Ext w wr from HU6.out.mono (fun i hi e => by rcases e with e | ⟨e, _⟩ <;> omega))
          have y1 := cellAt g3 1 (.bool fbad) rfl
          have y0 := cellAt g3 0 gv2 rfl
          have G4 := Lib.hid g4
          obtain ⟨ga, gc, rfl, gn, gm, -⟩ := Row.of_owns g4
          dsimp only at gn gm
          unfold maxLen at gm
          clear g3 g4
          cases fbad with
          | true =>
            go_wp2
            go_ret2
            exact ⟨by rw [HSF.out]; exact .inl ⟨rfl, rfl⟩, HX6.out⟩
          | false =>
            by_cases hbig : 65536 < fb.length
            · have hqb : (65536 : Int) < (fb.length : Int) := by omega
              go_wp2
              go_ret2
              exact ⟨by rw [HSF.out]; exact .inr (.inl ⟨rfl, hbig, rfl⟩), HX6.out⟩
            · have hqb : ¬ (65536 : Int) < (fb.length : Int) := by omega
              go_wp2
              go_ret2
              exact ⟨by rw [HSF.out]; exact .inr (.inr ⟨rfl, Nat.le_of_not_lt hbig, _, rfl, row_in G4.out⟩), HX6.out⟩
    · have hq : (cb.tmod 16 != 0) = true := by simp [hm16]
      have HM := Lib.hid hm16
      clear hm16
      obtain ⟨hw5, hu5⟩ := HW4.out.bad true
      have hb5 := WS.at_ hu5 HB4.out (by decide) (by omega)
      have HW5 := Lib.hid hw5
      have HU5 := Lib.hid (WS.trans HU4.out hu5)
      have HB5 := Lib.hid hb5
      have HFF := Lib.hid (show writeF ⟨cn, cs, cb, ce⟩ l = l.foldl (eventW cn) (sb, true) from by rw [HF.out]; simp [HM.out])
      clear hw5 hu5 hb5
      go_wp2
      clear y1 f1 z0 z1 z2 z3
      go_loopw [46] (fun i wr => ∃ k : Nat, k ≤ l.length ∧ i = .int .i64 k ∧ Writer w.heap.size wr r ((l.take k).foldl (eventW cn) (sb, true)) ∧ Upd (WS w.heap.size r w) w wr ∧ wr.heap[w.heap.size]? = some (.cells (cfgCells ⟨cn, cs, cb, ce⟩) 31 (0, 0))) (fun i _ => l.length - (intOf i).toNat)
      case atStart => exact ⟨0, Nat.zero_le _, rfl, HW5.out, HU5.out, HB5.out⟩
      case round =>
        obtain ⟨k, hk, rfl, hw, hu, hb⟩ := hrel
        have HW6 := Lib.hid hw
        have HU6 := Lib.hid hu
        have HB6 := Lib.hid hb
        clear hw hu hb
        by_cases hlt : k < l.length
        · have hrow : EvsRow (Till w.heap.size) wr (.slice a l.length cc) l := HL0.out.upd HU6.out (fun k hk e => by
            unfold Till at hk
            rcases e with e | ⟨e, _⟩ <;> omega)
          obtain ⟨b1, o1, c1, ve, vk, e1, -, hra, hr1, hr2⟩ := hrow.at_.2.2 k hlt
          cases e1
          have hwf := HWF.out l[k] (List.getElem_mem hlt)
          have hlen2 : _ ≤ sb.length + evsum _ := eventsW_len cn (l.take k) (sb, true)
          have hsum := evsum_take hlt
          obtain ⟨x, hxx⟩ : ∃ x, x = l[k] := ⟨_, rfl⟩
          rw [← hxx] at hra hr1 hr2 hwf hsum
          have hr1' := hr1
          have hr2' := hr2
          obtain ⟨ea, ec, rfl, -⟩ := hr1'
          obtain ⟨ka, kc, rfl, -⟩ := hr2'
          obtain ⟨p0, p1, p2, p3, p4, p5, p6, p7, p8, p9, p10, p11, p12, p13⟩ := ev_cells' hra
          have hal : Ext wr (wr.alloc (.cells (evCells x (.slice ea x.op.edits.length ec) (.slice ka x.keep.length kc)) 44)) := (Upd.refl _ _).alloc _
          have hzw := cellAt (hal.at_ HB6.out id) 0 (.int .i64 cn) rfl
          simp only [evCells] at hzw
          have HAL := Lib.hid hal
          have HR1 := Lib.hid (hr1.ext hal)
          have HR2 := Lib.hid (hr2.ext hal)
          have HWX := Lib.hid hwf
          have HXX := Lib.hid hxx
          have HLEN := Lib.hid hlen2
          have HSUM := Lib.hid hsum
          have hltw := lt_of_heap HB6.out
          clear hrow hra hr1 hr2 hwf hxx hal hlen2 hsum
          go_wp2_with (go_at_call 36; fail)
          refine (event_any' _ r x cn _ _ _ (HW6.out.ext HAL.out) HR1.out HR2.out HWX.out (by have := HLEN.out; have := HSUM.out; omega)).mono ?_
          rintro e w7 ⟨rfl, hw, hu⟩
          have HW7 := Lib.hid hw
          have HU7 := Lib.hid (WS.trans HU6.out (WS.ext HAL.out hu))
          have HB7 := Lib.hid (WS.at_ hu (HAL.out.at_ HB6.out id) (by decide) (by omega))
          clear hw hu p0 p1 p2 p3 p4 p5 p6 p7 p8 p9 p10 p11 p12 p13 hzw
          go_wp2
          go_roundw
          case rel =>
            refine ⟨k + 1, by omega, by go_num, ?_, HU7.out, HB7.out⟩
            rw [List.take_succ_eq_append_getElem hlt, List.foldl_append, ← HXX.out]
            exact HW7.out
          case measure => simp [intOf]; omega
        · have hkl : k = l.length := by omega
          rw [hkl, List.take_length, ← HFF.out] at HW6
          obtain ⟨fb, fbad, hsf⟩ : ∃ fb fbad, writeF ⟨cn, cs, cb, ce⟩ l = (fb, fbad) := ⟨_, _, rfl⟩
          rw [hsf] at HW6
          have HSF := Lib.hid hsf
          clear hsf
          obtain ⟨h60, h61, gv2, g3, g4⟩ := HW6.out
          have HX6 := Lib.hid (show Ext w wr from HU6.out.mono (fun i hi e => by rcases e with e | ⟨e, _⟩ <;> omega))
          have y1 := cellAt g3 1 (.bool fbad) rfl
          have y0 := cellAt g3 0 gv2 rfl
          have G4 := Lib.hid g4
          obtain ⟨ga, gc, rfl, gn, gm, -⟩ := Row.of_owns g4
          dsimp only at gn gm
          unfold maxLen at gm
          clear g3 g4
          cases fbad with
          | true =>
            go_wp2
            go_ret2
            exact ⟨by rw [HSF.out]; exact .inl ⟨rfl, rfl⟩, HX6.out⟩
          | false =>
            by_cases hbig : 65536 < fb.length
            · have hqb : (65536 : Int) < (fb.length : Int) := by omega
              go_wp2
              go_ret2
              exact ⟨by rw [HSF.out]; exact .inr (.inl ⟨rfl, hbig, rfl⟩), HX6.out⟩
            · have hqb : ¬ (65536 : Int) < (fb.length : Int) := by omega
              go_wp2
              go_ret2
              exact ⟨by rw [HSF.out]; exact .inr (.inr ⟨rfl, Nat.le_of_not_lt hbig, _, rfl, row_in G4.out⟩), HX6.out⟩
end Go.Proofs.Ytlhpcgmbbeihiaa
