/-
  CONTRACT of the reference's small: the bytes of an operation that may be. By program (gen/small.py).
-/
import Derived.Test.YtlhpcgmbbeihiaaGRef19b
import Derived.Test.YtlhpcgmbbeihiaaRef29c
import Derived.Test.YtlhpcgmbbeihiaaWr4
namespace Go.Proofs.Ytlhpcgmbbeihiaa
open Go.RowKit

/-- A row that a literal has just laid is the call's own. -/
theorem own_lit (w : World) (cs : Array Value) (e : TypeId) (m base n : Nat) (hm : m ≤ maxLen) (hc : cs.size = m) (hb : base ≤ w.heap.size) (hn : n = w.heap.size) : (w.alloc (.cells cs e)).ownsRow base e 1 (.slice (some ⟨n, 0, none⟩) m m) m cs.toList := by
  subst hn
  refine ⟨by simp [hc], .inr ⟨_, m, cs, rfl, hb, newAt _ _, Nat.le_refl _, hm, by omega, ?_⟩⟩
  rw [Nat.mul_one, List.take_of_length_le (by simp [hc])]
theorem byteOne (n : Int) : (.int .u8 (n % 256) : Value) = u8 (toByte n) := by rw [u8, toByte_nat]
def smallCap (o : Oper') : Nat := 100 + o.name.length + o.to.length + o.text.length + esum o.edits + 2 * o.edits.length
theorem guessEdits_len (l : List Edit) : (guessEdits l).length ≤ esum l + 2 * l.length := by
  induction l with
  | nil => simp [guessEdits]
  | cons x l ih =>
    have h : (guessEdit x).length ≤ 2 + x.text.length := by unfold guessEdit; split <;> simp [wordF] <;> omega
    simp only [guessEdits, List.map_cons, List.flatten_cons, List.length_append, esum, List.sum_cons, List.length_cons] at ih ⊢
    omega
theorem smallPart_len (o : Oper') (c : UInt8) : (smallPart o c).length ≤ smallCap o := by
  have h1 := guessEdits_len o.edits
  have h2 : ∀ t, (namedF t).length ≤ 1 + t.length := fun t => by unfold namedF; split <;> simp [wordF]
  have h3 := h2 o.name
  have h4 := h2 o.to
  unfold smallPart smallCap
  repeat' split
  all_goals simp [wordF]
  all_goals omega
theorem smallParts_len (o : Oper') (ps : List UInt8) : ((ps.map (smallPart o)).flatten).length ≤ ps.length * smallCap o := by
  induction ps with
  | nil => simp
  | cons c ps ih => have := smallPart_len o c; simp only [List.map_cons, List.flatten_cons, List.length_append, List.length_cons, Nat.succ_mul]; omega

/-- What small has laid behind k parts. -/
def outF (o : Oper') (ps : List UInt8) (k : Nat) : List UInt8 := toByte (o.kind - 1) :: ((ps.take k).map (smallPart o)).flatten
theorem outF_succ {o : Oper'} {ps : List UInt8} {k : Nat} {x : UInt8} (hx : ps[k]? = some x) : outF o ps (k + 1) = outF o ps k ++ smallPart o x := by
  obtain ⟨h1, h2⟩ := List.getElem?_eq_some_iff.1 hx
  unfold outF
  rw [List.take_succ_eq_append_getElem h1, h2]; simp
theorem guessEdits_snoc (l : List Edit) (i : Nat) (hi : i < l.length) : guessEdits (l.take (i + 1)) = guessEdits (l.take i) ++ guessEdit l[i] := by
  unfold guessEdits
  rw [List.take_succ_eq_append_getElem hi, List.map_append, List.flatten_append]; simp
theorem wrapByte {n : Int} (h0 : -9223372036854775808 ≤ n) (h1 : n ≤ 9223372036854775807) : toByte (wrap64 (n - 1)) = toByte (n - 1) := by
  have hw : wrap64 (n - 1) = if n = -9223372036854775808 then 9223372036854775807 else n - 1 := by unfold wrap64; split <;> omega
  unfold toByte; rw [hw]; split
  · rename_i h; subst h; rfl
  · rfl
theorem outF_len (o : Oper') (ps : List UInt8) (k : Nat) (hk : k ≤ 4) : (outF o ps k).length ≤ 1 + 4 * smallCap o := by
  have h := smallParts_len o (ps.take k)
  have h2 : (ps.take k).length * smallCap o ≤ 4 * smallCap o := Nat.mul_le_mul_right _ (by rw [List.length_take]; omega)
  unfold outF
  rw [List.length_cons]; omega
def SmallLoop (o : Oper') (ps : List UInt8) (v : Value) (w : World) (v3 j : Value) (wr : World) : Prop :=
  ∃ k : Nat, k ≤ ps.length ∧ j = .int .i64 k ∧ Ext w wr ∧ wr.heap[w.heap.size]? = some (.cells (opCells o v) 59 (0, 0)) ∧ wr.ownsRow w.heap.size 5 1 v3 (outF o ps k).length ((outF o ps k).map u8)
/-- One more run of bytes. -/
theorem own_more {w : World} {B : Nat} {v : Value} {l m : List UInt8} (h : w.ownsRow B 5 1 v (l.length + m.length) (l.map u8 ++ m.map u8)) : w.ownsRow B 5 1 v (l ++ m).length ((l ++ m).map u8) := by
  rw [List.length_append, List.map_append]; exact h
/-- One more run of bytes; the length as it was met. -/
theorem own_more2 {w : World} {B n : Nat} {v : Value} {l m : List UInt8} (h : w.ownsRow B 5 1 v n (l.map u8 ++ m.map u8)) (hn : n = l.length + m.length) : w.ownsRow B 5 1 v (l ++ m).length ((l ++ m).map u8) := by
  subst hn; exact own_more h

set_option maxRecDepth 100000 in
set_option maxHeartbeats 4000000 in
theorem small_any {S : Nat → Prop} (w : World) (o : Oper') (v : Value) (h : Row S w v o.edits.length (editCells o.edits)) (hk1 : 1 ≤ o.kind) (hk2 : o.kind ≤ 17) (hwf : ∀ x ∈ o.edits, WfEdit x) (hcap : 10 * smallCap o ≤ 70368744177664) :
    Calls Try.prog 49 #[.agg (opCells o v)] w fun e w' => ∃ v', e = .returned v' ∧ w'.ownsRow w.heap.size 5 1 v' (smallF o).length ((smallF o).map u8) ∧ Ext w w' := by
  have hbx := newAt w (.cells (opCells o v) 59)
  have hux : Ext w (w.alloc (.cells (opCells o v) 59)) := (Upd.refl _ _).alloc _
  obtain ⟨kn, hkn⟩ : ∃ kn : Nat, o.kind = kn := ⟨o.kind.toNat, by omega⟩
  have hkn1 : 1 ≤ kn := by omega
  have hkn2 : kn ≤ 17 := by omega
  have HKN := Lib.hid hkn
  have HR := Lib.hid h.addr
  have HBX := Lib.hid hbx
  have HUX := Lib.hid hux
  have HWF := Lib.hid hwf
  have hcapd : smallCap o = 100 + o.name.length + o.to.length + o.text.length + esum o.edits + 2 * o.edits.length := rfl
  obtain ⟨a, c, rfl, hn, hm, -⟩ := h
  unfold maxLen at hm
  obtain ⟨wb, hwb⟩ : ∃ wb, wb = (w.alloc (.cells (opCells o (.slice a o.edits.length c)) 59)).alloc (.cells #[.int .u8 (o.kind - 1)] 5) := ⟨_, rfl⟩
  have hub : Ext w wb := by rw [hwb]; exact hux.alloc _
  have hbb : wb.heap[w.heap.size]? = some (.cells (opCells o (.slice a o.edits.length c)) 59 (0, 0)) := by rw [hwb]; exact ((Upd.refl Nothing _).alloc _).at_ hbx id
  have hob : wb.ownsRow w.heap.size 5 1 (.slice (some ⟨w.heap.size + 1, 0, none⟩) 1 1) 1 [.int .u8 (o.kind - 1)] := by
    rw [hwb]; exact own_lit _ #[.int .u8 (o.kind - 1)] _ 1 _ _ (by decide) rfl (by simp) (by simp)
  have HWB := Lib.hid hwb
  have HUB := Lib.hid hub
  have HBB := Lib.hid hbb
  have HOB := Lib.hid hob
  clear hbx hux hwf hkn hwb hub hbb hob
  simp only [opCells]
  go_enter Try.func49, Try.ntmps49
  go_wp2_with (go_at_call 50; fail)
  rw [show (w.alloc (.cells #[.int .u8 o.kind, .int .u64 o.doc, str o.name, str o.to, str o.text, .slice a o.edits.length c, .int .u64 o.epoch, .int .u64 o.version, .int .u64 o.dur] 59)).alloc (.cells #[.int .u8 (o.kind - 1)] 5) = wb from HWB.out.symm]
  have hpc := rparts_any wb kn (by omega)
  rw [← HKN.out] at hpc
  refine hpc.mono ?_
  rintro e w1 ⟨rfl, hu1⟩
  have hpl := partsLen kn (by omega)
  have hlet := partsLetter kn
  obtain ⟨ps, hps⟩ : ∃ ps, ps = partsF kn := ⟨_, rfl⟩
  rw [← hps] at hpl hlet ⊢
  have HLET := Lib.hid hlet
  have HFIN := Lib.hid (show smallF o = outF o ps ps.length from by unfold smallF outF; rw [List.take_length, hps, HKN.out, Int.toNat_natCast])
  have HAT := Lib.hid (show SmallLoop o ps (.slice a o.edits.length c) w (.slice (some ⟨w.heap.size + 1, 0, none⟩) 1 1) (.int .i64 (0 : Nat)) w1 from
    ⟨0, Nat.zero_le _, rfl, HUB.out.trans hu1, hu1.at_ HBB.out id, by
      have h1 := hu1.ownsRow HOB.out (fun _ _ e => e)
      have h2 : (outF o ps 0).map u8 = [.int .u8 (o.kind - 1)] := by
        simp only [outF, List.take_zero, List.map_nil, List.flatten_nil, List.map_cons, u8, toByte_nat]
        rw [Int.emod_eq_of_lt (by omega) (by omega)]
      rw [h2]; exact h1⟩)
  clear hps hlet hu1 hpc
  go_wp2
  go_loopw [3, 5] (fun v3 j wr => SmallLoop o ps (.slice a o.edits.length c) w v3 j wr) (fun _ j _ => ps.length - (intOf j).toNat)
  case atStart => exact HAT.out
  case round =>
    clear HAT
    obtain ⟨k, hk, rfl, hx, hb, hown⟩ := hrel
    have HX := Lib.hid hx
    have HB := Lib.hid hb
    have hxs := hx.size
    have hbl := lt_of_heap hb
    have hol := outF_len o ps k (by omega)
    obtain ⟨va, vn, vc, rfl⟩ := ownsForm hown
    have HNB := Lib.hid (show ∀ g, (Value.slice va vn vc).ownBlock = some g → ¬ g = w.heap.size from fun g hg e => by subst e; obtain ⟨cur, hc⟩ := owns_tag hown hg; exact tag_ne hb (by decide) hc)
    clear hx
    by_cases hlt : k < ps.length
    · obtain ⟨x, hxk, hxs⟩ := HLET.out k (by omega) hlt
      have HSUC := Lib.hid (outF_succ (o := o) hxk)
      have HX2 := Lib.hid hxk
      clear hxk
      rcases hxs with rfl | rfl | rfl | rfl | rfl | rfl | rfl | rfl
      · have hidx := run_index_str (P := Try.prog) Try.underlying9 (m := 100) HX2.out rfl
        have zc := cellAt hb 1 (.int .u64 o.doc) rfl
        go_wp2_with (at_builtin; go_must (refine wpList_append_row rfl _ _ _ rfl Try.bytesT rfl (hown.alloc _) rfl (row_new _ _ _ 1 _ (by decide) (by simp)) rfl (by intro u hu; simp at hu; subst hu; rfl) ?c3 ?c4 ?c5 ?_))
        case c3 => unfold maxLen; omega
        case c4 => omega
        case c5 => simp; omega
        intro v' w2 hown2 hg _
        rw [byteOne] at hown2
        have hb2 := (grownUpd hg).at_ (((Upd.refl Nothing _).alloc _).at_ HB.out id) (fun e => HNB.out _ e rfl)
        have HG := Lib.hid hg
        have HO2 := Lib.hid hown2
        have HB2 := Lib.hid hb2
        clear hg hown2 hb2 zc
        go_wp2
        go_roundw
        case rel => exact ⟨k + 1, by omega, by go_num, (HX.out.alloc _).grown HG.out (fun j hj h => by have := (hown.lt j hj).1; omega), HB2.out, by rw [HSUC.out]; exact own_more (m := [toByte o.doc]) HO2.out⟩
        case measure => simp [intOf]; omega
      · have hidx := run_index_str (P := Try.prog) Try.underlying9 (m := 110) HX2.out rfl
        have zc := cellAt hb 2 (str o.name) rfl
        go_wp2_with (go_at_call 68; fail)
        refine (named_any _ o.name (by omega)).mono ?_
        rintro e w2 ⟨v2, S2, rfl, hbs, hlo, hu2⟩
        have hnl : (namedF o.name).length ≤ 1 + o.name.length := by unfold namedF; split <;> simp [wordF]
        have hown1 := hu2.ownsRow hown (fun _ _ e => e)
        have hb1 := hu2.at_ hb id
        have HX3 := Lib.hid (HX.out.trans hu2)
        have HBS := Lib.hid hbs
        have HB1 := Lib.hid hb1
        have hs2 := hu2.size
        clear hbs hlo hu2 hb1 zc
        go_wp2_with (at_builtin; go_must (refine wpList_append_row rfl _ _ _ rfl Try.bytesT rfl hown1 rfl HBS.out (by simp) (u8_one _) ?c3 ?c4 ?c5 ?_))
        case c3 => unfold maxLen; omega
        case c4 => omega
        case c5 => omega
        intro v' w3 hown2 hg _
        have hb2 := (grownUpd hg).at_ HB1.out (fun e => HNB.out _ e rfl)
        have HG := Lib.hid hg
        have HO2 := Lib.hid hown2
        have HB2 := Lib.hid hb2
        clear hg hown2 hb2
        go_wp2
        go_roundw
        case rel => exact ⟨k + 1, by omega, by go_num, HX3.out.grown HG.out (fun j hj h => by have := (hown.lt j hj).1; omega), HB2.out, by rw [HSUC.out]; exact own_more (m := namedF o.name) HO2.out⟩
        case measure => simp [intOf]; omega
      · have hidx := run_index_str (P := Try.prog) Try.underlying9 (m := 111) HX2.out rfl
        have zc := cellAt hb 3 (str o.to) rfl
        go_wp2_with (go_at_call 68; fail)
        refine (named_any _ o.to (by omega)).mono ?_
        rintro e w2 ⟨v2, S2, rfl, hbs, hlo, hu2⟩
        have hnl : (namedF o.to).length ≤ 1 + o.to.length := by unfold namedF; split <;> simp [wordF]
        have hown1 := hu2.ownsRow hown (fun _ _ e => e)
        have hb1 := hu2.at_ hb id
        have HX3 := Lib.hid (HX.out.trans hu2)
        have HBS := Lib.hid hbs
        have HB1 := Lib.hid hb1
        have hs2 := hu2.size
        clear hbs hlo hu2 hb1 zc
        go_wp2_with (at_builtin; go_must (refine wpList_append_row rfl _ _ _ rfl Try.bytesT rfl hown1 rfl HBS.out (by simp) (u8_one _) ?c3 ?c4 ?c5 ?_))
        case c3 => unfold maxLen; omega
        case c4 => omega
        case c5 => omega
        intro v' w3 hown2 hg _
        have hb2 := (grownUpd hg).at_ HB1.out (fun e => HNB.out _ e rfl)
        have HG := Lib.hid hg
        have HO2 := Lib.hid hown2
        have HB2 := Lib.hid hb2
        clear hg hown2 hb2
        go_wp2
        go_roundw
        case rel => exact ⟨k + 1, by omega, by go_num, HX3.out.grown HG.out (fun j hj h => by have := (hown.lt j hj).1; omega), HB2.out, by rw [HSUC.out]; exact own_more (m := namedF o.to) HO2.out⟩
        case measure => simp [intOf]; omega
      · have hidx := run_index_str (P := Try.prog) Try.underlying9 (m := 116) HX2.out rfl
        have zc := cellAt hb 4 (str o.text) rfl
        go_wp2_with (at_builtin; go_must (refine wpList_append_row rfl _ _ _ rfl Try.bytesT rfl (hown.alloc _) rfl (row_new _ _ _ 1 _ (by decide) (by simp)) rfl (by intro u hu; simp at hu; subst hu; rfl) ?c3 ?c4 ?c5 ?_))
        case c3 => unfold maxLen; omega
        case c4 => omega
        case c5 => simp; omega
        intro v' w2 hown2 hg _
        rw [byteOne] at hown2
        have hb2 := (grownUpd hg).at_ (((Upd.refl Nothing _).alloc _).at_ HB.out id) (fun e => HNB.out _ e rfl)
        have HX4 := Lib.hid ((HX.out.alloc _).grown hg (fun j hj h => by have := (hown.lt j hj).1; omega))
        have hown3 := own_more (l := outF o ps k) (m := [toByte ((o.text.length : Int))]) hown2
        obtain ⟨va2, vn2, vc2, rfl⟩ := ownsForm hown3
        have HNB2 := Lib.hid (show ∀ g, (Value.slice va2 vn2 vc2).ownBlock = some g → ¬ g = w.heap.size from fun g hg e => by subst e; obtain ⟨cur, hc⟩ := owns_tag hown3 hg; exact tag_ne hb2 (by decide) hc)
        have hsx := HX4.out.size
        obtain ⟨acc, hacc⟩ : ∃ acc, acc = outF o ps k ++ [toByte ((o.text.length : Int))] := ⟨_, rfl⟩
        have hal : acc.length = (outF o ps k).length + 1 := by rw [hacc]; simp
        rw [← hacc] at hown3
        have HACC := Lib.hid hacc
        clear hg hown2 zc hacc
        have zc := cellAt hb2 4 (str o.text) rfl
        go_wp2_with (go_at_call 69; fail)
        refine (word_any _ o.text (by omega)).mono ?_
        rintro e w3 ⟨v3, rfl, ho3, hu3⟩
        have hbs : Bytes (From w2.heap.size) w3 v3 (wordF o.text) := by have := Row.of_owns ho3; rw [← wordF_len o.text] at this; exact this
        have hwl := wordF_len o.text
        have hown4 := hu3.ownsRow hown3 (fun _ _ e => e)
        have HB3 := Lib.hid (hu3.at_ hb2 id)
        have HX5 := Lib.hid (HX4.out.trans hu3)
        have hs5 := HX5.out.size
        have HBS := Lib.hid hbs
        clear hbs ho3 hu3 hb2 zc
        go_wp2_with (at_builtin; go_must (refine wpList_append_row rfl _ _ _ rfl Try.bytesT rfl hown4 rfl HBS.out (by simp) (u8_one _) ?c3 ?c4 ?c5 ?_))
        case c3 => unfold maxLen; omega
        case c4 => omega
        case c5 => omega
        intro v' w4 hown5 hg _
        have HB4 := Lib.hid ((grownUpd hg).at_ HB3.out (fun e => HNB2.out _ e rfl))
        have HX6 := Lib.hid (HX5.out.grown hg (fun j hj h => by have := (hown3.lt j hj).1; omega))
        have HO5 := Lib.hid hown5
        clear hg hown5
        go_wp2
        go_roundw
        case rel => exact ⟨k + 1, by omega, by go_num, HX6.out, HB4.out, by rw [HSUC.out, show smallPart o 116 = toByte (o.text.length : Int) :: wordF o.text from rfl, show outF o ps k ++ toByte (o.text.length : Int) :: wordF o.text = acc ++ wordF o.text from by rw [HACC.out]; simp]; exact own_more2 HO5.out (by omega)⟩
        case measure => simp [intOf]; omega
      · have hidx := run_index_str (P := Try.prog) Try.underlying9 (m := 101) HX2.out rfl
        have zc := cellAt hb 5 (.slice a o.edits.length c) rfl
        go_wp2_with (at_builtin; go_must (refine wpList_append_row rfl _ _ _ rfl Try.bytesT rfl (hown.alloc _) rfl (row_new _ _ _ 1 _ (by decide) (by simp)) rfl (by intro u hu; simp at hu; subst hu; rfl) ?c3 ?c4 ?c5 ?_))
        case c3 => unfold maxLen; omega
        case c4 => omega
        case c5 => simp; omega
        intro v' w2 hown2 hg _
        rw [byteOne] at hown2
        have hb2 := (grownUpd hg).at_ (((Upd.refl Nothing _).alloc _).at_ HB.out id) (fun e => HNB.out _ e rfl)
        have HX4 := Lib.hid ((HX.out.alloc _).grown hg (fun j hj h => by have := (hown.lt j hj).1; omega))
        have hown3 := own_more (l := outF o ps k) (m := [toByte ((o.edits.length : Int))]) hown2
        obtain ⟨va2, vn2, vc2, rfl⟩ := ownsForm hown3
        have HNB2 := Lib.hid (show ∀ g, (Value.slice va2 vn2 vc2).ownBlock = some g → ¬ g = w.heap.size from fun g hg e => by subst e; obtain ⟨cur, hc⟩ := owns_tag hown3 hg; exact tag_ne hb2 (by decide) hc)
        have hsx := HX4.out.size
        obtain ⟨acc, hacc⟩ : ∃ acc, acc = outF o ps k ++ [toByte ((o.edits.length : Int))] := ⟨_, rfl⟩
        have hal : acc.length = (outF o ps k).length + 1 := by rw [hacc]; simp
        rw [← hacc] at hown3
        have HACC := Lib.hid hacc
        clear hg hown2 zc hacc
        have HB2 := Lib.hid hb2
        have HO3 := Lib.hid hown3
        clear hb2
        go_wp2
        go_loopw [3, 6] (fun v3 j wr => ∃ i : Nat, i ≤ o.edits.length ∧ j = .int .i64 i ∧ Ext w wr ∧ wr.heap[w.heap.size]? = some (.cells (opCells o (.slice a o.edits.length c)) 59 (0, 0)) ∧ wr.ownsRow w.heap.size 5 1 v3 (acc ++ guessEdits (o.edits.take i)).length ((acc ++ guessEdits (o.edits.take i)).map u8)) (fun _ j _ => o.edits.length - (intOf j).toNat)
        case atStart => exact ⟨0, Nat.zero_le _, rfl, HX4.out, HB2.out, by rw [show acc ++ guessEdits (o.edits.take 0) = acc from by simp [guessEdits], hal]; exact (by simpa [hal] using HO3.out)⟩
        case round =>
          clear HO3
          obtain ⟨i, hi, rfl, hxr, hbr, hownr⟩ := hrel
          have HXR := Lib.hid hxr
          have HBR := Lib.hid hbr
          have hsr := hxr.size
          have hblr := lt_of_heap hbr
          obtain ⟨va3, vn3, vc3, rfl⟩ := ownsForm hownr
          have HNB3 := Lib.hid (show ∀ g, (Value.slice va3 vn3 vc3).ownBlock = some g → ¬ g = w.heap.size from fun g hg e => by subst e; obtain ⟨cur, hc⟩ := owns_tag hownr hg; exact tag_ne hbr (by decide) hc)
          obtain ⟨acc2, hacc2⟩ : ∃ acc2, acc2 = acc ++ guessEdits (o.edits.take i) := ⟨_, rfl⟩
          rw [← hacc2] at hownr
          have hge := guessEdits_len (o.edits.take i)
          have hal2 : acc2.length = acc.length + (guessEdits (o.edits.take i)).length := by rw [hacc2]; simp
          have htl : (o.edits.take i).length ≤ o.edits.length := by rw [List.length_take]; omega
          have HACC2 := Lib.hid hacc2
          have HOW := Lib.hid hownr
          clear hxr hacc2 hownr
          have zc5 := cellAt hbr 5 (.slice a o.edits.length c) rfl
          by_cases hlt2 : i < o.edits.length
          · obtain ⟨b1, o1, c1', e1, -, -, -, hc1⟩ := HR.out (by omega)
            cases e1
            obtain ⟨p1, p2, p3⟩ := edit_cells hc1 i hlt2
            have p1 := HXR.out.cell p1 id
            have p2 := HXR.out.cell p2 id
            have p3 := HXR.out.cell p3 id
            clear hc1 hbr
            obtain ⟨hk0, hk1', hn0, hn1⟩ := HWF.out o.edits[i] (List.getElem_mem hlt2)
            have HSN := Lib.hid (guessEdits_snoc o.edits i hlt2)
            have het := esum_take hlt2
            obtain ⟨x, hxx⟩ : ∃ x, x = o.edits[i] := ⟨_, rfl⟩
            rw [← hxx] at p1 p2 p3 hk0 hk1' hn0 hn1 HSN het
            clear hxx
            have zx0 := newAt wr (.cells #[.int .u8 x.kind, .int .i64 x.n, str x.text] 100)
            go_wp2_with (at_builtin; go_must (refine wpList_append_row rfl _ _ _ rfl Try.bytesT rfl ((HOW.out.alloc _).alloc _) rfl (row_new _ _ _ 1 _ (by decide) (by simp)) rfl (by intro u hu; simp at hu; subst hu; rfl) ?c3 ?c4 ?c5 ?_))
            case c3 => unfold maxLen; omega
            case c4 => omega
            case c5 => simp; omega
            intro v' w3 hown3 hg _
            rw [byteOne] at hown3
            have hb3 := (grownUpd hg).at_ (((Upd.refl Nothing _).alloc _).at_ (((Upd.refl Nothing _).alloc _).at_ HBR.out id) id) (fun e => HNB3.out _ e rfl)
            have hx3 := (grownUpd hg).at_ (((Upd.refl Nothing _).alloc _).at_ zx0 id) (fun e => by have := (HOW.out.lt _ e).2; omega)
            have HX3 := Lib.hid (((HXR.out.alloc _).alloc _).grown hg (fun j hj h => by have := (HOW.out.lt j hj).1; omega))
            have hown3 := own_more2 (l := acc2) (m := [toByte (x.kind - 1)]) hown3 (by simp; omega)
            obtain ⟨va4, vn4, vc4, rfl⟩ := ownsForm hown3
            have HNB4 := Lib.hid (show ∀ g, (Value.slice va4 vn4 vc4).ownBlock = some g → ¬ g = w.heap.size from fun g hg e => by subst e; obtain ⟨cur, hc⟩ := owns_tag hown3 hg; exact tag_ne hb3 (by decide) hc)
            have HNB5 := Lib.hid (show ∀ g, (Value.slice va4 vn4 vc4).ownBlock = some g → ¬ g = wr.heap.size from fun g hg e => by subst e; obtain ⟨cur, hc⟩ := owns_tag hown3 hg; exact tag_ne hx3 (by decide) hc)
            have hs3 := HX3.out.size
            have hl3 := lt_of_heap hb3
            have hl4 := lt_of_heap hx3
            obtain ⟨acc3, hacc3⟩ : ∃ acc3, acc3 = acc2 ++ [toByte (x.kind - 1)] := ⟨_, rfl⟩
            have hal3 : acc3.length = acc2.length + 1 := by rw [hacc3]; simp
            rw [← hacc3] at hown3
            have HACC3 := Lib.hid hacc3
            have HOW3 := Lib.hid hown3
            have HB3 := Lib.hid hb3
            clear hg hown3 zx0 hacc3 p1 p2 p3 zc5 hb3
            by_cases hk2x : x.kind = 2
            · have zt := cellAt hx3 2 (str x.text) rfl
              have zk := cellAt hx3 0 (.int .u8 2) (by rw [← hk2x]; rfl)
              go_wp2_with (at_builtin; go_must (refine wpList_append_row rfl _ _ _ rfl Try.bytesT rfl (HOW3.out.alloc _) rfl (row_new _ _ _ 1 _ (by decide) (by simp)) rfl (by intro u hu; simp at hu; subst hu; rfl) ?c3 ?c4 ?c5 ?_))
              case c3 => unfold maxLen; omega
              case c4 => omega
              case c5 => simp; omega
              intro v' w4 hown4 hg _
              rw [byteOne] at hown4
              have hb4 := (grownUpd hg).at_ (((Upd.refl Nothing _).alloc _).at_ HB3.out id) (fun e => HNB4.out _ e rfl)
              have hx4 := (grownUpd hg).at_ (((Upd.refl Nothing _).alloc _).at_ hx3 id) (fun e => HNB5.out _ e rfl)
              have HX4 := Lib.hid ((HX3.out.alloc _).grown hg (fun j hj h => by have := (HOW3.out.lt j hj).1; omega))
              have hown4 := own_more2 (l := acc3) (m := [toByte ((x.text.length : Int) - 1)]) hown4 (by simp; omega)
              obtain ⟨va5, vn5, vc5, rfl⟩ := ownsForm hown4
              have HNB6 := Lib.hid (show ∀ g, (Value.slice va5 vn5 vc5).ownBlock = some g → ¬ g = w.heap.size from fun g hg e => by subst e; obtain ⟨cur, hc⟩ := owns_tag hown4 hg; exact tag_ne hb4 (by decide) hc)
              have hs4 := HX4.out.size
              obtain ⟨acc4, hacc4⟩ : ∃ acc4, acc4 = acc3 ++ [toByte ((x.text.length : Int) - 1)] := ⟨_, rfl⟩
              have hal4 : acc4.length = acc3.length + 1 := by rw [hacc4]; simp
              rw [← hacc4] at hown4
              have HACC4 := Lib.hid hacc4
              have HOW4 := Lib.hid hown4
              have HB4 := Lib.hid hb4
              have zt := cellAt hx4 2 (str x.text) rfl
              clear hg hown4 hacc4 hb4 hx4 hx3 zk
              go_wp2_with (go_at_call 69; fail)
              refine (word_any _ x.text (by omega)).mono ?_
              rintro e w5 ⟨v5, rfl, ho5, hu5⟩
              have hbs : Bytes (From w4.heap.size) w5 v5 (wordF x.text) := by have := Row.of_owns ho5; rw [← wordF_len x.text] at this; exact this
              have hwl := wordF_len x.text
              have HOW5 := Lib.hid (hu5.ownsRow HOW4.out (fun _ _ e => e))
              have HB5 := Lib.hid (hu5.at_ HB4.out id)
              have HX5 := Lib.hid (HX4.out.trans hu5)
              have hs5 := HX5.out.size
              have HBS := Lib.hid hbs
              clear hbs ho5 hu5 zt
              go_wp2_with (at_builtin; go_must (refine wpList_append_row rfl _ _ _ rfl Try.bytesT rfl HOW5.out rfl HBS.out (by simp) (u8_one _) ?c3 ?c4 ?c5 ?_))
              case c3 => unfold maxLen; omega
              case c4 => omega
              case c5 => omega
              intro v' w6 hown6 hg _
              have HB6 := Lib.hid ((grownUpd hg).at_ HB5.out (fun e => HNB6.out _ e rfl))
              have HX6 := Lib.hid (HX5.out.grown hg (fun j hj h => by have := (HOW4.out.lt j hj).1; omega))
              have HO6 := Lib.hid hown6
              clear hg hown6
              go_wp2
              go_roundw
              case rel => exact ⟨i + 1, by omega, by go_num, HX6.out, HB6.out, by
                rw [HSN.out, show guessEdit x = toByte (x.kind - 1) :: toByte ((x.text.length : Int) - 1) :: wordF x.text from by unfold guessEdit; rw [if_pos hk2x], show acc ++ (guessEdits (o.edits.take i) ++ toByte (x.kind - 1) :: toByte ((x.text.length : Int) - 1) :: wordF x.text) = acc4 ++ wordF x.text from by rw [HACC4.out, HACC3.out, HACC2.out]; simp]
                exact own_more2 HO6.out (by omega)⟩
              case measure => simp [intOf]; omega
            · have hk2b : (x.kind == 2) = false := by simpa using hk2x
              have zk := cellAt hx3 0 (.int .u8 x.kind) rfl
              have zn := cellAt hx3 1 (.int .i64 x.n) rfl
              go_wp2_with (at_builtin; go_must (refine wpList_append_row rfl _ _ _ rfl Try.bytesT rfl (HOW3.out.alloc _) rfl (row_new _ _ _ 1 _ (by decide) (by simp)) rfl (by intro u hu; simp at hu; subst hu; rfl) ?c3 ?c4 ?c5 ?_))
              case c3 => unfold maxLen; omega
              case c4 => omega
              case c5 => simp; omega
              intro v' w4 hown4 hg _
              rw [byteOne, wrapByte hn0 hn1] at hown4
              have HB4 := Lib.hid ((grownUpd hg).at_ (((Upd.refl Nothing _).alloc _).at_ HB3.out id) (fun e => HNB4.out _ e rfl))
              have HX4 := Lib.hid ((HX3.out.alloc _).grown hg (fun j hj h => by have := (HOW3.out.lt j hj).1; omega))
              have hown4 := own_more2 (l := acc3) (m := [toByte (x.n - 1)]) hown4 (by simp; omega)
              have HO4 := Lib.hid hown4
              clear hg hown4
              go_wp2
              go_roundw
              case rel => exact ⟨i + 1, by omega, by go_num, HX4.out, HB4.out, by
                rw [HSN.out, show guessEdit x = [toByte (x.kind - 1), toByte (x.n - 1)] from by unfold guessEdit; rw [if_neg hk2x], show acc ++ (guessEdits (o.edits.take i) ++ [toByte (x.kind - 1), toByte (x.n - 1)]) = acc3 ++ [toByte (x.n - 1)] from by rw [HACC3.out, HACC2.out]; simp]
                exact HO4.out⟩
              case measure => simp [intOf]; omega
          · have hki : i = o.edits.length := by omega
            go_wp2
            go_roundw
            case rel => exact ⟨k + 1, by omega, by go_num, HXR.out, HBR.out, by
              rw [HSUC.out, show smallPart o 101 = toByte (o.edits.length : Int) :: guessEdits o.edits from rfl, show outF o ps k ++ toByte (o.edits.length : Int) :: guessEdits o.edits = acc2 from by rw [HACC2.out, HACC.out, hki, List.take_length]; simp]
              exact HOW.out⟩
            case measure => simp [intOf]; omega
      · have hidx := run_index_str (P := Try.prog) Try.underlying9 (m := 112) HX2.out rfl
        have zc := cellAt hb 6 (.int .u64 o.epoch) rfl
        go_wp2_with (at_builtin; go_must (refine wpList_append_row rfl _ _ _ rfl Try.bytesT rfl (hown.alloc _) rfl (row_new _ _ _ 1 _ (by decide) (by simp)) rfl (by intro u hu; simp at hu; subst hu; rfl) ?c3 ?c4 ?c5 ?_))
        case c3 => unfold maxLen; omega
        case c4 => omega
        case c5 => simp; omega
        intro v' w2 hown2 hg _
        rw [byteOne] at hown2
        have hb2 := (grownUpd hg).at_ (((Upd.refl Nothing _).alloc _).at_ HB.out id) (fun e => HNB.out _ e rfl)
        have HG := Lib.hid hg
        have HO2 := Lib.hid hown2
        have HB2 := Lib.hid hb2
        clear hg hown2 hb2 zc
        go_wp2
        go_roundw
        case rel => exact ⟨k + 1, by omega, by go_num, (HX.out.alloc _).grown HG.out (fun j hj h => by have := (hown.lt j hj).1; omega), HB2.out, by rw [HSUC.out]; exact own_more (m := [toByte o.epoch]) HO2.out⟩
        case measure => simp [intOf]; omega
      · have hidx := run_index_str (P := Try.prog) Try.underlying9 (m := 118) HX2.out rfl
        have zc := cellAt hb 7 (.int .u64 o.version) rfl
        go_wp2_with (at_builtin; go_must (refine wpList_append_row rfl _ _ _ rfl Try.bytesT rfl (hown.alloc _) rfl (row_new _ _ _ 1 _ (by decide) (by simp)) rfl (by intro u hu; simp at hu; subst hu; rfl) ?c3 ?c4 ?c5 ?_))
        case c3 => unfold maxLen; omega
        case c4 => omega
        case c5 => simp; omega
        intro v' w2 hown2 hg _
        rw [byteOne] at hown2
        have hb2 := (grownUpd hg).at_ (((Upd.refl Nothing _).alloc _).at_ HB.out id) (fun e => HNB.out _ e rfl)
        have HG := Lib.hid hg
        have HO2 := Lib.hid hown2
        have HB2 := Lib.hid hb2
        clear hg hown2 hb2 zc
        go_wp2
        go_roundw
        case rel => exact ⟨k + 1, by omega, by go_num, (HX.out.alloc _).grown HG.out (fun j hj h => by have := (hown.lt j hj).1; omega), HB2.out, by rw [HSUC.out]; exact own_more (m := [toByte o.version]) HO2.out⟩
        case measure => simp [intOf]; omega
      · have hidx := run_index_str (P := Try.prog) Try.underlying9 (m := 117) HX2.out rfl
        have zc := cellAt hb 8 (.int .u64 o.dur) rfl
        go_wp2_with (at_builtin; go_must (refine wpList_append_row rfl _ _ _ rfl Try.bytesT rfl (hown.alloc _) rfl (row_new _ _ _ 1 _ (by decide) (by simp)) rfl (by intro u hu; simp at hu; subst hu; rfl) ?c3 ?c4 ?c5 ?_))
        case c3 => unfold maxLen; omega
        case c4 => omega
        case c5 => simp; omega
        intro v' w2 hown2 hg _
        rw [byteOne] at hown2
        have hb2 := (grownUpd hg).at_ (((Upd.refl Nothing _).alloc _).at_ HB.out id) (fun e => HNB.out _ e rfl)
        have HG := Lib.hid hg
        have HO2 := Lib.hid hown2
        have HB2 := Lib.hid hb2
        clear hg hown2 hb2 zc
        go_wp2
        go_roundw
        case rel => exact ⟨k + 1, by omega, by go_num, (HX.out.alloc _).grown HG.out (fun j hj h => by have := (hown.lt j hj).1; omega), HB2.out, by rw [HSUC.out]; exact own_more (m := [toByte o.dur]) HO2.out⟩
        case measure => simp [intOf]; omega
    · have hkl : k = ps.length := by omega
      subst hkl
      go_wp2
      go_ret
      exact ⟨_, rfl, by rw [HFIN.out]; exact hown, HX.out⟩
end Go.Proofs.Ytlhpcgmbbeihiaa
