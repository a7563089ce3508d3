/-
  ROWS OF EVENTS as a reader sees them: 'EvsRow': the slice's cells, and the rows that each event's cells name. No program in sight but the types' numbers.
  CONTRACTS of the law's own functions: refs (at most 70000 events of at most 1000 edits and 1000 told).
-/
import Derived.Test.YtlhpcgmbbeihiaaLaw2
namespace Go.Proofs.Ytlhpcgmbbeihiaa
open Go.RowKit

/-- An event's cells, its rows in blocks of S. -/
def EvRow (S : Nat → Prop) (w : World) (cs : List Value) (e : Ev) : Prop :=
  ∃ ve vk, cs = (evCells e ve vk).toList ∧ Row S w ve e.op.edits.length (editCells e.op.edits) ∧ Row S w vk e.keep.length (bools e.keep)
def EvsRow (S : Nat → Prop) (w : World) (v : Value) (l : List Ev) : Prop :=
  ∃ css : List (List Value), css.length = l.length ∧ Row S w v l.length css.flatten ∧ ∀ (i : Nat) (cs : List Value) (e : Ev), css[i]? = some cs → l[i]? = some e → EvRow S w cs e
namespace EvsRow
variable {S T : Nat → Prop} {w w1 : World} {v : Value} {l : List Ev}
theorem _root_.Go.Proofs.Ytlhpcgmbbeihiaa.EvRow.upd {cs : List Value} {e : Ev} (h : EvRow S w cs e) (hu : Upd T w w1) (hs : ∀ k, S k → ¬ T k) : EvRow S w1 cs e := by
  obtain ⟨ve, vk, hc, h1, h2⟩ := h
  exact ⟨ve, vk, hc, h1.upd hu hs, h2.upd hu hs⟩
theorem _root_.Go.Proofs.Ytlhpcgmbbeihiaa.EvRow.mono {cs : List Value} {e : Ev} (h : EvRow S w cs e) (hs : ∀ k, S k → T k) : EvRow T w cs e := by
  obtain ⟨ve, vk, hc, h1, h2⟩ := h
  exact ⟨ve, vk, hc, h1.mono hs, h2.mono hs⟩
theorem upd (h : EvsRow S w v l) (hu : Upd T w w1) (hs : ∀ k, S k → ¬ T k) : EvsRow S w1 v l := by
  obtain ⟨css, hl, hr, he⟩ := h
  exact ⟨css, hl, hr.upd hu hs, fun i cs e h1 h2 => (he i cs e h1 h2).upd hu hs⟩
theorem ext (h : EvsRow S w v l) (hu : Ext w w1) : EvsRow S w1 v l := h.upd hu fun _ _ e => e
theorem mono (h : EvsRow S w v l) (hs : ∀ k, S k → T k) : EvsRow T w v l := by
  obtain ⟨css, hl, hr, he⟩ := h
  exact ⟨css, hl, hr.mono hs, fun i cs e h1 h2 => (he i cs e h1 h2).mono hs⟩
theorem of_owns {B : Nat} (h : EvsOwn B w v l) : EvsRow (From B) w v l := by
  obtain ⟨css, hl, hr, he⟩ := h
  exact ⟨css, hl, Row.of_owns hr, fun i cs e h1 h2 => by obtain ⟨ve, vk, hc, h3, h4⟩ := he i cs e h1 h2; exact ⟨ve, vk, hc, Row.of_owns h3, Row.of_owns h4⟩⟩
theorem of_rowns {B : Nat} (h : REvsOwn B w v l) : EvsRow (From B) w v l := by
  obtain ⟨css, hl, hr, he⟩ := h
  exact ⟨css, hl, Row.of_owns hr, fun i cs e h1 h2 => by obtain ⟨ve, vk, hc, h3, h4⟩ := he i cs e h1 h2; exact ⟨ve, vk, hc, Row.of_owns h3, Row.of_owns h4⟩⟩
end EvsRow

theorem evCells_size (e : Ev) (a b : Value) : (evCells e a b).toList.length = 14 := rfl
theorem flat_at {m : Nat} {css : List (List Value)} (hm : ∀ cs ∈ css, cs.length = m) {i j : Nat} (hi : i < css.length) (hj : j < m) : css.flatten[i * m + j]? = (css[i])[j]? := by
  induction css generalizing i with
  | nil => simp at hi
  | cons c css ih =>
    have hc : c.length = m := hm c (by simp)
    cases i with
    | zero => simp only [List.flatten_cons, Nat.zero_mul, Nat.zero_add, List.getElem_cons_zero]; exact List.getElem?_append_left (by omega)
    | succ i =>
      simp only [List.flatten_cons, List.getElem_cons_succ]
      rw [List.getElem?_append_right (by rw [hc, Nat.succ_mul]; omega), hc, show (i + 1) * m + j - m = i * m + j from by rw [Nat.succ_mul]; omega]
      exact ih (fun cs h => hm cs (by simp [h])) (by simpa using hi)

/-- One event of a row. -/
theorem EvsRow.at_ {S : Nat → Prop} {w : World} {v : Value} {l : List Ev} (h : EvsRow S w v l) : l.length ≤ maxLen ∧ (∃ a c, v = .slice a l.length c ∧ l.length ≤ c ∧ c ≤ maxLen) ∧
    ∀ i (hi : i < l.length), ∃ b o c ve vk, v = .slice (some ⟨b, o, none⟩) l.length c ∧ S b ∧ w.rangeAt b (o + i * 14) (evCells l[i] ve vk).toList ∧ Row S w ve l[i].op.edits.length (editCells l[i].op.edits) ∧ Row S w vk l[i].keep.length (bools l[i].keep) := by
  obtain ⟨css, hl, hr, he⟩ := h
  have h14 : ∀ cs ∈ css, cs.length = 14 := fun cs hc => by
    obtain ⟨i, hi, rfl⟩ := List.getElem_of_mem hc
    obtain ⟨ve, vk, hc2, -⟩ := he i css[i] (l[i]'(by omega)) (by simp [hi]) (by simp)
    rw [hc2]; rfl
  have hr' := hr
  obtain ⟨a, c, rfl, h1, h2, h3, h4, h5⟩ := hr
  refine ⟨by omega, ⟨a, c, rfl, h1, h2⟩, fun i hi => ?_⟩
  obtain ⟨b, o, c', e, hS, -, -, hcell⟩ := hr'.addr (by omega)
  obtain ⟨ve, vk, hc2, g1, g2⟩ := he i (css[i]'(by omega)) l[i] (by simp [hl, hi]) (by simp [hi])
  refine ⟨b, o, c', ve, vk, e, hS, fun j u hj => ?_, g1, g2⟩
  have hj14 : j < 14 := by have := (List.getElem?_eq_some_iff.1 hj).1; simpa [evCells] using this
  rw [Nat.add_assoc]
  refine hcell _ _ ?_
  rw [flat_at h14 (by omega) hj14, hc2]; exact hj
end Go.Proofs.Ytlhpcgmbbeihiaa
namespace Go.Proofs.Ytlhpcgmbbeihiaa
open Go.RowKit

theorem evCells_take_nil (l : List Ev) : l.take 0 = [] := List.take_zero

set_option maxRecDepth 100000 in
set_option maxHeartbeats 1000000 in
theorem refs_any {S : Nat → Prop} (w : World) (v : Value) (l : List Ev) (h : EvsRow S w v l) (hl : l.length ≤ 70000) (he : ∀ x ∈ l, x.op.edits.length ≤ 1000 ∧ x.keep.length ≤ 1000) :
    Calls Try.prog 13 #[v] w fun e w' => ∃ v', e = .returned v' ∧ REvsOwn w.heap.size w' v' l ∧ Ext w w' := by
  obtain ⟨hml, ⟨a, c, rfl, hn, hm⟩, hat⟩ := h.at_
  have HAT := Lib.hid hat
  have HE := Lib.hid he
  unfold maxLen at hm hml
  clear h hat he
  go_enter Try.func13, Try.ntmps13
  go_wp2
  go_loopw [3, 4] (fun o i wr => ∃ k : Nat, k ≤ l.length ∧ i = .int .i64 k ∧ Ext w wr ∧ REvsOwn w.heap.size wr o (l.take k))
    (fun _ i _ => l.length - (intOf i).toNat)
  case atStart => exact ⟨0, Nat.zero_le _, rfl, Upd.refl _ _, [], rfl, World.ownsRow_nil _ _ _ _, fun i cs e h => by simp at h⟩
  case round =>
    obtain ⟨k, hk, rfl, hx, css, hcl, hown, hev⟩ := hrel
    have HEV := Lib.hid hev
    have HCL := Lib.hid hcl
    have HX := Lib.hid hx
    clear hev hcl hx
    by_cases hlt : k < l.length
    · obtain ⟨b, o, c', ve, vk, e1, -, hra, hr1, hr2⟩ := HAT.out k hlt
      cases e1
      obtain ⟨hle, hlk⟩ := HE.out l[k] (List.getElem_mem hlt)
      obtain ⟨x, hxq⟩ : ∃ x, x = l[k] := ⟨_, rfl⟩
      rw [← hxq] at hra hr1 hr2 hle hlk
      have hra' : ∀ j u, (evCells x ve vk).toList[j]? = some u → _ := fun j u hj => HX.out.cell (hra j u hj) id
      have HRA := Lib.hid (show World.rangeAt _ b (o + k * 14) (evCells x ve vk).toList from hra')
      have HR1 := Lib.hid (hr1.ext HX.out)
      have HR2 := Lib.hid (hr2.ext HX.out)
      have HXQ := Lib.hid hxq
      clear hra hra' hr1 hr2 hxq
      go_wp2_with (first | (refine wpList_load_mid rfl _ _ rfl b (o + k * 14) rfl (evCells x ve vk).toList _ HRA.out Try.underlying44 rfl (by kernel_rfl) ?_) | (go_at_call 28; fail))
      refine (ref_any _ x ve vk HR1.out HR2.out hle hlk).mono ?_
      rintro e w5 ⟨ve', vk', rfl, ho1, ho2, hu5⟩
      obtain ⟨ea, en, ec, rfl⟩ := ownsForm ho1
      obtain ⟨ka, kn, kc, rfl⟩ := ownsForm ho2
      have hown5 := hu5.ownsRow hown (fun _ _ e => e)
      have HX5 := Lib.hid (HX.out.trans hu5)
      have hus := HX.out.size
      have hus5 := HX5.out.size
      have ho1' := ho1.mono_base hus
      have ho2' := ho2.mono_base hus
      have hlen : (l.take k).length = k := by rw [List.length_take]; omega
      have HEV5 := Lib.hid (show ∀ (i : Nat) (cs : List Value) (e : Ev), css[i]? = some cs → (l.take k)[i]? = some e → REvOwn w.heap.size w5 cs e from fun i cs e h1 h2 => (HEV.out i cs e h1 h2).ext hu5)
      rw [hlen] at hown5
      clear ho1 ho2 hown
      unfold evCells
      go_wp2_with (at_builtin; go_must (refine wpList_append_row rfl _ _ _ rfl Try.reventsT rfl (hown5.alloc _) rfl (row_new _ _ _ 1 _ (by decide) rfl) rfl (evCells_ones x ea ka en ec kn kc) ?k3 ?k4 ?k5 ?_))
      case k3 => unfold maxLen; omega
      case k4 => omega
      case k5 => simp; omega
      intro v' w6 hown6 hg _
      go_wp2
      go_roundw
      case rel =>
        refine ⟨k + 1, by omega, by go_num, (HX5.out.alloc _).grown hg (fun j hj h => by have := (hown5.lt j hj).1; omega), ?_⟩
        rw [List.take_succ_eq_append_getElem hlt, ← HXQ.out]
        exact REvsOwn.snoc HCL.out HEV5.out ho1' ho2' (by rw [hlen]; exact hown5) (by rw [hlen]; exact hown6) hg
      case measure => simp [intOf]; omega
    · have hkl : k = l.length := by omega
      subst hkl
      go_wp2
      go_ret
      rw [List.take_length] at HCL HEV hown
      exact ⟨_, rfl, ⟨css, HCL.out, hown, HEV.out⟩, HX.out⟩
end Go.Proofs.Ytlhpcgmbbeihiaa
