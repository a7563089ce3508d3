/-
  CONTRACTS of the law's own functions: refs (at most 70000 events of at most 1000 edits and 1000 told).
-/
import Derived.Test.YtlhpcgmbbeihiaaEvs
namespace Go.Proofs.Ytlhpcgmbbeihiaa
open Go.RowKit

theorem evCells_take_nil (l : List Ev) : l.take 0 = [] := List.take_zero

set_option maxRecDepth 100000 in
set_option maxHeartbeats 1000000 in
theorem refs_any {S : Nat → Prop} (w : World) (v : Value) (l : List Ev) (h : EvsRow S w v l) (hl : l.length ≤ 70000) (he : ∀ x ∈ l, x.op.edits.length ≤ 1000 ∧ x.keep.length ≤ 1000) :
    Calls Try.prog 13 #[v] w fun e w' => ∃ v', e = .returned v' ∧ REvsOwn w.heap.size w' v' l ∧ Ext w w' := by
  obtain ⟨hml, ⟨a, c, rfl, hn, hm⟩, hat⟩ := h.at_
  have HAT := Lib.hid hat
  have HE := Lib.hid he
  unfold maxLen at hm hml
  clear h hat he
  go_enter Try.func13, Try.ntmps13
  go_wp2
  go_loopw [3, 4] (fun o i wr => ∃ k : Nat, k ≤ l.length ∧ i = .int .i64 k ∧ Ext w wr ∧ REvsOwn w.heap.size wr o (l.take k))
    (fun _ i _ => l.length - (intOf i).toNat)
  case atStart => exact ⟨0, Nat.zero_le _, rfl, Upd.refl _ _, [], rfl, World.ownsRow_nil _ _ _ _, fun i cs e h => by simp at h⟩
  case round =>
    obtain ⟨k, hk, rfl, hx, css, hcl, hown, hev⟩ := hrel
    have HEV := Lib.hid hev
    have HCL := Lib.hid hcl
    have HX := Lib.hid hx
    clear hev hcl hx
    by_cases hlt : k < l.length
    · obtain ⟨b, o, c', ve, vk, e1, -, hra, hr1, hr2⟩ := HAT.out k hlt
      cases e1
      obtain ⟨hle, hlk⟩ := HE.out l[k] (List.getElem_mem hlt)
      obtain ⟨x, hxq⟩ : ∃ x, x = l[k] := ⟨_, rfl⟩
      rw [← hxq] at hra hr1 hr2 hle hlk
      have hra' : ∀ j u, (evCells x ve vk).toList[j]? = some u → _ := fun j u hj => HX.out.cell (hra j u hj) id
      have HRA := Lib.hid (show World.rangeAt _ b (o + k * 14) (evCells x ve vk).toList from hra')
      have HR1 := Lib.hid (hr1.ext HX.out)
      have HR2 := Lib.hid (hr2.ext HX.out)
      have HXQ := Lib.hid hxq
      clear hra hra' hr1 hr2 hxq
      go_wp2_with (first | (refine wpList_load_mid rfl _ _ rfl b (o + k * 14) rfl (evCells x ve vk).toList _ HRA.out Try.underlying44 rfl (by kernel_rfl) ?_) | (go_at_call 28; fail))
      refine (ref_any _ x ve vk HR1.out HR2.out hle hlk).mono ?_
      rintro e w5 ⟨ve', vk', rfl, ho1, ho2, hu5⟩
      obtain ⟨ea, en, ec, rfl⟩ := ownsForm ho1
      obtain ⟨ka, kn, kc, rfl⟩ := ownsForm ho2
      have hown5 := hu5.ownsRow hown (fun _ _ e => e)
      have HX5 := Lib.hid (HX.out.trans hu5)
      have hus := HX.out.size
      have hus5 := HX5.out.size
      have ho1' := ho1.mono_base hus
      have ho2' := ho2.mono_base hus
      have hlen : (l.take k).length = k := by rw [List.length_take]; omega
      have HEV5 := Lib.hid (show ∀ (i : Nat) (cs : List Value) (e : Ev), css[i]? = some cs → (l.take k)[i]? = some e → REvOwn w.heap.size w5 cs e from fun i cs e h1 h2 => (HEV.out i cs e h1 h2).ext hu5)
      rw [hlen] at hown5
      clear ho1 ho2 hown
      unfold evCells
      go_wp2_with (at_builtin; go_must (refine wpList_append_row rfl _ _ _ rfl Try.reventsT rfl (hown5.alloc _) rfl (row_new _ _ _ 1 _ (by decide) rfl) rfl (evCells_ones x ea ka en ec kn kc) ?k3 ?k4 ?k5 ?_))
      case k3 => unfold maxLen; omega
      case k4 => omega
      case k5 => simp; omega
      intro v' w6 hown6 hg _
      go_wp2
      go_roundw
      case rel =>
        refine ⟨k + 1, by omega, by go_num, (HX5.out.alloc _).grown hg (fun j hj h => by have := (hown5.lt j hj).1; omega), ?_⟩
        rw [List.take_succ_eq_append_getElem hlt, ← HXQ.out]
        exact REvsOwn.snoc HCL.out HEV5.out ho1' ho2' (by rw [hlen]; exact hown5) (by rw [hlen]; exact hown6) hg
      case measure => simp [intOf]; omega
    · have hkl : k = l.length := by omega
      subst hkl
      go_wp2
      go_ret
      rw [List.take_length] at HCL HEV hown
      exact ⟨_, rfl, ⟨css, HCL.out, hown, HEV.out⟩, HX.out⟩
end Go.Proofs.Ytlhpcgmbbeihiaa
