/-
  CONTRACT of delta.Parse.
-/
import Derived.Test.YtlhpcgmbbeihiaaDoorDTake
import Derived.Test.YtlhpcgmbbeihiaaDoorMF
namespace Go.Proofs.YtlhpcgmbbeihiaaDoor
open Go.RowKit

def editsJoin (dn : List Edit) (r : Int × List Edit) : Int × List Edit := if r.1 = 0 then (0, dn ++ r.2) else (r.1, [])
theorem editsJoin_step {dn : List Edit} {f : Nat} {l : List UInt8} (hl : l ≠ []) (h : (editP l).1 = 0) : editsJoin dn (editsP (f + 1) l) = editsJoin (dn ++ [(editP l).2.1]) (editsP f (l.drop (editP l).2.2)) := by
  rw [editsP, if_neg hl, if_pos h]
  by_cases h1 : (editsP f (l.drop (editP l).2.2)).1 = 0
  · rw [if_pos h1]; simp only [editsJoin, h1, if_true]; simp
  · rw [if_neg h1]; simp only [editsJoin, if_neg h1]
theorem editsJoin_bad {dn : List Edit} {f : Nat} {l : List UInt8} (hl : l ≠ []) (h : (editP l).1 ≠ 0) : editsJoin dn (editsP (f + 1) l) = ((editP l).1, []) := by
  rw [editsP, if_neg hl, if_neg h, editsJoin, if_neg h]
theorem editsP_bad : ∀ (f : Nat) (l : List UInt8), (editsP f l).1 ≠ 0 → (editsP f l).2 = [] := by
  intro f
  induction f with
  | zero => intro l h; exact absurd rfl h
  | succ f ih =>
    intro l h
    rw [editsP] at h ⊢
    split
    · rfl
    · rename_i h0
      rw [if_neg h0] at h
      split
      · rename_i h1
        rw [if_pos h1] at h
        split
        · rename_i h2; rw [if_pos h2] at h; exact absurd rfl h
        · rfl
      · rfl
theorem editsJoin_nil (f : Nat) (l : List UInt8) : editsP f l = editsJoin [] (editsP f l) := by
  rw [editsJoin]
  split
  · rename_i h
    exact (show ∀ q : Int × List Edit, q.1 = 0 → q = (0, [] ++ q.2) from by rintro ⟨x, y⟩ h; simp at h; subst h; rfl) _ h
  · rename_i h
    have h2 := editsP_bad _ _ h
    exact (show ∀ q : Int × List Edit, q.2 = [] → q = (q.1, []) from by rintro ⟨x, y⟩ h; simp at h; subst h; rfl) _ h2
theorem editsJoin_end (dn : List Edit) (f : Nat) : editsJoin dn (editsP f []) = (0, dn) := by
  cases f <;> simp [editsP, editsJoin]
theorem ownsRow_row2 {w : World} {B e s : Nat} {v : Value} {n : Nat} {xs : List Value} (h : w.ownsRow B e s v n xs) (o1 o2 : Obj) : ((w.alloc o1).alloc o2).ownsRow B e s v n xs := (h.alloc _).alloc _

set_option maxRecDepth 100000 in
set_option maxHeartbeats 1000000 in
theorem dParse_any {S : Nat → Prop} (w : World) (v : Value) (l : List UInt8) (h : Bytes S w v l) (hl : l.length ≤ 1099511627776) :
    Calls Tryd.prog 43 #[v] w fun e w' => ∃ v', e = .returned (.tuple #[v', .int .i64 (editsP l.length l).1]) ∧ ((editsP l.length l).1 = 0 → w'.ownsRow w.heap.size 64 3 v' (editsP l.length l).2.length (editCells (editsP l.length l).2)) ∧ ((editsP l.length l).1 ≠ 0 → v' = nilS) ∧ Ext w w' := by
  have H := Lib.hid h
  obtain ⟨a, c, rfl, hn, hm, -⟩ := h
  obtain ⟨R, hR⟩ : ∃ R, R = editsP l.length l := ⟨_, rfl⟩
  rw [← hR]
  have HR := Lib.hid hR
  clear hR
  go_enter Tryd.func43, Tryd.ntmps43
  go_wp2
  go_loopw [4, 5] (fun v q wr => ∃ (b f : Nat) (dn : List Edit), b ≤ l.length ∧ l.length - b ≤ f ∧ dn.length ≤ b ∧ q = .int .i64 (b : Int) ∧ R = editsJoin dn (editsP f (l.drop b)) ∧ Ext w wr ∧ wr.ownsRow w.heap.size 64 3 v dn.length (editCells dn)) (fun _ q _ => l.length - (intOf q).toNat)
  case atStart => exact ⟨0, l.length, [], Nat.zero_le _, by omega, Nat.le_refl _, rfl, by rw [HR.out]; exact editsJoin_nil _ _, Upd.refl _ _, World.ownsRow_nil _ _ _ _⟩
  case round =>
    obtain ⟨b, f, dn, hb, hf, hdn, rfl, hr, hx, hown⟩ := hrel
    have HX := Lib.hid hx
    have hus := hx.size
    have HRJ := Lib.hid hr
    clear hx hr
    by_cases hlt : b < l.length
    · obtain ⟨f, rfl⟩ : ∃ g, f = g + 1 := ⟨f - 1, by omega⟩
      have hne : l.drop b ≠ [] := by intro e; have := congrArg List.length e; simp at this; omega
      have hst := fun h => editsJoin_step (dn := dn) (f := f) hne h
      have hbd := fun h => editsJoin_bad (dn := dn) (f := f) hne h
      have hpo := fun h => editP_ok hne h
      go_wp2_with (go_at_call 65; fail)
      refine (dTake_any _ _ l (H.out.ext HX.out) b hlt (by omega)).mono ?_
      rintro e w2 ⟨x, n, rfl, hok, hx2⟩
      have hown1 := hx2.ownsRow hown (fun _ _ e => e)
      have hsz2 := hx2.size
      have HX2 := Lib.hid (HX.out.trans hx2)
      clear hown hx2
      by_cases h0 : (editP (l.drop b)).1 = 0
      · obtain ⟨rfl, rfl⟩ := hok h0
        have hstep := hst h0
        obtain ⟨-, -, -, k1, k2, -⟩ := hpo h0
        rw [← HRJ.out, List.drop_drop] at hstep
        rw [List.length_drop] at k2
        obtain ⟨x, hx⟩ : ∃ x, x = (editP (l.drop b)).2.1 := ⟨_, rfl⟩
        obtain ⟨q, hq⟩ : ∃ q, q = b + (editP (l.drop b)).2.2 := ⟨_, rfl⟩
        rw [h0, ← hx, ← hq]
        rw [← hx, ← hq] at hstep
        have hbq : b < q := by omega
        have hql : q ≤ l.length := by omega
        have HS := Lib.hid hstep
        have hdl : dn.length + 1 ≤ 1099511627776 := by omega
        clear hst hbd hpo hok hstep hx hq k1 k2 h0
        simp only [editLit]
        go_wp2_with (at_builtin; go_must (refine wpList_append_row rfl _ _ _ rfl Tryd.editsT rfl (ownsRow_row2 hown1 _ _) rfl (row_new _ _ _ 1 _ (by decide) (by simp)) rfl (edit_one x) ?c3 ?c4 ?c5 ?_))
        case c3 => unfold maxLen; omega
        case c4 => omega
        case c5 => first | omega | (simp; omega)
        intro v' w3 hown3 hg _
        have hx3 := ((HX2.out.alloc _).alloc _).grown hg (fun j hj h => by have := (hown1.lt j hj).1; omega)
        have HX3 := Lib.hid hx3
        clear hx3 hg
        go_wp2
        go_roundw
        case rel => exact ⟨q, f, dn ++ [x], hql, by omega, by simp; omega, rfl, HS.out, HX3.out, by rw [List.length_append, editCells_snoc]; exact hown3⟩
        case measure => simp [intOf]; omega
      · have hstep := hbd h0
        rw [← HRJ.out] at hstep
        obtain ⟨E, hE⟩ : ∃ E, E = (editP (l.drop b)).1 := ⟨_, rfl⟩
        rw [← hE] at h0 hstep ⊢
        have hb : (E != 0) = true := by simpa using h0
        have HS := Lib.hid hstep
        have HE := Lib.hid h0
        clear hst hbd hpo hok hE hstep h0 hown1
        simp only [editLit]
        go_wp2
        go_ret2
        refine ⟨nilS, by rw [HS.out]; rfl, fun e => ?_, fun _ => rfl, HX2.out.alloc _⟩
        rw [HS.out] at e; exact absurd e HE.out
    · have hbl : b = l.length := by omega
      go_wp2
      go_ret2
      have := HRJ.out
      rw [List.drop_eq_nil_of_le (by omega), editsJoin_end] at this
      rw [this]
      exact ⟨_, rfl, fun _ => hown, fun h => absurd rfl h, HX.out⟩
end Go.Proofs.YtlhpcgmbbeihiaaDoor
