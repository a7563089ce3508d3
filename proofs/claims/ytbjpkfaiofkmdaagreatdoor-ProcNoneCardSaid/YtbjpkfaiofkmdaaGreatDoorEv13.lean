/-
  A RECKONER OF CLOSED CALLS, THIRTEENTH PART: what the pass over a region that draws has told. No program in sight; no condition.
-/
import Derived.Test.YtbjpkfaiofkmdaaGreatDoorEv12
namespace Go.Proofs.YtbjpkfaiofkmdaaGreatDoor.Ev
open Go Go.RowKit

variable {P : Program} {T : Tb} {l : Env} {H : Hp} {w : World} {N : Nat} {call : CallF} {ops : Array Oper} {dm : Tr Nat}

/-! environments cut off -/
def Env.cut (l : Env) (n : Nat) : Env := fun b => if b < n then l b else none
theorem Env.cut_le (l : Env) (n : Nat) : (l.cut n).le l := fun b x h => by
  unfold Env.cut at h
  split at h
  · exact h
  · cases h
theorem Env.cut_mono (l : Env) {n m : Nat} (h : n ≤ m) : (l.cut n).le (l.cut m) := fun b x hb => by
  unfold Env.cut at hb ⊢
  split at hb
  · rw [if_pos (by omega)]; exact hb
  · cases hb
theorem Env.cut_of {l : Env} {n b : Nat} {x : Nat × Nat} (h : l.cut n b = some x) : b < n ∧ l b = some x := by
  unfold Env.cut at h
  split at h
  · exact ⟨by assumption, h⟩
  · cases h
theorem Env.cut_at {l : Env} {n b : Nat} (h : b < n) : l.cut n b = l b := by simp [Env.cut, h]
/-- More numbers, the same blocks. -/
theorem HR.lift {sz : TypeId → Nat} {l' : Env} {t : Tr AObj} {n n' : Nat} (h : HR sz l ⟨t, n⟩ w) (hl : l.le l') (hd : ∀ b x, l' b = some x → b < n') : HR sz l' ⟨t, n'⟩ w := by
  refine ⟨fun b o e => ?_, fun b b' o o' x x' e e' g g' hx => ?_, hd, fun g hg => hl _ _ (h.glob g hg)⟩
  · obtain ⟨k, κ, x, h1, h2, h3⟩ := h.obj b o e
    exact ⟨k, κ, x, hl _ _ h1, h2, h3.mono hl⟩
  · obtain ⟨k, κ, y, h1, -⟩ := h.obj b o e
    obtain ⟨k', κ', y', h1', -⟩ := h.obj b' o' e'
    have e1 := hl _ _ h1
    have e2 := hl _ _ h1'
    rw [g] at e1
    rw [g'] at e2
    cases e1
    cases e2
    exact h.inj b b' o o' _ _ e e' h1 h1' hx
/-- One block more. -/
theorem HR.more {sz : TypeId → Nat} {t : Tr AObj} {n : Nat} (h : HR sz l ⟨t, n⟩ w) {b k κ : Nat} {o : AObj} {x : Obj} (hl : l b = some (k, κ)) (hk : w.heap[k]? = some x) (ho : OR sz l κ o x)
    (hap : ∀ b' o', t.get b' = some o' → b' ≠ b → ∀ y, l b' = some y → y.1 ≠ k) : HR sz l ⟨t.set 24 b (some o), n⟩ w := by
  refine ⟨fun b2 o2 e => ?_, fun b2 b3 o2 o3 x2 x3 e2 e3 l2 l3 hx => ?_, h.dom, h.glob⟩
  · rcases Tr.set_get _ _ _ _ _ _ e with ⟨rfl, e'⟩ | ⟨-, e'⟩
    · cases e'; exact ⟨k, κ, x, hl, hk, ho⟩
    · exact h.obj b2 o2 e'
  · rcases Tr.set_get _ _ _ _ _ _ e2 with ⟨rfl, e2'⟩ | ⟨n2, e2'⟩
    · rcases Tr.set_get _ _ _ _ _ _ e3 with ⟨rfl, e3'⟩ | ⟨n3, e3'⟩
      · rfl
      · rw [hl] at l2
        cases l2
        exact absurd hx.symm (hap b3 o3 e3' n3 x3 l3)
    · rcases Tr.set_get _ _ _ _ _ _ e3 with ⟨rfl, e3'⟩ | ⟨n3, e3'⟩
      · rw [hl] at l3
        cases l3
        exact absurd hx (hap b2 o2 e2' n2 x2 l2)
      · exact h.inj b2 b3 o2 o3 x2 x3 e2' e3' l2 l3 hx

theorem belA_ok {l : Env} : ∀ {d n : Nat} {v : AV} {x : Value}, belA d n v = true → VR l v x → VR (l.cut n) v x
  | 0, _, _, _, h, _ => by cases h
  | d + 1, n, v, x, h, hv => by
    have at_ : ∀ {b : Nat} {y : Nat × Nat}, Nat.blt b n = true → l b = some y → l.cut n b = some y := fun hb hl => by
      rw [Env.cut_at (by simpa [Nat.blt_eq] using hb)]; exact hl
    have list : ∀ {a : List AV} {xs : List Value}, belA d n (.agg a) = true → VRs l a xs → VRs (l.cut n) a xs := fun ha hxs => by
      have := belA_ok ha (.agg hxs)
      cases this with
      | agg h => simpa using h
    unfold belA at h
    cases hv with
    | bool => exact .bool _
    | int => exact .int _ _
    | str _ hs => exact .str _ hs
    | nilp => exact .nilp
    | ptr o hl => exact .ptr o (at_ h hl)
    | nils => exact .nils
    | sl o n c hl => exact .sl o n c (at_ h hl)
    | slo o n c hl hd => exact .slo o n c (at_ h hl) hd
    | nilmap => exact .nilmap
    | map hl => exact .map (at_ h hl)
    | nilchan => exact .nilchan
    | chan hl => exact .chan (at_ h hl)
    | fn f ha hc =>
      simp only [Bool.and_eq_true] at h
      exact .fn f (list h.1 ha) (list h.2 hc)
    | nilfn => exact .nilfn
    | ifc t hv => exact .ifc t (belA_ok h hv)
    | nilif => exact .nilif
    | agg ha =>
      cases ha with
      | nil => exact .agg .nil
      | cons h1 h2 =>
        simp only [Bool.and_eq_true] at h
        exact .agg (.cons (belA_ok h.1 h1) (list h.2 h2))
    | tup ha =>
      cases ha with
      | nil => exact .tup .nil
      | cons h1 h2 =>
        simp only [Bool.and_eq_true] at h
        exact .tup (.cons (belA_ok h.1 h1) (list h.2 h2))
    | cst => exact .cst _
    | yld hl => exact .yld (at_ h hl)

/-! steps -/
inductive DoR (T : Tb) (call : CallF) (ops : Array Oper) (s : PS) (i mask : Nat) (fo : Tr AV) (o : Oper) : AV → PS → Prop where
  | U (h : wantV ops fo o = some false) (hd : isSomeB o.dst = true) : DoR T call ops s i mask fo o (.tup []) { s with info := ⟨mask, fo, .U, .tup [], none⟩ }
  | R {v} (h : wantV ops fo o = some true) (hr : ropV T fo s.Hc o.op = some v) (hb : belA 1000 s.nx v = true) : DoR T call ops s i mask fo o v { s with info := ⟨mask, fo, .R, v, none⟩ }
  | W {v H'} (h : wantV ops fo o = some true) (hm : mask &&& s.wm = s.wm) (hn : s.nx ≤ H'.nx) (hr : opV T call fo ⟨putP mask s.pend s.Hc, s.nx⟩ o.op = some (v, H')) :
      DoR T call ops s i mask fo o v { s with nx := H'.nx, Hc := H'.t, cm := s.cm ||| mask, wm := s.wm ||| 1 <<< i, pend := waitP mask s.pend, info := ⟨mask, fo, .W, v, none⟩ }
  | M {v H'} (h : wantV ops fo o = some true) (hr : vop T T.lo fo ⟨.e, s.nx⟩ o.op = some (v, H')) (hn : H'.nx = s.nx) : DoR T call ops s i mask fo o v { s with info := ⟨mask, fo, .M, v, none⟩ }
  | B {v H' x} (h : wantV ops fo o = some true) (hr : vop T T.lo fo ⟨.e, s.nx⟩ o.op = some (v, H')) (hn : H'.nx = s.nx + 1) (hx : H'.get s.nx = some x) :
      DoR T call ops s i mask fo o v { s with nx := s.nx + 1, pend := (i, s.nx, x) :: s.pend, info := ⟨mask, fo, .M, v, some x⟩ }
theorem stepW_ok {s s' : PS} {i mask : Nat} {fo : Tr AV} {o : Oper} {v : AV} (hw : wantV ops fo o = some true) (h : stepW T call s i mask fo o.op = some (v, s')) : DoR T call ops s i mask fo o v s' := by
  unfold stepW at h
  split at h
  · cases h
  rename_i hm
  split at h
  · cases h
  rename_i hr
  split at h
  · rename_i hn
    cases h
    exact .W hw (Nat.eq_of_beq_eq_true hm) (by simpa [Nat.ble_eq] using hn) hr
  · cases h
theorem stepM_ok {s s' : PS} {i mask : Nat} {fo : Tr AV} {o : Oper} {v : AV} (hw : wantV ops fo o = some true) (h : stepM T s i mask fo o.op = some (v, s')) : DoR T call ops s i mask fo o v s' := by
  unfold stepM at h
  split at h
  · cases h
  rename_i hr
  split at h
  · rename_i hn
    cases h
    exact .M hw hr (Nat.eq_of_beq_eq_true hn)
  · split at h
    · rename_i hn hx
      cases h
      exact .B hw hr (Nat.eq_of_beq_eq_true hn) hx
    · cases h
theorem doD_ok {s s' : PS} {i mask : Nat} {fo : Tr AV} {o : Oper} {v : AV} (h : doD T call ops s i mask fo o = some (v, s')) : DoR T call ops s i mask fo o v s' := by
  unfold doD at h
  split at h
  · cases h
  · rename_i hw
    split at h
    · rename_i hd; cases h; exact .U hw hd
    · cases h
  · rename_i hw
    split at h
    · split at h
      · rename_i hr
        split at h
        · rename_i hb; cases h; exact .R hw hr hb
        · cases h
      · cases h
    · exact stepW_ok hw h
    · split at h
      · rename_i hm
        cases h
        exact stepM_ok hw hm
      · exact stepW_ok hw h
/-- The states of the pass. -/
structure Run (T : Tb) (call : CallF) (N : Nat) (ops : Array Oper) (dm : Tr Nat) (S : Nat → PS) : Prop where
  step : ∀ i o, ops[i]? = some o → ∃ s', dstOk N o.dst = true ∧ maskOf (S i).ms o.after.toList 0 = some (S (i + 1)).info.mask ∧
    DoR T call ops (S i) i (S (i + 1)).info.mask (S (i + 1)).info.fo o (S (i + 1)).info.v s' ∧ (S (i + 1)).info.fo = frameO dm (S (i + 1)).info.mask (S i).f (slotsOf ops o) .e ∧
    S (i + 1) = { s' with f := putD (S i).f o.dst (S (i + 1)).info.v, ms := (S i).ms.set 10 i (some (S (i + 1)).info.mask) }
theorem DoR.info {s s' : PS} {i mask : Nat} {fo : Tr AV} {o : Oper} {v : AV} (h : DoR T call ops s i mask fo o v s') : s'.info.mask = mask ∧ s'.info.fo = fo ∧ s'.info.v = v := by
  cases h <;> exact ⟨rfl, rfl, rfl⟩
theorem stepD_ok {s s' : PS} {i : Nat} {o : Oper} (h : stepD T call N ops dm s i o = some s') : ∃ s1, dstOk N o.dst = true ∧ maskOf s.ms o.after.toList 0 = some s'.info.mask ∧ DoR T call ops s i s'.info.mask s'.info.fo o s'.info.v s1 ∧
    s'.info.fo = frameO dm s'.info.mask s.f (slotsOf ops o) .e ∧ s' = { s1 with f := putD s.f o.dst s'.info.v, ms := s.ms.set 10 i (some s'.info.mask) } := by
  unfold stepD at h
  split at h
  · rename_i mask hd hm
    split at h
    · cases h
    rename_i v s1 hdo
    cases h
    have hr := doD_ok hdo
    obtain ⟨e1, e2, e3⟩ := hr.info
    refine ⟨s1, hd, ?_, ?_, ?_, ?_⟩
    · simpa [e1] using hm
    · simpa [e1, e2, e3] using hr
    · simp [e1, e2]
    · simp [e1, e3]
  · cases h
theorem passD_ok : ∀ {r : List Oper} {i : Nat} {s : PS} {L : List PS}, passD T call N ops dm r i s = some L → L.length = r.length + 1 ∧ L[0]? = some s ∧ (∀ k o, r[k]? = some o → ∃ a b, L[k]? = some a ∧ L[k + 1]? = some b ∧ stepD T call N ops dm a (i + k) o = some b) ∧ L[r.length]? = some (lastD s L)
  | [], i, s, L, h => by
    cases h
    exact ⟨rfl, rfl, (fun k o e => by cases e), rfl⟩
  | o :: r, i, s, L, h => by
    unfold passD at h
    split at h
    · cases h
    rename_i s' hs
    split at h
    · cases h
    rename_i L' hL
    cases h
    obtain ⟨h1, h2, h3, h4⟩ := passD_ok hL
    refine ⟨by simp [h1], rfl, fun k o' e => ?_, ?_⟩
    · cases k with
      | zero =>
        cases e
        exact ⟨s, s', rfl, by simpa using h2, hs⟩
      | succ k =>
        obtain ⟨a, b, g1, g2, g3⟩ := h3 k o' (by simpa using e)
        exact ⟨a, b, by simpa using g1, by simpa using g2, by rw [show i + (k + 1) = i + 1 + k from by omega]; exact g3⟩
    · rw [List.length_cons, List.getElem?_cons_succ, h4]
      have : ∀ (u v : PS) (q : List PS), q ≠ [] → lastD u q = lastD v q := by
        intro u v q
        induction q generalizing u v with
        | nil => intro hh; exact absurd rfl hh
        | cons y q ih => intro _; rfl
      congr 1
      show lastD s' L' = lastD s L'
      exact this _ _ _ (by rintro rfl; simp at h1)
theorem passD_run {s : PS} {L : List PS} (h : passD T call N ops dm ops.toList 0 s = some L) : ∃ S : Nat → PS, S 0 = s ∧ Run T call N ops dm S ∧ S ops.size = lastD s L ∧ ∀ k, k ≤ ops.size → L[k]? = some (S k) := by
  obtain ⟨h1, h2, h3, h4⟩ := passD_ok h
  have hg : ∀ k, k ≤ ops.size → L[k]? = some ((L[k]?).getD s) := fun k hk => by
    have : k < L.length := by rw [h1]; simpa using Nat.lt_succ_of_le hk
    simp [this]
  refine ⟨fun k => (L[k]?).getD s, by simp [h2], ⟨fun i o ho => ?_⟩, ?_, hg⟩
  · obtain ⟨a, b, g1, g2, g3⟩ := h3 i o (by simpa using ho)
    rw [Nat.zero_add] at g3
    simp only [g1, g2, Option.getD_some]
    exact stepD_ok g3
  · have : L[ops.size]? = some (lastD s L) := by simpa using h4
    simp [this]
end Go.Proofs.YtbjpkfaiofkmdaaGreatDoor.Ev
