/-
  A RECKONER OF CLOSED CALLS: strings.Join by its contract. Condition: the contract.
-/
import Derived.Test.YtkbmmoobcikbaaaGreatDoorEvHook
import Derived.Lib.Join
import Derived.Below
namespace Go.Proofs.YtkbmmoobcikbaaaGreatDoor.Ev
open Go Go.RowKit

variable {P : Program} {T : Tb} {l : Env} {H : Hp} {w w' : World}

noncomputable def joinL : List (List Nat) → List Nat → List Nat
  | [], _ => []
  | x :: r, s => match r with
    | [] => x
    | _ => x ++ (s ++ joinL r s)
noncomputable def strsL : List AV → Option (List (List Nat))
  | [] => some []
  | .str s :: r => match strsL r with
    | some l => some (s :: l)
    | none => none
  | _ => none
theorem joinL_ok (s : List Nat) : ∀ ls : List (List Nat), Lib.join (ls.map fun x => x.map UInt8.ofNat) (s.map UInt8.ofNat) = (joinL ls s).map UInt8.ofNat
  | [] => by simp [Lib.join, joinL]
  | [x] => by simp [Lib.join, joinL]
  | x :: y :: r => by
    have ih := joinL_ok s (y :: r)
    have e1 : Lib.join (List.map (fun x => x.map UInt8.ofNat) (x :: y :: r)) (s.map UInt8.ofNat) = x.map UInt8.ofNat ++ (s.map UInt8.ofNat ++ Lib.join ((y :: r).map fun x => x.map UInt8.ofNat) (s.map UInt8.ofNat)) := by
      simp [Lib.join]
    rw [e1, ih]
    show _ = (x ++ (s ++ joinL (y :: r) s)).map UInt8.ofNat
    simp
theorem strsL_ok : ∀ {cs : List AV} {ls : List (List Nat)} {xs : List Value}, strsL cs = some ls → VRs l cs xs → xs = (ls.map bs).map Value.string ∧ ∀ x ∈ ls, ∀ c ∈ x, c < 256
  | [], ls, xs, e, h => by cases e; cases h; exact ⟨rfl, fun x hx => by cases hx⟩
  | c :: r, ls, xs, e, h => by
    cases h with
    | cons h1 h2 =>
      unfold strsL at e
      split at e
      · rename_i hh; cases hh
      · rename_i s r' hh
        cases hh
        split at e
        · rename_i ls' hls
          cases e
          obtain ⟨g1, g2⟩ := strsL_ok hls h2
          cases h1 with | str _ hs => ?_
          subst g1
          refine ⟨rfl, fun x hx => ?_⟩
          rcases List.mem_cons.1 hx with rfl | hx
          · exact hs
          · exact g2 x hx
        · cases e
      · cases e
theorem joinL_lt {s : List Nat} (hs : ∀ c ∈ s, c < 256) : ∀ {ls : List (List Nat)}, (∀ x ∈ ls, ∀ c ∈ x, c < 256) → ∀ c ∈ joinL ls s, c < 256
  | [], _, c, hc => by cases hc
  | [x], h, c, hc => h x (by simp) c hc
  | x :: y :: r, h, c, hc => by
    have hc : c ∈ x ++ (s ++ joinL (y :: r) s) := hc
    rw [List.mem_append, List.mem_append] at hc
    rcases hc with hc | hc | hc
    · exact h x (by simp) c hc
    · exact hs c hc
    · exact joinL_lt hs (fun x hx => h x (by simp at hx ⊢; exact .inr hx)) c hc
noncomputable def joinV (b o n : Nat) (s : List Nat) (H : Hp) : Option (AV × Hp) :=
  match loadL H b o n with
  | none => none
  | some cs => match strsL cs with
    | none => none
    | some ls => match Nat.ble n 1000000, Nat.ble (joinL ls s).length 1000000 with
      | true, true => some (.str (joinL ls s), H)
      | _, _ => none
noncomputable def hookJ (jid : FuncId) : CallF := fun g aa H => match Nat.beq g jid with
  | false => none
  | true => match aa with
    | [.sl b o n c, .str s] => match Nat.ble n c with
      | true => joinV b o n s H
      | false => none
    | [.slo b o n _, .str s] => joinV b o n s H
    | _ => none
/-- strings.Join's contract, as the shelf has it. -/
noncomputable def JoinSaid (P : Program) (jid : FuncId) : Prop := ∀ (bk o c : Nat) (xs : List ByteArray) (sep : ByteArray) (w : World), (∀ (j : Nat) x, xs[j]? = some x → w.cell? ⟨bk, o + j, none⟩ = some (.string x)) → bk < w.heap.size → xs.length ≤ 140737488355328 → xs.length ≤ c →
  (Lib.join (xs.map (·.data.toList)) sep.data.toList).length ≤ 140737488355328 → Calls P jid #[.slice (some ⟨bk, o, none⟩) xs.length c, .string sep] w fun e w' => e = .returned (.string ⟨(Lib.join (xs.map (·.data.toList)) sep.data.toList).toArray⟩) ∧ Below w.heap.size w w'
theorem joinV_ok {jid : FuncId} (hJ : JoinSaid P jid) (hc : ∀ args w, (callFunc jid args).run P w = .ok (.enter jid args) w) (hr : HR T.sz l H w) {b o n c : Nat} {s : List Nat} {v : AV} {H' : Hp} (e : joinV b o n s H = some (v, H')) {k κ : Nat} (hl : l b = some (k, κ)) (hs : ∀ x ∈ s, x < 256) (hn : n ≤ c) :
    FnOk P jid #[.slice (some ⟨k, o, none⟩) n c, .string (bs s)] w fun x w' => ∃ l', VR l' v x ∧ Kp T.sz T.lo l H w l' H' w' := by
  unfold joinV at e
  split at e
  · cases e
  rename_i cs hcs
  split at e
  · cases e
  rename_i ls hls
  split at e
  · rename_i h1 h2
    rw [Nat.ble_eq] at h1 h2
    cases e
    obtain ⟨k', κ', xs, g1, g2, g3, g4⟩ := loadL_ok hr hcs
    rw [hl] at g1
    cases g1
    obtain ⟨rfl, hlt⟩ := strsL_ok hls g3
    have hlen : (ls.map bs).length = n := by simpa using g4
    have hbd : (ls.map bs).map (·.data.toList) = ls.map fun x => x.map UInt8.ofNat := by
      rw [List.map_map]
      apply List.map_congr_left
      intro x _
      simp [bs]
    have hsd : (bs s).data.toList = s.map UInt8.ofNat := by simp [bs]
    have hjoin : Lib.join ((ls.map bs).map (·.data.toList)) (bs s).data.toList = (joinL ls s).map UInt8.ofNat := by rw [hbd, hsd, joinL_ok]
    refine .inr ⟨hc _ _, ?_⟩
    obtain ⟨ob, hob⟩ : ∃ ob, H.get b = some ob := by
      unfold loadL at hcs
      split at hcs
      · exact ⟨_, by assumption⟩
      · cases hcs
    obtain ⟨k2, κ2, y, f1, f2, -⟩ := hr.obj b ob hob
    rw [hl] at f1
    cases f1
    have hk := (Array.getElem?_eq_some_iff.1 f2).1
    have := hJ k o c (ls.map bs) (bs s) w (fun j x hx => g2 j _ (by rw [List.getElem?_map, hx]; rfl)) hk (by omega) (by omega) (by rw [hjoin, List.length_map]; omega)
    rw [hlen, hjoin] at this
    refine Calls.mono this fun r w' => ?_
    rintro ⟨rfl, hB⟩
    refine ⟨_, rfl, l, ?_, Kp.grown hr hB.os hB.tape hB.output hB.size hB.block⟩
    exact .str _ (joinL_lt hs hlt)
  · cases e
theorem hookJ_ok {jid : FuncId} (hJ : JoinSaid P jid) (hc : ∀ args w, (callFunc jid args).run P w = .ok (.enter jid args) w) : CallOk P T (hookJ jid) := by
  intro g aa H v H' e l w xs hr hx
  unfold hookJ at e
  split at e
  · cases e
  rename_i hg
  have hg := Nat.eq_of_beq_eq_true hg
  subst hg
  split at e
  · rename_i b o n c s
    split at e
    · rename_i hn
      rw [Nat.ble_eq] at hn
      cases hx with
      | cons h1 h2 =>
        cases h2 with
        | cons h2 h3 =>
          cases h3
          cases h1 with | sl _ _ _ hl => ?_
          cases h2 with | str _ hs => ?_
          exact joinV_ok hJ hc hr e hl hs hn
    · cases e
  · rename_i b o n d s
    cases hx with
    | cons h1 h2 =>
      cases h2 with
      | cons h2 h3 =>
        cases h3
        cases h1 with | slo _ _ _ hl hd => ?_
        cases h2 with | str _ hs => ?_
        exact joinV_ok hJ hc hr e hl hs (by omega)
  · cases e

noncomputable def joinH : HookF
  | [.sl b o n c, .str s], H => match Nat.ble n c with
    | true => joinV b o n s H
    | false => none
  | [.slo b o n _, .str s], H => joinV b o n s H
  | _, _ => none
theorem join_ok {jid : FuncId} (hJ : JoinSaid P jid) (hc : ∀ args w, (callFunc jid args).run P w = .ok (.enter jid args) w) : HookOk P T.sz T.lo jid joinH := by
  intro aa H v H' e l w xs hr hx
  have := hookJ_ok (T := T) hJ hc jid aa H v H' (by
    unfold hookJ
    rw [show Nat.beq jid jid = true from Nat.beq_refl jid]
    unfold joinH at e
    split at e
    · exact e
    · exact e
    · cases e) l w xs hr hx
  exact this
end Go.Proofs.YtkbmmoobcikbaaaGreatDoor.Ev
