/-
  A RECKONER OF CLOSED CALLS: functions by hand; two entries of the library. Condition: what the entries are.
-/
import Derived.Test.YtkbmmoobcikbaaaGreatDoorGEC
import Derived.Lib.Bytealg
import Derived.Laws.Externs
namespace Go.Proofs.YtkbmmoobcikbaaaGreatDoor.Ev
open Go Go.RowKit

variable {P : Program} {T : Tb} {l : Env} {H : Hp} {w : World}

abbrev HookF := List AV → Hp → Option (AV × Hp)
noncomputable def hkL : List (FuncId × HookF) → FuncId → List AV → Hp → Option (AV × Hp)
  | [], _, _, _ => none
  | (g, h) :: r, f, as, H => match Nat.beq g f with
    | true => h as H
    | false => hkL r f as H
noncomputable def HookOk (P : Program) (sz : TypeId → Nat) (lo : Nat) (g : FuncId) (h : HookF) : Prop := ∀ as H v H', h as H = some (v, H') → ∀ (l : Env) (w : World) (xs : List Value), HR sz l H w → VRs l as xs → FnOk P g xs.toArray w fun x w' => ∃ l', VR l' v x ∧ Kp sz lo l H w l' H' w'
theorem hkL_ok : ∀ {hs : List (FuncId × HookF)}, (∀ p ∈ hs, HookOk P T.sz T.lo p.1 p.2) → CallOk P T (hkL hs)
  | [], _, g, as, H, v, H', e => by cases e
  | (g0, h) :: r, hs, g, as, H, v, H', e => by
    unfold hkL at e
    split at e
    · rename_i hg
      have hg := Nat.eq_of_beq_eq_true hg
      subst hg
      exact hs (g0, h) (by simp) as H v H' e
    · exact hkL_ok (fun p hp => hs p (by simp [hp])) g as H v H' e
/-- An entry that reads values alone. -/
theorem FnOk.extern {sz : TypeId → Nat} {lo : Nat} {g : FuncId} {fn : Func} {en : Array Value → Go.Sem Value} {xs : List Value} {v : AV} {x : Value} (hf : P.funcs[g]? = some fn) (hname : (fn.name == "runtime.NumGoroutine") = false) (hb : fn.body.isNone = true) (hn : Extern.findNext fn = none) (he : Extern.find fn = some en)
    (hr : HR sz l H w) (h : (en xs.toArray).run P w = .ok x w) (hv : VR l v x) : FnOk P g xs.toArray w fun x w' => ∃ l', VR l' v x ∧ Kp sz lo l H w l' H w' :=
  .inl ⟨x, w, by rw [run_callFunc_extern hf hname hb hn he, h]; rfl, l, hv, .refl hr⟩
noncomputable def idxR : List Nat → Nat → Nat → Int
  | [], _, _ => .negSucc 0
  | a :: r, c, i => match Nat.beq a c with
    | true => .ofNat i
    | false => idxR r c (i + 1)
noncomputable def cntR : List Nat → Nat → Nat → Nat
  | [], _, n => n
  | a :: r, c, n => match Nat.beq a c with
    | true => cntR r c (n + 1)
    | false => cntR r c n
noncomputable def idxH : HookF
  | [.str s, .int .u8 (.ofNat c)], H => match Nat.blt c 256 with
    | true => some (.int .i64 (idxR s c 0), H)
    | false => none
  | _, _ => none
noncomputable def cntH : HookF
  | [.str s, .int .u8 (.ofNat c)], H => match Nat.blt c 256 with
    | true => some (.int .i64 (.ofNat (cntR s c 0)), H)
    | false => none
  | _, _ => none
theorem u8_eq {a c : Nat} (ha : a < 256) (hc : c < 256) : (UInt8.ofNat a == UInt8.ofNat c) = Nat.beq a c := by
  rw [Bool.eq_iff_iff]
  simp [← UInt8.toNat_inj, Nat.mod_eq_of_lt ha, Nat.mod_eq_of_lt hc]
theorem cntR_eq {c : Nat} (hc : c < 256) : ∀ (s : List Nat) (n : Nat), (∀ x ∈ s, x < 256) → cntR s c n = n + (s.map UInt8.ofNat).count (UInt8.ofNat c)
  | [], n, _ => by simp [cntR]
  | a :: r, n, h => by
    unfold cntR
    rw [List.map_cons, List.count_cons, u8_eq (h a (by simp)) hc]
    cases Nat.beq a c with
    | true => simp only; rw [cntR_eq hc r (n + 1) fun x hx => h x (by simp [hx])]; simp; omega
    | false => simp only; rw [cntR_eq hc r n fun x hx => h x (by simp [hx])]; simp
theorem idxR_eq {c : Nat} (hc : c < 256) : ∀ (s : List Nat) (i : Nat), (∀ x ∈ s, x < 256) → idxR s c i = if Lib.indexByte (s.map UInt8.ofNat) (UInt8.ofNat c) = -1 then -1 else (i : Int) + Lib.indexByte (s.map UInt8.ofNat) (UInt8.ofNat c)
  | [], i, _ => rfl
  | a :: r, i, h => by
    have hge := Lib.indexByte_ge (r.map UInt8.ofNat) (UInt8.ofNat c)
    unfold idxR
    rw [List.map_cons]
    unfold Lib.indexByte
    rw [u8_eq (h a (by simp)) hc]
    cases Nat.beq a c with
    | true => simp
    | false =>
      simp only [Bool.false_eq_true, if_false, beq_iff_eq]
      rw [idxR_eq hc r (i + 1) fun x hx => h x (by simp [hx])]
      by_cases hq : Lib.indexByte (r.map UInt8.ofNat) (UInt8.ofNat c) = -1
      · simp [hq]
      · rw [if_neg hq, if_neg hq, if_neg (by omega)]
        omega
theorem idx_ok {sz : TypeId → Nat} {lo : Nat} {g : FuncId} {fn : Func} (hf : P.funcs[g]? = some fn) (hname : (fn.name == "runtime.NumGoroutine") = false) (hb : fn.body.isNone = true) (hn : Extern.findNext fn = none) (he : Extern.find fn = some Extern.BytealgIndexByte.indexByte) : HookOk P sz lo g idxH := by
  intro as H v H' e l w xs hr hx
  unfold idxH at e
  split at e
  · rename_i s c
    split at e
    · rename_i hc
      have hc : c < 256 := by simpa [Nat.blt_eq] using hc
      cases e
      cases hx with | cons h1 hx => ?_
      cases hx with | cons h2 hx => ?_
      cases hx
      cases h1 with | str _ hs => ?_
      cases h2
      refine .extern hf hname hb hn he hr (x := .int .i64 (idxR s c 0)) ?_ (.int _ _)
      have h9 := Lib.run_indexByteString (P := P) (bs s) (c : Int) w
      have e1 : (bs s).data.toList = s.map UInt8.ofNat := rfl
      have e2 : ((c : Int).toNat).toUInt8 = UInt8.ofNat c := rfl
      rw [e1, e2] at h9
      rw [idxR_eq hc s 0 hs]
      have e3 : (if Lib.indexByte (s.map UInt8.ofNat) (UInt8.ofNat c) = -1 then -1 else ((0 : Nat) : Int) + Lib.indexByte (s.map UInt8.ofNat) (UInt8.ofNat c)) = Lib.indexByte (s.map UInt8.ofNat) (UInt8.ofNat c) := by
        split
        · rename_i hq; rw [hq]
        · simp
      rw [e3]
      exact h9
    · cases e
  · cases e
theorem cnt_ok {sz : TypeId → Nat} {lo : Nat} {g : FuncId} {fn : Func} (hf : P.funcs[g]? = some fn) (hname : (fn.name == "runtime.NumGoroutine") = false) (hb : fn.body.isNone = true) (hn : Extern.findNext fn = none) (he : Extern.find fn = some Extern.BytealgCount.count) : HookOk P sz lo g cntH := by
  intro as H v H' e l w xs hr hx
  unfold cntH at e
  split at e
  · rename_i s c
    split at e
    · rename_i hc
      have hc : c < 256 := by simpa [Nat.blt_eq] using hc
      cases e
      cases hx with | cons h1 hx => ?_
      cases hx with | cons h2 hx => ?_
      cases hx
      cases h1 with | str _ hs => ?_
      cases h2
      refine .extern hf hname hb hn he hr (x := .int .i64 ((cntR s c 0 : Nat) : Int)) ?_ (.int _ _)
      have h9 := Lib.run_countString (P := P) (bs s) (c : Int) w
      rw [cntR_eq hc s 0 hs, Nat.zero_add]
      exact h9
    · cases e
  · cases e

/-- maps.clone. -/
noncomputable def cloneH : HookF
  | [.ifc t (.map (some b))], H => match H.get b with
    | some (.map es c) => some (.ifc t (.map (some H.nx)), H.new (.map es c))
    | _ => none
  | _, _ => none
theorem clone_ok {lo : Nat} {g : FuncId} {fn : Func} (hf : P.funcs[g]? = some fn) (hname : (fn.name == "runtime.NumGoroutine") = false) (hb : fn.body.isNone = true) (hn : Extern.findNext fn = none) (he : Extern.find fn = some Extern.MapsClone.clone) : HookOk P T.sz lo g cloneH := by
  intro as H v H' e l w xs hr hx
  unfold cloneH at e
  split at e
  · rename_i t b
    split at e
    · rename_i es c hm
      cases e
      cases hx with | cons h1 hx => ?_
      cases hx
      cases h1 with | ifc _ h1 => ?_
      cases h1 with | map hl => ?_
      obtain ⟨k, κ, ys, g1, g2, g3⟩ := hr.map_ hm
      rw [hl] at g1
      cases g1
      rename_i k κ
      have hrun : (Extern.MapsClone.clone #[.iface t (.map (some k))]).run P w = .ok (.iface t (.map (some w.heap.size))) { w with heap := w.heap.push (.map ys.toArray c) } := by
        have e0 : Extern.MapsClone.clone #[.iface t (.map (some k))] = (getObj k >>= fun o => match o with
            | .map entries clock => (newObj (.map entries clock) >>= fun n => pure (.iface t (.map (some n))))
            | _ => stuck "maps.clone: a map expected") := rfl
        rw [e0]
        simp [run_getMap g2, newObj]
        rfl
      exact .inl ⟨_, _, by rw [run_callFunc_extern hf hname hb hn he, hrun]; rfl, l.upd H.nx (w.heap.size, 0), .ifc _ (.map (Env.upd_at _ _ _)), Kp.alloc hr 0 (.map c (g3.mono (Env.upd_le hr _)))⟩
    · cases e
  · cases e
end Go.Proofs.YtkbmmoobcikbaaaGreatDoor.Ev
