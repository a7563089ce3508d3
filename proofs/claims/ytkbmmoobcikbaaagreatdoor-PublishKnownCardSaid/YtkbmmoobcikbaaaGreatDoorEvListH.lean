/-
  A RECKONER OF CLOSED CALLS: (*direct.Dir).List as a function by hand. No condition.
-/
import Derived.Test.YtkbmmoobcikbaaaGreatDoorGEG
namespace Go.Proofs.YtkbmmoobcikbaaaGreatDoor.Ev
open Go Go.RowKit

variable {P : Program} {T : Tb} {l : Env} {H : Hp} {w : World}
noncomputable def entsOf : List (AV × AV × Nat) → Option (List Ent)
  | [] => some []
  | (.str s, .int .i64 n, _) :: r => match entsOf r with
    | some l => some ((s, n) :: l)
    | none => none
  | _ => none
noncomputable def sameL : List Nat → List Nat → Bool
  | [], [] => true
  | a :: r, b :: t => match Nat.beq a b with
    | true => sameL r t
    | false => false
  | _, _ => false
theorem sameL_ok : ∀ {a b : List Nat}, sameL a b = false → a ≠ b
  | [], [], h, _ => by cases h
  | [], _ :: _, _, e => by cases e
  | _ :: _, [], _, e => by cases e
  | a :: r, b :: t, h, e => by
    unfold sameL at h
    cases e
    rw [Nat.beq_refl] at h
    exact sameL_ok h rfl
noncomputable def noName (s : List Nat) : List Ent → Bool
  | [] => true
  | x :: r => match sameL s x.1 with
    | true => false
    | false => noName s r
theorem noName_ok {s : List Nat} : ∀ {E : List Ent}, noName s E = true → ∀ x ∈ E, s ≠ x.1
  | [], _, _, hx => by cases hx
  | y :: r, h, x, hx => by
    unfold noName at h
    split at h
    · cases h
    · rename_i hy
      rcases List.mem_cons.1 hx with rfl | hx'
      · exact sameL_ok hy
      · exact noName_ok h x hx'
noncomputable def apartB : List Ent → Bool
  | [] => true
  | x :: r => match noName x.1 r with
    | true => apartB r
    | false => false
theorem apartB_ok : ∀ {E : List Ent}, apartB E = true → Apart E
  | [], _, x, hx, _, _, _ => by cases hx
  | z :: r, h, x, hx, y, hy, e => by
    unfold apartB at h
    split at h
    · rename_i hz
      rcases List.mem_cons.1 hx with rfl | hx'
      · rcases List.mem_cons.1 hy with rfl | hy'
        · rfl
        · exact absurd e (noName_ok hz y hy')
      · rcases List.mem_cons.1 hy with rfl | hy'
        · exact absurd e.symm (noName_ok hz x hx')
        · exact apartB_ok h x hx' y hy' e
    · cases h
noncomputable def cellsE : List Ent → List AV
  | [] => []
  | x :: r => .str x.1 :: .int .i64 x.2 :: cellsE r
theorem cellsE_ok {l : Env} : ∀ {E : List Ent}, (∀ x ∈ E, ∀ c ∈ x.1, c < 256) → VRs l (cellsE E) (flatE encE E)
  | [], _ => .nil
  | x :: r, h => .cons (.str _ (h x (by simp))) (.cons (.int _ _) (cellsE_ok fun y hy => h y (by simp [hy])))
theorem entsOf_ok : ∀ {es : List (AV × AV × Nat)} {xs : List MapEntry} {E : List Ent}, ERs l es xs → (xs.map (·.born)).Nodup → entsOf es = some E → ∃ ent : MapEntry → Ent, xs.map ent = E ∧ ∀ e ∈ xs, e.key = .string (bs (ent e).1) ∧ e.val = .int .i64 (ent e).2 ∧ ∀ x ∈ (ent e).1, x < 256
  | _, _, _, .nil, _, h => by cases h; exact ⟨fun _ => ([], 0), rfl, fun e he => by cases he⟩
  | _, _, _, .cons (n := st) (a' := xs) h1 h2 h3, hn, h => by
    unfold entsOf at h
    split at h
    · rename_i hh; cases hh
    · rename_i s n st' r hh
      cases hh
      split at h
      · rename_i E' hE
        cases h
        simp only [List.map_cons, List.nodup_cons] at hn
        obtain ⟨ent, g1, g2⟩ := entsOf_ok h3 hn.2 hE
        cases h1 with | str _ hs => ?_
        cases h2
        have hne : ∀ e ∈ xs, e.born ≠ st := fun e he hb => hn.1 (List.mem_map.2 ⟨e, he, hb⟩)
        refine ⟨fun e => if e.born = st then (s, n) else ent e, ?_, fun e he => ?_⟩
        · have : xs.map (fun e => if e.born = st then (s, n) else ent e) = xs.map ent := List.map_congr_left fun e he => by
            rw [if_neg (hne e he)]
          simp only [List.map_cons, this, if_true, g1]
        · rcases List.mem_cons.1 he with rfl | he
          · simpa using hs
          · simp only [if_neg (hne e he)]
            exact g2 e he
      · cases h
    · cases h
/-- (*direct.Dir).List by hand: of a map that is not empty. -/
noncomputable def listH : HookF
  | [.ptr b 0], H => match H.get b with
    | some (.cells _ (_ :: .map (some m) :: _) _) => match H.get m with
      | some (.map es c) => match stampsOk es c with
        | true => match entsOf es with
          | some E => match apartB E, Nat.ble E.length 1000000, Nat.blt 0 E.length with
            | true, true, true => some (.slo H.nx 0 E.length 0, H.new (.cells 147 (cellsE (sortE E)) true))
            | _, _, _ => none
          | none => none
        | false => none
      | _ => none
    | _ => none
  | _, _ => none
theorem list_ok {sz : TypeId → Nat} {lo : Nat} (hsz : sz 147 = 2) (hc : ∀ args w, (callFunc 64 args).run Tryz.prog w = .ok (.enter 64 args) w) : HookOk Tryz.prog sz lo 64 listH := by
  intro us H v H' e l w xs hr hx
  unfold listH at e
  split at e
  · rename_i b
    split at e
    · rename_i t0 v0 m cs p hb
      split at e
      · rename_i es c hm
        split at e
        · rename_i hst
          split at e
          · rename_i E hE
            split at e
            · rename_i ha hle hlt
              rw [Nat.ble_eq] at hle
              rw [Nat.blt_eq] at hlt
              cases e
              cases hx with | cons h1 hx => ?_
              cases hx
              cases h1 with | ptr _ hl => ?_
              obtain ⟨k, κ, ys, rest, fr, g1, g2, g3, -, -, -⟩ := hr.at_ hb
              rw [hl] at g1
              cases g1
              cases g3 with | cons h3 g3 => ?_
              cases g3 with | cons h4 g3 => ?_
              cases h4 with | map hlm => ?_
              obtain ⟨km, κm, ms, f1, f2, f3⟩ := hr.map2 hm
              rw [hlm] at f1
              cases f1
              obtain ⟨q1, q2⟩ := stampsOk_ok f3 hst
              obtain ⟨ent, r1, r2⟩ := entsOf_ok f3 q2 hE
              have hlen : ms.length = E.length := by rw [← r1, List.length_map]
              have hw := list_walk w _ _ c ms ent (cell_get (xs := _ :: _ :: _) g2 1 _ rfl) f2 q1 q2 (by omega) (by omega) r2 (by rw [r1]; exact apartB_ok ha)
              refine .inr ⟨hc _ _, Calls.mono hw fun r w' => ?_⟩
              rintro ⟨v, rfl, ho, hS⟩
              rw [r1, hlen] at ho
              obtain ⟨g, cap, rfl⟩ := own_cases ho hlt
              obtain ⟨h9, ⟨h2, -⟩ | ⟨g', cap', cur, e9, hB, hg, hn, hcp, hs, ht⟩⟩ := ho
              · cases h2
              cases e9
              have hE8 : ∀ x ∈ sortE E, ∀ c ∈ x.1, c < 256 := fun x hx => by
                have hx := (sortE_perm E).mem_iff.1 hx
                rw [← r1] at hx
                obtain ⟨e1, m1, rfl⟩ := List.mem_map.1 hx
                exact (r2 e1 m1).2.2
              have hcur : cur = (flatE encE (sortE E) ++ cur.toList.drop (E.length * 2)).toArray := by
                rw [← ht, List.take_append_drop]
              refine ⟨_, rfl, l.upd H.nx (g, cap), ?_, Kp.bornAt hr g cap (by omega) (.opn (rest := cur.toList.drop (E.length * 2)) (cellsE_ok hE8) ?_ (.inl rfl)) hS.size (by rw [← hcur]; exact hg) hS.block hS.os hS.tape hS.output⟩
              · exact VR.slo (d := 0) 0 E.length (Env.upd_at _ _ _) (by omega)
              · rw [hsz, ← ht, List.take_append_drop]
                simpa using hs
            · cases e
          · cases e
        · cases e
      · cases e
    · cases e
  · cases e
end Go.Proofs.YtkbmmoobcikbaaaGreatDoor.Ev
