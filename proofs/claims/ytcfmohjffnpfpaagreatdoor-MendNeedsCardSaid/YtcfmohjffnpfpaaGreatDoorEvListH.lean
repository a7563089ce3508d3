/-
  A RECKONER OF CLOSED CALLS: (*direct.Dir).List as a function by hand. No condition.
-/
import Derived.Test.YtcfmohjffnpfpaaGreatDoorEvList
namespace Go.Proofs.YtcfmohjffnpfpaaGreatDoor.Ev
open Go Go.RowKit

variable {P : Program} {T : Tb} {l : Env} {H : Hp} {w : World}
/-- A new block, wherever it lies. -/
theorem Kp.bornAt {sz : TypeId → Nat} {lo : Nat} (h : HR sz l H w) (g κ : Nat) (hg0 : w.heap.size ≤ g) {o : AObj} {x : Obj} {w' : World} (hor : OR sz (l.upd H.nx (g, κ)) κ o x) (hs : w.heap.size ≤ w'.heap.size) (hn : w'.heap[g]? = some x) (ho : ∀ j, j < w.heap.size → w'.heap[j]? = w.heap[j]?)
    (h1 : w'.os = w.os) (h2 : w'.tape = w.tape) (h3 : w'.output = w.output) : Kp sz lo l H w (l.upd H.nx (g, κ)) (H.new o) w' := by
  have hle := Env.upd_le h (g, κ)
  have hlt : ∀ b o2 x2, H.get b = some o2 → l b = some x2 → x2.1 < w.heap.size := fun b o2 x2 e e2 => by
    obtain ⟨k2, κ2, y, l2, g2, -⟩ := h.obj b o2 e
    rw [e2] at l2
    cases l2
    exact (Array.getElem?_eq_some_iff.1 g2).1
  have hup : (l.upd H.nx (g, κ)) H.nx = some (g, κ) := by simp [Env.upd]
  have hot : ∀ b, b ≠ H.nx → (l.upd H.nx (g, κ)) b = l b := fun b hb => by simp [Env.upd, hb]
  refine ⟨hle, ⟨fun b2 o2 e => ?_, fun b2 b3 o2 o3 x2 x3 e2 e3 l2 l3 hx => ?_, fun b y hb => ?_, fun g' hg => hle _ _ (h.glob g' hg)⟩, Nat.le_succ _, fun b2 hlt2 hs2 => ?_, h1, h2, h3, hs, fun j hj _ => ho j hj, fun b y hb => ?_⟩
  · rcases Hp.new_get e with ⟨rfl, rfl⟩ | ⟨hne, e⟩
    · exact ⟨_, κ, x, hup, hn, hor⟩
    · obtain ⟨k2, κ2, y, l2, g2, r2⟩ := h.obj b2 o2 e
      refine ⟨k2, κ2, y, hle _ _ l2, (ho k2 (hlt b2 o2 _ e l2)).trans g2, r2.mono hle⟩
  · rcases Hp.new_get e2 with ⟨rfl, -⟩ | ⟨n2, e2⟩
    · rcases Hp.new_get e3 with ⟨rfl, -⟩ | ⟨n3, e3⟩
      · rfl
      · rw [hup] at l2
        rw [hot _ n3] at l3
        cases l2
        have := hlt b3 o3 x3 e3 l3
        simp only at hx; omega
    · rcases Hp.new_get e3 with ⟨rfl, -⟩ | ⟨n3, e3⟩
      · rw [hup] at l3
        rw [hot _ n2] at l2
        cases l3
        have := hlt b2 o2 x2 e2 l2
        simp only at hx; omega
      · rw [hot _ n2] at l2
        rw [hot _ n3] at l3
        exact h.inj b2 b3 _ _ x2 x3 e2 e3 l2 l3 hx
  · show b < H.nx + 1
    by_cases hb2 : b = H.nx
    · omega
    · rw [hot b hb2] at hb
      have := h.dom b y hb; omega
  · obtain ⟨o2, e⟩ := Option.isSome_iff_exists.1 hs2
    rcases Hp.new_get e with ⟨rfl, -⟩ | ⟨-, e⟩
    · omega
    · rw [e]; rfl
  · by_cases hb2 : b = H.nx
    · subst hb2
      rw [hup] at hb
      cases hb
      exact .inr ⟨Nat.le_refl _, .inl hg0⟩
    · rw [hot b hb2] at hb
      exact .inl hb

noncomputable def entsOf : List (AV × AV × Nat) → Option (List Ent)
  | [] => some []
  | (.str s, .int .i64 n, _) :: r => match entsOf r with
    | some l => some ((s, n) :: l)
    | none => none
  | _ => none
noncomputable def sameL : List Nat → List Nat → Bool
  | [], [] => true
  | a :: r, b :: t => match Nat.beq a b with
    | true => sameL r t
    | false => false
  | _, _ => false
theorem sameL_ok : ∀ {a b : List Nat}, sameL a b = false → a ≠ b
  | [], [], h, _ => by cases h
  | [], _ :: _, _, e => by cases e
  | _ :: _, [], _, e => by cases e
  | a :: r, b :: t, h, e => by
    unfold sameL at h
    cases e
    rw [Nat.beq_refl] at h
    exact sameL_ok h rfl
noncomputable def noName (s : List Nat) : List Ent → Bool
  | [] => true
  | x :: r => match sameL s x.1 with
    | true => false
    | false => noName s r
theorem noName_ok {s : List Nat} : ∀ {E : List Ent}, noName s E = true → ∀ x ∈ E, s ≠ x.1
  | [], _, _, hx => by cases hx
  | y :: r, h, x, hx => by
    unfold noName at h
    split at h
    · cases h
    · rename_i hy
      rcases List.mem_cons.1 hx with rfl | hx'
      · exact sameL_ok hy
      · exact noName_ok h x hx'
noncomputable def apartB : List Ent → Bool
  | [] => true
  | x :: r => match noName x.1 r with
    | true => apartB r
    | false => false
theorem apartB_ok : ∀ {E : List Ent}, apartB E = true → Apart E
  | [], _, x, hx, _, _, _ => by cases hx
  | z :: r, h, x, hx, y, hy, e => by
    unfold apartB at h
    split at h
    · rename_i hz
      rcases List.mem_cons.1 hx with rfl | hx'
      · rcases List.mem_cons.1 hy with rfl | hy'
        · rfl
        · exact absurd e (noName_ok hz y hy')
      · rcases List.mem_cons.1 hy with rfl | hy'
        · exact absurd e.symm (noName_ok hz x hx')
        · exact apartB_ok h x hx' y hy' e
    · cases h
noncomputable def cellsE : List Ent → List AV
  | [] => []
  | x :: r => .str x.1 :: .int .i64 x.2 :: cellsE r
theorem cellsE_ok {l : Env} : ∀ {E : List Ent}, (∀ x ∈ E, ∀ c ∈ x.1, c < 256) → VRs l (cellsE E) (flatE encE E)
  | [], _ => .nil
  | x :: r, h => .cons (.str _ (h x (by simp))) (.cons (.int _ _) (cellsE_ok fun y hy => h y (by simp [hy])))
theorem entsOf_ok : ∀ {es : List (AV × AV × Nat)} {xs : List MapEntry} {E : List Ent}, ERs l es xs → (xs.map (·.born)).Nodup → entsOf es = some E → ∃ ent : MapEntry → Ent, xs.map ent = E ∧ ∀ e ∈ xs, e.key = .string (bs (ent e).1) ∧ e.val = .int .i64 (ent e).2 ∧ ∀ x ∈ (ent e).1, x < 256
  | _, _, _, .nil, _, h => by cases h; exact ⟨fun _ => ([], 0), rfl, fun e he => by cases he⟩
  | _, _, _, .cons (n := st) (a' := xs) h1 h2 h3, hn, h => by
    unfold entsOf at h
    split at h
    · rename_i hh; cases hh
    · rename_i s n st' r hh
      cases hh
      split at h
      · rename_i E' hE
        cases h
        simp only [List.map_cons, List.nodup_cons] at hn
        obtain ⟨ent, g1, g2⟩ := entsOf_ok h3 hn.2 hE
        cases h1 with | str _ hs => ?_
        cases h2
        have hne : ∀ e ∈ xs, e.born ≠ st := fun e he hb => hn.1 (List.mem_map.2 ⟨e, he, hb⟩)
        refine ⟨fun e => if e.born = st then (s, n) else ent e, ?_, fun e he => ?_⟩
        · have : xs.map (fun e => if e.born = st then (s, n) else ent e) = xs.map ent := List.map_congr_left fun e he => by
            rw [if_neg (hne e he)]
          simp only [List.map_cons, this, if_true, g1]
        · rcases List.mem_cons.1 he with rfl | he
          · simpa using hs
          · simp only [if_neg (hne e he)]
            exact g2 e he
      · cases h
    · cases h
/-- (*direct.Dir).List by hand: of a map that is not empty. -/
noncomputable def listH : HookF
  | [.ptr b 0], H => match H.get b with
    | some (.cells _ (_ :: .map (some m) :: _) _) => match H.get m with
      | some (.map es c) => match stampsOk es c with
        | true => match entsOf es with
          | some E => match apartB E, Nat.ble E.length 1000000, Nat.blt 0 E.length with
            | true, true, true => some (.slo H.nx 0 E.length 0, H.new (.cells 116 (cellsE (sortE E)) true))
            | _, _, _ => none
          | none => none
        | false => none
      | _ => none
    | _ => none
  | _, _ => none
theorem HR.map2 {sz : TypeId → Nat} (h : HR sz l H w) {b : Nat} {es : List (AV × AV × Nat)} {c : Nat} (hb : H.get b = some (.map es c)) : ∃ k κ xs, l b = some (k, κ) ∧ w.heap[k]? = some (.map xs.toArray c) ∧ ERs l es xs := by
  obtain ⟨k, κ, x, h1, h2, h3⟩ := h.obj b _ hb
  cases h3 with
  | map _ h => exact ⟨k, κ, _, h1, h2, h⟩
theorem list_ok {sz : TypeId → Nat} {lo : Nat} (hsz : sz 116 = 2) (hc : ∀ args w, (callFunc 35 args).run Tryz.prog w = .ok (.enter 35 args) w) : HookOk Tryz.prog sz lo 35 listH := by
  intro us H v H' e l w xs hr hx
  unfold listH at e
  split at e
  · rename_i b
    split at e
    · rename_i t0 v0 m cs p hb
      split at e
      · rename_i es c hm
        split at e
        · rename_i hst
          split at e
          · rename_i E hE
            split at e
            · rename_i ha hle hlt
              rw [Nat.ble_eq] at hle
              rw [Nat.blt_eq] at hlt
              cases e
              cases hx with | cons h1 hx => ?_
              cases hx
              cases h1 with | ptr _ hl => ?_
              obtain ⟨k, κ, ys, rest, fr, g1, g2, g3, -, -, -⟩ := hr.at_ hb
              rw [hl] at g1
              cases g1
              cases g3 with | cons h3 g3 => ?_
              cases g3 with | cons h4 g3 => ?_
              cases h4 with | map hlm => ?_
              obtain ⟨km, κm, ms, f1, f2, f3⟩ := hr.map2 hm
              rw [hlm] at f1
              cases f1
              obtain ⟨q1, q2⟩ := stampsOk_ok f3 hst
              obtain ⟨ent, r1, r2⟩ := entsOf_ok f3 q2 hE
              have hlen : ms.length = E.length := by rw [← r1, List.length_map]
              have hw := list_walk w _ _ c ms ent (cell_get (xs := _ :: _ :: _) g2 1 _ rfl) f2 q1 q2 (by omega) (by omega) r2 (by rw [r1]; exact apartB_ok ha)
              refine .inr ⟨hc _ _, Calls.mono hw fun r w' => ?_⟩
              rintro ⟨v, rfl, ho, hS⟩
              rw [r1, hlen] at ho
              obtain ⟨g, cap, rfl⟩ := own_cases ho hlt
              obtain ⟨h9, ⟨h2, -⟩ | ⟨g', cap', cur, e9, hB, hg, hn, hcp, hs, ht⟩⟩ := ho
              · cases h2
              cases e9
              have hE8 : ∀ x ∈ sortE E, ∀ c ∈ x.1, c < 256 := fun x hx => by
                have hx := (sortE_perm E).mem_iff.1 hx
                rw [← r1] at hx
                obtain ⟨e1, m1, rfl⟩ := List.mem_map.1 hx
                exact (r2 e1 m1).2.2
              have hcur : cur = (flatE encE (sortE E) ++ cur.toList.drop (E.length * 2)).toArray := by
                rw [← ht, List.take_append_drop]
              refine ⟨_, rfl, l.upd H.nx (g, cap), ?_, Kp.bornAt hr g cap (by omega) (.opn (rest := cur.toList.drop (E.length * 2)) (cellsE_ok hE8) ?_ (.inl rfl)) hS.size (by rw [← hcur]; exact hg) hS.block hS.os hS.tape hS.output⟩
              · exact VR.slo (d := 0) 0 E.length (Env.upd_at _ _ _) (by omega)
              · rw [hsz, ← ht, List.take_append_drop]
                simpa using hs
            · cases e
          · cases e
        · cases e
      · cases e
    · cases e
  · cases e
end Go.Proofs.YtcfmohjffnpfpaaGreatDoor.Ev
