/-
  THE ORDER OF ENTRIES, by their names; a row of entries whose names are told apart, sorted. No condition.
-/
import Derived.Test.YtcfmohjffnpfpaaGreatDoorEvEnt
namespace Go.Proofs.YtcfmohjffnpfpaaGreatDoor.Ev
open Go Go.RowKit Go.Sort

abbrev Ent := List Nat × Int
noncomputable def encE (x : Ent) : List Value := [.string (bs x.1), .int .i64 x.2]
theorem strLt_trans : ∀ a b c : List Nat, strLt a b = true → strLt b c = true → strLt a c = true
  | _, [], _, h, _ => by simp [strLt] at h
  | _, _ :: _, [], _, h => by simp [strLt] at h
  | [], _ :: _, _ :: _, _, _ => by simp [strLt]
  | x :: a, y :: b, z :: c, h1, h2 => by
    have key : ∀ (p q : Nat) (u v : List Nat), strLt (p :: u) (q :: v) = true ↔ p < q ∨ (p = q ∧ strLt u v = true) := fun p q u v => by
      show (match Nat.blt p q with | true => true | false => match Nat.beq p q with | true => strLt u v | false => false) = true ↔ _
      rcases Nat.lt_trichotomy p q with hh | hh | hh
      · rw [show Nat.blt p q = true from by simpa [Nat.blt_eq] using hh]
        simp; omega
      · subst hh
        rw [show Nat.blt p p = false from by simp [Nat.blt_eq, Bool.eq_false_iff], Nat.beq_refl]
        simp
      · rw [show Nat.blt p q = false from by rw [Bool.eq_false_iff]; simp [Nat.blt_eq]; omega, show Nat.beq p q = false from by rw [Bool.eq_false_iff]; simp; omega]
        simp; omega
    rw [key] at h1 h2 ⊢
    rcases h1 with h1 | ⟨rfl, h1⟩
    · rcases h2 with h2 | ⟨rfl, -⟩
      · exact .inl (by omega)
      · exact .inl h1
    · rcases h2 with h2 | ⟨rfl, h2⟩
      · exact .inl h2
      · exact .inr ⟨rfl, strLt_trans a b c h1 h2⟩
theorem cmpS_lt (a b : List Nat) : (cmpS a b < 0) = (strLt a b = true) := by
  unfold cmpS
  cases strLt a b <;> cases strLt b a <;> simp
/-- Entries of a row. -/
abbrev In (E : List Ent) := {x : Ent // x ∈ E}
noncomputable def encI {E : List Ent} (x : In E) : List Value := encE x.1
noncomputable def cmpI {E : List Ent} (x y : In E) : Int := cmpS x.1.1 y.1.1
theorem ltI {E : List Ent} (x y : In E) : ltOf cmpI x y = strLt x.1.1 y.1.1 := by
  unfold ltOf cmpI
  rw [Bool.eq_iff_iff, decide_eq_true_iff, cmpS_lt]
theorem swoI (E : List Ent) : SWO (ltOf (cmpI (E := E))) where
  irrefl x := by rw [ltI]; exact strLt_irr _
  trans x y z h1 h2 := by rw [ltI] at *; exact strLt_trans _ _ _ h1 h2
  ntrans x y z h1 h2 := by
    rw [ltI] at *
    rw [Bool.eq_false_iff]
    intro h
    by_cases e1 : x.1.1 = y.1.1
    · rw [e1, h2] at h; cases h
    · have g1 := strLt_tri _ _ h1 e1
      have g2 := strLt_trans _ _ _ g1 h
      rw [h2] at g2; cases g2
/-- No two names alike. -/
noncomputable def Apart (E : List Ent) : Prop := ∀ x ∈ E, ∀ y ∈ E, x.1 = y.1 → x = y
theorem totI {E : List Ent} (hE : Apart E) (x y : In E) (h1 : ltOf cmpI x y = false) (h2 : ltOf cmpI y x = false) : x = y := by
  rw [ltI] at *
  apply Subtype.ext
  refine hE _ x.2 _ y.2 ?_
  by_cases e : x.1.1 = y.1.1
  · exact e
  · have := strLt_tri _ _ h1 e
    rw [h2] at this; cases this
noncomputable def insE (x : Ent) : List Ent → List Ent
  | [] => [x]
  | y :: r => match strLt x.1 y.1 with
    | true => x :: y :: r
    | false => y :: insE x r
noncomputable def sortE : List Ent → List Ent
  | [] => []
  | x :: r => insE x (sortE r)
theorem insE_perm (x : Ent) : ∀ l, (insE x l).Perm (x :: l)
  | [] => .refl _
  | y :: r => by
    unfold insE
    split
    · exact .refl _
    · exact ((insE_perm x r).cons y).trans (.swap x y r)
theorem sortE_perm : ∀ l, (sortE l).Perm l
  | [] => .refl _
  | x :: r => (insE_perm x _).trans ((sortE_perm r).cons x)
noncomputable def leE (x y : Ent) : Prop := strLt y.1 x.1 = false
theorem leE_trans {x y z : Ent} (h1 : leE x y) (h2 : leE y z) : leE x z := by
  unfold leE at *
  rw [Bool.eq_false_iff]
  intro h
  by_cases e : y.1 = z.1
  · rw [e] at h1; rw [h] at h1; cases h1
  · have g := strLt_tri _ _ h2 (fun q => e q.symm)
    have := strLt_trans _ _ _ g h
    rw [h1] at this; cases this
theorem insE_sorted (x : Ent) : ∀ l, l.Pairwise leE → (insE x l).Pairwise leE
  | [], _ => by simp [insE]
  | y :: r, h => by
    unfold insE
    have h' := List.pairwise_cons.1 h
    split
    · rename_i hx
      refine List.pairwise_cons.2 ⟨fun z hz => ?_, h⟩
      have hxy : leE x y := strLt_asym _ _ hx
      rcases List.mem_cons.1 hz with rfl | hz
      · exact hxy
      · exact leE_trans hxy (h'.1 z hz)
    · rename_i hx
      refine List.pairwise_cons.2 ⟨fun z hz => ?_, insE_sorted x r h'.2⟩
      rcases List.mem_cons.1 ((insE_perm x r).mem_iff.1 hz) with rfl | hz
      · exact hx
      · exact h'.1 z hz
theorem sortE_sorted : ∀ l, (sortE l).Pairwise leE
  | [] => .nil
  | x :: r => insE_sorted x _ (sortE_sorted r)
/-- What the library's sort leaves is what is reckoned. -/
theorem merge_sortE {E : List Ent} (hE : Apart E) (l : List (In E)) (hp : (l.map (·.1)).Perm E) : (l.mergeSort fun x y => !(ltOf cmpI) y x).map (·.1) = sortE E := by
  refine List.Perm.eq_of_pairwise (le := leE) (fun a b ha hb h1 h2 => ?_) ?_ (sortE_sorted E) (((List.mergeSort_perm l _).map _).trans (hp.trans (sortE_perm E).symm))
  · have ha' : a ∈ E := hp.mem_iff.1 (((List.mergeSort_perm l _).map _).mem_iff.1 ha)
    have hb' : b ∈ E := (sortE_perm E).mem_iff.1 hb
    refine hE _ ha' _ hb' ?_
    unfold leE at h1 h2
    by_cases e : a.1 = b.1
    · exact e
    · have := strLt_tri _ _ h2 e
      rw [h1] at this; cases this
  · rw [List.pairwise_map]
    have h := List.pairwise_mergeSort (le := fun x y : In E => !(ltOf cmpI) y x) (fun a b c h1 h2 => ?_) (fun a b => ?_) l
    · refine h.imp fun {a b} h1 => ?_
      show strLt b.1.1 a.1.1 = false
      simpa [ltI] using h1
    · simp only [ltI, Bool.not_eq_true'] at h1 h2 ⊢
      exact leE_trans h1 h2
    · simp only [ltI]
      rcases hx : strLt b.1.1 a.1.1 with _ | _
      · rfl
      · rw [strLt_asym _ _ hx]; rfl
end Go.Proofs.YtcfmohjffnpfpaaGreatDoor.Ev
