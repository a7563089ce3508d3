/-
  A RECKONER OF CLOSED CALLS, THIRD PART: blocks read, written and made. No program in sight; no condition.
-/
import Derived.Test.YtbjpkfaiofkmdaaGreatDoorEv2
namespace Go.Proofs.YtbjpkfaiofkmdaaGreatDoor.Ev
open Go Go.RowKit

variable {P : Program} {T : Tb} {sz : TypeId → Nat} {lo : Nat} {l : Env} {H : Hp} {w : World}

/-- A value of one cell. -/
def one : AV → Bool
  | .agg _ | .tup _ | .cst _ => false
  | _ => true
def ones : List AV → Bool
  | [] => true
  | v :: r => match one v with
    | true => ones r
    | false => false
theorem one_ok {v : AV} {x : Value} (h : VR l v x) (h1 : one v = true) : x.oneCell' = true := by
  cases h <;> first | rfl | cases h1
theorem ones_ok : ∀ {v : List AV} {x : List Value}, VRs l v x → ones v = true → ∀ u ∈ x, u.oneCell' = true
  | _, _, .nil, _, u, hu => by cases hu
  | _, _, .cons h h', h1, u, hu => by
    unfold ones at h1
    split at h1
    · rename_i e
      rcases List.mem_cons.1 hu with rfl | hu
      · exact one_ok h e
      · exact ones_ok h' h1 u hu
    · cases h1
/-- The cells that a value takes. -/
def avCells : AV → List AV
  | .agg c => c
  | v => [v]
theorem avCells_ok {v : AV} {x : Value} (h : VR l v x) (hc : ∀ u, v ≠ .cst u) : VRs l (avCells v) x.cells.toList := by
  cases h
  case agg h => simpa [avCells, Value.cells] using h
  case cst => exact absurd rfl (hc _)
  all_goals exact .cons (by constructor <;> assumption) .nil

/-! a block of cells -/
theorem HR.at_ (h : HR sz l H w) {b : Nat} {t : TypeId} {cs : List AV} {p : Bool} (hb : H.get b = some (.cells t cs p)) :
    ∃ k κ xs rest fr, l b = some (k, κ) ∧ w.heap[k]? = some (.cells (xs ++ rest).toArray t fr) ∧ VRs l cs xs ∧ (p = false → rest = []) ∧ (p = true → (xs ++ rest).length = κ * sz t) ∧ frOk fr (xs ++ rest).length := by
  obtain ⟨k, κ, x, h1, h2, h3⟩ := h.obj b _ hb
  cases h3 with
  | shut h hf => exact ⟨k, κ, _, [], _, h1, by simpa using h2, h, fun _ => rfl, (fun e => by cases e), by simpa using hf⟩
  | opn h hs hf => exact ⟨k, κ, _, _, _, h1, h2, h, (fun e => by cases e), fun _ => hs, hf⟩
theorem cell_get {k : Nat} {xs : List Value} {t : TypeId} {fr : Nat × Nat} (h : w.heap[k]? = some (.cells xs.toArray t fr)) (j : Nat) (u : Value) (hj : xs[j]? = some u) : w.cell? ⟨k, j, none⟩ = some u := by
  simp [World.cell?, h, hj]
theorem frOk_len {fr : Nat × Nat} {n m : Nat} (h : frOk fr n) (e : m = n) : frOk fr m := e ▸ h
theorem frOk_not {k : Nat} {xs : List Value} {t : TypeId} {fr : Nat × Nat} (h : frOk fr xs.length) (hk : w.heap[k]? = some (.cells xs.toArray t fr)) {j : Nat} (hj : j < xs.length) : w.frozen? ⟨k, j, none⟩ = false := by
  unfold World.frozen?
  simp only [hk]
  rcases h with rfl | h
  · simp
  · simp; omega
/-- Some cells of a block. -/
def loadL (H : Hp) (b o n : Nat) : Option (List AV) :=
  match H.get b with
  | some (.cells _ cs _) => match Nat.ble (o + n) cs.length with
    | true => some ((cs.drop o).take n)
    | false => none
  | _ => none
theorem loadL_ok (h : HR sz l H w) {b o n : Nat} {vs : List AV} (e : loadL H b o n = some vs) : ∃ k κ xs, l b = some (k, κ) ∧ w.rangeAt k o xs ∧ VRs l vs xs ∧ xs.length = n := by
  unfold loadL at e
  split at e
  · rename_i t cs p hb
    split at e
    · rename_i hle
      cases e
      obtain ⟨k, κ, xs, rest, fr, h1, h2, h3, -, -, -⟩ := h.at_ hb
      have hlen := h3.length
      have hle' : o + n ≤ cs.length := by simpa [Nat.ble_eq] using hle
      refine ⟨k, κ, (xs.drop o).take n, h1, fun j u hj => ?_, (h3.drop o).take n, by simp; omega⟩
      refine cell_get h2 (o + j) u ?_
      have hjn : j < n := by
        have := (List.getElem?_eq_some_iff.1 hj).1
        simp at this; omega
      rw [List.getElem?_take_of_lt hjn, List.getElem?_drop] at hj
      rw [List.getElem?_append_left (by omega)]; exact hj
    · cases e
  · cases e
theorem loadCells_run {k o : Nat} {xs : List Value} (h : w.rangeAt k o xs) : (loadCells ⟨k, o, none⟩ xs.length).run P w = .ok xs.toArray w :=
  run_loadCells_list (P := P) w ⟨k, o, none⟩ xs (fun j v hv => by rw [Addr.add_mid]; exact h j v hv)

/-! the same block, turned -/
theorem Kp.turn (h : HR sz l H w) {b k κ : Nat} {o o' : AObj} (hb : H.get b = some o) (hl : l b = some (k, κ)) (hlo : lo ≤ b) {w' : World} (hs : w'.heap.size = w.heap.size) (ho : ∀ j, j ≠ k → w'.heap[j]? = w.heap[j]?)
    {x : Obj} (hk : w'.heap[k]? = some x) (hor : OR sz l κ o' x) (h1 : w'.os = w.os) (h2 : w'.tape = w.tape) (h3 : w'.output = w.output) : Kp sz lo l H w l (H.put b o') w' := by
  refine ⟨.refl _, ⟨fun b2 o2 e => ?_, fun b2 b3 o2 o3 x2 x3 e2 e3 l2 l3 hx => ?_, h.dom, h.glob⟩, Nat.le_refl _, fun b2 _ hs2 => ?_, h1, h2, h3, by omega, fun j hj hne => ho j (fun e => hne b (k, κ) hlo hl (by simp [hb]) e.symm), fun _ _ e => .inl e⟩
  · rcases Hp.put_get e with ⟨rfl, rfl⟩ | ⟨hne, e⟩
    · exact ⟨k, κ, x, hl, hk, hor⟩
    · obtain ⟨k2, κ2, x2, l2, e2, r2⟩ := h.obj b2 o2 e
      refine ⟨k2, κ2, x2, l2, (ho k2 fun ek => hne (h.inj b2 b o2 o _ _ e hb l2 hl ek)).trans e2, r2⟩
  · have g2 : ∃ o2', H.get b2 = some o2' := by
      rcases Hp.put_get e2 with ⟨rfl, -⟩ | ⟨-, e⟩
      · exact ⟨_, hb⟩
      · exact ⟨_, e⟩
    have g3 : ∃ o3', H.get b3 = some o3' := by
      rcases Hp.put_get e3 with ⟨rfl, -⟩ | ⟨-, e⟩
      · exact ⟨_, hb⟩
      · exact ⟨_, e⟩
    obtain ⟨_, g2⟩ := g2
    obtain ⟨_, g3⟩ := g3
    exact h.inj b2 b3 _ _ x2 x3 g2 g3 l2 l3 hx
  · obtain ⟨o2, e⟩ := Option.isSome_iff_exists.1 hs2
    rcases Hp.put_get e with ⟨rfl, -⟩ | ⟨-, e⟩
    · rw [hb]; rfl
    · rw [e]; rfl
/-! a new block -/
def Env.upd (l : Env) (n : Nat) (x : Nat × Nat) : Env := fun b => if b = n then some x else l b
theorem Env.upd_le (h : HR sz l H w) (x : Nat × Nat) : l.le (l.upd H.nx x) := fun b y hb => by
  unfold Env.upd
  rw [if_neg (fun e => by have := h.dom b y hb; omega)]; exact hb
theorem Kp.born (h : HR sz l H w) (κ : Nat) {o : AObj} {x : Obj} {w' : World} (hor : OR sz (l.upd H.nx (w.heap.size, κ)) κ o x) (hs : w'.heap.size = w.heap.size + 1) (hn : w'.heap[w.heap.size]? = some x) (ho : ∀ j, j < w.heap.size → w'.heap[j]? = w.heap[j]?)
    (h1 : w'.os = w.os) (h2 : w'.tape = w.tape) (h3 : w'.output = w.output) : Kp sz lo l H w (l.upd H.nx (w.heap.size, κ)) (H.new o) w' := by
  have hle := Env.upd_le h (w.heap.size, κ)
  have hlt : ∀ b o2 x2, H.get b = some o2 → l b = some x2 → x2.1 < w.heap.size := fun b o2 x2 e e2 => by
    obtain ⟨k2, κ2, y, l2, g2, -⟩ := h.obj b o2 e
    rw [e2] at l2
    cases l2
    exact (Array.getElem?_eq_some_iff.1 g2).1
  have hup : (l.upd H.nx (w.heap.size, κ)) H.nx = some (w.heap.size, κ) := by simp [Env.upd]
  have hot : ∀ b, b ≠ H.nx → (l.upd H.nx (w.heap.size, κ)) b = l b := fun b hb => by simp [Env.upd, hb]
  refine ⟨hle, ⟨fun b2 o2 e => ?_, fun b2 b3 o2 o3 x2 x3 e2 e3 l2 l3 hx => ?_, fun b y hb => ?_, fun g hg => hle _ _ (h.glob g hg)⟩, Nat.le_succ _, fun b2 hlt2 hs2 => ?_, h1, h2, h3, by omega, fun j hj _ => ho j hj, fun b y hb => ?_⟩
  · rcases Hp.new_get e with ⟨rfl, rfl⟩ | ⟨hne, e⟩
    · exact ⟨_, κ, x, hup, hn, hor⟩
    · obtain ⟨k2, κ2, y, l2, g2, r2⟩ := h.obj b2 o2 e
      refine ⟨k2, κ2, y, hle _ _ l2, (ho k2 (hlt b2 o2 _ e l2)).trans g2, r2.mono hle⟩
  · rcases Hp.new_get e2 with ⟨rfl, -⟩ | ⟨n2, e2⟩
    · rcases Hp.new_get e3 with ⟨rfl, -⟩ | ⟨n3, e3⟩
      · rfl
      · rw [hup] at l2
        rw [hot _ n3] at l3
        cases l2
        have := hlt b3 o3 x3 e3 l3
        simp only at hx; omega
    · rcases Hp.new_get e3 with ⟨rfl, -⟩ | ⟨n3, e3⟩
      · rw [hup] at l3
        rw [hot _ n2] at l2
        cases l3
        have := hlt b2 o2 x2 e2 l2
        simp only at hx; omega
      · rw [hot _ n2] at l2
        rw [hot _ n3] at l3
        exact h.inj b2 b3 _ _ x2 x3 e2 e3 l2 l3 hx
  · show b < H.nx + 1
    by_cases hb2 : b = H.nx
    · omega
    · rw [hot b hb2] at hb
      have := h.dom b y hb; omega
  · obtain ⟨o2, e⟩ := Option.isSome_iff_exists.1 hs2
    rcases Hp.new_get e with ⟨rfl, -⟩ | ⟨-, e⟩
    · omega
    · rw [e]; rfl
  · by_cases hb2 : b = H.nx
    · subst hb2
      rw [hup] at hb
      cases hb
      exact .inr ⟨Nat.le_refl _, .inl (Nat.le_refl _)⟩
    · rw [hot b hb2] at hb
      exact .inl hb
theorem Kp.alloc (h : HR sz l H w) (κ : Nat) {o : AObj} {x : Obj} (hor : OR sz (l.upd H.nx (w.heap.size, κ)) κ o x) : Kp sz lo l H w (l.upd H.nx (w.heap.size, κ)) (H.new o) { w with heap := w.heap.push x } :=
  Kp.born h κ hor (by simp) (by simp) (fun j hj => by simp [Array.getElem?_push, Nat.ne_of_lt hj]) rfl rfl rfl
theorem Env.upd_at (l : Env) (n : Nat) (x : Nat × Nat) : (l.upd n x) n = some x := by simp [Env.upd]

/-! stores -/
def storeL (cs : List AV) (o : Nat) (vs : List AV) : List AV := cs.take o ++ (vs ++ cs.drop (o + vs.length))
def storeH (H : Hp) (lo b o : Nat) (vs : List AV) : Option Hp :=
  match Nat.ble lo b with
  | false => none
  | true => match H.get b with
    | some (.cells t cs p) => match Nat.ble (o + vs.length) cs.length with
      | false => none
      | true => match ones vs with
        | true => some (H.put b (.cells t (storeL cs o vs) p))
        | false => none
    | _ => none
theorem setCells_heap (b : Nat) : ∀ (vs : List Value) (w : World) (o : Nat) (A M R : List Value) (t : TypeId) (fr : Nat × Nat), w.heap[b]? = some (.cells (A ++ (M ++ R)).toArray t fr) → A.length = o → M.length = vs.length →
    (w.setCells b o vs).heap[b]? = some (.cells (A ++ (vs ++ R)).toArray t fr)
  | [], w, o, A, [], R, t, _, h, _, _ => by simpa [World.setCells] using h
  | v :: vs, w, o, A, m :: M, R, t, fr, h, ho, hm => by
    show ((w.setCell ⟨b, o, none⟩ v).setCells b (o + 1) vs).heap[b]? = _
    have h1 : (w.setCell ⟨b, o, none⟩ v).heap[b]? = some (.cells ((A ++ [v]) ++ (M ++ R)).toArray t fr) := by
      have hlt := (Array.getElem?_eq_some_iff.1 h).1
      have h' : w.heap[b] = .cells (A ++ ((m :: M) ++ R)).toArray t fr := by simpa [Array.getElem?_eq_getElem hlt] using h
      show (w.heap.modify b _)[b]? = _
      rw [Array.getElem?_eq_getElem (by simpa using hlt), Array.getElem_modify_self, h']
      simp only [Option.some.injEq, Obj.cells.injEq, and_true]
      apply Array.ext'
      subst ho
      simp
    have := setCells_heap b vs _ (o + 1) (A ++ [v]) M R t fr h1 (by simp [ho]) (by simpa using hm)
    rw [this]; simp
  | [], _, _, _, _ :: _, _, _, _, _, _, hm => by simp at hm
  | _ :: _, _, _, _, [], _, _, _, _, _, hm => by simp at hm
theorem setCells_other (b : Nat) : ∀ (vs : List Value) (w : World) (o j : Nat), j ≠ b → (w.setCells b o vs).heap[j]? = w.heap[j]?
  | [], _, _, _, _ => rfl
  | v :: vs, w, o, j, hj => by
    show ((w.setCell ⟨b, o, none⟩ v).setCells b (o + 1) vs).heap[j]? = _
    rw [setCells_other b vs _ _ j hj]
    show (w.heap.modify b _)[j]? = _
    rw [Array.getElem?_modify, if_neg (fun e => hj e.symm)]
theorem setCells_size (b : Nat) : ∀ (vs : List Value) (w : World) (o : Nat), (w.setCells b o vs).heap.size = w.heap.size
  | [], _, _ => rfl
  | v :: vs, w, o => by
    show ((w.setCell ⟨b, o, none⟩ v).setCells b (o + 1) vs).heap.size = _
    rw [setCells_size b vs]
    show (w.heap.modify b _).size = _
    simp
theorem setCells_rest (b : Nat) : ∀ (vs : List Value) (w : World) (o : Nat), (w.setCells b o vs).os = w.os ∧ (w.setCells b o vs).tape = w.tape ∧ (w.setCells b o vs).output = w.output
  | [], _, _ => ⟨rfl, rfl, rfl⟩
  | v :: vs, w, o => setCells_rest b vs (w.setCell ⟨b, o, none⟩ v) (o + 1)
theorem storeH_ok (h : HR sz l H w) {b o : Nat} {vs : List AV} {H' : Hp} (e : storeH H lo b o vs = some H') {xs : List Value} (hx : VRs l vs xs) :
    ∃ k κ, l b = some (k, κ) ∧ w.there k o xs.length ∧ (∀ u ∈ xs, u.oneCell' = true) ∧ Kp sz lo l H w l H' (w.setCells k o xs) := by
  unfold storeH at e
  split at e
  · cases e
  rename_i hlo
  have hlo : lo ≤ b := by simpa [Nat.ble_eq] using hlo
  split at e
  · rename_i t cs p hb
    split at e
    · cases e
    rename_i hle
    have hle : o + vs.length ≤ cs.length := by simpa [Nat.ble_eq] using hle
    split at e
    · rename_i h1
      cases e
      obtain ⟨k, κ, ys, rest, fr, g1, g2, g3, g4, g5, g6⟩ := h.at_ hb
      have hlen := g3.length
      have hvl := hx.length
      have hsplit : ys ++ rest = ys.take o ++ ((ys.drop o).take xs.length ++ (ys.drop (o + xs.length) ++ rest)) := by
        conv => lhs; rw [← List.take_append_drop o ys]
        rw [List.append_assoc]
        congr 1
        conv => lhs; rw [← List.take_append_drop xs.length (ys.drop o)]
        rw [List.append_assoc, List.drop_drop]
      have hm : ((ys.drop o).take xs.length).length = xs.length := by simp; omega
      have ha : (ys.take o).length = o := by simp; omega
      have hset := setCells_heap k xs w o (ys.take o) ((ys.drop o).take xs.length) (ys.drop (o + xs.length) ++ rest) t fr (by rw [← hsplit]; exact g2) ha hm
      have e2 : ys.take o ++ (xs ++ (ys.drop (o + xs.length) ++ rest)) = (ys.take o ++ (xs ++ ys.drop (o + xs.length))) ++ rest := by simp
      rw [e2] at hset
      have hvr : VRs l (storeL cs o vs) (ys.take o ++ (xs ++ ys.drop (o + xs.length))) := by
        unfold storeL
        rw [hvl]
        exact (g3.take o).append (hx.append (g3.drop _))
      obtain ⟨r1, r2, r3⟩ := setCells_rest k xs w o
      refine ⟨k, κ, g1, fun j hj => ⟨?_, ?_⟩, ones_ok hx h1, Kp.turn h hb g1 hlo (setCells_size _ _ _ _) (fun j hj => setCells_other _ _ _ _ _ hj) hset ?_ r1 r2 r3⟩
      · have hj2 : o + j < (ys ++ rest).length := by simp; omega
        rw [cell_get g2 (o + j) _ (List.getElem?_eq_getElem hj2)]; rfl
      · have hj3 : o + j < (ys ++ rest).length := by simp; omega
        exact frOk_not g6 g2 hj3
      · cases p with
        | false =>
          have := g4 rfl
          subst this
          rw [List.append_nil]; exact .shut hvr (frOk_len g6 (by simp; omega))
        | true =>
          have := g5 rfl
          refine .opn hvr ?_ (frOk_len g6 (by simp; omega))
          simp only [List.length_append, List.length_take, List.length_drop] at this ⊢; omega
    · cases e
  · cases e
end Go.Proofs.YtbjpkfaiofkmdaaGreatDoor.Ev
