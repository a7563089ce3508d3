/-
  A RECKONER OF CLOSED CALLS, FIFTH PART: what is built and what is made. No program in sight; no condition.
-/
import Derived.Test.YtbjpkfaiofkmdaaGreatDoorEv4
import Derived.Great.FillDense
import Derived.Laws.Tables
import Derived.Laws.Slices
namespace Go.Proofs.YtbjpkfaiofkmdaaGreatDoor.Ev
open Go Go.RowKit

variable {P : Program} {T : Tb} {lo : Nat} {l : Env} {H : Hp} {w : World} {f : Tr AV} {ρ : Operand → Value}

/-- The operands are what the frame says. -/
def Ev (l : Env) (f : Tr AV) (ρ : Operand → Value) (o : Operand) : Prop := ∀ v, evalO f o = some v → VR l v (ρ o)
inductive PRs (l : Env) : List (Nat × AV) → List (Nat × Value) → Prop where
  | nil : PRs l [] []
  | cons {v v' a a'} (i) (h : VR l v v') (h' : PRs l a a') : PRs l ((i, v) :: a) ((i, v') :: a')
def evalP (f : Tr AV) : List (Nat × Operand) → Option (List (Nat × AV))
  | [] => some []
  | (i, o) :: r => match evalO f o with
    | none => none
    | some v => match evalP f r with
      | none => none
      | some l => some ((i, v) :: l)
theorem evalP_ok : ∀ {os : List (Nat × Operand)} {vs : List (Nat × AV)}, (∀ p ∈ os, Ev l f ρ p.2) → evalP f os = some vs → PRs l vs (os.map fun (i, x) => (i, ρ x))
  | [], vs, _, e => by cases e; exact .nil
  | (i, o) :: r, vs, hρ, e => by
    unfold evalP at e
    split at e
    · cases e
    · rename_i v hv
      split at e
      · cases e
      · rename_i t ht
        cases e
        exact .cons i (hρ (i, o) (by simp) _ hv) (evalP_ok (fun p hp => hρ p (by simp [hp])) ht)
theorem evalOs_ok' : ∀ {os : List Operand} {vs : List AV}, (∀ p ∈ os, Ev l f ρ p) → evalOs f os = some vs → VRs l vs (os.map ρ)
  | [], vs, _, e => by cases e; exact .nil
  | o :: r, vs, hρ, e => by
    unfold evalOs at e
    split at e
    · cases e
    · rename_i v hv
      split at e
      · cases e
      · rename_i t ht
        cases e
        exact .cons (hρ o (by simp) _ hv) (evalOs_ok' (fun p hp => hρ p (by simp [hp])) ht)

/-! parts put in their places -/
def fillL (place : Nat → Option (Nat × Nat)) : List AV → List (Nat × AV) → Option (List AV)
  | cells, [] => some cells
  | cells, (i, v) :: r => match isCst v with
    | true => none
    | false => match place i with
      | none => none
      | some (off, size) => match Nat.beq (avCells v).length size with
        | false => none
        | true => match Nat.ble (off + size) cells.length with
          | false => none
          | true => fillL place (storeL cells off (avCells v)) r
theorem fold_storeL (xs vs : List Value) (off : Nat) (h : off + vs.length ≤ xs.length) :
    (vs.zipIdx 0).foldl (fun cs (x : Value × Nat) => cs.setIfInBounds (off + x.2) x.1) xs.toArray = (xs.take off ++ (vs ++ xs.drop (off + vs.length))).toArray := by
  obtain ⟨h1, h2⟩ := Go.Great.foldl_set off vs 0 xs.toArray
  apply Array.ext_getElem?
  intro k
  rw [h2 k]
  simp only [Nat.add_zero, List.size_toArray, List.getElem?_toArray]
  rw [List.getElem?_append]
  have hto : (xs.take off).length = off := by simp; omega
  rw [hto]
  by_cases hk : k < off
  · rw [if_pos hk, if_neg (by omega), List.getElem?_take_of_lt hk]
  · rw [if_neg hk, List.getElem?_append]
    by_cases hk2 : k - off < vs.length
    · rw [if_pos hk2, if_pos (by omega)]
    · rw [if_neg hk2, if_neg (by omega), List.getElem?_drop]
      congr 1; omega
theorem fillL_ok (place : Nat → Option (Nat × Nat)) : ∀ {parts : List (Nat × AV)} {cells r : List AV} {ps : List (Nat × Value)} {xs : List Value}, fillL place cells parts = some r → VRs l cells xs → PRs l parts ps →
    ∃ ys : List Value, Instr.fill place xs.toArray ps = some ys.toArray ∧ VRs l r ys
  | [], cells, r, ps, xs, e, hx, hp => by
    cases hp
    cases e
    exact ⟨xs, rfl, hx⟩
  | (i, v) :: parts, cells, r, ps, xs, e, hx, hp => by
    cases hp with
    | cons _ hv hr =>
      rename_i x ps
      unfold fillL at e
      split at e
      · cases e
      rename_i hc
      split at e
      · cases e
      rename_i off size hpl
      split at e
      · cases e
      rename_i hn
      split at e
      · cases e
      rename_i hle
      have hn := Nat.eq_of_beq_eq_true hn
      have hle : off + size ≤ cells.length := by simpa [Nat.ble_eq] using hle
      have hcs := avCells_ok hv (isCst_ne hc)
      have hlx := hx.length
      have hl1 := hcs.length
      have hsz : x.cells.size = size := by rw [← hn, hl1]; simp
      obtain ⟨ys, h1, h2⟩ := fillL_ok place (xs := xs.take off ++ (x.cells.toList ++ xs.drop (off + x.cells.toList.length))) e (by
        unfold storeL
        rw [hl1]
        exact (hx.take _).append (hcs.append (hx.drop _))) hr
      refine ⟨ys, ?_, h2⟩
      unfold Instr.fill
      simp only [hpl, hsz]
      rw [if_neg (by simp; omega), ← h1, ← fold_storeL xs x.cells.toList off (by simp; omega)]
      congr 1
      rw [← Array.foldl_toList, Array.toList_zipIdx]
def placesL (T : Tb) : List Field → Option (List (Nat × Nat))
  | [] => some []
  | fd :: r => match T.ty fd.type with
    | none => none
    | some i => match placesL T r with
      | none => none
      | some l => some ((fd.offset, i.size) :: l)
theorem placesL_ok (hT : TbOk P T) : ∀ {fs : List Field} {ps : List (Nat × Nat)}, placesL T fs = some ps → fs.mapM (fun f => (P.info? f.type).map fun i => (f.offset, i.size)) = some ps
  | [], _, h => by cases h; rfl
  | fd :: r, ps, h => by
    unfold placesL at h
    split at h
    · cases h
    rename_i i hi
    split at h
    · cases h
    rename_i q hq
    cases h
    obtain ⟨g, h1, h2, -⟩ := hT.info _ _ hi
    simp [h1, h2, placesL_ok hT hq]
def buildV (T : Tb) (t : TypeId) (parts : List (Nat × AV)) : Option AV :=
  match T.ty t with
  | some ⟨.struct fs, _, _, some z, _⟩ => match placesL T fs.toList with
    | some ps => match fillL (fun k => ps[k]?) (avCells z) parts with
      | some c => some (.agg c)
      | none => none
    | none => none
  | some ⟨.array _ e, _, _, some z, _⟩ => match T.ty e with
    | some i => match fillL (fun k => some (k * i.size, i.size)) (avCells z) parts with
      | some c => some (.agg c)
      | none => none
    | none => none
  | _ => none
theorem buildV_ok (hT : TbOk P T) {t : TypeId} {parts : List (Nat × AV)} {v : AV} (e : buildV T t parts = some v) {ps : Array (Nat × Value)} (hp : PRs l parts ps.toList) : ∃ z, (Instr.build t ps).run P w = .ok z w ∧ VR l v z := by
  unfold buildV at e
  split at e
  · rename_i fs _ _ z _ ht
    split at e
    · rename_i pl hpl
      split at e
      · rename_i c hc
        cases e
        obtain ⟨g, h1, -, -, h2⟩ := hT.info _ _ ht
        obtain ⟨h0, x, h3, h4⟩ := h2 z rfl
        obtain ⟨ys, h5, h6⟩ := fillL_ok _ hc (avCells_ok (h4 l) h0) hp
        refine ⟨_, run_build w t ps ys.toArray ?_, .agg h6⟩
        unfold Program.built
        rw [h1, hT.und _ _ ht]
        simp only [h3, placesL_ok hT hpl]
        simpa using h5
      · cases e
    · cases e
  · rename_i el _ _ z _ ht
    split at e
    · rename_i i hi
      split at e
      · rename_i c hc
        cases e
        obtain ⟨g, h1, -, -, h2⟩ := hT.info _ _ ht
        obtain ⟨h0, x, h3, h4⟩ := h2 z rfl
        obtain ⟨q, h7, h8, -⟩ := hT.info _ _ hi
        obtain ⟨ys, h5, h6⟩ := fillL_ok _ hc (avCells_ok (h4 l) h0) hp
        refine ⟨_, run_build w t ps ys.toArray ?_, .agg h6⟩
        unfold Program.built
        rw [h1, hT.und _ _ ht]
        simp only [h3, h7, h8]
        simpa using h5
      · cases e
    · cases e
  · cases e

/-! new blocks -/
theorem newRow_ok (h : HR T.sz l H w) (t : TypeId) {cs : List AV} {xs : List Value} (hx : VRs l cs xs) :
    ∃ l', (newRow t xs.toArray).run P w = .ok ⟨w.heap.size, 0, none⟩ { w with heap := w.heap.push (.cells xs.toArray t (0, 0)) } ∧ l' H.nx = some (w.heap.size, 0) ∧ Kp T.sz lo l H w l' (H.new (.cells t cs false)) { w with heap := w.heap.push (.cells xs.toArray t (0, 0)) } :=
  ⟨l.upd H.nx (w.heap.size, 0), by simp [newRow], Env.upd_at _ _ _, Kp.alloc h 0 (.shut (hx.mono (Env.upd_le h _)) (.inl rfl))⟩
def allocV (T : Tb) (H : Hp) (t : TypeId) : Option (AV × Hp) :=
  match T.ty t with
  | some ⟨_, _, _, some z, _⟩ => some (.ptr H.nx 0, H.new (.cells t (avCells z) false))
  | _ => none
theorem allocV_ok (hT : TbOk P T) (h : HR T.sz l H w) {t : TypeId} {v : AV} {H' : Hp} (e : allocV T H t = some (v, H')) : Gives P T.sz lo l H w (Instr.alloc t true (.tuple #[])) v H' := by
  unfold allocV at e
  split at e
  · rename_i z _ ht
    cases e
    obtain ⟨x, h1, h2⟩ := run_zero (w := w) hT ht rfl
    obtain ⟨l', h3, h4, h5⟩ := newRow_ok (P := P) (lo := lo) h t (h2 l)
    refine ⟨l', _, _, ?_, .ptr _ h4, h5⟩
    unfold Instr.alloc
    rw [Sem.run_bind, h1]
    simp only [Result.andThen_ok, newVar]
    rw [Sem.run_bind, show (newRow t x.cells).run P w = _ from h3]
    rfl
  · cases e
def boxV (H : Hp) (t : TypeId) (v : AV) : Option (AV × Hp) :=
  match isCst v with
  | true => none
  | false => some (.ptr H.nx 0, H.new (.cells t (avCells v) false))
theorem boxV_ok (h : HR T.sz l H w) {t : TypeId} {u v : AV} {H' : Hp} (e : boxV H t u = some (v, H')) {x : Value} (hx : VR l u x) : Gives P T.sz lo l H w (Instr.box t x) v H' := by
  unfold boxV at e
  split at e
  · cases e
  rename_i hc
  cases e
  obtain ⟨l', h3, h4, h5⟩ := newRow_ok (P := P) (lo := lo) h t (avCells_ok hx (isCst_ne hc))
  refine ⟨l', _, _, ?_, .ptr _ h4, h5⟩
  unfold Instr.box
  simp only [newVar]
  rw [Sem.run_bind, show (newRow t x.cells).run P w = _ from h3]
  rfl
def zerosL (z : List AV) (n : Nat) : List AV := (List.range n).map fun i => z.getD (i % z.length) .nilp
theorem VRs.map {g : Nat → AV} {h : Nat → Value} : ∀ (ns : List Nat), (∀ i ∈ ns, VR l (g i) (h i)) → VRs l (ns.map g) (ns.map h)
  | [], _ => .nil
  | n :: ns, hn => .cons (hn n (by simp)) (VRs.map ns fun i hi => hn i (by simp [hi]))
theorem VRs.getD {a : List AV} {x : List Value} (h : VRs l a x) {i : Nat} (hi : i < a.length) : VR l (a.getD i .nilp) (x.getD i undef) := by
  have h1 : a[i]? = some a[i] := List.getElem?_eq_getElem hi
  obtain ⟨u, h2, h3⟩ := h.get h1
  simp only [List.getD, h1, h2, Option.getD_some]
  exact h3
def buildSliceV (T : Tb) (H : Hp) (t : TypeId) (len : Nat) (parts : List (Nat × AV)) : Option (AV × Hp) :=
  match T.ty t with
  | some ⟨.slice e, _, _, _, _⟩ => match T.ty e with
    | some ⟨_, size, _, some z, _⟩ => match Nat.ble (len * size) 1000000 with
      | false => none
      | true => match Nat.beq (avCells z).length size with
        | false => none
        | true => match Nat.beq size 0 with
          | true => none
          | false => match fillL (fun k => some (k * size, size)) (zerosL (avCells z) (len * size)) parts with
            | none => none
            | some c => some (.sl H.nx 0 len len, H.new (.cells e c false))
    | _ => none
  | _ => none
theorem buildSliceV_ok (hT : TbOk P T) (h : HR T.sz l H w) {t : TypeId} {len : Nat} {parts : List (Nat × AV)} {v : AV} {H' : Hp} (e : buildSliceV T H t len parts = some (v, H')) {ps : Array (Nat × Value)} (hp : PRs l parts ps.toList) :
    Gives P T.sz lo l H w (Instr.buildSlice t len ps) v H' := by
  unfold buildSliceV at e
  split at e
  · rename_i el _ _ _ _ ht
    split at e
    · rename_i size _ z _ hel
      split at e
      · cases e
      rename_i hle
      split at e
      · cases e
      rename_i hzl
      split at e
      · cases e
      rename_i hs0
      split at e
      · cases e
      rename_i c hc
      cases e
      have hle : len * size ≤ 1000000 := by simpa [Nat.ble_eq] using hle
      have hzl := Nat.eq_of_beq_eq_true hzl
      have hs0 := Nat.ne_of_beq_eq_false hs0
      obtain ⟨x, h1, h2⟩ := run_zero (w := w) hT hel rfl
      have hxl := (h2 l).length
      have hz : VRs l (zerosL (avCells z) (len * size)) ((List.range (len * size)).map fun i => x.cells.toList.getD (i % (avCells z).length) undef) :=
        VRs.map _ fun i _ => (h2 l).getD (Nat.mod_lt _ (by omega))
      obtain ⟨ys, h5, h6⟩ := fillL_ok _ hc hz hp
      obtain ⟨l', h3, h4, h7⟩ := newRow_ok (P := P) (lo := lo) h el h6
      refine ⟨l', _, _, ?_, .sl _ _ _ h4, h7⟩
      unfold Instr.buildSlice
      rw [Sem.run_bind, run_und hT ht]
      simp only [Result.andThen_ok]
      rw [Sem.run_bind, run_size hT hel]
      have hne : ¬ (len * size > 2 ^ 24) := by omega
      have hfl : Instr.fill (fun i => some (i * size, size)) ((Array.range (len * size)).map (x.cells[· % x.cells.size]!)) ps.toList = some ys.toArray := by
        rw [← h5]
        congr 1
        apply Array.ext'
        simp only [Array.toList_map, Array.toList_range]
        apply List.map_congr_left
        intro i _
        have e1 : x.cells.size = (avCells z).length := by rw [hxl]; simp
        rw [e1]
        have e2 : i % (avCells z).length < x.cells.size := by rw [e1]; exact Nat.mod_lt _ (by omega)
        rw [getElem!_pos x.cells _ e2]
        simp [List.getD, e2]
      by_cases hl0 : len = 0
      · subst hl0
        have r0 : ∀ g : Nat → Value, (Array.range 0).map g = #[] := fun g => by apply Array.ext'; simp
        have hfl2 : Instr.fill (fun i => some (i * size, size)) #[] ps.toList = some ys.toArray := by
          rw [← hfl, Nat.zero_mul, r0]
        simp [r0, hfl2, h3]
      · have hl1 : ¬ (len * size = 0) := Nat.mul_ne_zero hl0 hs0
        simp only [Result.andThen_ok, hne, if_false, hl1]
        simp [h1, hfl, h3]
    · cases e
  · cases e
end Go.Proofs.YtbjpkfaiofkmdaaGreatDoor.Ev
