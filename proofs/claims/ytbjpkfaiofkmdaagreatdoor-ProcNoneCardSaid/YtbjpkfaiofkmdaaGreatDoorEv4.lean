/-
  A RECKONER OF CLOSED CALLS, FOURTH PART: what operations give. No program in sight; no condition.
-/
import Derived.Test.YtbjpkfaiofkmdaaGreatDoorEv3
import Derived.Laws.MakeOwn
import Derived.Laws.Entries
namespace Go.Proofs.YtbjpkfaiofkmdaaGreatDoor.Ev
open Go Go.RowKit

variable {P : Program} {T : Tb} {lo : Nat} {l : Env} {H : Hp} {w : World}

theorem run_und (hT : TbOk P T) {t : TypeId} {i : TI} (h : T.ty t = some i) : (underlying t).run P w = .ok i.und w := run_underlying (hT.und t i h) w
theorem run_size (hT : TbOk P T) {t : TypeId} {i : TI} (h : T.ty t = some i) : (Go.sizeOf t).run P w = .ok i.size w := by
  obtain ⟨f, h1, h2, -⟩ := hT.info t i h
  simp [Go.sizeOf, typeInfo, h1, h2]
theorem run_agg (hT : TbOk P T) {t : TypeId} {i : TI} (h : T.ty t = some i) : (isAgg t).run P w = .ok i.agg w := by
  unfold isAgg
  rw [Sem.run_bind, run_und hT h, hT.agg t i h]
  cases i.und <;> rfl
theorem run_zeroV (hT : TbOk P T) {t : TypeId} {i : TI} (h : T.ty t = some i) {z : AV} (hz : i.zero = some z) : ∃ x, (zeroValue t).run P w = .ok x w ∧ ∀ l, VR l z x := by
  obtain ⟨f, h1, -, -, h2⟩ := hT.info t i h
  obtain ⟨-, x, h3, h4⟩ := h2 z hz
  exact ⟨x, by simp [zeroValue, typeInfo, h1, h3], h4⟩
theorem run_zero (hT : TbOk P T) {t : TypeId} {i : TI} (h : T.ty t = some i) {z : AV} (hz : i.zero = some z) : ∃ x, (zeroValue t).run P w = .ok x w ∧ ∀ l, VRs l (avCells z) x.cells.toList := by
  obtain ⟨f, h1, -, -, h2⟩ := hT.info t i h
  obtain ⟨h0, x, h3, h4⟩ := h2 z hz
  exact ⟨x, by simp [zeroValue, typeInfo, h1, h3], fun l => avCells_ok (h4 l) h0⟩

/-! loads, stores -/
def loadV (T : Tb) (H : Hp) (t : TypeId) (b o : Nat) : Option AV :=
  match T.ty t with
  | none => none
  | some i => match i.agg with
    | true => match loadL H b o i.size with
      | some c => some (.agg c)
      | none => none
    | false => match loadL H b o 1 with
      | some [v] => some v
      | _ => none
theorem loadV_ok (hT : TbOk P T) (h : HR T.sz l H w) {t : TypeId} {b o : Nat} {v : AV} (e : loadV T H t b o = some v) :
    ∃ k κ x, l b = some (k, κ) ∧ (loadVar t ⟨k, o, none⟩).run P w = .ok x w ∧ VR l v x := by
  unfold loadV at e
  split at e
  · cases e
  rename_i i hi
  split at e
  · rename_i ha
    split at e
    · rename_i c hc
      cases e
      obtain ⟨k, κ, xs, h1, h2, h3, h4⟩ := loadL_ok h hc
      refine ⟨k, κ, _, h1, ?_, .agg h3⟩
      unfold loadVar
      rw [Sem.run_bind, run_agg hT hi, ha]
      simp only [Result.andThen_ok, if_true]
      rw [Sem.run_bind, run_size hT hi]
      simp only [Result.andThen_ok]
      rw [Sem.run_bind, ← h4, loadCells_run h2]; rfl
    · cases e
  · rename_i ha
    split at e
    · rename_i c hc
      cases e
      obtain ⟨k, κ, xs, h1, h2, h3, h4⟩ := loadL_ok h hc
      cases h3 with
      | cons hv hn =>
        cases hn
        refine ⟨k, κ, _, h1, ?_, hv⟩
        have := h2 0 _ rfl
        rw [Nat.add_zero] at this
        unfold loadVar
        rw [Sem.run_bind, run_agg hT hi, ha]
        simp [this]
    · cases e
def isCst : AV → Bool
  | .cst _ => true
  | _ => false
theorem isCst_ne {v : AV} (h : isCst v = false) : ∀ u, v ≠ .cst u := by
  rintro u rfl; cases h
def storeV (T : Tb) (H : Hp) (lo : Nat) (t : TypeId) (b o : Nat) (v : AV) : Option Hp :=
  match T.ty t, isCst v with
  | some i, false => match Nat.beq (avCells v).length i.size with
    | true => storeH H lo b o (avCells v)
    | false => none
  | _, _ => none
theorem storeV_ok (hT : TbOk P T) (h : HR T.sz l H w) {t : TypeId} {b o : Nat} {v : AV} {H' : Hp} (e : storeV T H lo t b o v = some H') {x : Value} (hx : VR l v x) :
    ∃ k κ w', l b = some (k, κ) ∧ (storeVar t ⟨k, o, none⟩ x).run P w = .ok () w' ∧ Kp T.sz lo l H w l H' w' := by
  unfold storeV at e
  split at e
  · rename_i i hi hc
    split at e
    · rename_i hn
      have hn := Nat.eq_of_beq_eq_true hn
      have hcs := avCells_ok hx (isCst_ne hc)
      obtain ⟨k, κ, h1, h2, h3, h4⟩ := storeH_ok h e hcs
      refine ⟨k, κ, _, h1, ?_, h4⟩
      have hlen : x.cells.size = i.size := by have := hcs.length; rw [← hn, this]; simp
      have := run_storeCells_cells (P := P) k o x.cells.toList 0 w (fun j hj => by simpa using (h2 j (by simpa using hj)).1) (fun j hj => by simpa using (h2 j (by simpa using hj)).2) h3
      unfold storeVar
      rw [Sem.run_bind, run_size hT hi]
      simp only [Result.andThen_ok, hlen, ne_eq, not_true_eq_false, if_false]
      simpa using this
    · cases e
  · cases e
  
/-! places -/
theorem partAt_ok {k o : Nat} (n : Nat) : (⟨k, o, none⟩ : Addr).add n = ⟨k, o + n, none⟩ := Addr.add_mid k o n
def fieldV (T : Tb) (t : TypeId) (x : AV) (n : Nat) : Option AV :=
  match T.ty t with
  | some ⟨.struct fs, _, _, _, _⟩ => match x, fs[n]? with
    | .ptr b o, some f => match T.ty f.type with
      | some i => match Nat.beq i.size 0 with
        | false => some (.ptr b (o + f.offset))
        | true => none
      | none => none
    | _, _ => none
  | _ => none
theorem fieldV_ok (hT : TbOk P T) {t : TypeId} {x v : AV} {n : Nat} (e : fieldV T t x n = some v) {y : Value} (hx : VR l x y) : ∃ z, (Instr.fieldAt t y n).run P w = .ok z w ∧ VR l v z := by
  unfold fieldV at e
  split at e
  · rename_i fs _ _ _ _ ht
    split at e
    · rename_i b o f hf
      split at e
      · rename_i i hi
        split at e
        · rename_i hz
          have hz := Nat.ne_of_beq_eq_false hz
          cases e
          cases hx with
          | ptr _ hl =>
            refine ⟨_, ?_, .ptr _ hl⟩
            unfold Instr.fieldAt
            rw [Sem.run_bind, run_und hT ht]
            simp only [Result.andThen_ok, hf]
            simp [Instr.sureAddr, fieldPlace, run_size hT hi, hz, Addr.add_mid]
        · cases e
      · cases e
    · cases e
  · cases e
def natV : AV → Option Nat
  | .int _ (.ofNat n) => some n
  | _ => none
theorem natV_ok {v : AV} {n : Nat} (h : natV v = some n) {x : Value} (hx : VR l v x) : ∃ k, x = .int k (n : Int) := by
  unfold natV at h
  split at h
  · cases h; cases hx; exact ⟨_, rfl⟩
  · cases h
def indexAtV (T : Tb) (t : TypeId) (x : AV) (n : Nat) : Option AV :=
  match T.ty t with
  | some ⟨.array m e, _, _, _, _⟩ => match T.ty e, x with
    | some i, .ptr b o => match Nat.blt n m with
      | true => some (.ptr b (o + n * i.size))
      | false => none
    | _, _ => none
  | some ⟨.slice e, _, _, _, _⟩ => match T.ty e, x with
    | some i, .sl b o m _ => match Nat.blt n m with
      | true => some (.ptr b (o + n * i.size))
      | false => none
    | some i, .slo b o m _ => match Nat.blt n m with
      | true => some (.ptr b (o + n * i.size))
      | false => none
    | _, _ => none
  | _ => none
theorem indexAtV_ok (hT : TbOk P T) {t : TypeId} {x v : AV} {n : Nat} (e : indexAtV T t x n = some v) {y : Value} (hx : VR l x y) (k : IntKind) : ∃ z, (Instr.indexAt t y (.int k (n : Int))).run P w = .ok z w ∧ VR l v z := by
  unfold indexAtV at e
  split at e
  · rename_i m el _ _ _ _ ht
    split at e
    · rename_i i b o hi
      split at e
      · rename_i hn
        have hn : n < m := by simpa [Nat.blt_eq] using hn
        cases e
        cases hx with
        | ptr _ hl =>
          refine ⟨_, ?_, .ptr _ hl⟩
          unfold Instr.indexAt
          simp [asIntOf, run_und hT ht, Instr.sureAddr, run_size hT hi, hn, Addr.add_mid]
      · cases e
    · cases e
  · rename_i el _ _ _ _ ht
    split at e
    · rename_i i b o m _ hi
      split at e
      · rename_i hn
        have hn : n < m := by simpa [Nat.blt_eq] using hn
        cases e
        cases hx with
        | sl _ _ _ hl =>
          refine ⟨_, ?_, .ptr _ hl⟩
          unfold Instr.indexAt
          simp [asIntOf, run_und hT ht, run_size hT hi, hn, Addr.add_mid]
      · cases e
    · rename_i i b o m _ hi
      split at e
      · rename_i hn
        have hn : n < m := by simpa [Nat.blt_eq] using hn
        cases e
        cases hx with
        | slo _ _ _ hl _ =>
          refine ⟨_, ?_, .ptr _ hl⟩
          unfold Instr.indexAt
          simp [asIntOf, run_und hT ht, run_size hT hi, hn, Addr.add_mid]
      · cases e
    · cases e
  · cases e
/-! parts of values -/
def partV (T : Tb) (t : TypeId) (cs : List AV) (o : Nat) : Option AV :=
  match T.ty t with
  | none => none
  | some i => match i.agg with
    | true => some (.agg ((cs.drop o).take i.size))
    | false => cs[o]?
theorem partV_ok (hT : TbOk P T) {t : TypeId} {cs : List AV} {o : Nat} {v : AV} (e : partV T t cs o = some v) {xs : List Value} (hx : VRs l cs xs) : ∃ z, (part t xs.toArray o).run P w = .ok z w ∧ VR l v z := by
  unfold partV at e
  split at e
  · cases e
  rename_i i hi
  split at e
  · rename_i ha
    cases e
    refine ⟨.agg (xs.toArray.extract o (o + i.size)), ?_, ?_⟩
    · unfold part
      rw [Sem.run_bind, run_agg hT hi, ha]
      simp [run_size hT hi]
    · have e2 : (xs.toArray.extract o (o + i.size)) = ((xs.drop o).take i.size).toArray := by
        apply Array.ext'
        simp [List.take_drop]
      rw [e2]
      exact .agg ((hx.drop o).take _)
  · rename_i ha
    obtain ⟨u, h1, h2⟩ := hx.get e
    refine ⟨u, ?_, h2⟩
    unfold part
    rw [Sem.run_bind, run_agg hT hi, ha]
    simp [h1]
def fieldOfV (T : Tb) (t : TypeId) (x : AV) (n : Nat) : Option AV :=
  match T.ty t with
  | some ⟨.struct fs, _, _, _, _⟩ => match x, fs[n]? with
    | .agg cs, some f => partV T f.type cs f.offset
    | _, _ => none
  | _ => none
theorem fieldOfV_ok (hT : TbOk P T) {t : TypeId} {x v : AV} {n : Nat} (e : fieldOfV T t x n = some v) {y : Value} (hx : VR l x y) : ∃ z, (Instr.field t y n).run P w = .ok z w ∧ VR l v z := by
  unfold fieldOfV at e
  split at e
  · rename_i fs _ _ _ _ ht
    split at e
    · rename_i cs f hf
      cases hx with
      | agg hcs =>
        obtain ⟨z, h1, h2⟩ := partV_ok (w := w) hT e hcs
        refine ⟨z, ?_, h2⟩
        unfold Instr.field
        rw [Sem.run_bind, run_und hT ht]
        simp [hf, asAgg, h1]
    · cases e
  · cases e
def indexV (T : Tb) (t : TypeId) (x : AV) (n : Nat) : Option AV :=
  match T.ty t with
  | some ⟨.array m e, _, _, _, _⟩ => match T.ty e, x with
    | some i, .agg cs => match Nat.blt n m with
      | true => partV T e cs (n * i.size)
      | false => none
    | _, _ => none
  | some ⟨.string, _, _, _, _⟩ => match x with
    | .str s => match s[n]? with
      | some c => some (.int .u8 (.ofNat c))
      | none => none
    | _ => none
  | _ => none
theorem indexV_ok (hT : TbOk P T) {t : TypeId} {x v : AV} {n : Nat} (e : indexV T t x n = some v) {y : Value} (hx : VR l x y) (k : IntKind) : ∃ z, (Instr.index t y (.int k (n : Int))).run P w = .ok z w ∧ VR l v z := by
  unfold indexV at e
  split at e
  · rename_i m el _ _ _ _ ht
    split at e
    · rename_i i cs hi
      split at e
      · rename_i hn
        have hn : n < m := by simpa [Nat.blt_eq] using hn
        cases hx with
        | agg hcs =>
          obtain ⟨z, h1, h2⟩ := partV_ok (w := w) hT e hcs
          refine ⟨z, ?_, h2⟩
          unfold Instr.index
          simp [asIntOf, run_und hT ht, run_size hT hi, hn, h1]
      · cases e
    · cases e
  · rename_i ht
    split at e
    · rename_i s
      split at e
      · rename_i c hc
        cases e
        cases hx with
        | str _ hlt =>
          have hcl : c < 256 := hlt c (List.mem_of_getElem? hc)
          have hn : n < s.length := (List.getElem?_eq_some_iff.1 hc).1
          have hsz : n < (bs s).size := by simpa [bs, ByteArray.size] using hn
          have hget : (bs s)[n]'hsz = UInt8.ofNat c := by
            have hg := (List.getElem?_eq_some_iff.1 hc).2
            show ((s.map UInt8.ofNat).toArray)[n]'(by simpa using hn) = _
            simp [hg]
          refine ⟨_, ?_, .int _ _⟩
          unfold Instr.index
          simp only [Sem.run_bind, asIntOf, Sem.run_pure, Result.andThen_ok, run_und hT ht]
          have h0 : (0 : Int) ≤ (n : Int) := by omega
          have hq : (bs s)[n]? = some (UInt8.ofNat c) := by rw [getElem?_pos (bs s) n hsz, hget]
          simp [hq, Nat.mod_eq_of_lt hcl]
      · cases e
    · cases e
  · cases e
end Go.Proofs.YtbjpkfaiofkmdaaGreatDoor.Ev
