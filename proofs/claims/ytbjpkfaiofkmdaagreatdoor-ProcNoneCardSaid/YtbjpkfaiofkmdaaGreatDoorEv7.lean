/-
  A RECKONER OF CLOSED CALLS, SEVENTH PART: parts of slices and texts, lengths, what is appended. No program in sight; no condition.
-/
import Derived.Test.YtbjpkfaiofkmdaaGreatDoorEv6
namespace Go.Proofs.YtbjpkfaiofkmdaaGreatDoor.Ev
open Go Go.RowKit

variable {P : Program} {T : Tb} {lo : Nat} {l : Env} {H : Hp} {w : World} {f : Tr AV} {ρ : Operand → Value}

/-! parts -/
def NV : Option Nat → Option Value → Prop
  | none, none => True
  | some n, some v => ∃ k, v = .int k (n : Int)
  | _, _ => False
def boundsV (len cap : Nat) (lo hi mx : Option Nat) : Option (Nat × Nat × Nat) :=
  match mx with
  | none => match Nat.ble (lo.getD 0) (hi.getD len), Nat.ble (hi.getD len) cap with
    | true, true => some (lo.getD 0, hi.getD len, cap)
    | _, _ => none
  | some m => match hi with
    | none => none
    | some h => match Nat.ble (lo.getD 0) h, Nat.ble h m, Nat.ble m cap with
      | true, true, true => some (lo.getD 0, h, m)
      | _, _, _ => none
theorem boundsV_ok (sl : Bool) {len cap : Nat} {a b c : Option Nat} {r : Nat × Nat × Nat} (e : boundsV len cap a b c = some r) {x y z : Option Value} (hx : NV a x) (hy : NV b y) (hz : NV c z) :
    (Instr.sliceBounds sl len cap x y z).run P w = .ok r w ∧ r.1 ≤ r.2.1 ∧ r.2.1 ≤ r.2.2 ∧ r.2.2 ≤ cap ∧ r.2.1 = b.getD len := by
  unfold boundsV at e
  split at e
  · split at e
    · rename_i h1 h2
      rw [Nat.ble_eq] at h1 h2
      cases e
      refine ⟨?_, h1, h2, Nat.le_refl _, rfl⟩
      cases z with
      | some _ => cases hz
      | none =>
        cases a <;> cases x <;> first | (cases hx; done) | skip
        all_goals cases b <;> cases y <;> first | (cases hy; done) | skip
        all_goals
          try obtain ⟨_, rfl⟩ := hx
          try obtain ⟨_, rfl⟩ := hy
          simp only [Option.getD_some, Option.getD_none] at h1 h2
          simp [Instr.sliceBounds, run_sliceBound_if, *]
    · cases e
  · rename_i m
    split at e
    · cases e
    rename_i h
    split at e
    · rename_i h1 h2 h3
      rw [Nat.ble_eq] at h1 h2 h3
      cases e
      refine ⟨?_, h1, h2, h3, rfl⟩
      cases z with
      | none => cases hz
      | some z =>
        obtain ⟨_, rfl⟩ := hz
        cases y with
        | none => cases hy
        | some y =>
          obtain ⟨_, rfl⟩ := hy
          cases a <;> cases x <;> first | (cases hx; done) | skip
          all_goals
            try obtain ⟨_, rfl⟩ := hx
            simp only [Option.getD_some, Option.getD_none] at h1 h2
            simp [Instr.sliceBounds, run_sliceBound_if, *]
    · cases e
def sliceV (T : Tb) (t : TypeId) (x : AV) (a b c : Option Nat) : Option AV :=
  match T.ty t with
  | some ⟨.string, _, _, _, _⟩ => match x, c with
    | .str s, none => match boundsV s.length s.length a b none with
      | some (l, h, _) => some (.str ((s.take h).drop l))
      | none => none
    | _, _ => none
  | some ⟨.slice e, _, _, _, _⟩ => match T.ty e with
    | none => none
    | some i => match x with
      | .nils => match boundsV 0 0 a b c with
        | some _ => some .nils
        | none => none
      | .sl bl o n cap => match boundsV n cap a b c with
        | some (l, h, m) => match Nat.beq m l with
          | true => some (.sl bl o (h - l) (m - l))
          | false => some (.sl bl (o + l * i.size) (h - l) (m - l))
        | none => none
      | .slo bl o n d => match c with
        | some _ => match boundsV n n a b c with
          | some (l, h, m) => match Nat.beq m l with
            | true => some (.sl bl o (h - l) (m - l))
            | false => some (.sl bl (o + l * i.size) (h - l) (m - l))
          | none => none
        | none => match boundsV n n a b none with
          | some (l, h, _) => match Nat.beq l 0 with
            | true => some (.slo bl o h d)
            | false => match Nat.blt l n with
              | true => some (.slo bl (o + l * i.size) (h - l) (d + l))
              | false => none
          | none => none
      | _ => none
  | some ⟨.array n e, _, _, _, _⟩ => match T.ty e, x with
    | some i, .ptr bl o => match boundsV n n a b c with
      | some (l, h, m) => match Nat.beq m l with
        | true => some (.sl bl o (h - l) (m - l))
        | false => some (.sl bl (o + l * i.size) (h - l) (m - l))
      | none => none
    | _, _ => none
  | _ => none
theorem bs_extract (s : List Nat) (l h : Nat) : (bs s).extract l h = bs ((s.take h).drop l) := by
  unfold bs
  apply ByteArray.ext
  apply Array.ext'
  simp [ByteArray.data_extract, List.map_drop, List.map_take, List.drop_take]
theorem sliceV_ok (hT : TbOk P T) {t : TypeId} {x v : AV} {a b c : Option Nat} (e : sliceV T t x a b c = some v) {y : Value} (hx : VR l x y) {p q r : Option Value} (hp : NV a p) (hq : NV b q) (hr : NV c r) :
    ∃ z, (Instr.sliceAt t y p q r).run P w = .ok z w ∧ VR l v z := by
  unfold sliceV at e
  split at e
  · rename_i ht
    split at e
    · rename_i s
      split at e
      · rename_i l1 h1 m1 hb
        cases e
        cases hx with | str _ hs => ?_
        have hz : (bs s).size = s.length := by simp [bs, ByteArray.size]
        obtain ⟨e1, e2, e3, e4, -⟩ := boundsV_ok (P := P) (w := w) false hb hp hq (z := none) trivial
        cases r with
        | some _ => cases hr
        | none =>
          refine ⟨_, ?_, .str _ (fun x hx => hs x (List.mem_of_mem_take (List.mem_of_mem_drop hx)))⟩
          rw [← bs_extract]
          unfold Instr.sliceAt
          simp [run_und hT ht, Instr.slice, hz, e1]
      · cases e
    · cases e
  · rename_i el _ _ _ _ ht
    split at e
    · cases e
    rename_i i hi
    have go : ∀ (bo : Option Addr) (n cap : Nat) (l1 h1 m1 : Nat), boundsV n cap a b c = some (l1, h1, m1) → (Instr.sliceAt t (.slice bo n cap) p q r).run P w = .ok (.slice (if m1 = l1 then bo else bo.map (·.add (l1 * i.size))) (h1 - l1) (m1 - l1)) w := by
      intro bo n cap l1 h1 m1 hb
      obtain ⟨e1, e2, e3, e4, -⟩ := boundsV_ok (P := P) (w := w) true hb hp hq hr
      unfold Instr.sliceAt
      simp only [Sem.run_bind, run_und hT ht, Result.andThen_ok, Instr.slice, e1, run_size hT hi]
      rfl
    split at e
    · split at e
      · rename_i r1 hb
        obtain ⟨l1, h1, m1⟩ := r1
        obtain ⟨-, e2, e3, e4, -⟩ := boundsV_ok (P := P) (w := w) true hb hp hq hr
        cases e
        cases hx
        refine ⟨_, go none 0 0 l1 h1 m1 hb, ?_⟩
        simp only at e2 e3 e4
        have z1 : m1 = 0 := by omega
        have z2 : h1 = 0 := by omega
        have z3 : l1 = 0 := by omega
        subst z1 z2 z3
        exact .nils
      · cases e
    · rename_i bl o n cap
      cases hx with | sl _ _ _ hl => ?_
      split at e
      · rename_i l1 h1 m1 hb
        refine ⟨_, go _ _ _ l1 h1 m1 hb, ?_⟩
        split at e
        · rename_i hm; have hm := Nat.eq_of_beq_eq_true hm; cases e; rw [if_pos hm]; exact .sl _ _ _ hl
        · rename_i hm; have hm := Nat.ne_of_beq_eq_false hm; cases e; rw [if_neg hm]; simp only [Option.map_some, Addr.add_mid]; exact .sl _ _ _ hl
      · cases e
    · rename_i bl o n d
      cases hx with | slo _ _ _ hl hd => ?_
      rename_i k κ
      split at e
      · rename_i m0
        split at e
        · rename_i l1 h1 m1 hb
          obtain ⟨-, e2, e3, e4, -⟩ := boundsV_ok (P := P) (w := w) true hb hp hq hr
          simp only at e2 e3 e4
          have hb2 : boundsV n (κ - d) a b (some m0) = some (l1, h1, m1) := by
            unfold boundsV at hb ⊢
            simp only at hb ⊢
            split at hb
            · cases hb
            rename_i h0
            split at hb
            · rename_i g1 g2 g3
              cases hb
              have g4 : Nat.ble m0 (κ - d) = true := by rw [Nat.ble_eq] at g3 ⊢; omega
              simp only [g1, g2, g4]
            · cases hb
          refine ⟨_, go _ _ _ l1 h1 m1 hb2, ?_⟩
          split at e
          · rename_i hm; have hm := Nat.eq_of_beq_eq_true hm; cases e; rw [if_pos hm]; exact .sl _ _ _ hl
          · rename_i hm; have hm := Nat.ne_of_beq_eq_false hm; cases e; rw [if_neg hm]; simp only [Option.map_some, Addr.add_mid]; exact .sl _ _ _ hl
        · cases e
      · split at e
        · rename_i l1 h1 m1 hb
          obtain ⟨-, e2, e3, e4, -⟩ := boundsV_ok (P := P) (w := w) true hb hp hq hr
          simp only at e2 e3 e4
          have hb2 : boundsV n (κ - d) a b none = some (l1, h1, κ - d) := by
            unfold boundsV at hb ⊢
            simp only at hb ⊢
            split at hb
            · rename_i g1 g2
              cases hb
              have g4 : Nat.ble (b.getD n) (κ - d) = true := by rw [Nat.ble_eq] at g2 ⊢; omega
              simp only [g1, g4]
            · cases hb
          refine ⟨_, go _ _ _ l1 h1 _ hb2, ?_⟩
          split at e
          · rename_i hm
            have hm := Nat.eq_of_beq_eq_true hm
            subst hm
            cases e
            have : (if κ - d = 0 then some (⟨k, o, none⟩ : Addr) else (some (⟨k, o, none⟩ : Addr)).map (·.add (0 * i.size))) = some ⟨k, o, none⟩ := by split <;> simp [Addr.add_mid]
            rw [this]
            simp only [Nat.sub_zero]
            exact .slo _ _ _ hl (by omega)
          · rename_i hm0
            have hm0 := Nat.ne_of_beq_eq_false hm0
            split at e
            · rename_i hlt
              have hlt : l1 < n := by simpa [Nat.blt_eq] using hlt
              cases e
              rw [if_neg (by omega)]
              simp only [Option.map_some, Addr.add_mid]
              rw [show κ - d - l1 = κ - (d + l1) from by omega]
              exact .slo _ _ _ hl (by omega)
            · cases e
        · cases e
    · cases e
  · rename_i n el _ _ _ _ ht
    split at e
    · rename_i i bl o hi
      split at e
      · rename_i l1 h1 m1 hb
        cases hx with | ptr _ hl => ?_
        obtain ⟨e1, e2, e3, e4, -⟩ := boundsV_ok (P := P) (w := w) false hb hp hq hr
        rename_i k κ
        have go : (Instr.sliceAt t (.pointer (some ⟨k, o, none⟩)) p q r).run P w = .ok (.slice (some (if m1 = l1 then ⟨k, o, none⟩ else (⟨k, o, none⟩ : Addr).add (l1 * i.size))) (h1 - l1) (m1 - l1)) w := by
          unfold Instr.sliceAt
          simp only [Sem.run_bind, run_und hT ht, Result.andThen_ok, Instr.sureAddr, Sem.run_pure, e1, run_size hT hi]
        refine ⟨_, go, ?_⟩
        split at e
        · rename_i hm; have hm := Nat.eq_of_beq_eq_true hm; cases e; rw [if_pos hm]; exact .sl _ _ _ hl
        · rename_i hm; have hm := Nat.ne_of_beq_eq_false hm; cases e; rw [if_neg hm, Addr.add_mid]; exact .sl _ _ _ hl
      · cases e
    · cases e
  · cases e
end Go.Proofs.YtbjpkfaiofkmdaaGreatDoor.Ev
