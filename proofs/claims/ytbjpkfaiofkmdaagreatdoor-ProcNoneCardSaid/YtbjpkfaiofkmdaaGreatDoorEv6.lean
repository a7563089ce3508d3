/-
  A RECKONER OF CLOSED CALLS, SIXTH PART: equality, operators, parts of slices and texts, conversions. No program in sight; no condition.
-/
import Derived.Test.YtbjpkfaiofkmdaaGreatDoorEv5
import Derived.Laws.StructEq
namespace Go.Proofs.YtbjpkfaiofkmdaaGreatDoor.Ev
open Go Go.RowKit

variable {P : Program} {T : Tb} {lo : Nat} {l : Env} {H : Hp} {w : World} {f : Tr AV} {ρ : Operand → Value}

def eqFieldsV (T : Tb) (eq : TypeId → AV → AV → Option Bool) (xs ys : List AV) : List Field → Option Bool
  | [] => some true
  | f :: r => match partV T f.type xs f.offset, partV T f.type ys f.offset with
    | some a, some b => match eq f.type a b with
      | some true => eqFieldsV T eq xs ys r
      | some false => some false
      | none => none
    | _, _ => none
def eqV (T : Tb) : Nat → TypeId → AV → AV → Option Bool
  | 0, _, _, _ => none
  | d + 1, t, x, y => match T.ty t with
    | none => none
    | some i => match i.und, x, y with
      | .bool, .bool a, .bool b => some (a == b)
      | .int _, .int k a, .int k' b => match decide (k = k') with
        | true => some (a == b)
        | false => none
      | .string, .str a, .str b => some (strEq a b)
      | .pointer _, .nilp, .nilp => some true
      | .pointer _, .nilp, .ptr _ _ => some false
      | .pointer _, .ptr _ _, .nilp => some false
      | .pointer e, .ptr b o, .ptr b' o' => match T.ty e with
        | some j => match Nat.beq j.size 0, Nat.beq b b' with
          | false, true => some (Nat.beq o o')
          | _, _ => none
        | none => none
      | .slice _, .nils, .nils => some true
      | .slice _, .nils, .sl _ _ _ _ => some false
      | .slice _, .nils, .slo _ _ _ _ => some false
      | .slice _, .sl _ _ _ _, .nils => some false
      | .slice _, .slo _ _ _ _, .nils => some false
      | .map _ _, .map none, .map none => some true
      | .map _ _, .map none, .map (some _) => some false
      | .map _ _, .map (some _), .map none => some false
      | .func _ _ _, .nilfn, .nilfn => some true
      | .func _ _ _, .nilfn, .fn _ _ _ => some false
      | .func _ _ _, .fn _ _ _, .nilfn => some false
      | .struct fs, .agg xs, .agg ys => match T.eqOk t with
        | true => eqFieldsV T (eqV T d) xs ys fs.toList
        | false => none
      | _, _, _ => none
theorem eqFieldsV_ok (hT : TbOk P T) (D : Nat) (eq : TypeId → AV → AV → Option Bool) (heq : ∀ t x y r a b, eq t x y = some r → VR l x a → VR l y b → (Op.equalIn D t a b).run P w = .ok r w) {xs ys : List AV} {as bs : List Value} (hx : VRs l xs as) (hy : VRs l ys bs) :
    ∀ (fs : List Field) (r : Bool), (∀ f ∈ fs, f.name ≠ "_") → eqFieldsV T eq xs ys fs = some r → (Op.eqFields D as.toArray bs.toArray fs).run P w = .ok r w
  | [], r, _, h => by cases h; rfl
  | g :: fs, r, hn, h => by
    unfold eqFieldsV at h
    split at h
    · rename_i a b ha hb
      obtain ⟨a', e1, r1⟩ := partV_ok (w := w) hT ha hx
      obtain ⟨b', e2, r2⟩ := partV_ok (w := w) hT hb hy
      unfold Op.eqFields
      rw [if_pos (hn g (by simp))]
      rw [Sem.run_bind, e1]
      simp only [Result.andThen_ok]
      rw [Sem.run_bind, e2]
      simp only [Result.andThen_ok]
      split at h
      · rename_i he
        rw [Sem.run_bind, heq _ _ _ _ _ _ he r1 r2]
        simp only [Result.andThen_ok]
        exact eqFieldsV_ok hT D eq heq hx hy fs r (fun f hf => hn f (by simp [hf])) h
      · rename_i he
        cases h
        rw [Sem.run_bind, heq _ _ _ _ _ _ he r1 r2]
        rfl
      · cases h
    · cases h
theorem eqV_ok (hT : TbOk P T) : ∀ (d : Nat) (t : TypeId) (x y : AV) (r : Bool) (a b : Value), eqV T d t x y = some r → VR l x a → VR l y b → ∀ e, (Op.equalIn (d + e) t a b).run P w = .ok r w
  | 0, _, _, _, _, _, _, h, _, _ => by cases h
  | d + 1, t, x, y, r, a, b, h, hx, hy => fun e => by
    unfold eqV at h
    split at h
    · cases h
    rename_i i hi
    have hu := hT.und t i hi
    have ed : d + 1 + e = (d + e) + 1 := by omega
    rw [ed]
    split at h
    · rename_i hd; cases h; cases hx; cases hy; simp [Op.equalIn, run_underlying (hu.trans (congrArg some hd))]
    · rename_i hd
      split at h
      · rename_i hk
        have hk : _ = _ := of_decide_eq_true hk
        cases h; cases hx; cases hy; simp [Op.equalIn, run_underlying (hu.trans (congrArg some hd)), hk]
      · cases h
    · rename_i hd
      cases h
      cases hx with | str _ h1 => ?_
      cases hy with | str _ h2 => ?_
      rename_i s1 s2
      simp only [Op.equalIn, Sem.run_bind, run_underlying (hu.trans (congrArg some hd)), Result.andThen_ok, Sem.run_pure, beq_toListBytes]
      congr 1
      rw [Bool.eq_iff_iff, strEq_iff, beq_iff_eq, bs_inj h1 h2]
    · rename_i hd; cases h; cases hx; cases hy; simp [Op.equalIn, run_underlying (hu.trans (congrArg some hd))]
    · rename_i hd; cases h; cases hx; cases hy; simp [Op.equalIn, run_underlying (hu.trans (congrArg some hd))]
    · rename_i hd; cases h; cases hx; cases hy; simp [Op.equalIn, run_underlying (hu.trans (congrArg some hd))]
    · rename_i hd
      split at h
      · rename_i j hj
        split at h
        · rename_i h0 hb
          have h0 := Nat.ne_of_beq_eq_false h0
          have hb := Nat.eq_of_beq_eq_true hb
          cases h
          cases hx with | ptr _ l1 => ?_
          cases hy with | ptr _ l2 => ?_
          subst hb
          rw [l1] at l2
          cases l2
          simp only [Op.equalIn, Sem.run_bind, run_underlying (hu.trans (congrArg some hd)), Result.andThen_ok, run_size hT hj]
          rw [if_pos h0]
          simp [sameAddr]
          rw [Bool.eq_iff_iff]
          simp
        · cases h
      · cases h
    · rename_i hd; cases h; cases hx; cases hy; simp [Op.equalIn, run_underlying (hu.trans (congrArg some hd))]
    · rename_i hd; cases h; cases hx; cases hy; simp [Op.equalIn, run_underlying (hu.trans (congrArg some hd))]
    · rename_i hd; cases h; cases hx; cases hy; simp [Op.equalIn, run_underlying (hu.trans (congrArg some hd))]
    · rename_i hd; cases h; cases hx; cases hy; simp [Op.equalIn, run_underlying (hu.trans (congrArg some hd))]
    · rename_i hd; cases h; cases hx; cases hy; simp [Op.equalIn, run_underlying (hu.trans (congrArg some hd))]
    · rename_i hd; cases h; cases hx; cases hy; simp [Op.equalIn, run_underlying (hu.trans (congrArg some hd))]
    · rename_i hd; cases h; cases hx; cases hy; simp [Op.equalIn, run_underlying (hu.trans (congrArg some hd))]
    · rename_i hd; cases h; cases hx; cases hy; simp [Op.equalIn, run_underlying (hu.trans (congrArg some hd))]
    · rename_i hd; cases h; cases hx; cases hy; simp [Op.equalIn, run_underlying (hu.trans (congrArg some hd))]
    · rename_i hd; cases h; cases hx; cases hy; simp [Op.equalIn, run_underlying (hu.trans (congrArg some hd))]
    · rename_i hd; cases h; cases hx; cases hy; simp [Op.equalIn, run_underlying (hu.trans (congrArg some hd))]
    · rename_i fs xs ys hd
      split at h
      · rename_i ho
        obtain ⟨o1, o2, o3⟩ := hT.eqOk t ho
        have hfs : P.fieldsOf t = fs := by simp [Program.fieldsOf, hu, hd]
        rw [hfs] at o3
        cases hx with | agg h1 => ?_
        cases hy with | agg h2 => ?_
        rw [run_equalIn_struct w (d + e) t _ _ (by rw [hfs, hu, hd]) o1, hfs]
        exact eqFieldsV_ok hT (d + e) (eqV T d) (fun t x y r a b h3 h4 h5 => eqV_ok hT d t x y r a b h3 h4 h5 e) h1 h2 fs.toList r o3 h
      · cases h
    · cases h
def cmpOp (T : Tb) (op : BinOp) (t : TypeId) (x y : AV) : Option AV :=
  match op with
  | .eql => match eqV T 50 t x y with
    | some b => some (.bool b)
    | none => none
  | .neq => match eqV T 50 t x y with
    | some b => some (.bool (!b))
    | none => none
  | _ => none
def isNum : AV → Bool
  | .int _ _ => true
  | .str _ => true
  | .nilif => true
  | .cst _ => true
  | .agg _ => true
  | _ => false
def binV (T : Tb) (op : BinOp) (t : TypeId) (x y : AV) : Option AV :=
  match x, y with
  | .int k a, .int k' b => match op with
    | .shl => match b with
      | .ofNat n => match Nat.ble n k.bits with
        | true => some (.int k (k.wrap (a * 2 ^ n)))
        | false => none
      | _ => none
    | .shr => match b with
      | .ofNat n => match Nat.ble n k.bits with
        | true => some (.int k (a / 2 ^ n))
        | false => none
      | _ => none
    | _ => match decide (k = k') with
      | true => intOp op k a b
      | false => none
  | .str a, .str b => strOp op a b
  | .agg a, .agg b => match T.eqOk t with
    | true => cmpOp T op t (.agg a) (.agg b)
    | false => none
  | x, y => match isNum x, isNum y with
    | false, false => cmpOp T op t x y
    | _, _ => none
theorem cmpOp_ok (hT : TbOk P T) {op : BinOp} {t : TypeId} {x y v : AV} (e : cmpOp T op t x y = some v) {a b : Value} (hx : VR l x a) (hy : VR l y b)
    (h1 : binOp .eql t a b = (do pure (.bool (← Op.equal t a b)))) (h2 : binOp .neq t a b = (do pure (.bool (!(← Op.equal t a b))))) : ∃ z, (binOp op t a b).run P w = .ok z w ∧ VR l v z := by
  have hd : ∀ r, eqV T 50 t x y = some r → (Op.equal t a b).run P w = .ok r w := fun r hr => eqV_ok hT 50 t x y r a b hr hx hy 9950
  unfold cmpOp at e
  split at e
  · split at e
    · rename_i r hr
      cases e
      exact ⟨_, by rw [h1, Sem.run_bind, hd r hr]; rfl, .bool _⟩
    · cases e
  · split at e
    · rename_i r hr
      cases e
      exact ⟨_, by rw [h2, Sem.run_bind, hd r hr]; rfl, .bool _⟩
    · cases e
  · cases e
theorem binV_ok (hT : TbOk P T) {op : BinOp} {t : TypeId} {x y v : AV} (e : binV T op t x y = some v) {a b : Value} (hx : VR l x a) (hy : VR l y b) (ox oy : Operand) :
    ∃ z, (do eqGuard op t ox oy a b; binOp op t a b : Sem Value).run P w = .ok z w ∧ VR l v z := by
  unfold binV at e
  split at e
  · rename_i k m k' n
    cases hx
    cases hy
    rw [eqGuard_at_int]
    simp only [pure_bind]
    split at e
    · split at e
      · rename_i n
        split at e
        · rename_i hn
          have hn : n ≤ k.bits := by simpa [Nat.ble_eq] using hn
          cases e
          refine ⟨_, ?_, .int _ _⟩
          have := shift_shl k k' m n (by omega) (by omega)
          simp [binOp]
          simpa using congrArg (fun s => Sem.run P s w) this
        · cases e
      · cases e
    · split at e
      · rename_i n
        split at e
        · rename_i hn
          have hn : n ≤ k.bits := by simpa [Nat.ble_eq] using hn
          cases e
          refine ⟨_, ?_, .int _ _⟩
          have := shift_shr k k' m n (by omega) (by omega)
          simp [binOp]
          simpa using congrArg (fun s => Sem.run P s w) this
        · cases e
      · cases e
    · split at e
      · rename_i hk
        have hk : k = k' := of_decide_eq_true hk
        subst hk
        exact intOp_ok t e l
      · cases e
  · cases hx with | str _ h1 => ?_
    cases hy with | str _ h2 => ?_
    rw [eqGuard_at_string]
    simp only [pure_bind]
    exact strOp_ok t e h1 h2 l
  · split at e
    · rename_i ho
      obtain ⟨o1, o2, o3⟩ := hT.eqOk t ho
      cases hx with | agg h1 => ?_
      cases hy with | agg h2 => ?_
      rw [Sem.run_bind, run_eqGuard_agg _ _ _ _ _ _ _ o2]
      simp only [Result.andThen_ok]
      exact cmpOp_ok hT e (.agg h1) (.agg h2) (by rfl) (by rfl)
    · cases e
  · split at e
    · rename_i h1 h2
      have g : eqGuard op t ox oy a b = pure () := by
        cases hx <;> first | (cases h1; done) | (cases hy <;> first | (cases h2; done) | (cases op <;> rfl))
      rw [g]
      simp only [pure_bind]
      refine cmpOp_ok hT e hx hy ?_ ?_
      · cases hx <;> first | (cases h1; done) | (cases hy <;> first | (cases h2; done) | rfl)
      · cases hx <;> first | (cases h1; done) | (cases hy <;> first | (cases h2; done) | rfl)
    · cases e
def unV (op : UnOp) (x : AV) : Option AV :=
  match op, x with
  | .not, .bool b => some (.bool (!b))
  | .neg, .int k n => some (.int k (k.wrap (0 - n)))
  | .xor, .int k n => some (.int k (k.wrap (BitVec.ofInt k.bits (if k.signed then -1 else k.max) ^^^ BitVec.ofInt k.bits n).toNat))
  | _, _ => none
theorem unV_ok {op : UnOp} {x v : AV} (e : unV op x = some v) {a : Value} (hx : VR l x a) : ∃ z, (Op.unary op a).run P w = .ok z w ∧ VR l v z := by
  unfold unV at e
  split at e
  · cases e; cases hx; exact ⟨_, rfl, .bool _⟩
  · cases e; cases hx; exact ⟨_, rfl, .int _ _⟩
  · cases e; cases hx; exact ⟨_, rfl, .int _ _⟩
  · cases e
end Go.Proofs.YtbjpkfaiofkmdaaGreatDoor.Ev
