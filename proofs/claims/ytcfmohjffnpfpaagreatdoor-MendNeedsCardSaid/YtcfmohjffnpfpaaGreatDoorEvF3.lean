/-
  A FASTER RECKONER, THIRD PART: what one operation gives. No program in sight; no condition.
-/
import Derived.Test.YtcfmohjffnpfpaaGreatDoorEvF2
namespace Go.Proofs.YtcfmohjffnpfpaaGreatDoor.Ev
open Go Go.RowKit

variable {T : Tb} {H : Hp}
/-- A value's cells. -/
noncomputable def asCells (u : AV) : (List AV → Rs) → Rs → Rs := @AV.rec (fun _ => (List AV → Rs) → Rs → Rs) (fun _ => Unit) (fun b q _ => q [.bool b]) (fun k n q _ => q [.int k n]) (fun l q _ => q [.str l]) (fun  q _ => q [.nilp]) (fun b o q _ => q [.ptr b o]) (fun  q _ => q [.nils]) (fun b o n c q _ => q [.sl b o n c]) (fun b o n d q _ => q [.slo b o n d]) (fun  q _ => q [.sle]) (fun m q _ => q [.map m]) (fun c q _ => q [.chan c]) (fun f a c _ _ q _ => q [.fn f a c]) (fun  q _ => q [.nilfn]) (fun t v _ q _ => q [.ifc t v]) (fun  q _ => q [.nilif]) (fun l _ q _ => q l) (fun _ _ _ z => z) (fun _ _ z => z) (fun b q _ => q [.yld b]) () (fun _ _ _ _ => ()) u
noncomputable def asChk (u : AV) : (Unit → Rs) → Rs → Rs := @AV.rec (fun _ => (Unit → Rs) → Rs → Rs) (fun _ => Unit) (fun _ _ z => z) (fun _ _ _ z => z) (fun _ _ z => z) (fun _ z => z) (fun _ _ q _ => q ()) (fun _ z => z) (fun _ _ _ _ q _ => q ()) (fun _ _ _ _ q _ => q ()) (fun _ z => z) (fun _ _ z => z) (fun _ _ z => z) (fun _ _ _ _ _ _ z => z) (fun _ z => z) (fun _ _ _ q _ => q ()) (fun _ z => z) (fun _ _ _ z => z) (fun _ _ _ z => z) (fun _ _ z => z) (fun _ _ z => z) () (fun _ _ _ _ => ()) u
theorem asCells_ok (u : AV) (q : List AV → Rs) (z : Rs) : asCells u q z = z ∨ isCst u = false ∧ asCells u q z = q (avCells u) := by
  cases u <;> first | exact .inl rfl | exact .inr ⟨rfl, rfl⟩
noncomputable def wvz {α : Type} (x : Option α) (q : α → Rs) (z : Rs) : Rs := @Option.rec α (fun _ => Rs) z q x
noncomputable def wp (x : Option (AV × Hp)) (q : AV → Hp → Rs) : Rs := @Option.rec (AV × Hp) (fun _ => Rs) .bad (fun p => @Prod.rec AV Hp (fun _ => Rs) q p) x
noncomputable def cellsQ (x : Option AObj) (q : TypeId → List AV → Bool → Rs) (z : Rs) : Rs := @Option.rec AObj (fun _ => Rs) z (fun o => @AObj.rec (fun _ => Rs) q (fun _ _ => z) (fun _ _ _ _ _ => z) (fun _ _ => z) (fun _ => z) (fun _ _ _ _ _ => z) o) x
theorem wv_ok (x : Option AV) (q : AV → Rs) : wv x q = .bad ∨ ∃ v, x = some v ∧ wv x q = q v := by
  cases x with
  | none => exact .inl rfl
  | some v => exact .inr ⟨v, rfl, rfl⟩
theorem wvz_ok {α : Type} (x : Option α) (q : α → Rs) (z : Rs) : wvz x q z = z ∨ ∃ v, x = some v ∧ wvz x q z = q v := by
  cases x with
  | none => exact .inl rfl
  | some v => exact .inr ⟨v, rfl, rfl⟩
theorem wp_ok (x : Option (AV × Hp)) (q : AV → Hp → Rs) : wp x q = .bad ∨ ∃ v H', x = some (v, H') ∧ wp x q = q v H' := by
  rcases x with _ | ⟨v, H'⟩
  · exact .inl rfl
  · exact .inr ⟨v, H', rfl, rfl⟩
theorem cellsQ_ok (x : Option AObj) (q : TypeId → List AV → Bool → Rs) (z : Rs) : cellsQ x q z = z ∨ ∃ t cs p, x = some (.cells t cs p) ∧ cellsQ x q z = q t cs p := by
  rcases x with _ | o
  · exact .inl rfl
  · cases o <;> first | exact .inl rfl | exact .inr ⟨_, _, _, rfl, rfl⟩
/-- The first of a row, where there are so many. -/
noncomputable def tkQ (n : Nat) : List AV → (List AV → Rs) → Rs → Rs := @Nat.rec (fun _ => List AV → (List AV → Rs) → Rs → Rs) (fun _ q _ => q []) (fun _ ih l q z => @List.rec AV (fun _ => Rs) z (fun v r _ => ih r (fun tl => q (v :: tl)) z) l) n
theorem tkQ_ok : ∀ (n : Nat) (l : List AV) (q : List AV → Rs) (z : Rs), tkQ n l q z = z ∨ n ≤ l.length ∧ tkQ n l q z = q (l.take n)
  | 0, l, q, z => .inr ⟨Nat.zero_le _, by rw [List.take_zero]; rfl⟩
  | n + 1, [], q, z => .inl rfl
  | n + 1, v :: r, q, z => by
    rcases tkQ_ok n r (fun tl => q (v :: tl)) z with h | ⟨h1, h2⟩
    · exact .inl h
    · exact .inr ⟨by simpa using h1, by rw [List.take_succ_cons]; exact h2⟩

/-! one value: specifications -/
noncomputable def nilS (T : Tb) (v : AV) : Option AV := match checkable v with
  | true => some v
  | false => match checkM T v with
    | true => some v
    | false => none
noncomputable def ldS (T : Tb) (H : Hp) (t : TypeId) (v : AV) : Option AV := match v with
  | .ptr b o => loadV T H t b o
  | _ => none
noncomputable def extS (v : AV) (i : Nat) : Option AV := match v with
  | .tup vs => vs[i]?
  | _ => none
noncomputable def lenS (T : Tb) (H : Hp) (t : TypeId) (v : AV) : Option AV := match lenV T H t v with
  | some n => some (.int .i64 (.ofNat n))
  | none => match lenCV T H t v with
    | some n => some (.int .i64 (.ofNat n))
    | none => none
noncomputable def mkiS (T : Tb) (t : TypeId) (v : AV) : Option AV := match T.ty t with
  | some i => match noIface i.und with
    | true => some (.ifc t v)
    | false => none
  | none => none
inductive U where
  | mv
  | nilc
  | ld1 (t : TypeId)
  | ldn (t : TypeId) (n : Nat)
  | lds (t : TypeId)
  | fld (t : TypeId) (n off : Nat)
  | flds (t : TypeId) (n : Nat)
  | ext (i : Nat)
  | unot
  | un (op : UnOp)
  | lenl (t : TypeId)
  | lent (t : TypeId)
  | lens (t : TypeId)
  | cvt (s d : TypeId) (k : IntKind)
  | cvts (s d : TypeId)
  | fo (t : TypeId) (n : Nat)
  | mki (t : TypeId)
  | asr (a : TypeId) (ok : Bool)
noncomputable def specU (T : Tb) (u : U) (v : AV) (H : Hp) : Option AV := match u with
  | .mv => some v
  | .nilc => nilS T v
  | .ld1 t => ldS T H t v
  | .ldn t _ => ldS T H t v
  | .lds t => ldS T H t v
  | .fld t n _ => fieldV T t v n
  | .flds t n => fieldV T t v n
  | .ext i => extS v i
  | .unot => unV .not v
  | .un op => unV op v
  | .lenl t => lenS T H t v
  | .lent t => lenS T H t v
  | .lens t => lenS T H t v
  | .cvt s d _ => convV T s d v
  | .cvts s d => convV T s d v
  | .fo t n => fieldOfV T t v n
  | .mki t => mkiS T t v
  | .asr a ok => assertV T a ok v
def UOk (T : Tb) : U → Prop
  | .ld1 t => ∃ i, T.ty t = some i ∧ i.agg = false
  | .ldn t n => ∃ i, T.ty t = some i ∧ i.agg = true ∧ i.size = n ∧ 0 < n
  | .fld t n off => ∀ b o, fieldV T t (.ptr b o) n = some (.ptr b (o + off))
  | .lenl t => ∃ e s b z g, T.ty t = some ⟨.slice e, s, b, z, g⟩
  | .lent t => ∃ s b z g, T.ty t = some ⟨.string, s, b, z, g⟩
  | .cvt s d k => (∃ i, T.ty s = some i) ∧ ∃ j, T.ty d = some j ∧ j.und = .int k
  | _ => True
abbrev UF := AV → Hp → (AV → Rs) → Rs
noncomputable def uMv : UF := fun v _ q => q v
noncomputable def uNilc (T : Tb) : UF := fun v _ q => asChk v (fun _ => q v) (wv (nilS T v) q)
noncomputable def uLd1 (T : Tb) (t : TypeId) : UF := fun v H q => asPtr v (fun b o => cellsQ (Hp.get H b) (fun _ cs _ => wvz (nthQ cs o) q (wv (ldS T H t v) q)) (wv (ldS T H t v) q)) (wv (ldS T H t v) q)
noncomputable def uLdn (T : Tb) (t : TypeId) (n : Nat) : UF := fun v H q => asPtr v (fun b o => cellsQ (Hp.get H b) (fun _ cs _ => tkQ n (dropQ o cs) (fun l => q (.agg l)) (wv (ldS T H t v) q)) (wv (ldS T H t v) q)) (wv (ldS T H t v) q)
noncomputable def uLds (T : Tb) (t : TypeId) : UF := fun v H q => wv (ldS T H t v) q
noncomputable def uFld (T : Tb) (t : TypeId) (n off : Nat) : UF := fun v _ q => asPtr v (fun b o => q (.ptr b (Nat.add o off))) (wv (fieldV T t v n) q)
noncomputable def uFlds (T : Tb) (t : TypeId) (n : Nat) : UF := fun v _ q => wv (fieldV T t v n) q
noncomputable def uExt (i : Nat) : UF := fun v _ q => asTup v (fun l => wv (nthQ l i) q) (wv (extS v i) q)
noncomputable def uNot : UF := fun v _ q => asBool v (fun b => bR b (q (.bool false)) (q (.bool true))) (wv (unV .not v) q)
noncomputable def uUn (op : UnOp) : UF := fun v _ q => wv (unV op v) q
noncomputable def uLenl (T : Tb) (t : TypeId) : UF := fun v H q => asLen v (fun n => q (.int .i64 (.ofNat n))) (wv (lenS T H t v) q)
noncomputable def uLent (T : Tb) (t : TypeId) : UF := fun v H q => asStr v (fun l => q (.int .i64 (.ofNat (lenQ l)))) (wv (lenS T H t v) q)
noncomputable def uLens (T : Tb) (t : TypeId) : UF := fun v H q => wv (lenS T H t v) q
noncomputable def uCvt (T : Tb) (s d : TypeId) (k : IntKind) : UF := fun v _ q => asNat v (fun _ a => wrapQ k a q (wv (convV T s d v) q)) (wv (convV T s d v) q)
noncomputable def uCvts (T : Tb) (s d : TypeId) : UF := fun v _ q => wv (convV T s d v) q
noncomputable def uFo (T : Tb) (t : TypeId) (n : Nat) : UF := fun v _ q => wv (fieldOfV T t v n) q
noncomputable def uMki (T : Tb) (t : TypeId) : UF := fun v _ q => wv (mkiS T t v) q
noncomputable def uAsr (T : Tb) (a : TypeId) (ok : Bool) : UF := fun v _ q => wv (assertV T a ok v) q
noncomputable def runU (T : Tb) (u : U) : UF := @U.rec (fun _ => UF) uMv (uNilc T) (uLd1 T) (uLdn T) (uLds T) (uFld T) (uFlds T) uExt uNot uUn (uLenl T) (uLent T) (uLens T) (uCvt T) (uCvts T) (uFo T) (uMki T) (uAsr T) u
structure UX where
  run : UF
noncomputable def uxOf (T : Tb) (u : U) : UX := match u with
  | .mv => ⟨uMv⟩
  | .nilc => ⟨uNilc T⟩
  | .ld1 t => ⟨uLd1 T t⟩
  | .ldn t n => ⟨uLdn T t n⟩
  | .lds t => ⟨uLds T t⟩
  | .fld t n off => ⟨uFld T t n off⟩
  | .flds t n => ⟨uFlds T t n⟩
  | .ext i => ⟨uExt i⟩
  | .unot => ⟨uNot⟩
  | .un op => ⟨uUn op⟩
  | .lenl t => ⟨uLenl T t⟩
  | .lent t => ⟨uLent T t⟩
  | .lens t => ⟨uLens T t⟩
  | .cvt s d k => ⟨uCvt T s d k⟩
  | .cvts s d => ⟨uCvts T s d⟩
  | .fo t n => ⟨uFo T t n⟩
  | .mki t => ⟨uMki T t⟩
  | .asr a ok => ⟨uAsr T a ok⟩
theorem uxOf_eq (T : Tb) (u : U) : (uxOf T u).run = runU T u := by cases u <;> rfl
theorem asChk_ok (u : AV) (q : Unit → Rs) (z : Rs) : asChk u q z = z ∨ checkable u = true ∧ asChk u q z = q () ∨ (∃ b o n d, u = .slo b o n d) ∧ asChk u q z = q () := by
  cases u <;> first | exact .inl rfl | exact .inr (.inl ⟨rfl, rfl⟩) | exact .inr (.inr ⟨⟨_, _, _, _, rfl⟩, rfl⟩)
theorem runU_eq {u : U} (h : UOk T u) (v : AV) (H : Hp) (q : AV → Rs) : runU T u v H q = wv (specU T u v H) q := by
  cases u with
  | mv => rfl
  | nilc =>
    show uNilc T v H q = wv (nilS T v) q
    unfold uNilc
    rcases asChk_ok v (fun _ => q v) (wv (nilS T v) q) with h | ⟨h1, h⟩ | ⟨⟨b, o, n, d, rfl⟩, h⟩
    · exact h
    · rw [h]; unfold nilS; rw [h1]; rfl
    · rw [h]; rfl
  | ld1 t =>
    obtain ⟨i, h1, h2⟩ := h
    show uLd1 T t v H q = wv (ldS T H t v) q
    unfold uLd1
    rcases asPtr_ok v (fun b o => cellsQ (Hp.get H b) (fun _ cs _ => wvz (nthQ cs o) q (wv (ldS T H t v) q)) (wv (ldS T H t v) q)) (wv (ldS T H t v) q) with h | ⟨b, o, rfl, h⟩
    · exact h
    rw [h]
    rcases cellsQ_ok (Hp.get H b) (fun _ cs _ => wvz (nthQ cs o) q (wv (ldS T H t (.ptr b o)) q)) (wv (ldS T H t (.ptr b o)) q) with h | ⟨t', cs, p, hg, h⟩
    · exact h
    rw [h]
    rcases wvz_ok (nthQ cs o) q (wv (ldS T H t (.ptr b o)) q) with h | ⟨x, hx, h⟩
    · exact h
    rw [h]
    rw [nthQ_eq] at hx
    have hlt := (List.getElem?_eq_some_iff.1 hx).1
    have : ldS T H t (.ptr b o) = some x := by
      simp only [ldS, loadV, h1, h2, loadL, hg]
      rw [show Nat.ble (o + 1) cs.length = true from Nat.ble_eq_true_of_le hlt]
      simp only
      have e : (cs.drop o).take 1 = [x] := by
        obtain ⟨h3, h4⟩ := List.getElem?_eq_some_iff.1 hx
        rw [List.drop_eq_getElem_cons h3, h4]; rfl
      rw [e]
    rw [this]; rfl
  | ldn t n =>
    obtain ⟨i, h1, h2, h3, h0⟩ := h
    show uLdn T t n v H q = wv (ldS T H t v) q
    unfold uLdn
    rcases asPtr_ok v (fun b o => cellsQ (Hp.get H b) (fun _ cs _ => tkQ n (dropQ o cs) (fun l => q (.agg l)) (wv (ldS T H t v) q)) (wv (ldS T H t v) q)) (wv (ldS T H t v) q) with h | ⟨b, o, rfl, h⟩
    · exact h
    rw [h]
    rcases cellsQ_ok (Hp.get H b) (fun _ cs _ => tkQ n (dropQ o cs) (fun l => q (.agg l)) (wv (ldS T H t (.ptr b o)) q)) (wv (ldS T H t (.ptr b o)) q) with h | ⟨t', cs, p, hg, h⟩
    · exact h
    rw [h]
    rcases tkQ_ok n (dropQ o cs) (fun l => q (.agg l)) (wv (ldS T H t (.ptr b o)) q) with h | ⟨hx, h⟩
    · exact h
    rw [h]
    rw [dropQ_eq] at hx ⊢
    have hlen : n ≤ cs.length - o := by simpa using hx
    have : ldS T H t (.ptr b o) = some (.agg ((cs.drop o).take n)) := by
      simp only [ldS, loadV, h1, h2, loadL, hg, h3]
      rw [show Nat.ble (o + n) cs.length = true from Nat.ble_eq_true_of_le (by omega)]
    rw [this]; rfl
  | lds t => rfl
  | fld t n off =>
    show uFld T t n off v H q = wv (fieldV T t v n) q
    unfold uFld
    rcases asPtr_ok v (fun b o => q (.ptr b (Nat.add o off))) (wv (fieldV T t v n) q) with h2 | ⟨b, o, rfl, h2⟩
    · exact h2
    · rw [h2, h b o]; rfl
  | flds t n => rfl
  | ext i =>
    show uExt i v H q = wv (extS v i) q
    unfold uExt
    rcases asTup_ok v (fun l => wv (nthQ l i) q) (wv (extS v i) q) with h2 | ⟨l, rfl, h2⟩
    · exact h2
    · rw [h2, nthQ_eq]; rfl
  | unot =>
    show uNot v H q = wv (unV .not v) q
    unfold uNot
    rcases asBool_ok v (fun b => bR b (q (.bool false)) (q (.bool true))) (wv (unV .not v) q) with h2 | ⟨b, rfl, h2⟩
    · exact h2
    · rw [h2]; cases b <;> rfl
  | un op => rfl
  | lenl t =>
    obtain ⟨e, s, b, z, g, h1⟩ := h
    show uLenl T t v H q = wv (lenS T H t v) q
    unfold uLenl
    rcases asLen_ok v (fun n => q (.int .i64 (.ofNat n))) (wv (lenS T H t v) q) with h2 | ⟨n, hn, h2⟩
    · exact h2
    · rw [h2]; unfold lenS; rw [hn T H t e s b z g h1]; rfl
  | lent t =>
    obtain ⟨s, b, z, g, h1⟩ := h
    show uLent T t v H q = wv (lenS T H t v) q
    unfold uLent
    rcases asStr_ok v (fun l => q (.int .i64 (.ofNat (lenQ l)))) (wv (lenS T H t v) q) with h2 | ⟨l, rfl, h2⟩
    · exact h2
    · rw [h2, lenQ_eq]; simp only [lenS, lenV, h1]; rfl
  | lens t => rfl
  | cvt s d k =>
    obtain ⟨⟨i, h1⟩, j, h2, h3⟩ := h
    show uCvt T s d k v H q = wv (convV T s d v) q
    unfold uCvt
    rcases asNat_ok v (fun _ a => wrapQ k a q (wv (convV T s d v) q)) (wv (convV T s d v) q) with h4 | ⟨k', a, rfl, h4⟩
    · exact h4
    rw [h4]
    rcases wrapQ_ok k a q (wv (convV T s d (.int k' (.ofNat a))) q) with h5 | h5
    · exact h5
    · rw [h5]; simp only [convV, h1, h2, h3]; rfl
  | cvts s d => rfl
  | fo t n => rfl
  | mki t => rfl
  | asr a ok => rfl

/-! two values -/
noncomputable def binS (T : Tb) (op : BinOp) (t : TypeId) (x y : Operand) (u v : AV) : Option AV := match binV T op t u v with
  | some r => some r
  | none => ifaceV T op t x y u v
noncomputable def ixS (T : Tb) (t : TypeId) (u v : AV) : Option AV := match natV v with
  | some n => indexAtV T t u n
  | none => none
noncomputable def idxS (T : Tb) (t : TypeId) (u v : AV) : Option AV := match natV v with
  | some n => indexV T t u n
  | none => none
inductive Bn where
  | bin (op : BinOp) (t : TypeId) (x y : Operand)
  | ix (t : TypeId) (sz : Nat)
  | ixs (t : TypeId)
  | idt (t : TypeId)
  | idx (t : TypeId)
  | lk (t : TypeId) (ok : Bool)
noncomputable def specB (T : Tb) (k : Bn) (u v : AV) (H : Hp) : Option AV := match k with
  | .bin op t x y => binS T op t x y u v
  | .ix t _ => ixS T t u v
  | .ixs t => ixS T t u v
  | .idt t => idxS T t u v
  | .idx t => idxS T t u v
  | .lk t ok => lookupV T H t u v ok
def BnOk (T : Tb) : Bn → Prop
  | .ix t sz => ∃ e s b z g i, T.ty t = some ⟨.slice e, s, b, z, g⟩ ∧ T.ty e = some i ∧ i.size = sz
  | .idt t => ∃ s b z g, T.ty t = some ⟨.string, s, b, z, g⟩
  | _ => True
abbrev BF := AV → AV → Hp → (AV → Rs) → Rs
noncomputable def bBin (T : Tb) (op : BinOp) (t : TypeId) (x y : Operand) : BF := fun u v _ q => fBin op u v q (wv (binS T op t x y u v) q)
noncomputable def bIx (T : Tb) (t : TypeId) (sz : Nat) : BF := fun u v _ q => asSl u (fun b o m => asNat v (fun _ n => bR (Nat.ble (Nat.succ n) m) (q (.ptr b (Nat.add o (Nat.mul n sz)))) (wv (ixS T t u v) q)) (wv (ixS T t u v) q)) (wv (ixS T t u v) q)
noncomputable def bIxs (T : Tb) (t : TypeId) : BF := fun u v _ q => wv (ixS T t u v) q
noncomputable def bIdt (T : Tb) (t : TypeId) : BF := fun u v _ q => asStr u (fun l => asNat v (fun _ n => wvz (nthQ l n) (fun c => q (.int .u8 (.ofNat c))) (wv (idxS T t u v) q)) (wv (idxS T t u v) q)) (wv (idxS T t u v) q)
noncomputable def bIdx (T : Tb) (t : TypeId) : BF := fun u v _ q => wv (idxS T t u v) q
noncomputable def bLk (T : Tb) (t : TypeId) (ok : Bool) : BF := fun u v H q => wv (lookupV T H t u v ok) q
noncomputable def runB (T : Tb) (k : Bn) : BF := @Bn.rec (fun _ => BF) (bBin T) (bIx T) (bIxs T) (bIdt T) (bIdx T) (bLk T) k
structure BX where
  run : BF
structure FX where
  f : FB
noncomputable def fxOf (op : BinOp) : FX := match op with
  | .add => ⟨fAdd⟩
  | .sub => ⟨fSub⟩
  | .mul => ⟨fMul⟩
  | .quo => ⟨fQuo⟩
  | .rem => ⟨fRem⟩
  | .and => ⟨fAnd⟩
  | .or => ⟨fOr⟩
  | .xor => ⟨fXor⟩
  | .shl => ⟨fShl⟩
  | .shr => ⟨fShr⟩
  | .andNot => ⟨fNo⟩
  | .eql => ⟨fEql⟩
  | .neq => ⟨fNeq⟩
  | .lss => ⟨fLss⟩
  | .leq => ⟨fLeq⟩
  | .gtr => ⟨fGtr⟩
  | .geq => ⟨fGeq⟩
theorem fxOf_eq (op : BinOp) : (fxOf op).f = fBin op := by cases op <;> rfl
noncomputable def bxOf (T : Tb) (k : Bn) : BX := match k with
  | .bin op t x y => ⟨bBin T op t x y⟩
  | .ix t sz => ⟨bIx T t sz⟩
  | .ixs t => ⟨bIxs T t⟩
  | .idt t => ⟨bIdt T t⟩
  | .idx t => ⟨bIdx T t⟩
  | .lk t ok => ⟨bLk T t ok⟩
theorem bxOf_eq (T : Tb) (k : Bn) : (bxOf T k).run = runB T k := by cases k <;> rfl
theorem runB_eq {k : Bn} (h : BnOk T k) (u v : AV) (H : Hp) (q : AV → Rs) : runB T k u v H q = wv (specB T k u v H) q := by
  cases k with
  | bin op t x y =>
    show fBin op u v q (wv (binS T op t x y u v) q) = wv (binS T op t x y u v) q
    rcases fBin_ok (T := T) op t u v q (wv (binS T op t x y u v) q) with h2 | ⟨r, h1, h2⟩
    · exact h2
    · rw [h2]; unfold binS; rw [h1]; rfl
  | ix t sz =>
    obtain ⟨e, s, b0, z, g, i, h1, h2, h3⟩ := h
    show bIx T t sz u v H q = wv (ixS T t u v) q
    unfold bIx
    rcases asSl_ok u (fun b o m => asNat v (fun _ n => bR (Nat.ble (Nat.succ n) m) (q (.ptr b (Nat.add o (Nat.mul n sz)))) (wv (ixS T t u v) q)) (wv (ixS T t u v) q)) (wv (ixS T t u v) q) with h4 | ⟨b, o, m, c, hu, h4⟩
    · exact h4
    rw [h4]
    rcases asNat_ok v (fun _ n => bR (Nat.ble (Nat.succ n) m) (q (.ptr b (Nat.add o (Nat.mul n sz)))) (wv (ixS T t u v) q)) (wv (ixS T t u v) q) with h5 | ⟨k', n, rfl, h5⟩
    · exact h5
    rw [h5]
    cases hb : Nat.ble (Nat.succ n) m with
    | false => rfl
    | true =>
      rw [bR_t]
      have hb' : Nat.blt n m = true := hb
      have : ixS T t u (.int k' (.ofNat n)) = some (.ptr b (o + n * sz)) := by
        rcases hu with rfl | rfl <;> simp only [ixS, natV, indexAtV, h1, h2, hb', h3]
      rw [this]; rfl
  | ixs t => rfl
  | idt t =>
    obtain ⟨s, b, z, g, h1⟩ := h
    show bIdt T t u v H q = wv (idxS T t u v) q
    unfold bIdt
    rcases asStr_ok u (fun l => asNat v (fun _ n => wvz (nthQ l n) (fun c => q (.int .u8 (.ofNat c))) (wv (idxS T t u v) q)) (wv (idxS T t u v) q)) (wv (idxS T t u v) q) with h2 | ⟨l, rfl, h2⟩
    · exact h2
    rw [h2]
    rcases asNat_ok v (fun _ n => wvz (nthQ l n) (fun c => q (.int .u8 (.ofNat c))) (wv (idxS T t (.str l) v) q)) (wv (idxS T t (.str l) v) q) with h5 | ⟨k', n, rfl, h5⟩
    · exact h5
    rw [h5]
    rcases wvz_ok (nthQ l n) (fun c => q (.int .u8 (.ofNat c))) (wv (idxS T t (.str l) (.int k' (.ofNat n))) q) with h6 | ⟨c, hc, h6⟩
    · exact h6
    rw [h6]
    rw [nthQ_eq] at hc
    simp only [idxS, natV, indexV, h1, hc]; rfl
  | idx t => rfl
  | lk t ok => rfl
end Go.Proofs.YtcfmohjffnpfpaaGreatDoor.Ev
