/-
  A FASTER RECKONER, FOURTH PART: operations as instructions; regions. No program in sight; no condition.
-/
import Derived.Test.YtcfmohjffnpfpaaGreatDoorEvF3
namespace Go.Proofs.YtcfmohjffnpfpaaGreatDoor.Ev
open Go Go.RowKit

variable {P : Program} {T : Tb} {H : Hp} {N : Nat}
/-! any number of values -/
inductive An where
  | build (t : TypeId) (is : List Nat)
  | bsl (t : TypeId) (n : Nat) (is : List Nat)
  | app (t t2 : TypeId)
  | st (t : TypeId)
  | mkf (fn : Fn) (na : Nat)
noncomputable def stS (T : Tb) (H : Hp) (t : TypeId) (a v : AV) : Option (AV × Hp) := match a with
  | .ptr b o => match storeV T H T.lo t b o v with
    | some H' => some (.tup [], H')
    | none => none
  | _ => none
noncomputable def specA (T : Tb) (k : An) (vs : List AV) (H : Hp) : Option (AV × Hp) := match k with
  | .build t is => keep H (buildV T t (is.zip vs))
  | .bsl t n is => buildSliceV T H t n (is.zip vs)
  | .app t t2 => match vs with
    | [s, x] => appendW T H T.lo t t2 s x
    | _ => none
  | .st t => match vs with
    | [a, v] => stS T H t a v
    | _ => none
  | .mkf fn na => some (.fn fn (vs.take na) (vs.drop na), H)
inductive Ins where
  | u (k : U) (x : Od)
  | b (k : Bn) (x y : Od)
  | st1 (t : TypeId) (x y : Od)
  | box (t : TypeId) (x : Od)
  | al (t : TypeId) (cs : List AV)
  | a (k : An) (xs : List Od)
  | pick (c x y : Od)
  | call (g : FuncId) (xs : List Od)
  | slow (op : Op)
  | slowo (op : Op)
noncomputable def evL (xs : List Od) : Fr → (List AV → Rs) → Rs := @List.rec Od (fun _ => Fr → (List AV → Rs) → Rs) (fun _ q => q []) (fun x _ ih F q => rdO x F (fun v => ih F (fun vs => q (v :: vs)))) xs
/-- One operation as opsV takes it. -/
noncomputable def stepV (T : Tb) (call : CallF) (f : Tr AV) (H : Hp) (op : Op) : Option (AV × Hp) := match opV T call f H op with
  | some r => some r
  | none => match commV T f H op with
    | some r => some r
    | none => yopV T call f H op
abbrev XF := CallF → Fr → Hp → (AV → Hp → Rs) → Rs
noncomputable def xU (T : Tb) (k : U) (x : Od) : XF := fun _ F H q => rdO x F (fun v => runU T k v H (fun r => q r H))
noncomputable def xB (T : Tb) (k : Bn) (x y : Od) : XF := fun _ F H q => rdO x F (fun u => rdO y F (fun v => runB T k u v H (fun r => q r H)))
noncomputable def st1Q (T : Tb) (t : TypeId) (a v : AV) (H : Hp) (q : AV → Hp → Rs) : Rs :=
  asPtr a (fun b o => cellsQ (Hp.get H b) (fun t' cs p => asOne v (fun _ => bR (Nat.ble (Tb.lo T) b) (wvz (nthQ cs o) (fun _ => q (.tup []) (Hp.put H b (.cells t' (setQ v o cs) p))) (wp (stS T H t a v) q)) (wp (stS T H t a v) q)) (wp (stS T H t a v) q)) (wp (stS T H t a v) q)) (wp (stS T H t a v) q)
noncomputable def xSt (T : Tb) (t : TypeId) (x y : Od) : XF := fun _ F H q => rdO x F (fun a => rdO y F (fun v => st1Q T t a v H q))
noncomputable def xBox (t : TypeId) (x : Od) : XF := fun _ F H q => rdO x F (fun v => asCells v (fun cs => q (.ptr (Hp.nx H) 0) (Hp.new H (.cells t cs false))) (wp (boxV H t v) q))
noncomputable def xAl (t : TypeId) (cs : List AV) : XF := fun _ _ H q => q (.ptr (Hp.nx H) 0) (Hp.new H (.cells t cs false))
noncomputable def xA (T : Tb) (k : An) (xs : List Od) : XF := fun _ F H q => evL xs F (fun vs => wp (specA T k vs H) q)
noncomputable def xPick (c x y : Od) : XF := fun _ F H q => rdO c F (fun v => asBool v (fun b => bR b (rdO x F (fun r => q r H)) (rdO y F (fun r => q r H))) .bad)
noncomputable def xCall (g : FuncId) (xs : List Od) : XF := fun call F H q => evL xs F (fun vs => wp (call g vs H) q)
noncomputable def xSlow (T : Tb) (op : Op) : XF := fun call F H q => wp (stepV T call (trF F) H op) q
noncomputable def xSlowo (T : Tb) (op : Op) : XF := fun call F H q => wp (opV T call (trF F) H op) q
noncomputable def exec (T : Tb) (i : Ins) : XF := @Ins.rec (fun _ => XF) (xU T) (xB T) (xSt T) xBox xAl (xA T) xPick xCall (xSlow T) (xSlowo T) i

/-! .. as functions -/
structure X where
  run : XF
noncomputable def yU (k : UX) (x : Od) : XF := fun _ F H q => rdO x F (fun v => UX.run k v H (fun r => q r H))
noncomputable def yB (k : BX) (x y : Od) : XF := fun _ F H q => rdO x F (fun u => rdO y F (fun v => BX.run k u v H (fun r => q r H)))
noncomputable def xOf (T : Tb) (i : Ins) : X := match i with
  | .u k x => ⟨yU (uxOf T k) x⟩
  | .b k x y => ⟨yB (bxOf T k) x y⟩
  | .st1 t x y => ⟨xSt T t x y⟩
  | .box t x => ⟨xBox t x⟩
  | .al t cs => ⟨xAl t cs⟩
  | .a k xs => ⟨xA T k xs⟩
  | .pick c x y => ⟨xPick c x y⟩
  | .call g xs => ⟨xCall g xs⟩
  | .slow op => ⟨xSlow T op⟩
  | .slowo op => ⟨xSlowo T op⟩
theorem xOf_eq (T : Tb) (i : Ins) : (xOf T i).run = exec T i := by
  cases i with
  | u k x => show yU (uxOf T k) x = xU T k x; unfold yU xU; rw [uxOf_eq]
  | b k x y => show yB (bxOf T k) x y = xB T k x y; unfold yB xB; rw [bxOf_eq]
  | _ => rfl
/-! operations as instructions -/
noncomputable def lenI (T : Tb) (t : TypeId) : U := match T.ty t with
  | some ⟨.slice _, _, _, _, _⟩ => .lenl t
  | some ⟨.string, _, _, _, _⟩ => .lent t
  | _ => .lens t
noncomputable def ldI (T : Tb) (t : TypeId) : U := match T.ty t with
  | some i => match i.agg, Nat.blt 0 i.size with
    | false, _ => .ld1 t
    | true, true => .ldn t i.size
    | true, false => .lds t
  | none => .lds t
noncomputable def fldI (T : Tb) (t : TypeId) (n : Nat) : U := match fieldV T t (.ptr 0 0) n with
  | some (.ptr 0 off) => .fld t n off
  | _ => .flds t n
noncomputable def cvtI (T : Tb) (s d : TypeId) : Option U := match T.ty s, T.ty d with
  | some _, some j => match j.und with
    | .int k => some (.cvt s d k)
    | _ => none
  | _, _ => none
noncomputable def ixI (T : Tb) (t : TypeId) : Bn := match T.ty t with
  | some ⟨.slice e, _, _, _, _⟩ => match T.ty e with
    | some i => .ix t i.size
    | none => .ixs t
  | _ => .ixs t
noncomputable def idxI (T : Tb) (t : TypeId) : Bn := match T.ty t with
  | some ⟨.string, _, _, _, _⟩ => .idt t
  | _ => .idx t
noncomputable def unI (op : UnOp) : U := match op with
  | .not => .unot
  | op => .un op
noncomputable def odsOf (xs : List Operand) : List Od := xs.map odOf
noncomputable def insOf (T : Tb) (op : Op) : Ins := match op with
  | .move x => .u .mv (odOf x)
  | .assign x => .u .mv (odOf x)
  | .nilCheck x => .u .nilc (odOf x)
  | .load t x => .u (ldI T t) (odOf x)
  | .fieldAddr t x n => .u (fldI T t n) (odOf x)
  | .extract x i => .u (.ext i) (odOf x)
  | .unOp op _ x => .u (unI op) (odOf x)
  | .convert s d x => match cvtI T s d with
    | some k => .u k (odOf x)
    | none => .slow (.convert s d x)
  | .field t x n => .u (.fo t n) (odOf x)
  | .makeInterface t x => .u (.mki t) (odOf x)
  | .typeAssert x _ a ok => .u (.asr a ok) (odOf x)
  | .binOp op t x y _ => .b (.bin op t x y) (odOf x) (odOf y)
  | .indexAddr t x i => .b (ixI T t) (odOf x) (odOf i)
  | .index t x i => .b (idxI T t) (odOf x) (odOf i)
  | .lookup t x k ok => .b (.lk t ok) (odOf x) (odOf k)
  | .store t a x => match T.ty t with
    | some i => match Nat.beq i.size 1 with
      | true => .st1 t (odOf a) (odOf x)
      | false => .a (.st t) [odOf a, odOf x]
    | none => .slow (.store t a x)
  | .box e x => .box e (odOf x)
  | .alloc e => match T.ty e with
    | some i => match i.zero with
      | some z => .al e (avCells z)
      | none => .slow (.alloc e)
    | none => .slow (.alloc e)
  | .pick c a b => .pick (odOf c) (odOf a) (odOf b)
  | .build t parts => .a (.build t (parts.toList.map (·.1))) (odsOf (parts.toList.map (·.2)))
  | .buildSlice t n parts => .a (.bsl t n (parts.toList.map (·.1))) (odsOf (parts.toList.map (·.2)))
  | .makeFunc fn a c => .a (.mkf fn a.toList.length) (odsOf (a.toList ++ c.toList))
  | .call c => match c.callee with
    | .value (.func g) => .call g (odsOf c.args.toList)
    | .builtin .len => match c.argTypes[0]?, c.args.toList with
      | some t, [x] => .u (lenI T t) (odOf x)
      | _, _ => .slow (.call c)
    | .builtin .append => match c.argTypes[0]?, c.argTypes[1]?, c.args.toList with
      | some t, some t2, [s, x] => .a (.app t t2) [odOf s, odOf x]
      | _, _, _ => .slow (.call c)
    | _ => .slow (.call c)
  | op => .slow op
def XOk (T : Tb) (op : Op) (i : Ins) : Prop := ∀ call F H q, exec T i call F H q = .bad ∨ ∃ v H', stepV T call (trF F) H op = some (v, H') ∧ exec T i call F H q = q v H'
def XOkO (T : Tb) (op : Op) (i : Ins) : Prop := ∀ call F H q, exec T i call F H q = .bad ∨ ∃ v H', opV T call (trF F) H op = some (v, H') ∧ exec T i call F H q = q v H'
def XOr (T : Tb) (op : Op) (i : Ins) : Prop := XOkO T op i ∨ i = .slow op
theorem XOkO.to {op : Op} {i : Ins} (h : XOkO T op i) : XOk T op i := fun call F H q => by
  rcases h call F H q with h | ⟨v, H', h1, h2⟩
  · exact .inl h
  · exact .inr ⟨v, H', by rw [stepV, h1], h2⟩
theorem evL_ok {F : Fr} : ∀ (xs : List Operand) (q : List AV → Rs), evL (odsOf xs) F q = .bad ∨ ∃ vs, evalOs (trF F) xs = some vs ∧ evL (odsOf xs) F q = q vs
  | [], q => .inr ⟨[], rfl, rfl⟩
  | x :: r, q => by
    show rdO (odOf x) F (fun v => evL (odsOf r) F (fun vs => q (v :: vs))) = .bad ∨ ∃ vs, evalOs (trF F) (x :: r) = some vs ∧ rdO (odOf x) F (fun v => evL (odsOf r) F (fun vs => q (v :: vs))) = q vs
    rw [rdO_eq]
    rcases wv_ok (getO (odOf x) F) (fun v => evL (odsOf r) F (fun vs => q (v :: vs))) with h | ⟨v, hv, h⟩
    · exact .inl h
    rw [h]
    rcases evL_ok r (fun vs => q (v :: vs)) with h1 | ⟨vs, h1, h2⟩
    · exact .inl h1
    · exact .inr ⟨v :: vs, by rw [evalOs, getO_ok hv, h1], h2⟩
theorem evalP_zip {f : Tr AV} : ∀ (ps : List (Nat × Operand)) (vs : List AV), evalOs f (ps.map (·.2)) = some vs → evalP f ps = some ((ps.map (·.1)).zip vs)
  | [], vs, h => by cases h; rfl
  | (i, x) :: r, vs, h => by
    rw [List.map_cons, evalOs] at h
    split at h
    · cases h
    rename_i v hv
    split at h
    · cases h
    rename_i l hl
    cases h
    have hv : evalO f x = some v := hv
    rw [evalP, hv, evalP_zip r l hl]; rfl
theorem evalOs_append {f : Tr AV} : ∀ (xs ys : List Operand) (vs : List AV), evalOs f (xs ++ ys) = some vs → evalOs f xs = some (vs.take xs.length) ∧ evalOs f ys = some (vs.drop xs.length)
  | [], ys, vs, h => ⟨by simp [evalOs], by simpa using h⟩
  | x :: r, ys, vs, h => by
    rw [List.cons_append, evalOs] at h
    split at h
    · cases h
    rename_i v hv
    split at h
    · cases h
    rename_i l hl
    cases h
    obtain ⟨h1, h2⟩ := evalOs_append r ys l hl
    exact ⟨by rw [evalOs, hv, h1]; rfl, by simpa using h2⟩
theorem XOk.u {op : Op} {k : U} {x : Operand} (hk : UOk T k) (h : ∀ call f H v r, evalO f x = some v → specU T k v H = some r → opV T call f H op = some (r, H)) : XOkO T op (.u k (odOf x)) := fun call F H q => by
  show xU T k (odOf x) call F H q = .bad ∨ ∃ v H', _ ∧ xU T k (odOf x) call F H q = q v H'
  unfold xU
  simp only [rdO_eq]
  rcases wv_ok (getO (odOf x) F) (fun v => runU T k v H (fun r => q r H)) with h1 | ⟨v, hv, h1⟩
  · exact .inl h1
  rw [h1, runU_eq hk]
  rcases wv_ok (specU T k v H) (fun r => q r H) with h2 | ⟨r, hr, h2⟩
  · exact .inl h2
  · exact .inr ⟨r, H, h call (trF F) H v r (getO_ok hv) hr, h2⟩
theorem XOk.b {op : Op} {k : Bn} {x y : Operand} (hk : BnOk T k) (h : ∀ call f H u v r, evalO f x = some u → evalO f y = some v → specB T k u v H = some r → opV T call f H op = some (r, H)) : XOkO T op (.b k (odOf x) (odOf y)) := fun call F H q => by
  show xB T k (odOf x) (odOf y) call F H q = .bad ∨ ∃ v H', _ ∧ xB T k (odOf x) (odOf y) call F H q = q v H'
  unfold xB
  simp only [rdO_eq]
  rcases wv_ok (getO (odOf x) F) (fun u => wv (getO (odOf y) F) (fun v => runB T k u v H (fun r => q r H))) with h1 | ⟨u, hu, h1⟩
  · exact .inl h1
  rw [h1]
  rcases wv_ok (getO (odOf y) F) (fun v => runB T k u v H (fun r => q r H)) with h1 | ⟨v, hv, h1⟩
  · exact .inl h1
  rw [h1, runB_eq hk]
  rcases wv_ok (specB T k u v H) (fun r => q r H) with h2 | ⟨r, hr, h2⟩
  · exact .inl h2
  · exact .inr ⟨r, H, h call (trF F) H u v r (getO_ok hu) (getO_ok hv) hr, h2⟩
theorem XOk.a {op : Op} {k : An} {xs : List Operand} (h : ∀ call f H vs r, evalOs f xs = some vs → specA T k vs H = some r → opV T call f H op = some r) : XOkO T op (.a k (odsOf xs)) := fun call F H q => by
  show xA T k (odsOf xs) call F H q = .bad ∨ ∃ v H', _ ∧ xA T k (odsOf xs) call F H q = q v H'
  unfold xA
  rcases evL_ok (F := F) xs (fun vs => wp (specA T k vs H) q) with h1 | ⟨vs, hvs, h1⟩
  · exact .inl h1
  rw [h1]
  rcases wp_ok (specA T k vs H) q with h2 | ⟨v, H', hr, h2⟩
  · exact .inl h2
  · exact .inr ⟨v, H', h call (trF F) H vs _ hvs hr, h2⟩
theorem XOk.slow (op : Op) : XOk T op (.slow op) := fun call F H q => by
  show xSlow T op call F H q = .bad ∨ ∃ v H', _ ∧ xSlow T op call F H q = q v H'
  unfold xSlow
  rcases wp_ok (stepV T call (trF F) H op) q with h2 | ⟨v, H', hr, h2⟩
  · exact .inl h2
  · exact .inr ⟨v, H', hr, h2⟩
theorem ldI_ok (T : Tb) (t : TypeId) : UOk T (ldI T t) ∧ ∀ v H, specU T (ldI T t) v H = ldS T H t v := by
  unfold ldI
  split
  · rename_i i hi
    split
    · rename_i h1
      exact ⟨⟨i, hi, h1⟩, fun _ _ => rfl⟩
    · rename_i h1 h2
      exact ⟨⟨i, hi, h1, rfl, by simpa [Nat.blt_eq] using h2⟩, fun _ _ => rfl⟩
    · exact ⟨trivial, fun _ _ => rfl⟩
  · exact ⟨trivial, fun _ _ => rfl⟩
theorem lenI_ok (T : Tb) (t : TypeId) : UOk T (lenI T t) ∧ ∀ v H, specU T (lenI T t) v H = lenS T H t v := by
  unfold lenI
  split
  · rename_i h; exact ⟨⟨_, _, _, _, _, h⟩, fun _ _ => rfl⟩
  · rename_i h; exact ⟨⟨_, _, _, _, h⟩, fun _ _ => rfl⟩
  · exact ⟨trivial, fun _ _ => rfl⟩
theorem fieldV_at {t : TypeId} {n off : Nat} (h : fieldV T t (.ptr 0 0) n = some (.ptr 0 off)) (b o : Nat) : fieldV T t (.ptr b o) n = some (.ptr b (o + off)) := by
  unfold fieldV at h ⊢
  split at h
  · rename_i fs _ _ _ _ ht
    split at h
    · rename_i b0 o0 f hx hf
      cases hx
      simp only [hf]
      split at h
      · rename_i i hi
        split at h
        · rename_i h0
          cases h
          simp [hi, h0]
        · cases h
      · cases h
    · cases h
  · cases h
theorem fldI_ok (T : Tb) (t : TypeId) (n : Nat) : UOk T (fldI T t n) ∧ ∀ v H, specU T (fldI T t n) v H = fieldV T t v n := by
  unfold fldI
  split
  · rename_i off h; exact ⟨fieldV_at h, fun _ _ => rfl⟩
  · exact ⟨trivial, fun _ _ => rfl⟩
theorem cvtI_ok {T : Tb} {s d : TypeId} {k : U} (h : cvtI T s d = some k) : UOk T k ∧ ∀ v H, specU T k v H = convV T s d v := by
  unfold cvtI at h
  split at h
  · rename_i i j hi hj
    split at h
    · rename_i k0 hk
      cases h
      exact ⟨⟨⟨_, hi⟩, j, hj, hk⟩, fun _ _ => rfl⟩
    · cases h
  · cases h
theorem ixI_ok (T : Tb) (t : TypeId) : BnOk T (ixI T t) ∧ ∀ u v H, specB T (ixI T t) u v H = ixS T t u v := by
  unfold ixI
  split
  · rename_i h
    split
    · rename_i i hi; exact ⟨⟨_, _, _, _, _, i, h, hi, rfl⟩, fun _ _ _ => rfl⟩
    · exact ⟨trivial, fun _ _ _ => rfl⟩
  · exact ⟨trivial, fun _ _ _ => rfl⟩
theorem idxI_ok (T : Tb) (t : TypeId) : BnOk T (idxI T t) ∧ ∀ u v H, specB T (idxI T t) u v H = idxS T t u v := by
  unfold idxI
  split
  · rename_i h; exact ⟨⟨_, _, _, _, h⟩, fun _ _ _ => rfl⟩
  · exact ⟨trivial, fun _ _ _ => rfl⟩
theorem unI_ok (T : Tb) (op : UnOp) : UOk T (unI op) ∧ ∀ v H, specU T (unI op) v H = unV op v := by
  cases op <;> exact ⟨trivial, fun _ _ => rfl⟩
theorem st1Q_ok (T : Tb) (t : TypeId) (a v : AV) (H : Hp) (q : AV → Hp → Rs) (h1 : ∃ i, T.ty t = some i ∧ i.size = 1) : st1Q T t a v H q = wp (stS T H t a v) q := by
  obtain ⟨i, h1, h2⟩ := h1
  unfold st1Q
  rcases asPtr_ok a (fun b o => cellsQ (Hp.get H b) (fun t' cs p => asOne v (fun _ => bR (Nat.ble (Tb.lo T) b) (wvz (nthQ cs o) (fun _ => q (.tup []) (Hp.put H b (.cells t' (setQ v o cs) p))) (wp (stS T H t a v) q)) (wp (stS T H t a v) q)) (wp (stS T H t a v) q)) (wp (stS T H t a v) q)) (wp (stS T H t a v) q) with h | ⟨b, o, ha, h⟩
  · exact h
  rw [h]
  rcases cellsQ_ok (Hp.get H b) (fun t' cs p => asOne v (fun _ => bR (Nat.ble (Tb.lo T) b) (wvz (nthQ cs o) (fun _ => q (.tup []) (Hp.put H b (.cells t' (setQ v o cs) p))) (wp (stS T H t a v) q)) (wp (stS T H t a v) q)) (wp (stS T H t a v) q)) (wp (stS T H t a v) q) with h | ⟨t', cs, p, hg, h⟩
  · exact h
  rw [h]
  rcases asOne_ok v (fun _ => bR (Nat.ble (Tb.lo T) b) (wvz (nthQ cs o) (fun _ => q (.tup []) (Hp.put H b (.cells t' (setQ v o cs) p))) (wp (stS T H t a v) q)) (wp (stS T H t a v) q)) (wp (stS T H t a v) q) with h | ⟨⟨k1, k2, k3⟩, h⟩
  · exact h
  rw [h]
  cases hb : Nat.ble (Tb.lo T) b with
  | false => rfl
  | true =>
    rw [bR_t]
    rcases wvz_ok (nthQ cs o) (fun _ => q (.tup []) (Hp.put H b (.cells t' (setQ v o cs) p))) (wp (stS T H t a v) q) with h | ⟨x, hx, h⟩
    · exact h
    rw [h]
    rw [nthQ_eq] at hx
    have hlt := (List.getElem?_eq_some_iff.1 hx).1
    have : stS T H t a v = some (.tup [], H.put b (.cells t' (setQ v o cs) p)) := by
      subst ha
      simp only [stS, storeV, h1, k3, k2, List.length_cons, List.length_nil, h2, storeH, hb, hg, ones, k1]
      rw [show Nat.ble (o + (0 + 1)) cs.length = true from Nat.ble_eq_true_of_le hlt, setQ_eq v o cs hlt]
    rw [this]; rfl
theorem insOf_or (T : Tb) (op : Op) : XOr T op (insOf T op) := by
  unfold insOf
  split
  · exact .inl <| XOk.u trivial fun call f H v r h1 h2 => by cases h2; simp [opV, vop, pickO, h1]
  · exact .inl <| XOk.u trivial fun call f H v r h1 h2 => by cases h2; simp [opV, vop, pickO, h1]
  · exact .inl <| XOk.u trivial fun call f H v r h1 h2 => by
      have h2 : nilS T v = some r := h2
      unfold nilS at h2
      simp only [opV, vop, h1]
      split at h2
      · rename_i h3; cases h2; simp [h3]
      · rename_i h3
        split at h2
        · rename_i h4; cases h2; simp [h3, h4]
        · cases h2
  · rename_i t x
    obtain ⟨k1, k2⟩ := ldI_ok T t
    exact .inl <| XOk.u k1 fun call f H v r h1 h2 => by
      rw [k2] at h2
      simp only [opV, vop, h1]
      unfold ldS at h2
      split at h2
      · simp [keep, h2]
      · cases h2
  · rename_i t x n
    obtain ⟨k1, k2⟩ := fldI_ok T t n
    exact .inl <| XOk.u k1 fun call f H v r h1 h2 => by
      rw [k2] at h2
      simp [opV, vop, h1, keep, h2]
  · exact .inl <| XOk.u trivial fun call f H v r h1 h2 => by
      have h2 : extS v _ = some r := h2
      unfold extS at h2
      split at h2
      · simp [opV, vop, h1, h2]
      · cases h2
  · rename_i op _ x
    obtain ⟨k1, k2⟩ := unI_ok T op
    exact .inl <| XOk.u k1 fun call f H v r h1 h2 => by
      rw [k2] at h2
      simp [opV, vop, h1, keep, h2]
  · rename_i s d x
    split
    · rename_i k hk
      obtain ⟨k1, k2⟩ := cvtI_ok hk
      exact .inl <| XOk.u k1 fun call f H v r h1 h2 => by
        rw [k2] at h2
        simp [opV, vop, h1, h2]
    · exact .inr rfl
  · exact .inl <| XOk.u trivial fun call f H v r h1 h2 => by
      have h2 : fieldOfV T _ v _ = some r := h2
      simp [opV, vop, h1, keep, h2]
  · exact .inl <| XOk.u trivial fun call f H v r h1 h2 => by
      have h2 : mkiS T _ v = some r := h2
      unfold mkiS at h2
      split at h2
      · rename_i i hi
        split at h2
        · rename_i h3; cases h2; simp [opV, vop, h1, hi, h3]
        · cases h2
      · cases h2
  · exact .inl <| XOk.u trivial fun call f H v r h1 h2 => by
      have h2 : assertV T _ _ v = some r := h2
      simp [opV, vop, h1, keep, h2]
  · exact .inl <| XOk.b trivial fun call f H u v r h1 h2 h3 => by
      have h3 : binS T _ _ _ _ u v = some r := h3
      unfold binS at h3
      simp only [opV, vop, h1, h2]
      split at h3
      · rename_i h4; cases h3; simp [h4]
      · rename_i h4; simp [h4, h3, keep]
  · rename_i t x i
    obtain ⟨k1, k2⟩ := ixI_ok T t
    exact .inl <| XOk.b k1 fun call f H u v r h1 h2 h3 => by
      rw [k2] at h3
      unfold ixS at h3
      split at h3
      · rename_i n hn; simp [opV, vop, h1, h2, natO, hn, h3, keep]
      · cases h3
  · rename_i t x i
    obtain ⟨k1, k2⟩ := idxI_ok T t
    exact .inl <| XOk.b k1 fun call f H u v r h1 h2 h3 => by
      rw [k2] at h3
      unfold idxS at h3
      split at h3
      · rename_i n hn; simp [opV, vop, h1, h2, natO, hn, h3, keep]
      · cases h3
  · exact .inl <| XOk.b trivial fun call f H u v r h1 h2 h3 => by
      have h3 : lookupV T H _ u v _ = some r := h3
      simp [opV, vop, h1, h2, h3, keep]
  · rename_i t a x
    split
    · rename_i i hi
      split
      · rename_i h1
        have h1 := Nat.eq_of_beq_eq_true h1
        refine .inl fun call F H q => ?_
        show xSt T t (odOf a) (odOf x) call F H q = .bad ∨ ∃ v H', _ ∧ xSt T t (odOf a) (odOf x) call F H q = q v H'
        unfold xSt
        simp only [rdO_eq]
        rcases wv_ok (getO (odOf a) F) (fun a => wv (getO (odOf x) F) (fun v => st1Q T t a v H q)) with h2 | ⟨u, hu, h2⟩
        · exact .inl h2
        rw [h2]
        rcases wv_ok (getO (odOf x) F) (fun v => st1Q T t u v H q) with h2 | ⟨v, hv, h2⟩
        · exact .inl h2
        rw [h2, st1Q_ok T t u v H q ⟨i, hi, h1⟩]
        rcases wp_ok (stS T H t u v) q with h3 | ⟨r, H', hr, h3⟩
        · exact .inl h3
        · refine .inr ⟨r, H', ?_, h3⟩
          unfold stS at hr
          split at hr
          · rename_i b o
            simp only [opV, vop, getO_ok hu, getO_ok hv]
            split at hr
            · rename_i H1 hs; cases hr; simp [hs]
            · cases hr
          · cases hr
      · exact .inl <| XOk.a (xs := [a, x]) fun call f H vs r h1 h2 => by
          rw [evalOs] at h1
          split at h1
          · cases h1
          rename_i u hu
          split at h1
          · cases h1
          rename_i l hl
          cases h1
          rw [evalOs] at hl
          split at hl
          · cases hl
          rename_i v hv
          simp only [evalOs] at hl
          cases hl
          have h2 : stS T H t u v = some r := h2
          unfold stS at h2
          split at h2
          · simp only [opV, vop, hu, hv]
            split at h2
            · rename_i H1 hs; cases h2; simp [hs]
            · cases h2
          · cases h2
    · exact .inr rfl
  · rename_i e x
    refine .inl fun call F H q => ?_
    show xBox e (odOf x) call F H q = .bad ∨ ∃ v H', _ ∧ xBox e (odOf x) call F H q = q v H'
    unfold xBox
    simp only [rdO_eq]
    rcases wv_ok (getO (odOf x) F) (fun v => asCells v (fun cs => q (.ptr (Hp.nx H) 0) (Hp.new H (.cells e cs false))) (wp (boxV H e v) q)) with h2 | ⟨v, hv, h2⟩
    · exact .inl h2
    rw [h2]
    have key : asCells v (fun cs => q (.ptr (Hp.nx H) 0) (Hp.new H (.cells e cs false))) (wp (boxV H e v) q) = wp (boxV H e v) q := by
      rcases asCells_ok v (fun cs => q (.ptr (Hp.nx H) 0) (Hp.new H (.cells e cs false))) (wp (boxV H e v) q) with h3 | ⟨h3, h4⟩
      · exact h3
      · rw [h4]; unfold boxV; rw [h3]; rfl
    rw [key]
    rcases wp_ok (boxV H e v) q with h3 | ⟨r, H', hr, h3⟩
    · exact .inl h3
    · exact .inr ⟨r, H', by simp [opV, vop, getO_ok hv, hr], h3⟩
  · rename_i e
    split
    · rename_i i hi
      split
      · rename_i z hz
        refine .inl fun call F H q => ?_
        obtain ⟨_, _, _, z0, _⟩ := i
        have hz : z0 = some z := hz
        subst hz
        exact .inr ⟨.ptr H.nx 0, H.new (.cells e (avCells z) false), by simp [opV, vop, allocV, hi], rfl⟩
      · exact .inr rfl
    · exact .inr rfl
  · rename_i c a b
    refine .inl fun call F H q => ?_
    show xPick (odOf c) (odOf a) (odOf b) call F H q = .bad ∨ ∃ v H', _ ∧ xPick (odOf c) (odOf a) (odOf b) call F H q = q v H'
    unfold xPick
    simp only [rdO_eq]
    rcases wv_ok (getO (odOf c) F) (fun v => asBool v (fun b1 => bR b1 (wv (getO (odOf a) F) (fun r => q r H)) (wv (getO (odOf b) F) (fun r => q r H))) .bad) with h2 | ⟨v, hv, h2⟩
    · exact .inl h2
    rw [h2]
    rcases asBool_ok v (fun b1 => bR b1 (wv (getO (odOf a) F) (fun r => q r H)) (wv (getO (odOf b) F) (fun r => q r H))) .bad with h3 | ⟨b1, rfl, h3⟩
    · exact .inl h3
    rw [h3]
    cases b1 with
    | true =>
      rw [bR_t]
      rcases wv_ok (getO (odOf a) F) (fun r => q r H) with h4 | ⟨r, hr, h4⟩
      · exact .inl h4
      · exact .inr ⟨r, H, by simp [opV, vop, getO_ok hv, pickO, getO_ok hr], h4⟩
    | false =>
      rw [bR_f]
      rcases wv_ok (getO (odOf b) F) (fun r => q r H) with h4 | ⟨r, hr, h4⟩
      · exact .inl h4
      · exact .inr ⟨r, H, by simp [opV, vop, getO_ok hv, pickO, getO_ok hr], h4⟩
  · exact .inl <| XOk.a fun call f H vs r h1 h2 => by
      have h2 : keep H (buildV T _ (List.zip _ vs)) = some r := h2
      simp [opV, vop, evalP_zip _ _ h1, h2]
  · exact .inl <| XOk.a fun call f H vs r h1 h2 => by
      have h2 : buildSliceV T H _ _ (List.zip _ vs) = some r := h2
      simp [opV, vop, evalP_zip _ _ h1, h2]
  · exact .inl <| XOk.a fun call f H vs r h1 h2 => by
      obtain ⟨h3, h4⟩ := evalOs_append _ _ _ h1
      cases h2
      simp [opV, vop, h3, h4]
  · rename_i c
    split
    · rename_i _ g hc
      refine .inl fun call F H q => ?_
      show xCall g (odsOf c.args.toList) call F H q = .bad ∨ ∃ v H', _ ∧ xCall g (odsOf c.args.toList) call F H q = q v H'
      unfold xCall
      rcases evL_ok (F := F) c.args.toList (fun vs => wp (call g vs H) q) with h1 | ⟨vs, hvs, h1⟩
      · exact .inl h1
      rw [h1]
      rcases wp_ok (call g vs H) q with h2 | ⟨v, H', hr, h2⟩
      · exact .inl h2
      · refine .inr ⟨v, H', ?_, h2⟩
        simp only [opV, hc, evalO, hvs, List.nil_append, List.append_nil, hr]
    · rename_i hc
      split
      · rename_i _ _ t x ht hx
        obtain ⟨k1, k2⟩ := lenI_ok T t
        exact .inl <| XOk.u k1 fun call f H v r h1 h2 => by
          rw [k2] at h2
          unfold lenS at h2
          simp only [opV, hc, vop, hx, evalOs, h1, builtinV, ht]
          split at h2
          · rename_i h4; cases h2; simp [h4]
          · rename_i h4
            split at h2
            · rename_i h5; cases h2; simp [h4, h5]
            · cases h2
      · exact .inr rfl
    · rename_i hc
      split
      · rename_i _ _ _ t t2 s x ht ht2 hx
        have := XOk.a (T := T) (op := .call c) (k := .app t t2) (xs := [s, x]) fun call f H vs r h1 h2 => by
          rw [← hx] at h1
          have h2 : specA T (.app t t2) vs H = some r := h2
          rw [hx] at h1
          rw [evalOs] at h1
          split at h1
          · cases h1
          rename_i u hu
          split at h1
          · cases h1
          rename_i l hl
          cases h1
          rw [evalOs] at hl
          split at hl
          · cases hl
          rename_i v hv
          simp only [evalOs] at hl
          cases hl
          have h2 : appendW T H T.lo t t2 u v = some r := h2
          simp only [opV, hc, vop, hx, evalOs, hu, hv, builtinV, ht, ht2, h2]
        exact .inl this
      · exact .inr rfl
    · exact .inr rfl
  · exact .inr rfl
theorem insOf_ok (T : Tb) (op : Op) : XOk T op (insOf T op) := by
  rcases insOf_or T op with h | h
  · exact h.to
  · rw [h]; exact XOk.slow _
/-- .. where nothing but what opV takes will do. -/
noncomputable def insO (T : Tb) (op : Op) : Ins := match insOf T op with
  | .slow _ => .slowo op
  | i => i
theorem slowo_ok (op : Op) : XOkO T op (.slowo op) := fun call F H q => by
  show xSlowo T op call F H q = .bad ∨ ∃ v H', _ ∧ xSlowo T op call F H q = q v H'
  unfold xSlowo
  rcases wp_ok (opV T call (trF F) H op) q with h2 | ⟨v, H', hr, h2⟩
  · exact .inl h2
  · exact .inr ⟨v, H', hr, h2⟩
theorem insO_ok (T : Tb) (op : Op) : XOkO T op (insO T op) := by
  unfold insO
  have h := insOf_or T op
  split
  · exact slowo_ok _
  · rename_i i hne
    rcases h with h | h
    · exact h
    · exact absurd h (hne op)
end Go.Proofs.YtcfmohjffnpfpaaGreatDoor.Ev
