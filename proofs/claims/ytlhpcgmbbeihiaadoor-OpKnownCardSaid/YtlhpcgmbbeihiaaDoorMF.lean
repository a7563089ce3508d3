/-
  PLAIN: what the bytes of an operation say, and how an operation is written; no program in sight.
  THE PLAIN LAW OF OpBack: what is written is read as it was, and what is read was written so; no program in sight.
-/
import Derived.Test.YtlhpcgmbbeihiaaDoorDBase
namespace Go.Proofs.YtlhpcgmbbeihiaaDoor
open Go.RowKit

def WfEdit (e : Edit) : Prop := 0 ≤ e.kind ∧ e.kind ≤ 255 ∧ -9223372036854775808 ≤ e.n ∧ e.n ≤ 9223372036854775807
def U64 (n : Int) : Prop := 0 ≤ n ∧ n < 18446744073709551616
structure WfOp (o : Oper') : Prop where
  k0 : 0 ≤ o.kind
  k1 : o.kind ≤ 255
  doc : U64 o.doc
  epoch : U64 o.epoch
  version : U64 o.version
  dur : U64 o.dur
  edits : ∀ e ∈ o.edits, WfEdit e

theorem pow9 : (128 : Nat) ^ 9 = 9223372036854775808 := by decide
theorem vtake_lt : ∀ (l : List UInt8) (i n N k : Nat), vtake i n l = (N, k, 0) → n < 128 ^ i → i ≤ 9 → N < 18446744073709551616 := by
  intro l
  induction l with
  | nil => intro i n N k h; simp [vtake] at h
  | cons c l ih =>
    intro i n N k h hn hi
    have hc := c.toNat_lt
    rw [vtake] at h
    by_cases h1 : (i = 9 ∧ 1 < c.toNat) ∨ (c.toNat = 0 ∧ 0 < i)
    · rw [if_pos h1] at h; simp at h
    · rw [if_neg h1] at h
      by_cases h9 : i = 9
      · subst h9
        have hc1 : c.toNat ≤ 1 := by omega
        rw [if_pos (by omega)] at h
        simp only [Prod.mk.injEq, and_true] at h
        have : c.toNat * 128 ^ 9 ≤ 1 * 128 ^ 9 := Nat.mul_le_mul_right _ hc1
        rw [pow9] at hn this
        rw [pow9] at h
        omega
      · have hp : (128 : Nat) ^ (i + 1) ≤ 128 ^ 9 := Nat.pow_le_pow_right (by decide) (by omega)
        rw [pow9, Nat.pow_succ] at hp
        by_cases h2 : c.toNat < 128
        · rw [if_pos h2] at h
          simp only [Prod.mk.injEq, and_true] at h
          have : c.toNat * 128 ^ i ≤ 127 * 128 ^ i := Nat.mul_le_mul_right _ (by omega)
          omega
        · rw [if_neg h2] at h
          refine ih _ _ _ _ h ?_ (by omega)
          have : (c.toNat - 128) * 128 ^ i ≤ 127 * 128 ^ i := Nat.mul_le_mul_right _ (by omega)
          rw [Nat.pow_succ]
          omega

/-- A number at the head: the fault (0; 10, short; 11, long), the number, how many bytes. -/
def numF (l : List UInt8) : Int × Nat × Nat :=
  if (vtake 0 0 l).2.2 = 0 then (0, (vtake 0 0 l).1, (vtake 0 0 l).2.1) else if (vtake 0 0 l).2.2 = 1 then (10, 0, 0) else (11, 0, 0)
/-- A text at the head. -/
def textF (l : List UInt8) : Int × List UInt8 × Nat :=
  if (numF l).1 = 0 then (if l.length - (numF l).2.2 < (numF l).2.1 then (10, [], 0) else (0, (l.drop (numF l).2.2).take (numF l).2.1, (numF l).2.2 + (numF l).2.1)) else ((numF l).1, [], 0)
theorem numF_put (n : Nat) (hn : n < 18446744073709551616) (r : List UInt8) : numF (vput n ++ r) = (0, n, (vput n).length) := by
  have h := vtake_vput r n 0 0 (.inl rfl) (by simpa using hn)
  simp only [Nat.zero_add, Nat.pow_zero, Nat.mul_one] at h
  rw [numF, h]; rfl
theorem numF_ok {l : List UInt8} (h : (numF l).1 = 0) : (numF l).2.1 < 18446744073709551616 ∧ (numF l).2.2 = (vput (numF l).2.1).length ∧ l = vput (numF l).2.1 ++ l.drop (numF l).2.2 ∧ (numF l).2.2 ≤ l.length := by
  have h0 : (vtake 0 0 l).2.2 = 0 := by
    unfold numF at h
    split at h
    · assumption
    · split at h <;> simp at h
  have e : vtake 0 0 l = ((vtake 0 0 l).1, (vtake 0 0 l).2.1, 0) := (show ∀ q : Nat × Nat × Nat, q.2.2 = 0 → q = (q.1, q.2.1, 0) from by rintro ⟨a, b, c⟩ h; simp at h; subst h; rfl) _ h0
  have hq : numF l = (0, (vtake 0 0 l).1, (vtake 0 0 l).2.1) := by rw [numF, if_pos h0]
  obtain ⟨m, e1, e2, -, e4⟩ := vput_vtake _ _ _ _ _ e
  have hl := vtake_lt _ _ _ _ _ e (by simp) (by omega)
  simp only [Nat.zero_add, Nat.pow_zero, Nat.mul_one] at e1 e2
  rw [hq]
  dsimp only
  rw [e1] at hl ⊢
  rw [e2]
  refine ⟨hl, rfl, e4, ?_⟩
  have := congrArg List.length e4
  rw [List.length_append] at this; omega
theorem numF_bad {l : List UInt8} (h : (numF l).1 ≠ 0) : (numF l).2 = (0, 0) := by
  unfold numF at h ⊢
  split
  · rename_i h1; rw [if_pos h1] at h; simp at h
  · split <;> rfl
theorem textF_put (s : List UInt8) (hn : s.length < 18446744073709551616) (r : List UInt8) : textF (vtext s ++ r) = (0, s, (vtext s).length) := by
  have h := numF_put s.length hn (s ++ r)
  rw [vtext, List.append_assoc, textF, h]
  dsimp only
  rw [if_pos rfl, if_neg (by simp)]
  simp
theorem textF_ok {l : List UInt8} (h : (textF l).1 = 0) : (textF l).2.1.length < 18446744073709551616 ∧ (textF l).2.2 = (vtext (textF l).2.1).length ∧ l = vtext (textF l).2.1 ++ l.drop (textF l).2.2 ∧ (textF l).2.2 ≤ l.length := by
  by_cases h0 : (numF l).1 = 0
  · by_cases h1 : l.length - (numF l).2.2 < (numF l).2.1
    · rw [textF, if_pos h0, if_pos h1] at h; simp at h
    · obtain ⟨a1, a2, a3, a4⟩ := numF_ok h0
      have hq : textF l = (0, (l.drop (numF l).2.2).take (numF l).2.1, (numF l).2.2 + (numF l).2.1) := by rw [textF, if_pos h0, if_neg h1]
      have hlen : ((l.drop (numF l).2.2).take (numF l).2.1).length = (numF l).2.1 := by simp; omega
      rw [hq]
      dsimp only
      rw [vtext, hlen]
      refine ⟨a1, by rw [List.length_append, ← a2, hlen], ?_, by omega⟩
      rw [List.append_assoc, ← List.drop_drop, List.take_append_drop]; exact a3
  · rw [textF, if_neg h0] at h; exact absurd h h0
theorem textF_bad {l : List UInt8} (h : (textF l).1 ≠ 0) : (textF l).2 = ([], 0) := by
  unfold textF at h ⊢
  split
  · split
    · rfl
    · rename_i h1 h2; rw [if_pos h1, if_neg h2] at h; simp at h
  · rfl

/-- An edit at the head. -/
def Edit.zero : Edit := ⟨0, 0, []⟩
def editP (l : List UInt8) : Int × Edit × Nat :=
  if hd l = 2 then (if (textF (l.drop 1)).1 = 0 then (if (textF (l.drop 1)).2.1 = [] then (2, Edit.zero, 0) else (0, ⟨2, 0, (textF (l.drop 1)).2.1⟩, 1 + (textF (l.drop 1)).2.2)) else ((textF (l.drop 1)).1, Edit.zero, 0))
  else if hd l = 1 ∨ hd l = 3 then (if (numF (l.drop 1)).1 = 0 then (if (numF (l.drop 1)).2.1 = 0 ∨ 2147483647 < (numF (l.drop 1)).2.1 then (2, Edit.zero, 0) else (0, ⟨hd l, (numF (l.drop 1)).2.1, []⟩, 1 + (numF (l.drop 1)).2.2)) else ((numF (l.drop 1)).1, Edit.zero, 0))
  else (60, Edit.zero, 0)
/-- All edits, in at most so many rounds. -/
def editsP : Nat → List UInt8 → Int × List Edit
  | 0, _ => (0, [])
  | f + 1, l => if l = [] then (0, []) else if (editP l).1 = 0 then (if (editsP f (l.drop (editP l).2.2)).1 = 0 then (0, (editP l).2.1 :: (editsP f (l.drop (editP l).2.2)).2) else ((editsP f (l.drop (editP l).2.2)).1, [])) else ((editP l).1, [])
def editPut (x : Edit) : List UInt8 := UInt8.ofNat x.kind.toNat :: (if x.kind = 2 then vtext x.text else vput x.n.toNat)
def editsPut (l : List Edit) : List UInt8 := (l.map editPut).flatten

/-- A number, a text, of the bytes l: a state is the fault so far, and the place. -/
def numS (l : List UInt8) (s : Int × Nat) : Nat × Int × Nat := if s.1 = 0 then ((numF (l.drop s.2)).2.1, (numF (l.drop s.2)).1, s.2 + (numF (l.drop s.2)).2.2) else (0, s)
def textS (l : List UInt8) (s : Int × Nat) : List UInt8 × Int × Nat := if s.1 = 0 then ((textF (l.drop s.2)).2.1, (textF (l.drop s.2)).1, s.2 + (textF (l.drop s.2)).2.2) else ([], s)
/-- The parts of an operation's bytes: without its edits; these as bytes; the state. -/
def opS (l : List UInt8) : Oper' × List UInt8 × Int × Nat :=
  let d := numS l (0, 1)
  let n := textS l d.2
  let t := textS l n.2
  let x := textS l t.2
  let es := textS l x.2
  let p := numS l es.2
  let v := numS l p.2
  let u := numS l v.2
  (⟨hd l, d.1, n.1, t.1, x.1, [], p.1, v.1, u.1⟩, es.1, u.2)
def opEnd (l : List UInt8) (r : Oper' × List UInt8 × Int × Nat) : Int × Oper' :=
  if r.2.2.1 ≠ 0 then (r.2.2.1, Oper'.zero 0)
  else if r.2.2.2 < l.length then (2, Oper'.zero 0)
  else if (editsP r.2.1.length r.2.1).1 ≠ 0 then ((editsP r.2.1.length r.2.1).1, Oper'.zero 0)
  else if opRight { r.1 with edits := (editsP r.2.1.length r.2.1).2 } then (0, { r.1 with edits := (editsP r.2.1.length r.2.1).2 }) else (2, Oper'.zero 0)
def opP (l : List UInt8) : Int × Oper' := if l = [] then (10, Oper'.zero 0) else if hd l < 1 ∨ 17 < hd l then (60, Oper'.zero 0) else opEnd l (opS l)
def opTail (o : Oper') : List UInt8 := vput o.epoch.toNat ++ (vput o.version.toNat ++ vput o.dur.toNat)
def opBody (o : Oper') : List UInt8 := vput o.doc.toNat ++ (vtext o.name ++ (vtext o.to ++ (vtext o.text ++ (vtext (editsPut o.edits) ++ opTail o))))
def opPut (o : Oper') : List UInt8 := UInt8.ofNat o.kind.toNat :: opBody o
end Go.Proofs.YtlhpcgmbbeihiaaDoor
namespace Go.Proofs.YtlhpcgmbbeihiaaDoor
open Go.RowKit

theorem kind_byte {k : Int} (h0 : 0 ≤ k) (h1 : k ≤ 255) : ((UInt8.ofNat k.toNat).toNat : Int) = k := by rw [ofNat_toNat (by omega)]; omega
theorem editRight_cases {x : Edit} (h : editRight x = true) : ((x.kind = 1 ∨ x.kind = 3) ∧ 0 < x.n ∧ x.n ≤ 2147483647 ∧ x.text = []) ∨ (x.kind = 2 ∧ x.n = 0 ∧ x.text ≠ []) := by
  unfold editRight at h
  split at h
  · rename_i hk; simp at h; exact .inl ⟨hk, h.1.1, h.1.2, h.2⟩
  · split at h
    · rename_i hk; simp at h; exact .inr ⟨hk, h.1, h.2⟩
    · cases h
theorem editP_put {x : Edit} (h : editRight x = true) (hl : x.text.length < 18446744073709551616) (r : List UInt8) : editP (editPut x ++ r) = (0, x, (editPut x).length) := by
  obtain ⟨k, n, t⟩ := x
  rcases editRight_cases h with ⟨hk, h1, h2, h3⟩ | ⟨hk, h1, h2⟩
  · dsimp only at hk h1 h2 h3
    subst h3
    have hn : ((n.toNat : Nat) : Int) = n := by omega
    have hp := numF_put n.toNat (by omega) r
    have hk2 : ¬ k = 2 := by omega
    have hkk : ((UInt8.ofNat k.toNat).toNat : Int) = k := kind_byte (by omega) (by omega)
    have e : editPut ⟨k, n, []⟩ = UInt8.ofNat k.toNat :: vput n.toNat := by rw [editPut, if_neg hk2]
    rw [e, List.cons_append, editP, hd_cons, if_neg (by omega), if_pos (by omega), List.drop_succ_cons, List.drop_zero, hp]
    dsimp only
    rw [if_pos rfl, if_neg (by omega), hn, hkk, List.length_cons, Nat.add_comm]
  · dsimp only at hk h1 h2 hl
    subst hk; subst h1
    have hp := textF_put t hl r
    have e : editPut ⟨2, 0, t⟩ = 2 :: vtext t := by rw [editPut, if_pos rfl]; rfl
    rw [e, List.cons_append, editP, hd_cons, if_pos (by decide), List.drop_succ_cons, List.drop_zero, hp]
    dsimp only
    rw [if_pos rfl, if_neg h2, List.length_cons, Nat.add_comm]
theorem editP_ok {l : List UInt8} (hl : l ≠ []) (h : (editP l).1 = 0) : editRight (editP l).2.1 = true ∧ (editP l).2.2 = (editPut (editP l).2.1).length ∧ l = editPut (editP l).2.1 ++ l.drop (editP l).2.2 ∧ 1 ≤ (editP l).2.2 ∧ (editP l).2.2 ≤ l.length ∧ (editP l).2.1.text.length ≤ l.length ∧ 0 ≤ (editP l).2.1.kind ∧ (editP l).2.1.kind ≤ 3 ∧ 0 ≤ (editP l).2.1.n ∧ (editP l).2.1.n ≤ 2147483647 := by
  cases l with
  | nil => exact absurd rfl hl
  | cons c l =>
    have hc := c.toNat_lt
    unfold editP at h
    rw [hd_cons, List.drop_succ_cons, List.drop_zero] at h
    by_cases h2 : c.toNat = 2
    · rw [if_pos h2] at h
      by_cases h3 : (textF l).1 = 0
      · rw [if_pos h3] at h
        by_cases h4 : (textF l).2.1 = []
        · rw [if_pos h4] at h; simp at h
        · obtain ⟨a1, a2, a3, a4⟩ := textF_ok h3
          have e : editP (c :: l) = (0, ⟨2, 0, (textF l).2.1⟩, 1 + (textF l).2.2) := by
            unfold editP; rw [hd_cons, List.drop_succ_cons, List.drop_zero, if_pos h2, if_pos h3, if_neg h4]
          have ec : c = 2 := UInt8.toNat_inj.1 h2
          have ep : editPut ⟨2, 0, (textF l).2.1⟩ = 2 :: vtext (textF l).2.1 := by rw [editPut, if_pos rfl]; rfl
          have hlen : (vtext (textF l).2.1).length = (textF l).2.2 := a2.symm
          have htl : (textF l).2.1.length ≤ (vtext (textF l).2.1).length := by rw [vtext, List.length_append]; omega
          rw [e]
          dsimp only
          rw [ep]
          refine ⟨?_, by rw [List.length_cons, hlen]; omega, ?_, by omega, by rw [List.length_cons]; omega, by rw [List.length_cons]; omega, by decide, by decide, by decide, by decide⟩
          · unfold editRight
            dsimp only
            rw [if_neg (by decide), if_pos rfl]
            simp [h4]
          · rw [ec, Nat.add_comm, List.drop_succ_cons, List.cons_append, ← a3]
      · rw [if_neg h3] at h; exact absurd h h3
    · rw [if_neg h2] at h
      by_cases hk : c.toNat = 1 ∨ c.toNat = 3
      · rw [if_pos hk] at h
        by_cases h3 : (numF l).1 = 0
        · rw [if_pos h3] at h
          by_cases h4 : (numF l).2.1 = 0 ∨ 2147483647 < (numF l).2.1
          · rw [if_pos h4] at h; simp at h
          · obtain ⟨a1, a2, a3, a4⟩ := numF_ok h3
            have e : editP (c :: l) = (0, ⟨(c.toNat : Int), ((numF l).2.1 : Int), []⟩, 1 + (numF l).2.2) := by
              unfold editP; rw [hd_cons, List.drop_succ_cons, List.drop_zero, if_neg h2, if_pos hk, if_pos h3, if_neg h4]
            have ep : editPut ⟨(c.toNat : Int), ((numF l).2.1 : Int), []⟩ = c :: vput (numF l).2.1 := by
              rw [editPut]; dsimp only; rw [if_neg (by omega), Int.toNat_natCast, Int.toNat_natCast, UInt8.ofNat_toNat]
            rw [e]
            dsimp only
            rw [ep]
            refine ⟨?_, by rw [List.length_cons, ← a2]; omega, ?_, by omega, by rw [List.length_cons]; omega, by simp, by omega, by omega, by omega, by omega⟩
            · unfold editRight
              dsimp only
              rw [if_pos (by omega)]
              simp; omega
            · rw [Nat.add_comm, List.drop_succ_cons, List.cons_append, ← a3]
        · rw [if_neg h3] at h; exact absurd h h3
      · rw [if_neg hk] at h; simp at h
theorem editPut_pos (x : Edit) : 1 ≤ (editPut x).length := by simp [editPut]
theorem editsPut_len (l : List Edit) : l.length ≤ (editsPut l).length := by
  induction l with
  | nil => simp
  | cons x l ih => have := editPut_pos x; simp only [editsPut, List.map_cons, List.flatten_cons, List.length_append, List.length_cons] at ih ⊢; omega
theorem editPut_ne (x : Edit) (r : List UInt8) : ¬ editPut x ++ r = [] := by simp [editPut]
theorem editsP_put : ∀ (l : List Edit) (f : Nat), l.length ≤ f → deltaRight l = true → (∀ x ∈ l, x.text.length < 18446744073709551616) → editsP f (editsPut l) = (0, l) := by
  intro l
  induction l with
  | nil => intro f _ _ _; cases f <;> simp [editsPut, editsP]
  | cons x l ih =>
    intro f hf hr hw
    cases f with
    | zero => simp at hf
    | succ f =>
      rw [deltaRight, List.all_cons, Bool.and_eq_true] at hr
      have h1 := editP_put hr.1 (hw x (by simp)) (editsPut l)
      have h2 := ih f (by simpa using hf) hr.2 fun y hy => hw y (by simp [hy])
      have e : editsPut (x :: l) = editPut x ++ editsPut l := by simp [editsPut]
      rw [e, editsP, if_neg (editPut_ne _ _), h1]
      dsimp only
      rw [if_pos rfl, List.drop_left, h2, if_pos rfl]
theorem editsP_ok : ∀ (f : Nat) (l : List UInt8), l.length ≤ f → (editsP f l).1 = 0 → deltaRight (editsP f l).2 = true ∧ editsPut (editsP f l).2 = l ∧ ∀ x ∈ (editsP f l).2, x.text.length ≤ l.length ∧ WfEdit x := by
  intro f
  induction f with
  | zero => intro l hl _; have : l = [] := List.eq_nil_of_length_eq_zero (by omega); subst this; simp [editsP, deltaRight, editsPut]
  | succ f ih =>
    intro l hl h
    by_cases h0 : l = []
    · subst h0; simp [editsP, deltaRight, editsPut]
    · rw [editsP, if_neg h0] at h ⊢
      by_cases h1 : (editP l).1 = 0
      · rw [if_pos h1] at h ⊢
        obtain ⟨a1, a2, a3, a4, a5, a6, a7, a8, a9, a10⟩ := editP_ok h0 h1
        by_cases h2 : (editsP f (l.drop (editP l).2.2)).1 = 0
        · rw [if_pos h2] at h ⊢
          obtain ⟨b1, b2, b3⟩ := ih (l.drop (editP l).2.2) (by rw [List.length_drop]; omega) h2
          refine ⟨by rw [deltaRight, List.all_cons, a1]; exact b1, ?_, ?_⟩
          · have : editsPut ((editP l).2.1 :: (editsP f (l.drop (editP l).2.2)).2) = editPut (editP l).2.1 ++ editsPut (editsP f (l.drop (editP l).2.2)).2 := by simp [editsPut]
            dsimp only
            rw [this, b2, ← a3]
          · intro x hx
            rcases List.mem_cons.1 hx with rfl | hx
            · exact ⟨a6, a7, by omega, by omega, by omega⟩
            · have := b3 x hx
              rw [List.length_drop] at this
              exact ⟨by omega, this.2⟩
        · rw [if_neg h2] at h; exact absurd h h2
      · rw [if_neg h1] at h; exact absurd h h1

theorem numS_put {l : List UInt8} {a : Nat} {n : Nat} {r : List UInt8} (h : l.drop a = vput n ++ r) (hn : n < 18446744073709551616) : numS l (0, a) = (n, 0, a + (vput n).length) ∧ l.drop (a + (vput n).length) = r := by
  refine ⟨?_, ?_⟩
  · rw [numS, if_pos rfl]; dsimp only; rw [h, numF_put n hn r]
  · rw [← List.drop_drop, h, List.drop_left]
theorem textS_put {l : List UInt8} {a : Nat} {s : List UInt8} {r : List UInt8} (h : l.drop a = vtext s ++ r) (hn : s.length < 18446744073709551616) : textS l (0, a) = (s, 0, a + (vtext s).length) ∧ l.drop (a + (vtext s).length) = r := by
  refine ⟨?_, ?_⟩
  · rw [textS, if_pos rfl]; dsimp only; rw [h, textF_put s hn r]
  · rw [← List.drop_drop, h, List.drop_left]
theorem numS_bad (l : List UInt8) {s : Int × Nat} (h : s.1 ≠ 0) : numS l s = (0, s) := by rw [numS, if_neg h]
theorem textS_bad (l : List UInt8) {s : Int × Nat} (h : s.1 ≠ 0) : textS l s = ([], s) := by rw [textS, if_neg h]
/-- What a good state that comes of a state says. -/
theorem numS_ok {l : List UInt8} {s : Int × Nat} (h : (numS l s).2.1 = 0) : s.1 = 0 ∧ (numS l s).1 < 18446744073709551616 ∧ l.drop s.2 = vput (numS l s).1 ++ l.drop (numS l s).2.2 ∧ (s.2 ≤ l.length → (numS l s).2.2 ≤ l.length) := by
  by_cases h0 : s.1 = 0
  · have e : numS l s = ((numF (l.drop s.2)).2.1, (numF (l.drop s.2)).1, s.2 + (numF (l.drop s.2)).2.2) := by rw [numS, if_pos h0]
    rw [e] at h ⊢
    dsimp only at h ⊢
    obtain ⟨a1, a2, a3, a4⟩ := numF_ok h
    rw [List.length_drop] at a4
    exact ⟨h0, a1, by rw [List.drop_drop] at a3; exact a3, fun h => by omega⟩
  · rw [numS_bad l h0] at h; exact absurd h h0
theorem textS_ok {l : List UInt8} {s : Int × Nat} (h : (textS l s).2.1 = 0) : s.1 = 0 ∧ (textS l s).1.length < 18446744073709551616 ∧ l.drop s.2 = vtext (textS l s).1 ++ l.drop (textS l s).2.2 ∧ (s.2 ≤ l.length → (textS l s).2.2 ≤ l.length) := by
  by_cases h0 : s.1 = 0
  · have e : textS l s = ((textF (l.drop s.2)).2.1, (textF (l.drop s.2)).1, s.2 + (textF (l.drop s.2)).2.2) := by rw [textS, if_pos h0]
    rw [e] at h ⊢
    dsimp only at h ⊢
    obtain ⟨a1, a2, a3, a4⟩ := textF_ok h
    rw [List.length_drop] at a4
    exact ⟨h0, a1, by rw [List.drop_drop] at a3; exact a3, fun h => by omega⟩
  · rw [textS_bad l h0] at h; exact absurd h h0

theorem opRight_kind {o : Oper'} (h : opRight o = true) : 1 ≤ o.kind ∧ o.kind ≤ 17 ∧ deltaRight o.edits = true := by
  rw [opRight, Bool.and_eq_true, Bool.and_eq_true, Bool.and_eq_true] at h
  exact ⟨by simpa using h.1.1.1, by simpa using h.1.1.2, h.1.2⟩
theorem edits_texts {l : List Edit} (hr : deltaRight l = true) (h : (editsPut l).length < 18446744073709551616) : ∀ x ∈ l, x.text.length < 18446744073709551616 := by
  induction l with
  | nil => simp
  | cons y l ih =>
    have e : editsPut (y :: l) = editPut y ++ editsPut l := by simp [editsPut]
    rw [e, List.length_append] at h
    rw [deltaRight, List.all_cons, Bool.and_eq_true] at hr
    intro x hx
    rcases List.mem_cons.1 hx with rfl | hx
    · by_cases hk : x.kind = 2
      · have : x.text.length ≤ (editPut x).length := by rw [editPut, if_pos hk, vtext, List.length_cons, List.length_append]; omega
        omega
      · rcases editRight_cases hr.1 with ⟨-, -, -, h4⟩ | ⟨h4, -, -⟩
        · rw [h4]; simp
        · exact absurd h4 hk
    · exact ih hr.2 (by omega) x hx

theorem opP_put {o : Oper'} (hr : opRight o = true) (hw : WfOp o) (h1 : o.name.length < 18446744073709551616) (h2 : o.to.length < 18446744073709551616) (h3 : o.text.length < 18446744073709551616) (h4 : (editsPut o.edits).length < 18446744073709551616) : opP (opPut o) = (0, o) := by
  obtain ⟨k1, k2, hd0⟩ := opRight_kind hr
  obtain ⟨kind, doc, name, to, text, edits, epoch, version, dur⟩ := o
  obtain ⟨w0, w1, ⟨d0, d1⟩, ⟨p0, p1⟩, ⟨v0, v1⟩, ⟨u0, u1⟩, we⟩ := hw
  dsimp only at *
  obtain ⟨l, hl⟩ : ∃ l, l = opPut ⟨kind, doc, name, to, text, edits, epoch, version, dur⟩ := ⟨_, rfl⟩
  have hk : (UInt8.ofNat kind.toNat).toNat = kind.toNat := ofNat_toNat (by omega)
  have hhd : hd l = kind.toNat := by rw [hl, opPut, hd_cons]; exact hk
  have hne : l ≠ [] := by rw [hl, opPut]; simp
  have e0 : l.drop 1 = vput doc.toNat ++ (vtext name ++ (vtext to ++ (vtext text ++ (vtext (editsPut edits) ++ (vput epoch.toNat ++ (vput version.toNat ++ vput dur.toNat)))))) := by rw [hl]; rfl
  obtain ⟨q1, e1⟩ := numS_put e0 (by omega)
  obtain ⟨q2, e2⟩ := textS_put e1 h1
  obtain ⟨q3, e3⟩ := textS_put e2 h2
  obtain ⟨q4, e4⟩ := textS_put e3 h3
  obtain ⟨q5, e5⟩ := textS_put e4 h4
  obtain ⟨q6, e6⟩ := numS_put e5 (by omega)
  obtain ⟨q7, e7⟩ := numS_put e6 (by omega)
  rw [← List.append_nil (vput dur.toNat)] at e7
  obtain ⟨q8, e8⟩ := numS_put e7 (by omega)
  have hS : opS l = (⟨kind, doc, name, to, text, [], epoch, version, dur⟩, editsPut edits, 0, 1 + (vput doc.toNat).length + (vtext name).length + (vtext to).length + (vtext text).length + (vtext (editsPut edits)).length + (vput epoch.toNat).length + (vput version.toNat).length + (vput dur.toNat).length) := by
    unfold opS
    dsimp only
    rw [q1]; dsimp only
    rw [q2]; dsimp only
    rw [q3]; dsimp only
    rw [q4]; dsimp only
    rw [q5]; dsimp only
    rw [q6]; dsimp only
    rw [q7]; dsimp only
    rw [q8]; dsimp only
    rw [hhd, Int.toNat_of_nonneg w0, Int.toNat_of_nonneg d0, Int.toNat_of_nonneg p0, Int.toNat_of_nonneg v0, Int.toNat_of_nonneg u0]
  have hlen : ¬ 1 + (vput doc.toNat).length + (vtext name).length + (vtext to).length + (vtext text).length + (vtext (editsPut edits)).length + (vput epoch.toNat).length + (vput version.toNat).length + (vput dur.toNat).length < l.length := by
    have := congrArg List.length e8
    rw [List.length_drop] at this
    simp at this; omega
  have hE := editsP_put edits (editsPut edits).length (editsPut_len edits) hd0 (edits_texts hd0 h4)
  rw [← hl, opP, if_neg hne, hhd, if_neg (by omega), hS, opEnd]
  dsimp only
  rw [if_neg (by simp), if_neg hlen, hE]
  dsimp only
  rw [if_neg (by simp), if_pos hr]

theorem opP_ok {l : List UInt8} (h : (opP l).1 = 0) : opRight (opP l).2 = true ∧ WfOp (opP l).2 ∧ opPut (opP l).2 = l := by
  by_cases hne : l = []
  · rw [opP, if_pos hne] at h; simp at h
  by_cases hk : hd l < 1 ∨ 17 < hd l
  · rw [opP, if_neg hne, if_pos hk] at h; simp at h
  have hP : opP l = opEnd l (opS l) := by rw [opP, if_neg hne, if_neg hk]
  rw [hP] at h ⊢
  obtain ⟨x, hx⟩ : ∃ x, x = opS l := ⟨_, rfl⟩
  rw [← hx] at h ⊢
  unfold opEnd at h ⊢
  by_cases c1 : x.2.2.1 = 0
  case neg => rw [if_pos c1] at h; exact absurd h c1
  rw [if_neg (by simpa using c1)] at h ⊢
  by_cases c2 : x.2.2.2 < l.length
  · rw [if_pos c2] at h; simp at h
  rw [if_neg c2] at h ⊢
  by_cases c3 : (editsP x.2.1.length x.2.1).1 = 0
  case neg => rw [if_pos c3] at h; exact absurd h c3
  rw [if_neg (by simpa using c3)] at h ⊢
  by_cases c4 : opRight { x.1 with edits := (editsP x.2.1.length x.2.1).2 } = true
  case neg => rw [if_neg c4] at h; simp at h
  rw [if_pos c4]
  obtain ⟨b1, b2, b3⟩ := editsP_ok _ _ (Nat.le_refl _) c3
  have hdl := hd_lt l
  subst hx
  unfold opS at c1 c2 c3 c4 b1 b2 b3 ⊢
  dsimp only at c1 c2 c3 c4 b1 b2 b3 ⊢
  obtain ⟨z8, n8, s8, l8⟩ := numS_ok c1
  obtain ⟨z7, n7, s7, l7⟩ := numS_ok z8
  obtain ⟨z6, n6, s6, l6⟩ := numS_ok z7
  obtain ⟨z5, n5, s5, l5⟩ := textS_ok z6
  obtain ⟨z4, n4, s4, l4⟩ := textS_ok z5
  obtain ⟨z3, n3, s3, l3⟩ := textS_ok z4
  obtain ⟨z2, n2, s2, l2⟩ := textS_ok z3
  obtain ⟨z1, n1, s1, l1⟩ := numS_ok z2
  dsimp only at s1 l1
  refine ⟨c4, ⟨by dsimp only; omega, by dsimp only; omega, ⟨by dsimp only; omega, by dsimp only; omega⟩, ⟨by dsimp only; omega, by dsimp only; omega⟩, ⟨by dsimp only; omega, by dsimp only; omega⟩, ⟨by dsimp only; omega, by dsimp only; omega⟩, fun e he => (b3 e he).2⟩, ?_⟩
  cases l with
  | nil => exact absurd rfl hne
  | cons c l =>
    unfold opPut opBody opTail
    dsimp only
    simp only [Int.toNat_natCast]
    rw [b2, hd_cons, UInt8.ofNat_toNat]
    congr 1
    have hnil := List.drop_eq_nil_of_le (Nat.not_lt.1 c2)
    rw [hnil, List.append_nil] at s8
    rw [← s8, ← s7, ← s6, ← s5, ← s4, ← s3, ← s2, ← s1]
    rfl
end Go.Proofs.YtlhpcgmbbeihiaaDoor
