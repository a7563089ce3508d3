/-
  THE PLAIN LAW OF ScriptWrites: what the writer writes without a fault is what the reference guesses, and the guess is read back whole just then. No program in sight.
  THE PLAIN LAW OF ScriptWrites, whole: what Write tells, by what the guesses are. No program in sight.
-/
import Derived.Test.YtlhpcgmbbeihiaaGRt
namespace Go.Proofs.Ytlhpcgmbbeihiaa

/-! ### The reference's guess -/
def wordF (s : List UInt8) : List UInt8 := s.map fun c => toByte ((c.toNat : Int) - 97)
def namedF (s : List UInt8) : List UInt8 := if s.length = 0 then [toByte 255] else wordF s
def guessEdit (x : Edit) : List UInt8 := toByte (x.kind - 1) :: (if x.kind = 2 then toByte ((x.text.length : Int) - 1) :: wordF x.text else [toByte (x.n - 1)])
def guessEdits (l : List Edit) : List UInt8 := (l.map guessEdit).flatten
def smallPart (o : Oper') (c : UInt8) : List UInt8 :=
  if c = 100 then [toByte o.doc] else if c = 110 then namedF o.name else if c = 111 then namedF o.to
  else if c = 116 then toByte (o.text.length : Int) :: wordF o.text else if c = 101 then toByte (o.edits.length : Int) :: guessEdits o.edits
  else if c = 112 then [toByte o.epoch] else if c = 118 then [toByte o.version] else [toByte o.dur]
def smallF (o : Oper') : List UInt8 := toByte (o.kind - 1) :: ((partsF o.kind.toNat).map (smallPart o)).flatten
/-- The sum of the first eight that stay. -/
def sumB : List Bool → Nat → Nat
  | [], _ => 0
  | b :: l, i => (if b then 2 ^ i else 0) + sumB l (i + 1)
def guessF (x : Ev) : List UInt8 :=
  if x.kind = 1 then [toByte x.proc] else if x.kind = 2 then toByte 195 :: toByte x.proc :: (if opRight x.op = true then smallF x.op else [])
  else if x.kind = 3 then [toByte 196, toByte x.proc, toByte x.by_] else if x.kind = 4 ∨ x.kind = 5 then [toByte (188 + x.kind), toByte x.proc]
  else [toByte 194, toByte x.ops, toByte (sumB (x.keep.take 8) 0 : Nat)]

/-! ### What the writer appends, fault or not -/
theorem putF_1 (n bd : Int) (s : WSt) : (putF n bd s).1 = s.1 ++ [toByte n] := rfl
theorem numberF_1 (n bd : Int) (s : WSt) : (numberF n bd s).1 = s.1 ++ [toByte n] := rfl
theorem putF_2 {n bd : Int} {s : WSt} (h : (putF n bd s).2 = false) : s.2 = false ∧ 0 ≤ n ∧ n < bd := by
  simp [putF] at h; exact ⟨h.1.1, h.1.2, h.2⟩
theorem numberF_2 {n bd : Int} {s : WSt} (h : (numberF n bd s).2 = false) : s.2 = false ∧ n < bd := by
  simp [numberF] at h; exact ⟨h.1, h.2⟩
theorem lettersW_1 (m : Int) (t : List UInt8) : ∀ s : WSt, (lettersW m t s).1 = s.1 ++ wordF t := by
  induction t with
  | nil => intro s; simp [lettersW, wordF]
  | cons c t ih =>
    intro s
    have := ih (putF ((c.toNat : Int) - 97) m s)
    simp only [lettersW, List.foldl_cons, wordF, List.map_cons] at this ⊢
    rw [this, putF_1]; simp
theorem lettersW_2 (m : Int) (t : List UInt8) : ∀ s : WSt, (lettersW m t s).2 = false → s.2 = false ∧ ∀ c ∈ t, 97 ≤ (c.toNat : Int) ∧ (c.toNat : Int) < 97 + m := by
  induction t with
  | nil => intro s h; exact ⟨h, by simp⟩
  | cons c t ih =>
    intro s h
    obtain ⟨h1, h2⟩ := ih (putF ((c.toNat : Int) - 97) m s) h
    obtain ⟨h3, h4, h5⟩ := putF_2 h1
    refine ⟨h3, fun d hd => ?_⟩
    rcases List.mem_cons.1 hd with rfl | hd
    · omega
    · exact h2 d hd
theorem nameW_2 {t : List UInt8} {s : WSt} (h : (nameW t s).2 = false) : s.2 = false ∧ GoodName t ∧ (nameW t s).1 = s.1 ++ namedF t := by
  unfold nameW at h ⊢
  unfold namedF
  by_cases h0 : t.length = 0
  · rw [if_pos h0] at h ⊢
    rw [if_pos h0]
    exact ⟨(putF_2 h).1, .inl (List.eq_nil_of_length_eq_zero h0), rfl⟩
  · rw [if_neg h0] at h ⊢
    rw [if_neg h0]
    by_cases h1 : t.length = 1
    · rw [if_pos h1] at h ⊢
      obtain ⟨h2, h3⟩ := lettersW_2 _ _ _ h
      refine ⟨h2, ?_, lettersW_1 _ _ _⟩
      obtain ⟨c, rfl⟩ : ∃ c, t = [c] := List.length_eq_one_iff.1 h1
      have := h3 c (by simp)
      refine .inr ⟨c.toNat - 97, by omega, ?_⟩
      congr 1
      refine UInt8.toNat_inj.1 ?_
      rw [UInt8.toNat_ofNat', Nat.mod_eq_of_lt (by omega)]; omega
    · rw [if_neg h1] at h
      cases h
theorem editW_1 (s : WSt) (x : Edit) : (editW s x).1 = s.1 ++ guessEdit x := by
  unfold editW guessEdit
  split
  · rw [lettersW_1, putF_1, putF_1]; simp
  · rw [putF_1, putF_1]; simp
theorem editW_2 {s : WSt} {x : Edit} (hr : editRight x = true) (h : (editW s x).2 = false) : s.2 = false ∧ GoodEdit x := by
  unfold editW at h
  by_cases hk : x.kind = 2
  · rw [if_pos hk] at h
    obtain ⟨h1, h2⟩ := lettersW_2 _ _ _ h
    obtain ⟨h3, h4, h5⟩ := putF_2 h1
    obtain ⟨h6, h7, h8⟩ := putF_2 h3
    unfold editRight at hr
    rw [if_neg (by omega), if_pos hk] at hr
    simp only [Bool.and_eq_true, decide_eq_true_eq] at hr
    exact ⟨h6, .inl ⟨hk, hr.1, by omega, by omega, fun c hc => by have := h2 c hc; omega⟩⟩
  · rw [if_neg hk] at h
    obtain ⟨h3, h4, h5⟩ := putF_2 h
    obtain ⟨h6, h7, h8⟩ := putF_2 h3
    have hk13 : x.kind = 1 ∨ x.kind = 3 := by omega
    unfold editRight at hr
    rw [if_pos hk13] at hr
    simp only [Bool.and_eq_true, decide_eq_true_eq, List.isEmpty_iff] at hr
    exact ⟨h6, .inr ⟨hk13, by omega, by omega, hr.2⟩⟩
theorem foldEdit_1 (l : List Edit) : ∀ s : WSt, (l.foldl editW s).1 = s.1 ++ guessEdits l := by
  induction l with
  | nil => intro s; simp [guessEdits]
  | cons x l ih => intro s; rw [List.foldl_cons, ih, editW_1]; simp [guessEdits]
theorem foldEdit_2 (l : List Edit) (hr : ∀ x ∈ l, editRight x = true) : ∀ s : WSt, (l.foldl editW s).2 = false → s.2 = false ∧ ∀ x ∈ l, GoodEdit x := by
  induction l with
  | nil => intro s h; exact ⟨h, by simp⟩
  | cons x l ih =>
    intro s h
    obtain ⟨h1, h2⟩ := ih (fun y hy => hr y (by simp [hy])) (editW s x) h
    obtain ⟨h3, h4⟩ := editW_2 (hr x (by simp)) h1
    refine ⟨h3, fun y hy => ?_⟩
    rcases List.mem_cons.1 hy with rfl | hy
    · exact h4
    · exact h2 y hy
theorem editsW_1 (l : List Edit) (s : WSt) : (editsW l s).1 = s.1 ++ toByte (l.length : Int) :: guessEdits l := by
  rw [editsW, foldEdit_1, putF_1]; simp
theorem foldEdit_false (l : List Edit) : ∀ s : WSt, (l.foldl editW s).2 = false → s.2 = false := by
  induction l with
  | nil => intro s h; exact h
  | cons x l ih =>
    intro s h
    have h1 := ih (editW s x) h
    unfold editW at h1
    split at h1
    · exact (putF_2 (putF_2 (lettersW_2 _ _ _ h1).1).1).1
    · exact (putF_2 (putF_2 h1).1).1
theorem editsW_2 {l : List Edit} {s : WSt} (h : (editsW l s).2 = false) : s.2 = false ∧ l.length < 4 ∧ ∀ x ∈ l, GoodEdit x := by
  unfold editsW at h
  have h0 := foldEdit_false _ _ h
  obtain ⟨h1, h2, h3⟩ := putF_2 h0
  simp at h1
  have hr : ∀ x ∈ l, editRight x = true := by
    have := h1.2; rw [deltaRight, List.all_eq_true] at this; exact this
  exact ⟨h1.1, by omega, (foldEdit_2 l hr _ h).2⟩

/-- A part is good. -/
def GoodPart (o : Oper') (c : UInt8) : Prop :=
  if c = 100 then o.doc < 4 else if c = 110 then GoodName o.name else if c = 111 then GoodName o.to else if c = 116 then GoodText 16 o.text
  else if c = 101 then (o.edits.length < 4 ∧ ∀ e ∈ o.edits, GoodEdit e) else if c = 112 then o.epoch < 32 else if c = 118 then o.version < 32 else o.dur < 256
theorem partW_2 {o : Oper'} {s : WSt} {c : UInt8} (h : (partW o s c).2 = false) : s.2 = false ∧ GoodPart o c ∧ (partW o s c).1 = s.1 ++ smallPart o c := by
  unfold partW at h ⊢
  unfold GoodPart smallPart
  by_cases c1 : c = 100
  · rw [if_pos c1] at h ⊢; rw [if_pos c1, if_pos c1]; exact ⟨(numberF_2 h).1, (numberF_2 h).2, rfl⟩
  rw [if_neg c1] at h ⊢; rw [if_neg c1, if_neg c1]
  by_cases c2 : c = 110
  · rw [if_pos c2] at h ⊢; rw [if_pos c2, if_pos c2]; exact nameW_2 h
  rw [if_neg c2] at h ⊢; rw [if_neg c2, if_neg c2]
  by_cases c3 : c = 111
  · rw [if_pos c3] at h ⊢; rw [if_pos c3, if_pos c3]; exact nameW_2 h
  rw [if_neg c3] at h ⊢; rw [if_neg c3, if_neg c3]
  by_cases c4 : c = 116
  · rw [if_pos c4] at h ⊢; rw [if_pos c4, if_pos c4]
    obtain ⟨h1, h2⟩ := lettersW_2 _ _ _ h
    obtain ⟨h3, h4, h5⟩ := putF_2 h1
    exact ⟨h3, ⟨by omega, fun c hc => by have := h2 c hc; omega⟩, by rw [lettersW_1, putF_1]; simp⟩
  rw [if_neg c4] at h ⊢; rw [if_neg c4, if_neg c4]
  by_cases c5 : c = 101
  · rw [if_pos c5] at h ⊢; rw [if_pos c5, if_pos c5]
    obtain ⟨h1, h2⟩ := editsW_2 h
    exact ⟨h1, h2, editsW_1 _ _⟩
  rw [if_neg c5] at h ⊢; rw [if_neg c5, if_neg c5]
  by_cases c6 : c = 112
  · rw [if_pos c6] at h ⊢; rw [if_pos c6, if_pos c6]; exact ⟨(numberF_2 h).1, (numberF_2 h).2, rfl⟩
  rw [if_neg c6] at h ⊢; rw [if_neg c6, if_neg c6]
  by_cases c7 : c = 118
  · rw [if_pos c7] at h ⊢; rw [if_pos c7, if_pos c7]; exact ⟨(numberF_2 h).1, (numberF_2 h).2, rfl⟩
  rw [if_neg c7] at h ⊢; rw [if_neg c7, if_neg c7]
  exact ⟨(numberF_2 h).1, (numberF_2 h).2, rfl⟩
theorem partsW_2 (o : Oper') (ps : List UInt8) : ∀ s : WSt, (ps.foldl (partW o) s).2 = false → s.2 = false ∧ (∀ c ∈ ps, GoodPart o c) ∧ (ps.foldl (partW o) s).1 = s.1 ++ (ps.map (smallPart o)).flatten := by
  induction ps with
  | nil => intro s h; exact ⟨h, by simp, by simp⟩
  | cons c ps ih =>
    intro s h
    obtain ⟨h1, h2, h3⟩ := ih (partW o s c) h
    obtain ⟨h4, h5, h6⟩ := partW_2 h1
    refine ⟨h4, fun d hd => ?_, ?_⟩
    · rcases List.mem_cons.1 hd with rfl | hd
      · exact h5
      · exact h2 d hd
    · rw [List.foldl_cons, h3, h6]; simp
/-- What a machine's numbers are. -/
structure NatOp (o : Oper') : Prop where
  doc : 0 ≤ o.doc
  epoch : 0 ≤ o.epoch
  version : 0 ≤ o.version
  dur : 0 ≤ o.dur
theorem opW_2 {o : Oper'} {s : WSt} (h : (opW o s).2 = false) : s.2 = false ∧ opRight o = true ∧ (∀ c ∈ partsF o.kind.toNat, GoodPart o c) ∧ (opW o s).1 = s.1 ++ smallF o := by
  unfold opW at h ⊢
  by_cases hb : (s.2 || !opRight o) = true
  · rw [if_pos hb] at h; cases h
  · rw [if_neg hb] at h ⊢
    simp at hb
    obtain ⟨h1, h2, h3⟩ := partsW_2 _ _ _ h
    exact ⟨hb.1, hb.2, h2, by rw [h3, putF_1, smallF]; simp⟩
theorem opRight_blank {o : Oper'} (h : opRight o = true) : (1 ≤ o.kind ∧ o.kind ≤ 17) ∧ deltaRight o.edits = true ∧ ∀ c ∈ allParts, ¬ c ∈ partsF o.kind.toNat → blankPart o c = true := by
  unfold opRight at h
  simp only [Bool.and_eq_true, decide_eq_true_eq, List.all_eq_true, Bool.or_eq_true] at h
  refine ⟨⟨h.1.1.1, h.1.1.2⟩, h.1.2, fun c hc hn => ?_⟩
  rcases h.2 c hc with h1 | h1
  · exact h1
  · exact absurd (by simpa using h1) hn
theorem goodOp_of {o : Oper'} (hn : NatOp o) (hr : opRight o = true) (hp : ∀ c ∈ partsF o.kind.toNat, GoodPart o c) : GoodOp o := by
  obtain ⟨-, -, hb⟩ := opRight_blank hr
  have key : ∀ c ∈ allParts, GoodPart o c ∨ blankPart o c = true := fun c hc => by
    by_cases h : c ∈ partsF o.kind.toNat
    · exact .inl (hp c h)
    · exact .inr (hb c hc h)
  have k1 := key 100 (by decide)
  have k2 := key 110 (by decide)
  have k3 := key 111 (by decide)
  have k4 := key 116 (by decide)
  have k5 := key 101 (by decide)
  have k6 := key 112 (by decide)
  have k7 := key 118 (by decide)
  have k8 := key 117 (by decide)
  simp [GoodPart, blankPart] at k1 k2 k3 k4 k5 k6 k7 k8
  obtain ⟨n1, n2, n3, n4⟩ := hn
  refine ⟨⟨n1, by omega⟩, ?_, ?_, ?_, ?_, ⟨n2, by omega⟩, ⟨n3, by omega⟩, ⟨n4, by omega⟩⟩
  · rcases k2 with h | h
    · exact h
    · exact .inl h
  · rcases k3 with h | h
    · exact h
    · exact .inl h
  · rcases k4 with h | h
    · exact h
    · rw [h]; exact ⟨by simp, by simp⟩
  · rcases k5 with h | h
    · exact h
    · rw [h]; exact ⟨by simp, by simp⟩
/-- A good operation is its parts. -/
theorem setParts_id {o : Oper'} (hr : opRight o = true) : (partsF o.kind.toNat).foldl (setPart o) (Oper'.zero o.kind) = o := by
  obtain ⟨⟨h1, h2⟩, -, hb⟩ := opRight_blank hr
  obtain ⟨k, hk⟩ : ∃ k : Nat, o.kind = k := ⟨o.kind.toNat, by omega⟩
  rw [hk, Int.toNat_natCast] at hb ⊢
  obtain ⟨kind, doc, name, to, text, edits, epoch, version, dur⟩ := o
  dsimp only at hk
  have b1 := hb 100 (by decide)
  have b2 := hb 110 (by decide)
  have b3 := hb 111 (by decide)
  have b4 := hb 116 (by decide)
  have b5 := hb 101 (by decide)
  have b6 := hb 112 (by decide)
  have b7 := hb 118 (by decide)
  have b8 := hb 117 (by decide)
  simp only [blankPart] at b1 b2 b3 b4 b5 b6 b7 b8
  clear hb hr
  subst hk
  dsimp only at h1 h2
  have hkk : k = 1 ∨ k = 2 ∨ k = 3 ∨ k = 4 ∨ k = 5 ∨ k = 6 ∨ k = 7 ∨ k = 8 ∨ k = 9 ∨ k = 10 ∨ k = 11 ∨ k = 12 ∨ k = 13 ∨ k = 14 ∨ k = 15 ∨ k = 16 ∨ k = 17 := by omega
  clear h1 h2
  rcases hkk with rfl | rfl | rfl | rfl | rfl | rfl | rfl | rfl | rfl | rfl | rfl | rfl | rfl | rfl | rfl | rfl | rfl
  all_goals
    simp [partsF] at b1 b2 b3 b4 b5 b6 b7 b8
    simp_all [partsF, setPart, Oper'.zero]
theorem op_rt' {o : Oper'} (hg : GoodOp o) (hr : opRight o = true) (b : List UInt8) : ∃ e, opW o (b, false) = (b ++ e, false) ∧ ∀ rest, opF (e ++ rest) = (o, e.length) := by
  have hid := setParts_id hr
  obtain ⟨⟨h1, h2⟩, -, -⟩ := opRight_blank hr
  obtain ⟨e, r1, r2, r3⟩ := parts_rt o hg (partsF o.kind.toNat) (b ++ [toByte (o.kind - 1)])
  refine ⟨toByte (o.kind - 1) :: e, ?_, fun rest => ?_⟩
  · rw [opW, hr, if_neg (by simp), put_ok (by omega) (by omega), r1]; simp
  · have hh := hd_toByte (n := o.kind - 1) (by omega) (by omega) (e ++ rest)
    have hk2 : opKind (toByte (o.kind - 1) :: (e ++ rest)) = o.kind.toNat := by simp only [opKind]; omega
    have hi : 1 + (hd (toByte (o.kind - 1) :: (e ++ rest)) : Int) % 17 = o.kind := by omega
    rw [List.cons_append, opF, hk2, hi, r3 _ 1 rest _ (by simp), hid]
    simp; omega

/-! ### Events -/
theorem bits8 : ∀ b0 b1 b2 b3 b4 b5 b6 b7 : Bool, bitsN [b0, b1, b2, b3, b4, b5, b6, b7] 0 = sumB [b0, b1, b2, b3, b4, b5, b6, b7] 0 ∧ bitsF 8 (bitsN [b0, b1, b2, b3, b4, b5, b6, b7] 0) = [b0, b1, b2, b3, b4, b5, b6, b7] ∧ bitsN [b0, b1, b2, b3, b4, b5, b6, b7] 0 < 256 := by decide
theorem bits_sum {l : List Bool} (h : l.length = 8) : bitsN l 0 = sumB (l.take 8) 0 ∧ bitsF 8 (bitsN l 0) = l ∧ bitsN l 0 < 256 := by
  rw [List.take_of_length_le (by omega)]
  match l, h with
  | [b0, b1, b2, b3, b4, b5, b6, b7], _ => exact bits8 b0 b1 b2 b3 b4 b5 b6 b7
structure EvNat (x : Ev) : Prop where
  op : NatOp x.op
  by_ : 0 ≤ x.by_
theorem eventW_range {n : Int} {s : WSt} {x : Ev} (h : (eventW n s x).2 = false) : 1 ≤ x.kind ∧ x.kind ≤ 6 := by
  unfold eventW at h
  by_cases hk : x.kind < 1 ∨ 6 < x.kind
  · rw [if_pos hk] at h; cases h
  · omega
theorem event_good (n : Nat) (h1 : 1 ≤ n) (h2 : n ≤ 64) {x : Ev} (hn : EvNat x) (b : List UInt8) (h : (eventW (n : Int) (b, false) x).2 = false) :
    (eventW (n : Int) (b, false) x).1 = b ++ guessF x ∧ ∀ rest, eventF n (guessF x ++ rest) = (x, (guessF x).length) := by
  obtain ⟨hk1, hk6⟩ := eventW_range h
  have hpp : ∀ y : Int, 0 ≤ y → y < n → y % n = y := fun y a b => Int.emod_eq_of_lt a b
  obtain ⟨hop, hby⟩ := hn
  obtain ⟨kind, proc, op, by_, ops, keep⟩ := x
  dsimp only at hk1 hk6 hop hby
  have hkk : kind = 1 ∨ kind = 2 ∨ kind = 3 ∨ kind = 4 ∨ kind = 5 ∨ kind = 6 := by omega
  clear hk1 hk6
  rcases hkk with rfl | rfl | rfl | rfl | rfl | rfl
  · simp [eventW, blankOf, -Ev.mk.injEq] at h
    obtain ⟨hf, hx⟩ := h
    obtain ⟨-, p0, p1⟩ := putF_2 hf
    rw [hx]
    refine ⟨by simp [eventW, blankOf, guessF, putF_1], fun rest => ?_⟩
    have hh := hd_toByte p0 (by omega) rest
    simp only [guessF, if_pos, List.cons_append, List.nil_append, eventF]
    rw [if_pos (by omega), hh, hpp proc p0 p1]; rfl
  · simp [eventW, blankOf, -Ev.mk.injEq] at h
    obtain ⟨hf, hx⟩ := h
    obtain ⟨hf2, hr, hgp, he1⟩ := opW_2 hf
    obtain ⟨-, p0, p1⟩ := putF_2 hf2
    have hg := goodOp_of hop hr hgp
    rw [hx]
    have g1 := put_ok (n := 195) (bound := 256) (by decide) (by decide) b
    have g2 := put_ok p0 p1 (b ++ [toByte 195])
    obtain ⟨e, r1, r2⟩ := op_rt' hg hr (b ++ [toByte 195] ++ [toByte proc])
    have he : e = smallF op := by
      have h3 := (opW_2 (o := op) (s := (b ++ [toByte 195] ++ [toByte proc], false)) (by rw [r1])).2.2.2
      rw [r1] at h3
      exact List.append_cancel_left h3
    subst he
    refine ⟨?_, fun rest => ?_⟩
    · simp [eventW, blankOf, guessF, hr, g1, g2] at r1 ⊢
      simp [r1]
    · have e1 := hd_toByte (n := 195) (by decide) (by decide) (toByte proc :: (smallF op ++ rest))
      have e2 := hd_toByte p0 (by omega) (smallF op ++ rest)
      have e1' : hd (toByte 195 :: toByte proc :: (smallF op ++ rest)) = 195 := by omega
      have hgs : guessF ⟨2, proc, op, 0, 0, []⟩ = toByte 195 :: toByte proc :: smallF op := by simp [guessF, hr]
      rw [hgs]
      simp only [List.cons_append, eventF, e1', List.drop_succ_cons, List.drop_zero, e2, r2]
      rw [if_neg (by decide), if_neg (by decide), if_pos (by decide), hpp proc p0 p1]
      simp [Ev.zero]; omega
  · simp [eventW, blankOf, -Ev.mk.injEq] at h
    obtain ⟨hf, hx⟩ := h
    obtain ⟨hf2, hb2⟩ := numberF_2 hf
    obtain ⟨-, p0, p1⟩ := putF_2 hf2
    rw [hx]
    refine ⟨by simp [eventW, blankOf, guessF, putF_1, numberF_1], fun rest => ?_⟩
    have e1 := hd_toByte (n := 196) (by decide) (by decide) (toByte proc :: toByte by_ :: rest)
    have e2 := hd_toByte p0 (by omega) (toByte by_ :: rest)
    have e3 := hd_toByte hby hb2 rest
    have e1' : hd (toByte 196 :: toByte proc :: toByte by_ :: rest) = 196 := by omega
    have hgs : guessF ⟨3, proc, Oper'.zero 0, by_, 0, []⟩ = [toByte 196, toByte proc, toByte by_] := by simp [guessF]
    rw [hgs]
    simp only [List.cons_append, List.nil_append, eventF, e1', List.drop_succ_cons, List.drop_zero, e2, e3]
    rw [if_neg (by decide), if_neg (by decide), if_neg (by decide), if_pos (by decide), hpp proc p0 p1]; rfl
  · simp [eventW, blankOf, -Ev.mk.injEq] at h
    obtain ⟨hf, hx⟩ := h
    obtain ⟨-, p0, p1⟩ := putF_2 hf
    rw [hx]
    refine ⟨by simp [eventW, blankOf, guessF, putF_1], fun rest => ?_⟩
    have e1 := hd_toByte (n := 192) (by decide) (by decide) (toByte proc :: rest)
    have e2 := hd_toByte p0 (by omega) rest
    have e1' : hd (toByte 192 :: toByte proc :: rest) = 192 := by omega
    have hgs : guessF ⟨4, proc, Oper'.zero 0, 0, 0, []⟩ = [toByte 192, toByte proc] := by simp [guessF]
    rw [hgs]
    simp only [List.cons_append, List.nil_append, eventF, e1', List.drop_succ_cons, List.drop_zero, e2]
    rw [if_neg (by decide), if_neg (by decide), if_neg (by decide), if_neg (by decide), hpp proc p0 p1]; rfl
  · simp [eventW, blankOf, -Ev.mk.injEq] at h
    obtain ⟨hf, hx⟩ := h
    obtain ⟨-, p0, p1⟩ := putF_2 hf
    rw [hx]
    refine ⟨by simp [eventW, blankOf, guessF, putF_1], fun rest => ?_⟩
    have e1 := hd_toByte (n := 193) (by decide) (by decide) (toByte proc :: rest)
    have e2 := hd_toByte p0 (by omega) rest
    have e1' : hd (toByte 193 :: toByte proc :: rest) = 193 := by omega
    have hgs : guessF ⟨5, proc, Oper'.zero 0, 0, 0, []⟩ = [toByte 193, toByte proc] := by simp [guessF]
    rw [hgs]
    simp only [List.cons_append, List.nil_append, eventF, e1', List.drop_succ_cons, List.drop_zero, e2]
    rw [if_neg (by decide), if_neg (by decide), if_neg (by decide), if_neg (by decide), hpp proc p0 p1]; rfl
  · simp [eventW, blankOf, -Ev.mk.injEq] at h
    obtain ⟨hf, hx⟩ := h
    obtain ⟨hf2, -, -⟩ := putF_2 hf
    simp at hf2
    obtain ⟨hf3, hl8⟩ := hf2
    obtain ⟨-, o0, o1⟩ := putF_2 hf3
    obtain ⟨hs1, hs2, hs3⟩ := bits_sum hl8
    have hp0 : proc = 0 := congrArg Ev.proc hx
    rw [hx]
    have hgs : guessF ⟨6, 0, Oper'.zero 0, 0, ops, keep⟩ = [toByte 194, toByte ops, toByte (bitsN keep 0 : Nat)] := by simp [guessF, hs1]
    rw [hgs]
    refine ⟨by simp [eventW, blankOf, putF_1], fun rest => ?_⟩
    have e1 := hd_toByte (n := 194) (by decide) (by decide) (toByte ops :: toByte (bitsN keep 0 : Nat) :: rest)
    have e2 := hd_toByte o0 o1 (toByte (bitsN keep 0 : Nat) :: rest)
    have e3 := hd_toByte (n := (bitsN keep 0 : Nat)) (by omega) (by omega) rest
    have e1' : hd (toByte 194 :: toByte ops :: toByte (bitsN keep 0 : Nat) :: rest) = 194 := by omega
    have e3' : hd (toByte (bitsN keep 0 : Nat) :: rest) = bitsN keep 0 := by omega
    simp only [List.cons_append, List.nil_append, eventF, e1', List.drop_succ_cons, List.drop_zero, e2, e3', hs2]
    rw [if_neg (by decide), if_pos (by decide)]; rfl

/-- Is the guess read back whole? -/
def okEv (n : Nat) (x : Ev) : Prop := eventF n (guessF x) = (x, (guessF x).length)
theorem event_law (n : Nat) (h1 : 1 ≤ n) (h2 : n ≤ 64) {x : Ev} (hn : EvNat x) (b : List UInt8) :
    (okEv n x → eventW (n : Int) (b, false) x = (b ++ guessF x, false)) ∧ (¬ okEv n x → (eventW (n : Int) (b, false) x).2 = true) := by
  have h := event_good n h1 h2 hn b
  refine ⟨fun ho => ?_, fun ho => ?_⟩
  · obtain ⟨e, r1, r2, r3⟩ := event_rt n h1 h2 (guessF x) b
    rw [ho] at r1
    have hf : (eventW (n : Int) (b, false) x).2 = false := by rw [r1]
    have := (h hf).1
    rw [r1] at this ⊢
    rw [show b ++ e = b ++ guessF x from this]
  · cases hf : (eventW (n : Int) (b, false) x).2 with
    | true => rfl
    | false =>
      exfalso
      apply ho
      have := (h hf).2 []
      rwa [List.append_nil] at this
theorem putF_stays {n bd : Int} {s : WSt} (h : s.2 = true) : (putF n bd s).2 = true := by simp [putF, h]
theorem eventW_stays (n : Int) (s : WSt) (x : Ev) (h : s.2 = true) : (eventW n s x).2 = true := by
  cases hf : (eventW n s x).2 with
  | true => rfl
  | false =>
    exfalso
    unfold eventW at hf
    by_cases hk : x.kind < 1 ∨ 6 < x.kind
    · rw [if_pos hk] at hf; cases hf
    · rw [if_neg hk] at hf
      dsimp only at hf
      simp only [Bool.or_eq_false_iff] at hf
      have hf := hf.1
      have a1 : (if x.kind = 1 then s else putF (192 + (x.kind + 1) % 5) 256 s).2 = true := by
        split
        · exact h
        · exact putF_stays h
      obtain ⟨t, ht⟩ : ∃ t, t = (if x.kind = 1 then s else putF (192 + (x.kind + 1) % 5) 256 s) := ⟨_, rfl⟩
      rw [← ht] at hf a1
      have a2 : (if x.kind = 6 then t else putF x.proc n t).2 = true := by
        split
        · exact a1
        · exact putF_stays a1
      obtain ⟨q, hq⟩ : ∃ q, q = (if x.kind = 6 then t else putF x.proc n t) := ⟨_, rfl⟩
      rw [← hq] at hf a2
      have a3 : (putF x.ops 256 q).2 = true := putF_stays a2
      split at hf
      · have := (opW_2 hf).1; rw [a2] at this; cases this
      · split at hf
        · have := (numberF_2 hf).1; rw [a2] at this; cases this
        · split at hf
          · have := (putF_2 hf).1; rw [a3] at this; simp at this
          · rw [a2] at hf; cases hf

/-! ### The whole script -/
theorem cfg_law (c : Cfg) (hs : 0 ≤ c.slack) : let out := [toByte (c.n - 1), toByte c.slack, toByte (c.bytes.tdiv 16 - 1), toByte (c.entries - 1)]
    let s := putF (c.entries - 1) 256 (putF (c.bytes.tdiv 16 - 1) 256 (numberF c.slack 256 (putF (c.n - 1) 64 ([], false))))
    s.1 = out ∧ ((s.2 || decide (c.bytes.tmod 16 ≠ 0)) = false ↔ cfgF out = c) := by
  obtain ⟨n, sl, by_, en⟩ := c
  dsimp only at hs ⊢
  refine ⟨by simp [putF, numberF], ?_⟩
  have t1 := toByte_nat (n - 1)
  have t2 := toByte_nat sl
  have t3 := toByte_nat (by_.tdiv 16 - 1)
  have t4 := toByte_nat (en - 1)
  have hd4 := Int.mul_tdiv_add_tmod by_ 16
  have hm : (by_.tmod 16 = 0 → by_ = 16 * by_.tdiv 16) := fun h => by omega
  simp only [cfgF, hd_cons, List.drop_succ_cons, List.drop_zero, Cfg.mk.injEq, t1, t2, t3, t4]
  simp only [putF, numberF, Bool.or_eq_false_iff, decide_eq_false_iff_not, ne_eq, Bool.false_or]
  have hmod : ∀ k : Int, (16 * k).tdiv 16 = k := fun k => Int.mul_tdiv_cancel_left _ (by decide)
  have hmod2 : ∀ k : Int, (16 * k).tmod 16 = 0 := fun k => Int.mul_tmod_right _ _
  constructor
  · intro h
    have hb : by_.tmod 16 = 0 := by
      by_cases hz : by_.tmod 16 = 0
      · exact hz
      · exfalso; simp_all
    have hb2 := hm hb
    refine ⟨?_, ?_, ?_, ?_⟩ <;> (simp only [Int.not_lt, Int.not_le, Decidable.not_not] at h; omega)
  · rintro ⟨g1, g2, g3, g4⟩
    have hb : by_.tmod 16 = 0 := by rw [← g3, show (16 : Int) * (1 + (by_.tdiv 16 - 1) % 256) = 16 * (1 + (by_.tdiv 16 - 1) % 256) from rfl]; exact hmod2 _
    have hb2 : by_.tdiv 16 = 1 + (by_.tdiv 16 - 1) % 256 := by
      have h5 := hmod (1 + (by_.tdiv 16 - 1) % 256)
      rw [g3] at h5; exact h5
    simp only [Int.not_lt, Int.not_le, Decidable.not_not]
    refine ⟨⟨⟨⟨⟨⟨⟨?_, ?_⟩, ?_⟩, ?_⟩, ?_⟩, ?_⟩, ?_⟩, hb⟩ <;> omega
end Go.Proofs.Ytlhpcgmbbeihiaa
namespace Go.Proofs.Ytlhpcgmbbeihiaa

def out0 (c : Cfg) : List UInt8 := [toByte (c.n - 1), toByte c.slack, toByte (c.bytes.tdiv 16 - 1), toByte (c.entries - 1)]
def guesses (l : List Ev) : List UInt8 := (l.map guessF).flatten
theorem guesses_snoc {l : List Ev} {k : Nat} (hk : k < l.length) : guesses (l.take (k + 1)) = guesses (l.take k) ++ guessF l[k] := by
  unfold guesses; rw [List.take_succ_eq_append_getElem hk, List.map_append, List.flatten_append]; simp
theorem readF_out0 (c : Cfg) : (readF (out0 c)).1 = cfgF (out0 c) := rfl
theorem cfgF_n {l : List UInt8} {c : Cfg} (h : cfgF l = c) : 1 ≤ c.n ∧ c.n ≤ 64 := by
  have := hd_lt l
  rw [← h]; dsimp only [cfgF]; omega
theorem fold_stays (n : Int) (l : List Ev) : ∀ s : WSt, s.2 = true → (l.foldl (eventW n) s).2 = true := by
  induction l with
  | nil => intro s h; exact h
  | cons x l ih => intro s h; exact ih _ (eventW_stays n s x h)
def startW (c : Cfg) : WSt :=
  let s := putF (c.entries - 1) 256 (putF (c.bytes.tdiv 16 - 1) 256 (numberF c.slack 256 (putF (c.n - 1) 64 ([], false))))
  (s.1, s.2 || decide (c.bytes.tmod 16 ≠ 0))
theorem writeF_start (c : Cfg) (l : List Ev) : writeF c l = l.foldl (eventW c.n) (startW c) := rfl
theorem startW_bad {c : Cfg} (hs : 0 ≤ c.slack) (h : cfgF (out0 c) ≠ c) : (startW c).2 = true := by
  obtain ⟨-, h2⟩ := cfg_law c hs
  cases hq : (startW c).2 with
  | true => rfl
  | false => exact absurd (h2.1 hq) h
theorem startW_good {c : Cfg} (hs : 0 ≤ c.slack) (h : cfgF (out0 c) = c) : startW c = (out0 c, false) := by
  obtain ⟨h1, h2⟩ := cfg_law c hs
  exact Prod.ext h1 (h2.2 h)
theorem write_bad {c : Cfg} (hs : 0 ≤ c.slack) (h : cfgF (out0 c) ≠ c) (l : List Ev) : (writeF c l).2 = true := by
  rw [writeF_start]; exact fold_stays _ _ _ (startW_bad hs h)
theorem fold_ok {n : Nat} (h1 : 1 ≤ n) (h2 : n ≤ 64) (l : List Ev) (hn : ∀ x ∈ l, EvNat x) (ho : ∀ x ∈ l, okEv n x) : ∀ b : List UInt8, l.foldl (eventW (n : Int)) (b, false) = (b ++ guesses l, false) := by
  induction l with
  | nil => intro b; simp [guesses]
  | cons x l ih =>
    intro b
    rw [List.foldl_cons, (event_law n h1 h2 (hn x (by simp)) b).1 (ho x (by simp)), ih (fun y hy => hn y (by simp [hy])) (fun y hy => ho y (by simp [hy]))]
    simp [guesses]
theorem write_ok {c : Cfg} (hs : 0 ≤ c.slack) (h : cfgF (out0 c) = c) {n : Nat} (hcn : c.n = n) (l : List Ev) (hn : ∀ x ∈ l, EvNat x) (ho : ∀ x ∈ l, okEv n x) : writeF c l = (out0 c ++ guesses l, false) := by
  have := cfgF_n h
  rw [writeF_start, startW_good hs h, hcn]
  exact fold_ok (by omega) (by omega) l hn ho _
theorem write_no {c : Cfg} (hs : 0 ≤ c.slack) (h : cfgF (out0 c) = c) {n : Nat} (hcn : c.n = n) (l : List Ev) (hn : ∀ x ∈ l, EvNat x) {k : Nat} (hk : k < l.length) (ho : ∀ x ∈ l.take k, okEv n x) (hno : ¬ okEv n l[k]) : (writeF c l).2 = true := by
  have hb := cfgF_n h
  rw [writeF_start, startW_good hs h, hcn]
  obtain ⟨r, hr⟩ : ∃ r, l = l.take k ++ l[k] :: r := ⟨l.drop (k + 1), by rw [← List.drop_eq_getElem_cons hk, List.take_append_drop]⟩
  rw [hr, List.foldl_append, fold_ok (by omega) (by omega) (l.take k) (fun x hx => hn x (List.mem_of_mem_take hx)) ho, List.foldl_cons]
  refine fold_stays _ _ _ ?_
  exact (event_law n (by omega) (by omega) (hn _ (List.getElem_mem _)) _).2 hno
end Go.Proofs.Ytlhpcgmbbeihiaa
