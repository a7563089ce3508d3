/-
  WHAT THE WRITER WRITES, as plain functions: a state is the bytes so far and whether something was amiss. No program in sight.
  THE PLAIN LAW OF ScriptBack: what is read of any bytes is written without a fault, and read so again. No program in sight.
-/
import Derived.Test.YtlhpcgmbbeihiaaGBase
namespace Go.Proofs.Ytlhpcgmbbeihiaa

abbrev WSt := List UInt8 × Bool
def toByte (n : Int) : UInt8 := UInt8.ofNat (n % 256).toNat
theorem toByte_nat (n : Int) : ((toByte n).toNat : Int) = n % 256 := by
  have h1 : 0 ≤ n % 256 := Int.emod_nonneg _ (by decide)
  have h2 : n % 256 < 256 := Int.emod_lt_of_pos _ (by decide)
  obtain ⟨m, hm⟩ := Int.eq_ofNat_of_zero_le h1
  rw [toByte, UInt8.toNat_ofNat', hm, Int.toNat_natCast]
  rw [hm] at h2
  rw [Nat.mod_eq_of_lt (by omega)]
def putF (n bound : Int) (s : WSt) : WSt := (s.1 ++ [toByte n], s.2 || decide (n < 0) || decide (bound ≤ n))
def numberF (n bound : Int) (s : WSt) : WSt := (s.1 ++ [toByte n], s.2 || decide (bound ≤ n))
def lettersW (many : Int) (t : List UInt8) (s : WSt) : WSt := t.foldl (fun s c => putF ((c.toNat : Int) - 97) many s) s
def nameW (t : List UInt8) (s : WSt) : WSt := if t.length = 0 then putF 255 256 s else if t.length = 1 then lettersW 6 t s else (s.1, true)
theorem lettersW_len (many : Int) (t : List UInt8) : ∀ s : WSt, (lettersW many t s).1.length = s.1.length + t.length := by
  induction t with
  | nil => intro s; simp [lettersW]
  | cons c t ih => intro s; have := ih (putF ((c.toNat : Int) - 97) many s); simp only [lettersW, List.foldl_cons] at this ⊢; rw [this]; simp [putF]; omega
theorem lettersW_snoc (many : Int) (t : List UInt8) (c : UInt8) (s : WSt) : lettersW many (t ++ [c]) s = putF ((c.toNat : Int) - 97) many (lettersW many t s) := by
  simp [lettersW, List.foldl_append]

def editRight (e : Edit) : Bool := if e.kind = 1 ∨ e.kind = 3 then decide (0 < e.n) && decide (e.n ≤ 2147483647) && e.text.isEmpty else if e.kind = 2 then decide (e.n = 0) && !e.text.isEmpty else false
def deltaRight (l : List Edit) : Bool := l.all editRight
def editW (s : WSt) (x : Edit) : WSt := if x.kind = 2 then lettersW 26 x.text (putF ((x.text.length : Int) - 1) 4 (putF (x.kind - 1) 3 s)) else putF (x.n - 1) 16 (putF (x.kind - 1) 3 s)
def editsW (l : List Edit) (s : WSt) : WSt := l.foldl editW (putF (l.length : Int) 4 (s.1, s.2 || !deltaRight l))
/-- Is a part blank? -/
def blankPart (o : Oper') (c : UInt8) : Bool :=
  if c = 100 then decide (o.doc = 0) else if c = 110 then o.name.isEmpty else if c = 111 then o.to.isEmpty else if c = 116 then o.text.isEmpty
  else if c = 101 then o.edits.isEmpty else if c = 112 then decide (o.epoch = 0) else if c = 118 then decide (o.version = 0) else decide (o.dur = 0)
def allParts : List UInt8 := [100, 110, 111, 116, 101, 112, 118, 117]
def opRight (o : Oper') : Bool := decide (1 ≤ o.kind) && decide (o.kind ≤ 17) && deltaRight o.edits && allParts.all (fun c => blankPart o c || (partsF o.kind.toNat).contains c)
def partW (o : Oper') (s : WSt) (c : UInt8) : WSt :=
  if c = 100 then numberF o.doc 4 s else if c = 110 then nameW o.name s else if c = 111 then nameW o.to s
  else if c = 116 then lettersW 26 o.text (putF (o.text.length : Int) 16 s) else if c = 101 then editsW o.edits s
  else if c = 112 then numberF o.epoch 32 s else if c = 118 then numberF o.version 32 s else numberF o.dur 256 s
def opW (o : Oper') (s : WSt) : WSt := if s.2 || !opRight o then (s.1, true) else (partsF o.kind.toNat).foldl (partW o) (putF (o.kind - 1) 17 (s.1, false))
/-- The number of the bits that stay. -/
def bitsN : List Bool → Nat → Nat
  | [], _ => 0
  | b :: l, i => (if b then 2 ^ (min i 8) else 0) ||| bitsN l (i + 1)
def blankOf (x : Ev) : Ev :=
  if x.kind = 2 then ⟨x.kind, x.proc, x.op, 0, 0, []⟩ else if x.kind = 3 then ⟨x.kind, x.proc, Oper'.zero 0, x.by_, 0, []⟩
  else if x.kind = 6 then ⟨x.kind, 0, Oper'.zero 0, 0, x.ops, x.keep⟩ else ⟨x.kind, x.proc, Oper'.zero 0, 0, 0, []⟩
def eventW (n : Int) (s : WSt) (x : Ev) : WSt :=
  if x.kind < 1 ∨ 6 < x.kind then (s.1, true) else
  let s1 := if x.kind = 1 then s else putF (192 + (x.kind + 1) % 5) 256 s
  let s2 := if x.kind = 6 then s1 else putF x.proc n s1
  let s3 := if x.kind = 2 then opW x.op s2 else if x.kind = 3 then numberF x.by_ 256 s2
    else if x.kind = 6 then (let s4 := putF x.ops 256 s2; putF (bitsN x.keep 0 : Nat) 256 (s4.1, s4.2 || decide (x.keep.length ≠ 8))) else s2
  (s3.1, s3.2 || decide (x ≠ blankOf x))
def writeF (c : Cfg) (l : List Ev) : WSt :=
  let s := putF (c.entries - 1) 256 (putF (c.bytes.tdiv 16 - 1) 256 (numberF c.slack 256 (putF (c.n - 1) 64 ([], false))))
  l.foldl (eventW c.n) (s.1, s.2 || decide (c.bytes.tmod 16 ≠ 0))
end Go.Proofs.Ytlhpcgmbbeihiaa
namespace Go.Proofs.Ytlhpcgmbbeihiaa

theorem put_ok {n bound : Int} (h0 : 0 ≤ n) (h1 : n < bound) (b : List UInt8) : putF n bound (b, false) = (b ++ [toByte n], false) := by
  simp [putF]; omega
theorem number_ok {n bound : Int} (h1 : n < bound) (b : List UInt8) : numberF n bound (b, false) = (b ++ [toByte n], false) := by
  simp [numberF]; omega
theorem hd_toByte {n : Int} (h0 : 0 ≤ n) (h1 : n < 256) (t : List UInt8) : (hd (toByte n :: t) : Int) = n := by
  rw [hd_cons, toByte_nat, Int.emod_eq_of_lt h0 h1]

def GoodName (t : List UInt8) : Prop := t = [] ∨ ∃ k, k < 6 ∧ t = [UInt8.ofNat (97 + k)]
def GoodText (m : Nat) (t : List UInt8) : Prop := t.length < m ∧ ∀ c ∈ t, 97 ≤ c.toNat ∧ c.toNat < 123
def GoodEdit (e : Edit) : Prop := (e.kind = 2 ∧ e.n = 0 ∧ 1 ≤ e.text.length ∧ GoodText 5 e.text) ∨ ((e.kind = 1 ∨ e.kind = 3) ∧ 1 ≤ e.n ∧ e.n ≤ 16 ∧ e.text = [])
structure GoodOp (o : Oper') : Prop where
  doc : 0 ≤ o.doc ∧ o.doc < 4
  name : GoodName o.name
  to : GoodName o.to
  text : GoodText 16 o.text
  edits : o.edits.length < 4 ∧ ∀ e ∈ o.edits, GoodEdit e
  epoch : 0 ≤ o.epoch ∧ o.epoch < 32
  version : 0 ≤ o.version ∧ o.version < 32
  dur : 0 ≤ o.dur ∧ o.dur < 256

/-! ### What is read is good -/
theorem lettersF_good (n : Nat) (l : List UInt8) : ∀ c ∈ lettersF n l, 97 ≤ c.toNat ∧ c.toNat < 123 := by
  induction n generalizing l with
  | zero => intro c h; simp [lettersF] at h
  | succ n ih =>
    intro c h
    rcases List.mem_cons.1 h with rfl | h
    · have : 97 + hd l % 26 < 256 := by omega
      rw [UInt8.toNat_ofNat', Nat.mod_eq_of_lt this]; omega
    · exact ih _ c h
theorem nameF_good (c : Nat) : GoodName (nameF c) := by
  unfold nameF
  split
  · exact .inl rfl
  · exact .inr ⟨c % 6, by omega, rfl⟩
theorem editF_good (l : List UInt8) : GoodEdit (editF l).1 := by
  unfold editF
  split
  · refine .inl ⟨by simp only []; omega, rfl, ?_, ?_, lettersF_good _ _⟩
    · simp only [lettersF_length]; omega
    · simp only [lettersF_length]; omega
  · exact .inr ⟨by simp only []; omega, by simp only []; omega, by simp only []; omega, rfl⟩
theorem editsF_good (k : Nat) (l : List UInt8) : ∀ e ∈ editsF k l, GoodEdit e := by
  induction k generalizing l with
  | zero => intro e h; simp [editsF] at h
  | succ k ih =>
    intro e h
    rcases List.mem_cons.1 h with rfl | h
    · exact editF_good l
    · exact ih _ e h
theorem zero_good (k : Int) : GoodOp (Oper'.zero k) :=
  ⟨by simp [Oper'.zero], .inl rfl, .inl rfl, by simp [GoodText, Oper'.zero], by simp [Oper'.zero], by simp [Oper'.zero], by simp [Oper'.zero], by simp [Oper'.zero]⟩
theorem partF_good (l : List UInt8) (x : Oper' × Nat) (c : UInt8) (h : GoodOp x.1) : GoodOp (partF l x c).1 := by
  obtain ⟨o, n⟩ := x
  obtain ⟨h1, h2, h3, h4, h5, h6, h7, h8⟩ := h
  have hh := hd_lt (l.drop n)
  unfold partF
  dsimp only
  repeat' split
  · exact ⟨by simp only []; omega, h2, h3, h4, h5, h6, h7, h8⟩
  · exact ⟨h1, nameF_good _, h3, h4, h5, h6, h7, h8⟩
  · exact ⟨h1, h2, nameF_good _, h4, h5, h6, h7, h8⟩
  · exact ⟨h1, h2, h3, ⟨by simp only [lettersF_length]; omega, lettersF_good _ _⟩, h5, h6, h7, h8⟩
  · exact ⟨h1, h2, h3, h4, ⟨by simp only [editsF_length]; omega, editsF_good _ _⟩, h6, h7, h8⟩
  · exact ⟨h1, h2, h3, h4, h5, by simp only []; omega, h7, h8⟩
  · exact ⟨h1, h2, h3, h4, h5, h6, by simp only []; omega, h8⟩
  · exact ⟨h1, h2, h3, h4, h5, h6, h7, by simp only []; omega⟩
theorem partsF_good (l : List UInt8) (ps : List UInt8) : ∀ x : Oper' × Nat, GoodOp x.1 → GoodOp (ps.foldl (partF l) x).1 := by
  induction ps with
  | nil => intro x h; exact h
  | cons p ps ih => intro x h; exact ih _ (partF_good l x p h)
theorem opF_good (l : List UInt8) : GoodOp (opF l).1 := partsF_good l _ _ (zero_good _)

/-! ### What is good is written, and read so again -/
theorem letters_rt (t : List UInt8) (h : ∀ c ∈ t, 97 ≤ c.toNat ∧ c.toNat < 123) (b : List UInt8) :
    lettersW 26 t (b, false) = (b ++ t.map (fun c => toByte ((c.toNat : Int) - 97)), false) ∧ ∀ rest, lettersF t.length (t.map (fun c => toByte ((c.toNat : Int) - 97)) ++ rest) = t := by
  induction t generalizing b with
  | nil => exact ⟨by simp [lettersW], fun rest => rfl⟩
  | cons c t ih =>
    have hc := h c (by simp)
    have ht := fun b => ih (fun c hc => h c (by simp [hc])) b
    refine ⟨?_, fun rest => ?_⟩
    · rw [lettersW, List.foldl_cons, put_ok (by omega) (by omega)]
      have := (ht (b ++ [toByte ((c.toNat : Int) - 97)])).1
      rw [lettersW] at this; rw [this]; simp
    · simp only [List.map_cons, List.length_cons, List.cons_append, lettersF]
      have e : hd (toByte ((c.toNat : Int) - 97) :: (t.map (fun c => toByte ((c.toNat : Int) - 97)) ++ rest)) = c.toNat - 97 := by
        have := hd_toByte (n := (c.toNat : Int) - 97) (by omega) (by omega) (t.map (fun c => toByte ((c.toNat : Int) - 97)) ++ rest)
        omega
      rw [e, List.drop_succ_cons, List.drop_zero, (ht []).2 rest]
      congr 1
      rw [Nat.mod_eq_of_lt (by omega), show 97 + (c.toNat - 97) = c.toNat from by omega]
      exact UInt8.toNat_inj.1 (by rw [UInt8.toNat_ofNat', Nat.mod_eq_of_lt (UInt8.toNat_lt _)])
theorem name_rt (t : List UInt8) (h : GoodName t) (b : List UInt8) : ∃ e : UInt8, nameW t (b, false) = (b ++ [e], false) ∧ ∀ rest, nameF (hd (e :: rest)) = t := by
  rcases h with rfl | ⟨k, hk, rfl⟩
  · refine ⟨toByte 255, ?_, fun rest => ?_⟩
    · simp only [nameW, List.length_nil, if_pos]; exact put_ok (by decide) (by decide) b
    · have := hd_toByte (n := 255) (by decide) (by decide) rest
      rw [show hd (toByte 255 :: rest) = 255 from by omega]; rfl
  · have hc : (UInt8.ofNat (97 + k)).toNat = 97 + k := by rw [UInt8.toNat_ofNat', Nat.mod_eq_of_lt (by omega)]
    refine ⟨toByte k, ?_, fun rest => ?_⟩
    · simp only [nameW, List.length_singleton]
      rw [if_neg (by decide), if_pos trivial]
      simp only [lettersW, List.foldl_cons, List.foldl_nil]
      rw [hc, show ((97 + k : Nat) : Int) - 97 = k from by omega]
      exact put_ok (by omega) (by omega) b
    · have := hd_toByte (n := (k : Int)) (by omega) (by omega) rest
      rw [show hd (toByte k :: rest) = k from by omega, nameF, if_neg (by omega), Nat.mod_eq_of_lt hk]
/-- How many bytes an edit takes. -/
def elen (x : Edit) : Nat := if x.kind = 2 then 2 + x.text.length else 2
theorem editF_len (l : List UInt8) : (editF l).2 = elen (editF l).1 := by
  unfold editF
  split
  · have : (1 + (hd l : Int) % 3) = 2 := by omega
    simp only [elen, this, if_pos, lettersF_length]
  · have : ¬ (1 + (hd l : Int) % 3) = 2 := by omega
    simp only [elen, if_neg this]
theorem editsN_len (k : Nat) (l : List UInt8) : editsN k l = ((editsF k l).map elen).sum := by
  induction k generalizing l with
  | zero => simp [editsN, editsF]
  | succ k ih => simp only [editsN, editsF, List.map_cons, List.sum_cons, ih, editF_len]
theorem edit_rt (x : Edit) (h : GoodEdit x) (b : List UInt8) : ∃ e, editW (b, false) x = (b ++ e, false) ∧ e.length = elen x ∧ ∀ rest, editF (e ++ rest) = (x, e.length) := by
  obtain ⟨kind, n, text⟩ := x
  rcases h with ⟨hk, hn, ht1, ht2, ht3⟩ | ⟨hk, hn1, hn2, ht⟩
  · simp only at hk hn ht1 ht2 ht3
    subst hk; subst hn
    obtain ⟨r1, r2⟩ := letters_rt text ht3 (b ++ [toByte (2 - 1)] ++ [toByte ((text.length : Int) - 1)])
    refine ⟨toByte (2 - 1) :: toByte ((text.length : Int) - 1) :: text.map (fun c => toByte ((c.toNat : Int) - 97)), ?_, by simp [elen]; omega, fun rest => ?_⟩
    · simp only [editW, if_pos]
      rw [put_ok (by decide) (by decide), put_ok (by omega) (by omega), r1]; simp
    · have e1 := hd_toByte (n := 2 - 1) (by decide) (by decide) (toByte ((text.length : Int) - 1) :: (text.map (fun c => toByte ((c.toNat : Int) - 97)) ++ rest))
      have e2 := hd_toByte (n := (text.length : Int) - 1) (by omega) (by omega) (text.map (fun c => toByte ((c.toNat : Int) - 97)) ++ rest)
      simp only [List.cons_append]
      unfold editF
      have e1' : hd (toByte (2 - 1) :: toByte ((text.length : Int) - 1) :: (text.map (fun c => toByte ((c.toNat : Int) - 97)) ++ rest)) = 1 := by omega
      have e2' : 1 + hd (toByte ((text.length : Int) - 1) :: (text.map (fun c => toByte ((c.toNat : Int) - 97)) ++ rest)) % 4 = text.length := by omega
      simp only [e1', List.drop_succ_cons, List.drop_zero, e2']
      rw [if_pos (by decide), r2]
      simp; omega
  · simp only at hk hn1 hn2 ht
    subst ht
    refine ⟨[toByte (kind - 1), toByte (n - 1)], ?_, by simp only [elen]; rw [if_neg (by omega)]; rfl, fun rest => ?_⟩
    · simp only [editW]
      rw [if_neg (by omega), put_ok (by omega) (by omega), put_ok (by omega) (by omega)]; simp
    · have e1 := hd_toByte (n := kind - 1) (by omega) (by omega) (toByte (n - 1) :: rest)
      have e2 := hd_toByte (n := n - 1) (by omega) (by omega) rest
      simp only [List.cons_append, List.nil_append]
      unfold editF
      rw [if_neg (by omega)]
      simp only [List.drop_succ_cons, List.drop_zero, e1, e2]
      simp
      omega
theorem editRight_good {x : Edit} (h : GoodEdit x) : editRight x = true := by
  rcases h with ⟨hk, hn, ht1, -⟩ | ⟨hk, hn1, hn2, ht⟩
  · unfold editRight
    rw [if_neg (by omega), if_pos hk]
    have : x.text ≠ [] := by intro e; rw [e] at ht1; simp at ht1
    simp [hn, this]
  · unfold editRight
    rw [if_pos hk]
    simp [ht]; omega
theorem editsF_rt (l : List Edit) (h : ∀ e ∈ l, GoodEdit e) (b : List UInt8) : ∃ e, l.foldl editW (b, false) = (b ++ e, false) ∧ e.length = (l.map elen).sum ∧ ∀ rest, editsF l.length (e ++ rest) = l ∧ editsN l.length (e ++ rest) = e.length := by
  induction l generalizing b with
  | nil => exact ⟨[], by simp, by simp, fun rest => ⟨rfl, rfl⟩⟩
  | cons x l ih =>
    obtain ⟨e1, h1, h1l, h2⟩ := edit_rt x (h x (by simp)) b
    obtain ⟨e2, h3, h3l, h4⟩ := ih (fun e he => h e (by simp [he])) (b ++ e1)
    refine ⟨e1 ++ e2, by rw [List.foldl_cons, h1, h3]; simp, by simp [h1l, h3l], fun rest => ?_⟩
    have hf : editF (e1 ++ e2 ++ rest) = (x, e1.length) := by rw [List.append_assoc]; exact h2 _
    have hd' : (e1 ++ e2 ++ rest).drop e1.length = e2 ++ rest := by rw [List.append_assoc, List.drop_left]
    simp only [List.length_cons, editsF, editsN, hf, hd', (h4 rest).1, (h4 rest).2, List.length_append]
    exact ⟨trivial, trivial⟩
theorem edits_rt (l : List Edit) (hl : l.length < 4) (h : ∀ e ∈ l, GoodEdit e) (b : List UInt8) : ∃ e, editsW l (b, false) = (b ++ toByte (l.length : Int) :: e, false) ∧ e.length = (l.map elen).sum ∧ ∀ rest, editsF l.length (e ++ rest) = l ∧ editsN l.length (e ++ rest) = e.length := by
  have hr : deltaRight l = true := by rw [deltaRight, List.all_eq_true]; exact fun x hx => editRight_good (h x hx)
  obtain ⟨e, h1, h2, h3⟩ := editsF_rt l h (b ++ [toByte (l.length : Int)])
  refine ⟨e, ?_, h2, h3⟩
  rw [editsW, hr]
  show l.foldl editW (putF (l.length : Int) 4 (b, false)) = _
  rw [put_ok (by omega) (by omega), h1]; simp

/-- One part taken over. -/
def setPart (o a : Oper') (c : UInt8) : Oper' :=
  if c = 100 then { a with doc := o.doc } else if c = 110 then { a with name := o.name } else if c = 111 then { a with to := o.to } else if c = 116 then { a with text := o.text }
  else if c = 101 then { a with edits := o.edits } else if c = 112 then { a with epoch := o.epoch } else if c = 118 then { a with version := o.version } else { a with dur := o.dur }
/-- How many bytes a part takes. -/
def plen (o : Oper') (c : UInt8) : Nat := if c = 116 then 1 + o.text.length else if c = 101 then 1 + (o.edits.map elen).sum else 1
theorem part_rt (o : Oper') (h : GoodOp o) (c : UInt8) (b : List UInt8) : ∃ e, partW o (b, false) c = (b ++ e, false) ∧ e.length = plen o c ∧ ∀ (l : List UInt8) (n : Nat) (rest : List UInt8) (a : Oper'), l.drop n = e ++ rest → partF l (a, n) c = (setPart o a c, n + e.length) := by
  obtain ⟨h1, h2, h3, h4, h5, h6, h7, h8⟩ := h
  by_cases c1 : c = 100
  · subst c1
    refine ⟨[toByte o.doc], by simp only [partW, if_pos]; exact number_ok (by omega) b, by simp [plen], fun l n rest a hl => ?_⟩
    have e := hd_toByte (n := o.doc) (by omega) (by omega) rest
    simp only [partF, setPart, if_pos, hl, List.cons_append, List.nil_append, e]
    rw [Int.emod_eq_of_lt (by omega) (by omega)]; rfl
  by_cases c2 : c = 110
  · subst c2
    obtain ⟨e, r1, r2⟩ := name_rt o.name h2 b
    refine ⟨[e], by simp only [partW, if_neg c1, if_pos]; exact r1, by simp [plen], fun l n rest a hl => ?_⟩
    simp only [partF, setPart, if_neg c1, if_pos, hl, List.cons_append, List.nil_append, r2]; rfl
  by_cases c3 : c = 111
  · subst c3
    obtain ⟨e, r1, r2⟩ := name_rt o.to h3 b
    refine ⟨[e], by simp only [partW, if_neg c1, if_neg c2, if_pos]; exact r1, by simp [plen], fun l n rest a hl => ?_⟩
    simp only [partF, setPart, if_neg c1, if_neg c2, if_pos, hl, List.cons_append, List.nil_append, r2]; rfl
  by_cases c4 : c = 116
  · subst c4
    obtain ⟨r1, r2⟩ := letters_rt o.text h4.2 (b ++ [toByte (o.text.length : Int)])
    have hlen := h4.1
    refine ⟨toByte (o.text.length : Int) :: o.text.map (fun c => toByte ((c.toNat : Int) - 97)), ?_, by simp [plen]; omega, fun l n rest a hl => ?_⟩
    · simp only [partW, if_neg c1, if_neg c2, if_neg c3, if_pos]
      rw [put_ok (by omega) (by omega), r1]; simp
    · have e := hd_toByte (n := (o.text.length : Int)) (by omega) (by omega) (o.text.map (fun c => toByte ((c.toNat : Int) - 97)) ++ rest)
      have e' : hd (toByte (o.text.length : Int) :: (o.text.map (fun c => toByte ((c.toNat : Int) - 97)) ++ rest)) % 16 = o.text.length := by omega
      have hl2 : l.drop (n + 1) = o.text.map (fun c => toByte ((c.toNat : Int) - 97)) ++ rest := by rw [← List.drop_drop, hl]; rfl
      simp only [partF, setPart, if_neg c1, if_neg c2, if_neg c3, if_pos, hl, List.cons_append, e', hl2, r2]
      simp; omega
  by_cases c5 : c = 101
  · subst c5
    obtain ⟨e, r1, r0, r2⟩ := edits_rt o.edits h5.1 h5.2 b
    have hlen := h5.1
    refine ⟨toByte (o.edits.length : Int) :: e, by simp only [partW, if_neg c1, if_neg c2, if_neg c3, if_neg c4, if_pos]; exact r1, by simp [plen, r0]; omega, fun l n rest a hl => ?_⟩
    have e1 := hd_toByte (n := (o.edits.length : Int)) (by omega) (by omega) (e ++ rest)
    have e' : hd (toByte (o.edits.length : Int) :: (e ++ rest)) % 4 = o.edits.length := by omega
    have hl2 : l.drop (n + 1) = e ++ rest := by rw [← List.drop_drop, hl]; rfl
    simp only [partF, setPart, if_neg c1, if_neg c2, if_neg c3, if_neg c4, if_pos, hl, List.cons_append, e', hl2, (r2 rest).1, (r2 rest).2]
    simp; omega
  by_cases c6 : c = 112
  · subst c6
    refine ⟨[toByte o.epoch], by simp only [partW, if_neg c1, if_neg c2, if_neg c3, if_neg c4, if_neg c5, if_pos]; exact number_ok (by omega) b, by simp [plen], fun l n rest a hl => ?_⟩
    have e := hd_toByte (n := o.epoch) (by omega) (by omega) rest
    simp only [partF, setPart, if_neg c1, if_neg c2, if_neg c3, if_neg c4, if_neg c5, if_pos, hl, List.cons_append, List.nil_append, e]
    rw [Int.emod_eq_of_lt (by omega) (by omega)]; rfl
  by_cases c7 : c = 118
  · subst c7
    refine ⟨[toByte o.version], by simp only [partW, if_neg c1, if_neg c2, if_neg c3, if_neg c4, if_neg c5, if_neg c6, if_pos]; exact number_ok (by omega) b, by simp [plen], fun l n rest a hl => ?_⟩
    have e := hd_toByte (n := o.version) (by omega) (by omega) rest
    simp only [partF, setPart, if_neg c1, if_neg c2, if_neg c3, if_neg c4, if_neg c5, if_neg c6, if_pos, hl, List.cons_append, List.nil_append, e]
    rw [Int.emod_eq_of_lt (by omega) (by omega)]; rfl
  · refine ⟨[toByte o.dur], by simp only [partW, if_neg c1, if_neg c2, if_neg c3, if_neg c4, if_neg c5, if_neg c6, if_neg c7]; exact number_ok (by omega) b, by simp [plen, c4, c5], fun l n rest a hl => ?_⟩
    have e := hd_toByte (n := o.dur) (by omega) (by omega) rest
    simp only [partF, setPart, if_neg c1, if_neg c2, if_neg c3, if_neg c4, if_neg c5, if_neg c6, if_neg c7, hl, List.cons_append, List.nil_append, e]; rfl
theorem parts_rt (o : Oper') (h : GoodOp o) (ps : List UInt8) (b : List UInt8) : ∃ e, ps.foldl (partW o) (b, false) = (b ++ e, false) ∧ e.length = (ps.map (plen o)).sum ∧ ∀ (l : List UInt8) (n : Nat) (rest : List UInt8) (a : Oper'), l.drop n = e ++ rest → ps.foldl (partF l) (a, n) = (ps.foldl (setPart o) a, n + e.length) := by
  induction ps generalizing b with
  | nil => exact ⟨[], by simp, by simp, fun l n rest a _ => rfl⟩
  | cons p ps ih =>
    obtain ⟨e1, r1, r1l, r2⟩ := part_rt o h p b
    obtain ⟨e2, s1, s1l, s2⟩ := ih (b ++ e1)
    refine ⟨e1 ++ e2, by rw [List.foldl_cons, r1, s1]; simp, by simp [r1l, s1l], fun l n rest a hl => ?_⟩
    rw [List.foldl_cons, r2 l n (e2 ++ rest) a (by rw [hl]; simp), s2 l _ rest _ (by rw [← List.drop_drop, hl, List.append_assoc, List.drop_left])]
    simp; omega

/-- What an operation that was read is. -/
theorem opF_shape (l : List UInt8) : (opF l).1.kind = 1 + (hd l : Int) % 17 ∧ opRight (opF l).1 = true ∧ (partsF (opKind l)).foldl (setPart (opF l).1) (Oper'.zero (1 + (hd l : Int) % 17)) = (opF l).1 ∧ (opF l).2 = 1 + ((partsF (opKind l)).map (plen (opF l).1)).sum := by
  have hg := opF_good l
  have hr : deltaRight (opF l).1.edits = true := by rw [deltaRight, List.all_eq_true]; exact fun x hx => editRight_good (hg.edits.2 x hx)
  have hk : hd l % 17 = 0 ∨ hd l % 17 = 1 ∨ hd l % 17 = 2 ∨ hd l % 17 = 3 ∨ hd l % 17 = 4 ∨ hd l % 17 = 5 ∨ hd l % 17 = 6 ∨ hd l % 17 = 7 ∨ hd l % 17 = 8 ∨ hd l % 17 = 9 ∨ hd l % 17 = 10 ∨ hd l % 17 = 11 ∨ hd l % 17 = 12 ∨ hd l % 17 = 13 ∨ hd l % 17 = 14 ∨ hd l % 17 = 15 ∨ hd l % 17 = 16 := by omega
  rcases hk with hk | hk | hk | hk | hk | hk | hk | hk | hk | hk | hk | hk | hk | hk | hk | hk | hk
  all_goals
    have hi : (hd l : Int) % 17 = ((hd l % 17 : Nat) : Int) := by omega
    rw [hk] at hi
    simp only [opRight, hr]
    simp only [opF, opKind, hi, hk, partsF, List.foldl, partF, setPart, Oper'.zero, blankPart, allParts, List.all_cons, List.all_nil]
    refine ⟨?_, ?_, ?_, ?_⟩
    · simp
    · simp
    · simp
    · simp [plen, lettersF_length, editsN_len]; try omega
theorem op_rt (l : List UInt8) (b : List UInt8) : ∃ e, opW (opF l).1 (b, false) = (b ++ e, false) ∧ e.length = (opF l).2 ∧ ∀ rest, opF (e ++ rest) = ((opF l).1, e.length) := by
  obtain ⟨h1, h2, h3, h4⟩ := opF_shape l
  obtain ⟨o, ho⟩ : ∃ o, o = (opF l).1 := ⟨_, rfl⟩
  have hg := opF_good l
  rw [← ho] at h1 h2 h3 h4 hg ⊢
  have hk : o.kind.toNat = opKind l := by rw [h1, opKind]; omega
  obtain ⟨e, r1, r2, r3⟩ := parts_rt o hg (partsF (opKind l)) (b ++ [toByte (o.kind - 1)])
  refine ⟨toByte (o.kind - 1) :: e, ?_, by rw [List.length_cons, r2, h4]; omega, fun rest => ?_⟩
  · rw [opW, h2, if_neg (by simp), hk, put_ok (by omega) (by omega), r1]; simp
  · have hh := hd_toByte (n := o.kind - 1) (by omega) (by omega) (e ++ rest)
    have hk2 : opKind (toByte (o.kind - 1) :: (e ++ rest)) = opKind l := by simp only [opKind]; omega
    have hi : 1 + (hd (toByte (o.kind - 1) :: (e ++ rest)) : Int) % 17 = 1 + (hd l : Int) % 17 := by omega
    rw [List.cons_append, opF, hk2, hi, r3 _ 1 rest _ (by simp), h3]
    simp; omega

/-! ### Events -/
theorem bits_rt : ∀ m : Fin 256, bitsN (bitsF 8 m.val) 0 = m.val := by decide +kernel
theorem bits_rt' (m : Nat) (h : m < 256) : bitsN (bitsF 8 m) 0 = m := bits_rt ⟨m, h⟩
theorem bitsF_len (k n : Nat) : (bitsF k n).length = k := by
  induction k generalizing n with
  | zero => rfl
  | succ k ih => simp [bitsF, ih]
theorem event_rt (n : Nat) (h1 : 1 ≤ n) (h2 : n ≤ 64) (l : List UInt8) (b : List UInt8) : ∃ e, eventW (n : Int) (b, false) (eventF n l).1 = (b ++ e, false) ∧ e.length = (eventF n l).2 ∧ ∀ rest, eventF n (e ++ rest) = ((eventF n l).1, e.length) := by
  have hc := hd_lt l
  have hp : ∀ x : Nat, 0 ≤ (x : Int) % n ∧ (x : Int) % n < n := fun x => ⟨Int.emod_nonneg _ (by omega), Int.emod_lt_of_pos _ (by omega)⟩
  have hpp : ∀ x : Int, 0 ≤ x → x < n → x % n = x := fun x a b => Int.emod_eq_of_lt a b
  obtain ⟨c, hcq⟩ : ∃ c, c = hd l := ⟨_, rfl⟩
  rw [← hcq] at hc
  by_cases k1 : c < 192
  · have hx : eventF n l = (Ev.zero 1 ((c : Int) % n), 1) := by simp only [eventF, ← hcq]; rw [if_pos k1]
    obtain ⟨p, hpq⟩ : ∃ p : Int, p = (c : Int) % n := ⟨_, rfl⟩
    obtain ⟨p0, p1⟩ := hp c
    rw [hx]; simp only []
    rw [← hpq] at p0 p1 ⊢
    refine ⟨[toByte p], ?_, rfl, fun rest => ?_⟩
    · simp [eventW, Ev.zero, blankOf, put_ok p0 p1]
    · have hh := hd_toByte p0 (by omega) rest
      simp only [List.cons_append, List.nil_append, eventF]
      rw [if_pos (by omega), hh, hpp p p0 p1]; rfl
  by_cases k4 : c % 5 = 4
  · obtain ⟨o, hoq⟩ : ∃ o, o = hd (l.drop 1) := ⟨_, rfl⟩
    obtain ⟨m, hmq⟩ : ∃ m, m = hd (l.drop 2) := ⟨_, rfl⟩
    have ho := hd_lt (l.drop 1)
    have hm := hd_lt (l.drop 2)
    have hx : eventF n l = ({ Ev.zero 6 0 with ops := (o : Int), keep := bitsF 8 m }, 3) := by simp only [eventF, ← hcq, hoq, hmq]; rw [if_neg k1, if_pos k4]
    rw [← hoq] at ho
    rw [← hmq] at hm
    rw [hx]; simp only []
    refine ⟨[toByte 194, toByte o, toByte m], ?_, rfl, fun rest => ?_⟩
    · have g1 := put_ok (n := 194) (bound := 256) (by decide) (by decide) b
      have g2 := put_ok (n := (o : Int)) (bound := 256) (by omega) (by omega) (b ++ [toByte 194])
      have g3 := put_ok (n := (m : Int)) (bound := 256) (by omega) (by omega) (b ++ [toByte 194] ++ [toByte o])
      simp [eventW, Ev.zero, blankOf, bits_rt' m hm, bitsF_len, g1, g2] at g3 ⊢
      simp [g3]
    · have e1 := hd_toByte (n := 194) (by decide) (by decide) (toByte o :: toByte m :: rest)
      have e2 := hd_toByte (n := (o : Int)) (by omega) (by omega) (toByte m :: rest)
      have e3 := hd_toByte (n := (m : Int)) (by omega) (by omega) rest
      have e1' : hd (toByte 194 :: toByte o :: toByte m :: rest) = 194 := by omega
      have e2' : hd (toByte o :: toByte m :: rest) = o := by omega
      have e3' : hd (toByte m :: rest) = m := by omega
      simp only [List.cons_append, List.nil_append, eventF, e1', List.drop_succ_cons, List.drop_zero, e2', e3']
      rfl
  obtain ⟨q, hqq⟩ : ∃ q, q = hd (l.drop 1) := ⟨_, rfl⟩
  obtain ⟨p, hpq⟩ : ∃ p : Int, p = (q : Int) % n := ⟨_, rfl⟩
  obtain ⟨p0, p1⟩ := hp q
  rw [← hpq] at p0 p1
  by_cases k0 : c % 5 = 0
  · have hx : eventF n l = ({ Ev.zero 2 p with op := (opF (l.drop 2)).1 }, 2 + (opF (l.drop 2)).2) := by simp only [eventF, ← hcq, hpq, hqq]; rw [if_neg k1, if_neg k4, if_pos k0]
    rw [hx]; simp only []
    obtain ⟨e, r1, r2, r3⟩ := op_rt (l.drop 2) (b ++ [toByte 195] ++ [toByte p])
    refine ⟨toByte 195 :: toByte p :: e, ?_, by simp [r2]; omega, fun rest => ?_⟩
    · have g1 := put_ok (n := 195) (bound := 256) (by decide) (by decide) b
      have g2 := put_ok p0 p1 (b ++ [toByte 195])
      simp [eventW, Ev.zero, blankOf, g1, g2] at r1 ⊢
      simp [r1]
    · have e1 := hd_toByte (n := 195) (by decide) (by decide) (toByte p :: (e ++ rest))
      have e2 := hd_toByte p0 (by omega) (e ++ rest)
      have e1' : hd (toByte 195 :: toByte p :: (e ++ rest)) = 195 := by omega
      simp only [List.cons_append, eventF, e1', List.drop_succ_cons, List.drop_zero, e2, r3]
      rw [if_neg (by decide), if_neg (by decide), if_pos (by decide), hpp p p0 p1]
      simp; omega
  by_cases k2 : c % 5 = 1
  · obtain ⟨y, hyq⟩ : ∃ y, y = hd (l.drop 2) := ⟨_, rfl⟩
    have hy := hd_lt (l.drop 2)
    have hx : eventF n l = ({ Ev.zero 3 p with by_ := (y : Int) }, 3) := by simp only [eventF, ← hcq, hpq, hqq, hyq]; rw [if_neg k1, if_neg k4, if_neg k0, if_pos k2]
    rw [← hyq] at hy
    rw [hx]; simp only []
    refine ⟨[toByte 196, toByte p, toByte y], ?_, rfl, fun rest => ?_⟩
    · have g1 := put_ok (n := 196) (bound := 256) (by decide) (by decide) b
      have g2 := put_ok p0 p1 (b ++ [toByte 196])
      have g3 := number_ok (n := (y : Int)) (bound := 256) (by omega) (b ++ [toByte 196] ++ [toByte p])
      simp [eventW, Ev.zero, blankOf, g1, g2] at g3 ⊢
      simp [g3]
    · have e1 := hd_toByte (n := 196) (by decide) (by decide) (toByte p :: toByte y :: rest)
      have e2 := hd_toByte p0 (by omega) (toByte y :: rest)
      have e3 := hd_toByte (n := (y : Int)) (by omega) (by omega) rest
      have e1' : hd (toByte 196 :: toByte p :: toByte y :: rest) = 196 := by omega
      simp only [List.cons_append, List.nil_append, eventF, e1', List.drop_succ_cons, List.drop_zero, e2, e3]
      rw [if_neg (by decide), if_neg (by decide), if_neg (by decide), if_pos (by decide), hpp p p0 p1]; rfl
  · obtain ⟨kd, hkd⟩ : ∃ kd : Int, kd = 2 + (c : Int) % 5 := ⟨_, rfl⟩
    have hx : eventF n l = (Ev.zero kd p, 2) := by simp only [eventF, ← hcq, hpq, hqq, hkd]; rw [if_neg k1, if_neg k4, if_neg k0, if_neg k2]
    rw [hx]; simp only []
    have hf0 : 0 ≤ 192 + (kd + 1) % 5 := by omega
    have hf1 : 192 + (kd + 1) % 5 < 256 := by omega
    refine ⟨[toByte (192 + (kd + 1) % 5), toByte p], ?_, rfl, fun rest => ?_⟩
    · simp only [eventW, Ev.zero]
      have d0 : ¬ (kd < 1 ∨ 6 < kd) := by omega
      have d1 : ¬ kd = 1 := by omega
      have d2 : ¬ kd = 2 := by omega
      have d3 : ¬ kd = 3 := by omega
      have d6 : ¬ kd = 6 := by omega
      simp [d0, d1, d2, d3, d6, put_ok hf0 hf1, put_ok p0 p1, blankOf]
    · have e1 := hd_toByte hf0 hf1 (toByte p :: rest)
      have e2 := hd_toByte p0 (by omega) rest
      simp only [List.cons_append, List.nil_append, eventF, List.drop_succ_cons, List.drop_zero, e2]
      rw [if_neg (by omega), if_neg (by omega), if_neg (by omega), if_neg (by omega), hpp p p0 p1]
      simp only [e1]
      rw [show 2 + (192 + (kd + 1) % 5) % 5 = kd from by omega]; rfl

theorem opF_le81 (l : List UInt8) : (opF l).2 ≤ 81 := by
  obtain ⟨h1, h2, h3, h4⟩ := opF_shape l
  have hg := opF_good l
  have he : ((opF l).1.edits.map elen).sum ≤ 18 := by
    have h5 := hg.edits
    generalize (opF l).1.edits = es at h5
    have : ∀ es : List Edit, (∀ e ∈ es, GoodEdit e) → (es.map elen).sum ≤ 6 * es.length := by
      intro es
      induction es with
      | nil => intro _; simp
      | cons e es ih =>
        intro h
        have := ih fun x hx => h x (by simp [hx])
        have h6 : elen e ≤ 6 := by
          unfold elen
          rcases h e (by simp) with ⟨_, _, _, h7, _⟩ | ⟨h7, _⟩
          · split <;> omega
          · rw [if_neg (by omega)]; omega
        simp only [List.map_cons, List.sum_cons, List.length_cons]; omega
    have := this es h5.2
    omega
  have ht := hg.text.1
  have hp : ∀ c, plen (opF l).1 c ≤ 20 := fun c => by
    unfold plen
    split
    · omega
    · split <;> omega
  have hs : ∀ ps : List UInt8, (ps.map (plen (opF l).1)).sum ≤ 20 * ps.length := by
    intro ps
    induction ps with
    | nil => simp
    | cons c ps ih => have := hp c; simp only [List.map_cons, List.sum_cons, List.length_cons]; omega
  have hl : ∀ k : Fin 19, (partsF k.val).length ≤ 4 := by decide
  have h6 := hs (partsF (opKind l))
  have h7 := hl ⟨opKind l, by unfold opKind; omega⟩
  simp only at h7
  omega
theorem eventF_le83 (n : Nat) (l : List UInt8) : (eventF n l).2 ≤ 83 := by
  have := opF_le81 (l.drop 2)
  unfold eventF; dsimp only; repeat' split
  all_goals simp only []
  all_goals omega
theorem events_rt (n : Nat) (h1 : 1 ≤ n) (h2 : n ≤ 64) : ∀ (m : Nat) (l b : List UInt8), ∃ e, (eventsF n m l).foldl (eventW (n : Int)) (b, false) = (b ++ e, false) ∧ e.length ≤ l.length + 82 ∧ ∀ k, e.length ≤ k → eventsF n k e = eventsF n m l
  | 0, l, b => ⟨[], by simp [eventsF], by simp, fun k _ => by cases k <;> simp [eventsF]⟩
  | m + 1, l, b => by
    by_cases hl : l = []
    · subst hl
      exact ⟨[], by simp [eventsF], by simp, fun k _ => by cases k <;> simp [eventsF]⟩
    · obtain ⟨e1, r1, r2, r3⟩ := event_rt n h1 h2 l b
      obtain ⟨e2, s1, s2, s3⟩ := events_rt n h1 h2 m (l.drop (eventF n l).2) (b ++ e1)
      have hpos := eventF_pos n l
      have hle := eventF_le83 n l
      have hll : 1 ≤ l.length := by cases l with | nil => exact absurd rfl hl | cons a l => simp
      refine ⟨e1 ++ e2, ?_, ?_, fun k hk => ?_⟩
      · rw [eventsF, if_neg hl, List.foldl_cons, r1, s1]; simp
      · rw [List.length_drop] at s2
        by_cases hd : (eventF n l).2 ≤ l.length
        · simp; omega
        · have hnil : l.drop (eventF n l).2 = [] := List.drop_eq_nil_of_le (by omega)
          have he2 : e2 = [] := by
            rw [hnil] at s1
            have hz : eventsF n m [] = [] := by cases m <;> simp [eventsF]
            rw [hz] at s1
            simp at s1; exact s1
          rw [he2]; simp; omega
      · have hla : (e1 ++ e2).length = e1.length + e2.length := List.length_append
        have hne : e1 ++ e2 ≠ [] := by intro h; rw [h] at hla; simp at hla; omega
        obtain ⟨k', rfl⟩ : ∃ k', k = k' + 1 := ⟨k - 1, by omega⟩
        rw [eventsF, if_neg hne, r3 e2]
        simp only [List.drop_left]
        rw [s3 k' (by omega)]
        rw [eventsF, if_neg hl]

/-- THE LAW: what is read of at most 60000 bytes is written without a fault, in at most 65536 bytes, and read so again. -/
theorem read_write (l : List UInt8) (hl : l.length ≤ 60000) : ∃ bs, writeF (readF l).1 (readF l).2 = (bs, false) ∧ bs.length ≤ 65536 ∧ readF bs = readF l := by
  have ht : l.take 65536 = l := List.take_of_length_le (by omega)
  have a1 := hd_lt l
  have a2 := hd_lt (l.drop 1)
  have a3 := hd_lt (l.drop 2)
  have a4 := hd_lt (l.drop 3)
  obtain ⟨n, hn⟩ : ∃ n, n = 1 + hd l % 64 := ⟨_, rfl⟩
  have hni : (1 : Int) + (hd l : Int) % 64 = (n : Int) := by omega
  have hr : readF l = (⟨(n : Int), hd (l.drop 1), 16 * (1 + (hd (l.drop 2) : Int)), 1 + (hd (l.drop 3) : Int)⟩, eventsF n l.length (l.drop 4)) := by
    simp only [readF, ht, cfgF, hn]; rw [hni, hn]
  obtain ⟨e, r1, r2, r3⟩ := events_rt n (by omega) (by omega) l.length (l.drop 4) [toByte ((n : Int) - 1), toByte (hd (l.drop 1)), toByte (hd (l.drop 2)), toByte (hd (l.drop 3))]
  rw [List.length_drop] at r2
  refine ⟨[toByte ((n : Int) - 1), toByte (hd (l.drop 1)), toByte (hd (l.drop 2)), toByte (hd (l.drop 3))] ++ e, ?_, by simp; omega, ?_⟩
  · rw [hr]
    simp only [writeF]
    rw [put_ok (by omega) (by omega), number_ok (by omega)]
    rw [show (16 * (1 + (hd (l.drop 2) : Int))).tdiv 16 - 1 = hd (l.drop 2) from by rw [Int.mul_tdiv_cancel_left _ (by decide)]; omega]
    rw [put_ok (by omega) (by omega), show (1 : Int) + (hd (l.drop 3) : Int) - 1 = hd (l.drop 3) from by omega, put_ok (by omega) (by omega)]
    rw [show (16 * (1 + (hd (l.drop 2) : Int))).tmod 16 = 0 from by rw [Int.mul_tmod_right]]
    simpa using r1
  · have hlen : ([toByte ((n : Int) - 1), toByte (hd (l.drop 1)), toByte (hd (l.drop 2)), toByte (hd (l.drop 3))] ++ e).length ≤ 65536 := by simp; omega
    have e1 := hd_toByte (n := (n : Int) - 1) (by omega) (by omega) ([toByte (hd (l.drop 1)), toByte (hd (l.drop 2)), toByte (hd (l.drop 3))] ++ e)
    have e2 := hd_toByte (n := (hd (l.drop 1) : Int)) (by omega) (by omega) ([toByte (hd (l.drop 2)), toByte (hd (l.drop 3))] ++ e)
    have e3 := hd_toByte (n := (hd (l.drop 2) : Int)) (by omega) (by omega) ([toByte (hd (l.drop 3))] ++ e)
    have e4 := hd_toByte (n := (hd (l.drop 3) : Int)) (by omega) (by omega) e
    rw [hr]
    simp only [List.cons_append, List.nil_append] at hlen e1 e2 e3 e4 ⊢
    unfold readF
    rw [List.take_of_length_le hlen]
    simp only [cfgF, List.drop_succ_cons, List.drop_zero]
    rw [show 1 + (hd (toByte ((n : Int) - 1) :: toByte (hd (l.drop 1)) :: toByte (hd (l.drop 2)) :: toByte (hd (l.drop 3)) :: e) : Int) % 64 = n from by omega, e2, e3, e4]
    rw [show 1 + hd (toByte ((n : Int) - 1) :: toByte (hd (l.drop 1)) :: toByte (hd (l.drop 2)) :: toByte (hd (l.drop 3)) :: e) % 64 = n from by omega]
    rw [r3 _ (by simp; omega)]
end Go.Proofs.Ytlhpcgmbbeihiaa
