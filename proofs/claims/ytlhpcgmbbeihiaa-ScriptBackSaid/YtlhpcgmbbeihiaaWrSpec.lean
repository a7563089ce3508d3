/-
  WHAT THE WRITER WRITES, as plain functions: a state is the bytes so far and whether something was amiss. No program in sight.
-/
import Derived.Test.YtlhpcgmbbeihiaaScriptSpec
namespace Go.Proofs.Ytlhpcgmbbeihiaa

abbrev WSt := List UInt8 × Bool
def toByte (n : Int) : UInt8 := UInt8.ofNat (n % 256).toNat
theorem toByte_nat (n : Int) : ((toByte n).toNat : Int) = n % 256 := by
  have h1 : 0 ≤ n % 256 := Int.emod_nonneg _ (by decide)
  have h2 : n % 256 < 256 := Int.emod_lt_of_pos _ (by decide)
  obtain ⟨m, hm⟩ := Int.eq_ofNat_of_zero_le h1
  rw [toByte, UInt8.toNat_ofNat', hm, Int.toNat_natCast]
  rw [hm] at h2
  rw [Nat.mod_eq_of_lt (by omega)]
def putF (n bound : Int) (s : WSt) : WSt := (s.1 ++ [toByte n], s.2 || decide (n < 0) || decide (bound ≤ n))
def numberF (n bound : Int) (s : WSt) : WSt := (s.1 ++ [toByte n], s.2 || decide (bound ≤ n))
def lettersW (many : Int) (t : List UInt8) (s : WSt) : WSt := t.foldl (fun s c => putF ((c.toNat : Int) - 97) many s) s
def nameW (t : List UInt8) (s : WSt) : WSt := if t.length = 0 then putF 255 256 s else if t.length = 1 then lettersW 6 t s else (s.1, true)
theorem lettersW_len (many : Int) (t : List UInt8) : ∀ s : WSt, (lettersW many t s).1.length = s.1.length + t.length := by
  induction t with
  | nil => intro s; simp [lettersW]
  | cons c t ih => intro s; have := ih (putF ((c.toNat : Int) - 97) many s); simp only [lettersW, List.foldl_cons] at this ⊢; rw [this]; simp [putF]; omega
theorem lettersW_snoc (many : Int) (t : List UInt8) (c : UInt8) (s : WSt) : lettersW many (t ++ [c]) s = putF ((c.toNat : Int) - 97) many (lettersW many t s) := by
  simp [lettersW, List.foldl_append]

def editRight (e : Edit) : Bool := if e.kind = 1 ∨ e.kind = 3 then decide (0 < e.n) && decide (e.n ≤ 2147483647) && e.text.isEmpty else if e.kind = 2 then decide (e.n = 0) && !e.text.isEmpty else false
def deltaRight (l : List Edit) : Bool := l.all editRight
def editW (s : WSt) (x : Edit) : WSt := if x.kind = 2 then lettersW 26 x.text (putF ((x.text.length : Int) - 1) 4 (putF (x.kind - 1) 3 s)) else putF (x.n - 1) 16 (putF (x.kind - 1) 3 s)
def editsW (l : List Edit) (s : WSt) : WSt := l.foldl editW (putF (l.length : Int) 4 (s.1, s.2 || !deltaRight l))
/-- Is a part blank? -/
def blankPart (o : Oper') (c : UInt8) : Bool :=
  if c = 100 then decide (o.doc = 0) else if c = 110 then o.name.isEmpty else if c = 111 then o.to.isEmpty else if c = 116 then o.text.isEmpty
  else if c = 101 then o.edits.isEmpty else if c = 112 then decide (o.epoch = 0) else if c = 118 then decide (o.version = 0) else decide (o.dur = 0)
def allParts : List UInt8 := [100, 110, 111, 116, 101, 112, 118, 117]
def opRight (o : Oper') : Bool := decide (1 ≤ o.kind) && decide (o.kind ≤ 17) && deltaRight o.edits && allParts.all (fun c => blankPart o c || (partsF o.kind.toNat).contains c)
def partW (o : Oper') (s : WSt) (c : UInt8) : WSt :=
  if c = 100 then numberF o.doc 4 s else if c = 110 then nameW o.name s else if c = 111 then nameW o.to s
  else if c = 116 then lettersW 26 o.text (putF (o.text.length : Int) 16 s) else if c = 101 then editsW o.edits s
  else if c = 112 then numberF o.epoch 32 s else if c = 118 then numberF o.version 32 s else numberF o.dur 256 s
def opW (o : Oper') (s : WSt) : WSt := if s.2 || !opRight o then (s.1, true) else (partsF o.kind.toNat).foldl (partW o) (putF (o.kind - 1) 17 (s.1, false))
/-- The number of the bits that stay. -/
def bitsN : List Bool → Nat → Nat
  | [], _ => 0
  | b :: l, i => (if b then 2 ^ (min i 8) else 0) ||| bitsN l (i + 1)
def blankOf (x : Ev) : Ev :=
  if x.kind = 2 then ⟨x.kind, x.proc, x.op, 0, 0, []⟩ else if x.kind = 3 then ⟨x.kind, x.proc, Oper'.zero 0, x.by_, 0, []⟩
  else if x.kind = 6 then ⟨x.kind, 0, Oper'.zero 0, 0, x.ops, x.keep⟩ else ⟨x.kind, x.proc, Oper'.zero 0, 0, 0, []⟩
def eventW (n : Int) (s : WSt) (x : Ev) : WSt :=
  if x.kind < 1 ∨ 6 < x.kind then (s.1, true) else
  let s1 := if x.kind = 1 then s else putF (192 + (x.kind + 1) % 5) 256 s
  let s2 := if x.kind = 6 then s1 else putF x.proc n s1
  let s3 := if x.kind = 2 then opW x.op s2 else if x.kind = 3 then numberF x.by_ 256 s2
    else if x.kind = 6 then (let s4 := putF x.ops 256 s2; putF (bitsN x.keep 0 : Nat) 256 (s4.1, s4.2 || decide (x.keep.length ≠ 8))) else s2
  (s3.1, s3.2 || decide (x ≠ blankOf x))
def writeF (c : Cfg) (l : List Ev) : WSt :=
  let s := putF (c.entries - 1) 256 (putF (c.bytes.tdiv 16 - 1) 256 (numberF c.slack 256 (putF (c.n - 1) 64 ([], false))))
  l.foldl (eventW c.n) (s.1, s.2 || decide (c.bytes.tmod 16 ≠ 0))
end Go.Proofs.Ytlhpcgmbbeihiaa
