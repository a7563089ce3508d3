/-
  WHAT A SCRIPT'S BYTES SAY, as plain functions on lists of bytes: each hands back the value and how many bytes it took. No program in sight.
-/
import Derived.Test.YtlhpcgmbbeihiaaBase
namespace Go.Proofs.Ytlhpcgmbbeihiaa

/-- An edit. -/
structure Edit where
  kind : Int
  n : Int
  text : List UInt8
deriving DecidableEq
/-- An operation. -/
structure Oper' where
  kind : Int
  doc : Int
  name : List UInt8
  to : List UInt8
  text : List UInt8
  edits : List Edit
  epoch : Int
  version : Int
  dur : Int
deriving DecidableEq
/-- An event. -/
structure Ev where
  kind : Int
  proc : Int
  op : Oper'
  by_ : Int
  ops : Int
  keep : List Bool
deriving DecidableEq
structure Cfg where
  n : Int
  slack : Int
  bytes : Int
  entries : Int
deriving DecidableEq

def Oper'.zero (kind : Int) : Oper' := ⟨kind, 0, [], [], [], [], 0, 0, 0⟩
def Ev.zero (kind proc : Int) : Ev := ⟨kind, proc, Oper'.zero 0, 0, 0, []⟩

/-- The next byte; 0 behind the end. -/
def hd (l : List UInt8) : Nat := (l.headD 0).toNat
theorem hd_lt (l : List UInt8) : hd l < 256 := UInt8.toNat_lt _
theorem hd_nil : hd [] = 0 := rfl
theorem hd_cons (c : UInt8) (l : List UInt8) : hd (c :: l) = c.toNat := rfl

/-- So many letters. -/
def lettersF : Nat → List UInt8 → List UInt8
  | 0, _ => []
  | n + 1, l => UInt8.ofNat (97 + hd l % 26) :: lettersF n (l.drop 1)
theorem lettersF_length (n : Nat) (l : List UInt8) : (lettersF n l).length = n := by
  induction n generalizing l with
  | zero => rfl
  | succ n ih => simp [lettersF, ih]
theorem lettersF_snoc (n : Nat) (l : List UInt8) : lettersF (n + 1) l = lettersF n l ++ [UInt8.ofNat (97 + hd (l.drop n) % 26)] := by
  induction n generalizing l with
  | zero => simp [lettersF]
  | succ n ih => rw [lettersF, ih, lettersF]; simp

def nameF (c : Nat) : List UInt8 := if c = 255 then [] else [UInt8.ofNat (97 + c % 6)]

/-- One edit, and how many bytes it took. -/
def editF (l : List UInt8) : Edit × Nat :=
  if hd l % 3 = 1 then (⟨1 + (hd l : Int) % 3, 0, lettersF (1 + hd (l.drop 1) % 4) (l.drop 2)⟩, 2 + (1 + hd (l.drop 1) % 4))
  else (⟨1 + (hd l : Int) % 3, 1 + (hd (l.drop 1) : Int) % 16, []⟩, 2)
/-- How many bytes so many edits take. -/
def editsN : Nat → List UInt8 → Nat
  | 0, _ => 0
  | k + 1, l => (editF l).2 + editsN k (l.drop (editF l).2)
def editsF : Nat → List UInt8 → List Edit
  | 0, _ => []
  | k + 1, l => (editF l).1 :: editsF k (l.drop (editF l).2)
theorem editsN_snoc (k : Nat) (l : List UInt8) : editsN (k + 1) l = editsN k l + (editF (l.drop (editsN k l))).2 := by
  induction k generalizing l with
  | zero => simp [editsN]
  | succ k ih => rw [editsN, ih, editsN, List.drop_drop]; omega
theorem editsF_snoc (k : Nat) (l : List UInt8) : editsF (k + 1) l = editsF k l ++ [(editF (l.drop (editsN k l))).1] := by
  induction k generalizing l with
  | zero => simp [editsN, editsF]
  | succ k ih => rw [editsF, ih, editsF, editsN, List.drop_drop]; simp
theorem editsF_length (k : Nat) (l : List UInt8) : (editsF k l).length = k := by
  induction k generalizing l with
  | zero => rfl
  | succ n ih => simp [editsF, ih]

/-- The parts that a kind of operations names. -/
def partsF (kind : Nat) : List UInt8 :=
  match kind with
  | 1 => [110] | 2 => [110] | 3 => [] | 4 => [110, 111] | 5 => [110] | 6 => [100, 117] | 7 => [100, 112, 117] | 8 => [100, 112] | 9 => [100, 112, 116]
  | 10 => [100, 112, 118, 101] | 11 => [100] | 12 => [100, 118] | 13 => [100, 118, 117] | 14 => [100, 118] | 15 => [100, 112] | 16 => [100] | 17 => [100]
  | _ => []

/-- One part: the operation so far, and how many bytes have been taken. -/
def partF (l : List UInt8) (x : Oper' × Nat) (c : UInt8) : Oper' × Nat :=
  let (o, n) := x
  let h := hd (l.drop n)
  if c = 100 then ({ o with doc := (h : Int) % 4 }, n + 1)
  else if c = 110 then ({ o with name := nameF h }, n + 1)
  else if c = 111 then ({ o with to := nameF h }, n + 1)
  else if c = 116 then ({ o with text := lettersF (h % 16) (l.drop (n + 1)) }, n + 1 + h % 16)
  else if c = 101 then ({ o with edits := editsF (h % 4) (l.drop (n + 1)) }, n + 1 + editsN (h % 4) (l.drop (n + 1)))
  else if c = 112 then ({ o with epoch := (h : Int) % 32 }, n + 1)
  else if c = 118 then ({ o with version := (h : Int) % 32 }, n + 1)
  else ({ o with dur := h }, n + 1)
def opKind (l : List UInt8) : Nat := 1 + hd l % 17
def opF (l : List UInt8) : Oper' × Nat := (partsF (opKind l)).foldl (partF l) (Oper'.zero (1 + (hd l : Int) % 17), 1)

/-- The 8 that stay. -/
def bitsF : Nat → Nat → List Bool
  | 0, _ => []
  | k + 1, n => (n % 2 == 1) :: bitsF k (n / 2)
/-- One event, of n processes. -/
def eventF (n : Nat) (l : List UInt8) : Ev × Nat :=
  let c := hd l
  if c < 192 then (Ev.zero 1 ((c : Int) % n), 1)
  else if c % 5 = 4 then ({ Ev.zero 6 0 with ops := hd (l.drop 1), keep := bitsF 8 (hd (l.drop 2)) }, 3)
  else if c % 5 = 0 then ({ Ev.zero 2 ((hd (l.drop 1) : Int) % n) with op := (opF (l.drop 2)).1 }, 2 + (opF (l.drop 2)).2)
  else if c % 5 = 1 then ({ Ev.zero 3 ((hd (l.drop 1) : Int) % n) with by_ := hd (l.drop 2) }, 3)
  else (Ev.zero (2 + (c : Int) % 5) ((hd (l.drop 1) : Int) % n), 2)
theorem eventF_pos (n : Nat) (l : List UInt8) : 1 ≤ (eventF n l).2 := by
  unfold eventF; dsimp only; repeat' split
  all_goals omega
/-- Events, by at most so many rounds. -/
def eventsF (n : Nat) : Nat → List UInt8 → List Ev
  | 0, _ => []
  | k + 1, l => if l = [] then [] else (eventF n l).1 :: eventsF n k (l.drop (eventF n l).2)
def cfgF (l : List UInt8) : Cfg := ⟨1 + (hd l : Int) % 64, hd (l.drop 1), 16 * (1 + (hd (l.drop 2) : Int)), 1 + (hd (l.drop 3) : Int)⟩
def readF (l : List UInt8) : Cfg × List Ev := (cfgF (l.take 65536), eventsF (1 + hd (l.take 65536) % 64) (l.take 65536).length ((l.take 65536).drop 4))

end Go.Proofs.Ytlhpcgmbbeihiaa
