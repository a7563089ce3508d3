/-
  CONTRACTS of the writer's small methods: put, number, letters, name.
  CONTRACTS of the writer's methods letters, name.
-/
import Derived.Test.YtlhpcgmbbeihiaaGRt
import Derived.Test.YtlhpcgmbbeihiaaGBase
import Derived.Test.YtlhpcgmbbeihiaaScriptRd7
import Derived.Test.YtlhpcgmbbeihiaaRef29c
namespace Go.Proofs.Ytlhpcgmbbeihiaa
open Go.RowKit

/-- What a writer at block r may turn: its own block, and blocks of bytes from B on. -/
def WS (B r : Nat) (w : World) : Nat → Prop := fun k => k = r ∨ (B ≤ k ∧ ∃ cur, w.heap[k]? = some (.cells cur 5 (0, 0)))
theorem WS.trans {B r : Nat} {w w1 w2 : World} (h : Upd (WS B r w) w w1) (k : Upd (WS B r w1) w1 w2) : Upd (WS B r w) w w2 :=
  ⟨k.os.trans h.os, k.tape.trans h.tape, k.output.trans h.output, Nat.le_trans h.size k.size, fun i hi hs => by
    have e1 := h.block i hi hs
    refine (k.block i (Nat.lt_of_lt_of_le hi h.size) fun ht => hs ?_).trans e1
    rcases ht with ht | ⟨h1, cur, h2⟩
    · exact .inl ht
    · exact .inr ⟨h1, cur, e1 ▸ h2⟩⟩
theorem WS.ext {B r : Nat} {w w1 w2 : World} (h : Ext w w1) (k : Upd (WS B r w1) w1 w2) : Upd (WS B r w) w w2 := WS.trans (h.mono (fun _ _ e => e.elim)) k
theorem WS.low {B r : Nat} {w w1 : World} {b : Nat} (h : Upd (WS B r w) w w1) (hr : B ≤ r) (hb : b ≤ B) : Upd (From b) w w1 := h.mono fun k _ hk => by
  unfold From; rcases hk with rfl | ⟨h, _⟩ <;> omega
/-- A block of another type stands as it stood. -/
theorem WS.at_ {B r : Nat} {w w1 : World} {k : Nat} {cs : Array Value} {T : TypeId} {fr : Nat × Nat} (h : Upd (WS B r w) w w1) (hk : w.heap[k]? = some (.cells cs T fr)) (hT : T ≠ 5) (hr : k ≠ r) : w1.heap[k]? = some (.cells cs T fr) :=
  h.at_ hk fun e => by
    rcases e with e | ⟨_, cur, e⟩
    · exact hr e
    · exact tag_ne hk hT e
/-- A row below B stands as it stood. -/
theorem WS.row {B r : Nat} {w w1 : World} {v : Value} {n : Nat} {cs : List Value} (h : Upd (WS B r w) w w1) (hr : B ≤ r) (hv : Row (Till B) w v n cs) : Row (Till B) w1 v n cs :=
  hv.upd h fun k hk e => by
    unfold Till at hk
    rcases e with e | ⟨e, _⟩ <;> omega

/-- A writer: its block; the bytes its own. -/
def Writer (B : Nat) (w : World) (r : Nat) (s : WSt) : Prop :=
  B ≤ r ∧ B ≤ w.heap.size ∧ ∃ v, w.heap[r]? = some (.cells #[v, .bool s.2] 81 (0, 0)) ∧ w.ownsRow B 5 1 v s.1.length (s.1.map u8)
theorem Writer.lt {B : Nat} {w : World} {r : Nat} {s : WSt} (h : Writer B w r s) : r < w.heap.size := by obtain ⟨_, _, v, h, _⟩ := h; exact lt_of_heap h
theorem Writer.ext {B : Nat} {w w1 : World} {r : Nat} {s : WSt} (h : Writer B w r s) (hu : Ext w w1) : Writer B w1 r s := by
  obtain ⟨h0, h1, v, h2, h3⟩ := h
  exact ⟨h0, Nat.le_trans h1 hu.size, v, hu.at_ h2 id, hu.ownsRow h3 (fun _ _ e => e)⟩
/-- 'bad' is turned. -/
theorem Writer.bad {B : Nat} {w : World} {r : Nat} {s : WSt} (h : Writer B w r s) (b : Bool) : Writer B (w.setCell ⟨r, 1, none⟩ (.bool b)) r (s.1, b) ∧ Upd (WS B r w) w (w.setCell ⟨r, 1, none⟩ (.bool b)) := by
  obtain ⟨h0, h1, v, h2, h3⟩ := h
  have hu := Upd.own w r 1 (.bool b)
  exact ⟨⟨h0, by simpa [World.setCell] using h1, v, setAt h2, hu.ownsT h3 (fun k cur hk => by cases hk; exact tag_ne h2 (by decide))⟩, hu.mono (fun k _ hk => .inl hk)⟩
/-- A byte is appended to what the writer holds. -/
theorem Writer.grew {B : Nat} {w w3 : World} {r : Nat} {s : WSt} {v v' : Value} {ob : Obj} {c : UInt8} (h0 : B ≤ r) (h1 : B ≤ w.heap.size) (h2 : w.heap[r]? = some (.cells #[v, .bool s.2] 81 (0, 0))) (h3 : w.ownsRow B 5 1 v s.1.length (s.1.map u8))
    (hown : w3.ownsRow B 5 1 v' (s.1.length + 1) (s.1.map u8 ++ [u8 c])) (hg : (w.alloc ob).grownBy w3 v.ownBlock) :
    Writer B (w3.setCell ⟨r, 0, none⟩ v') r (s.1 ++ [c], s.2) ∧ Upd (WS B r w) w (w3.setCell ⟨r, 0, none⟩ v') := by
  have hal : Ext w (w.alloc ob) := (Upd.refl _ _).alloc _
  have hS : ∀ k, v.ownBlock = some k → WS B r w k := fun k hk => .inr ⟨by have := (h3.lt k hk); omega, owns_tag h3 hk⟩
  have hu3 : Upd (WS B r w) w w3 := (hal.mono (fun _ _ e => e.elim)).step (grownUpd hg) (fun k _ hk => hS k hk)
  have h23 : w3.heap[r]? = some (.cells #[v, .bool s.2] 81 (0, 0)) := (grownUpd hg).at_ (hal.at_ h2 id) (fun e => by obtain ⟨cur, hc⟩ := owns_tag h3 e; exact tag_ne h2 (by decide) hc)
  have hu4 := Upd.own w3 r 0 v'
  refine ⟨⟨h0, by have := hu3.size; have := hu4.size; omega, v', setAt h23, ?_⟩, hu3.step hu4 (fun k _ hk => .inl hk)⟩
  have := hu4.ownsT hown (fun k cur hk => by cases hk; exact tag_ne h23 (by decide))
  simpa using this

theorem Try.u8T : SliceT Try.prog 22 5 1 1 := Try.bytesT

set_option maxRecDepth 100000 in
set_option maxHeartbeats 1000000 in
theorem put_any {B : Nat} (w : World) (r : Nat) (n bound : Int) (s : WSt) (h : Writer B w r s) (hl : s.1.length < 70368744177664) :
    Calls Try.prog 34 #[.pointer (some ⟨r, 0, none⟩), .int .i64 n, .int .i64 bound] w fun e w' => e = .returned (.tuple #[]) ∧ Writer B w' r (putF n bound s) ∧ Upd (WS B r w) w w' := by
  have hb := h.bad
  obtain ⟨bs, bad⟩ := s
  obtain ⟨h0, h1, v, h2, h3⟩ := h
  have y0 := cellAt h2 0 v rfl
  have y1 := cellAt h2 1 (.bool bad) rfl
  have f1 := freeAt h2 1
  have HB := Lib.hid hb
  have H2 := Lib.hid h2
  have OWN := Lib.hid (show ∀ b : Bool, (w.setCell ⟨r, 1, none⟩ (.bool b)).ownsRow B 5 1 v bs.length (bs.map u8) from fun b => (Upd.own w r 1 (.bool b)).ownsT h3 (fun k cur hk => by cases hk; exact tag_ne h2 (by decide)))
  have NE := Lib.hid (show ∀ k, v.ownBlock = some k → ¬ k = r from fun k hk e => by subst e; obtain ⟨cur, hc⟩ := owns_tag h3 hk; exact tag_ne h2 (by decide) hc)
  dsimp only at hl
  clear h2 h3 hb
  go_enter Try.func34, Try.ntmps34
  cases bad
  · by_cases hn : n < 0
    · have hd : decide (n < 0) = true := by simpa using hn
      have y1' := y1
      go_wp2_with (at_builtin; go_must (refine wpList_append_row rfl _ _ _ rfl Try.u8T rfl ((OWN.out true).alloc _) rfl (row_new _ _ _ 1 _ (by decide) (by simp [World.setCell])) rfl (by intro u hu; simp at hu; subst hu; rfl) ?k3 ?k4 ?k5 ?_))
      case k3 => unfold maxLen; omega
      case k4 => omega
      case k5 => omega
      intro v' w3 hown3 hg3 _
      obtain ⟨va, vn, vc, rfl⟩ := ownsForm hown3
      rw [show (.int .u8 (n % 256) : Value) = u8 (toByte n) from by rw [u8, toByte_nat]] at hown3 hg3
      obtain ⟨hW, hU⟩ := Writer.grew (s := (bs, true)) h0 (by simpa [World.setCell] using h1) (setAt H2.out) (OWN.out true) hown3 hg3
      have hb3 := (grownUpd hg3).at_ (((Upd.refl Nothing _).alloc _).at_ (setAt (j := 1) (u := .bool true) H2.out) id) (fun e => NE.out _ e rfl)
      have z0 := cellAt hb3 0 v rfl
      have g0 := freeAt hb3 0
      have HW := Lib.hid hW
      have HU := Lib.hid (WS.trans (HB.out true).2 hU)
      clear hW hU hb3 hg3 hown3
      go_wp2
      go_end0
      rw [show putF n bound (bs, false) = (bs ++ [toByte n], true) from by simp [putF, hn]]
      exact ⟨rfl, HW.out, HU.out⟩
    · have hd : decide (n < 0) = false := by simpa using hn
      by_cases hq : bound ≤ n
      · have hd2 : decide (bound ≤ n) = true := by simpa using hq
        have y1' := y1
        go_wp2_with (at_builtin; go_must (refine wpList_append_row rfl _ _ _ rfl Try.u8T rfl ((OWN.out true).alloc _) rfl (row_new _ _ _ 1 _ (by decide) (by simp [World.setCell])) rfl (by intro u hu; simp at hu; subst hu; rfl) ?k3 ?k4 ?k5 ?_))
        case k3 => unfold maxLen; omega
        case k4 => omega
        case k5 => omega
        intro v' w3 hown3 hg3 _
        obtain ⟨va, vn, vc, rfl⟩ := ownsForm hown3
        rw [show (.int .u8 (n % 256) : Value) = u8 (toByte n) from by rw [u8, toByte_nat]] at hown3 hg3
        obtain ⟨hW, hU⟩ := Writer.grew (s := (bs, true)) h0 (by simpa [World.setCell] using h1) (setAt H2.out) (OWN.out true) hown3 hg3
        have hb3 := (grownUpd hg3).at_ (((Upd.refl Nothing _).alloc _).at_ (setAt (j := 1) (u := .bool true) H2.out) id) (fun e => NE.out _ e rfl)
        have z0 := cellAt hb3 0 v rfl
        have g0 := freeAt hb3 0
        have HW := Lib.hid hW
        have HU := Lib.hid (WS.trans (HB.out true).2 hU)
        clear hW hU hb3 hg3 hown3
        go_wp2
        go_end0
        rw [show putF n bound (bs, false) = (bs ++ [toByte n], true) from by simp [putF, hq]]
        exact ⟨rfl, HW.out, HU.out⟩
      · have hd2 : decide (bound ≤ n) = false := by simpa using hq
        have y1' := y1
        go_wp2_with (at_builtin; go_must (refine wpList_append_row rfl _ _ _ rfl Try.u8T rfl ((OWN.out false).alloc _) rfl (row_new _ _ _ 1 _ (by decide) (by simp [World.setCell])) rfl (by intro u hu; simp at hu; subst hu; rfl) ?k3 ?k4 ?k5 ?_))
        case k3 => unfold maxLen; omega
        case k4 => omega
        case k5 => omega
        intro v' w3 hown3 hg3 _
        obtain ⟨va, vn, vc, rfl⟩ := ownsForm hown3
        rw [show (.int .u8 (n % 256) : Value) = u8 (toByte n) from by rw [u8, toByte_nat]] at hown3 hg3
        obtain ⟨hW, hU⟩ := Writer.grew (s := (bs, false)) h0 (by simpa [World.setCell] using h1) (setAt H2.out) (OWN.out false) hown3 hg3
        have hb3 := (grownUpd hg3).at_ (((Upd.refl Nothing _).alloc _).at_ (setAt (j := 1) (u := .bool false) H2.out) id) (fun e => NE.out _ e rfl)
        have z0 := cellAt hb3 0 v rfl
        have g0 := freeAt hb3 0
        have HW := Lib.hid hW
        have HU := Lib.hid (WS.trans (HB.out false).2 hU)
        clear hW hU hb3 hg3 hown3
        go_wp2
        go_end0
        rw [show putF n bound (bs, false) = (bs ++ [toByte n], false) from by simp [putF, hq, hn]]
        exact ⟨rfl, HW.out, HU.out⟩
  · skip
    have y1' := y1
    go_wp2_with (at_builtin; go_must (refine wpList_append_row rfl _ _ _ rfl Try.u8T rfl ((OWN.out true).alloc _) rfl (row_new _ _ _ 1 _ (by decide) (by simp [World.setCell])) rfl (by intro u hu; simp at hu; subst hu; rfl) ?k3 ?k4 ?k5 ?_))
    case k3 => unfold maxLen; omega
    case k4 => omega
    case k5 => omega
    intro v' w3 hown3 hg3 _
    obtain ⟨va, vn, vc, rfl⟩ := ownsForm hown3
    rw [show (.int .u8 (n % 256) : Value) = u8 (toByte n) from by rw [u8, toByte_nat]] at hown3 hg3
    obtain ⟨hW, hU⟩ := Writer.grew (s := (bs, true)) h0 (by simpa [World.setCell] using h1) (setAt H2.out) (OWN.out true) hown3 hg3
    have hb3 := (grownUpd hg3).at_ (((Upd.refl Nothing _).alloc _).at_ (setAt (j := 1) (u := .bool true) H2.out) id) (fun e => NE.out _ e rfl)
    have z0 := cellAt hb3 0 v rfl
    have g0 := freeAt hb3 0
    have HW := Lib.hid hW
    have HU := Lib.hid (WS.trans (HB.out true).2 hU)
    clear hW hU hb3 hg3 hown3
    go_wp2
    go_end0
    rw [show putF n bound (bs, true) = (bs ++ [toByte n], true) from by simp [putF]]
    exact ⟨rfl, HW.out, HU.out⟩

set_option maxRecDepth 100000 in
set_option maxHeartbeats 1000000 in
theorem number_any {B : Nat} (w : World) (r : Nat) (n bound : Int) (s : WSt) (h : Writer B w r s) (hl : s.1.length < 70368744177664) :
    Calls Try.prog 35 #[.pointer (some ⟨r, 0, none⟩), .int .u64 n, .int .u64 bound] w fun e w' => e = .returned (.tuple #[]) ∧ Writer B w' r (numberF n bound s) ∧ Upd (WS B r w) w w' := by
  have hb := h.bad
  obtain ⟨bs, bad⟩ := s
  obtain ⟨h0, h1, v, h2, h3⟩ := h
  have y0 := cellAt h2 0 v rfl
  have y1 := cellAt h2 1 (.bool bad) rfl
  have f1 := freeAt h2 1
  have HB := Lib.hid hb
  have H2 := Lib.hid h2
  have OWN := Lib.hid (show ∀ b : Bool, (w.setCell ⟨r, 1, none⟩ (.bool b)).ownsRow B 5 1 v bs.length (bs.map u8) from fun b => (Upd.own w r 1 (.bool b)).ownsT h3 (fun k cur hk => by cases hk; exact tag_ne h2 (by decide)))
  have NE := Lib.hid (show ∀ k, v.ownBlock = some k → ¬ k = r from fun k hk e => by subst e; obtain ⟨cur, hc⟩ := owns_tag h3 hk; exact tag_ne h2 (by decide) hc)
  dsimp only at hl
  clear h2 h3 hb
  go_enter Try.func35, Try.ntmps35
  cases bad
  · by_cases hq : bound ≤ n
    · have hd2 : decide (bound ≤ n) = true := by simpa using hq
      have y1' := y1
      go_wp2_with (at_builtin; go_must (refine wpList_append_row rfl _ _ _ rfl Try.u8T rfl ((OWN.out true).alloc _) rfl (row_new _ _ _ 1 _ (by decide) (by simp [World.setCell])) rfl (by intro u hu; simp at hu; subst hu; rfl) ?k3 ?k4 ?k5 ?_))
      case k3 => unfold maxLen; omega
      case k4 => omega
      case k5 => omega
      intro v' w3 hown3 hg3 _
      obtain ⟨va, vn, vc, rfl⟩ := ownsForm hown3
      rw [show (.int .u8 (n % 256) : Value) = u8 (toByte n) from by rw [u8, toByte_nat]] at hown3 hg3
      obtain ⟨hW, hU⟩ := Writer.grew (s := (bs, true)) h0 (by simpa [World.setCell] using h1) (setAt H2.out) (OWN.out true) hown3 hg3
      have hb3 := (grownUpd hg3).at_ (((Upd.refl Nothing _).alloc _).at_ (setAt (j := 1) (u := .bool true) H2.out) id) (fun e => NE.out _ e rfl)
      have z0 := cellAt hb3 0 v rfl
      have g0 := freeAt hb3 0
      have HW := Lib.hid hW
      have HU := Lib.hid (WS.trans (HB.out true).2 hU)
      clear hW hU hb3 hg3 hown3
      go_wp2
      go_end0
      rw [show numberF n bound (bs, false) = (bs ++ [toByte n], true) from by simp [numberF, hq]]
      exact ⟨rfl, HW.out, HU.out⟩
    · have hd2 : decide (bound ≤ n) = false := by simpa using hq
      have y1' := y1
      go_wp2_with (at_builtin; go_must (refine wpList_append_row rfl _ _ _ rfl Try.u8T rfl ((OWN.out false).alloc _) rfl (row_new _ _ _ 1 _ (by decide) (by simp [World.setCell])) rfl (by intro u hu; simp at hu; subst hu; rfl) ?k3 ?k4 ?k5 ?_))
      case k3 => unfold maxLen; omega
      case k4 => omega
      case k5 => omega
      intro v' w3 hown3 hg3 _
      obtain ⟨va, vn, vc, rfl⟩ := ownsForm hown3
      rw [show (.int .u8 (n % 256) : Value) = u8 (toByte n) from by rw [u8, toByte_nat]] at hown3 hg3
      obtain ⟨hW, hU⟩ := Writer.grew (s := (bs, false)) h0 (by simpa [World.setCell] using h1) (setAt H2.out) (OWN.out false) hown3 hg3
      have hb3 := (grownUpd hg3).at_ (((Upd.refl Nothing _).alloc _).at_ (setAt (j := 1) (u := .bool false) H2.out) id) (fun e => NE.out _ e rfl)
      have z0 := cellAt hb3 0 v rfl
      have g0 := freeAt hb3 0
      have HW := Lib.hid hW
      have HU := Lib.hid (WS.trans (HB.out false).2 hU)
      clear hW hU hb3 hg3 hown3
      go_wp2
      go_end0
      rw [show numberF n bound (bs, false) = (bs ++ [toByte n], false) from by simp [numberF, hq]]
      exact ⟨rfl, HW.out, HU.out⟩
  · skip
    have y1' := y1
    go_wp2_with (at_builtin; go_must (refine wpList_append_row rfl _ _ _ rfl Try.u8T rfl ((OWN.out true).alloc _) rfl (row_new _ _ _ 1 _ (by decide) (by simp [World.setCell])) rfl (by intro u hu; simp at hu; subst hu; rfl) ?k3 ?k4 ?k5 ?_))
    case k3 => unfold maxLen; omega
    case k4 => omega
    case k5 => omega
    intro v' w3 hown3 hg3 _
    obtain ⟨va, vn, vc, rfl⟩ := ownsForm hown3
    rw [show (.int .u8 (n % 256) : Value) = u8 (toByte n) from by rw [u8, toByte_nat]] at hown3 hg3
    obtain ⟨hW, hU⟩ := Writer.grew (s := (bs, true)) h0 (by simpa [World.setCell] using h1) (setAt H2.out) (OWN.out true) hown3 hg3
    have hb3 := (grownUpd hg3).at_ (((Upd.refl Nothing _).alloc _).at_ (setAt (j := 1) (u := .bool true) H2.out) id) (fun e => NE.out _ e rfl)
    have z0 := cellAt hb3 0 v rfl
    have g0 := freeAt hb3 0
    have HW := Lib.hid hW
    have HU := Lib.hid (WS.trans (HB.out true).2 hU)
    clear hW hU hb3 hg3 hown3
    go_wp2
    go_end0
    rw [show numberF n bound (bs, true) = (bs ++ [toByte n], true) from by simp [numberF]]
    exact ⟨rfl, HW.out, HU.out⟩
end Go.Proofs.Ytlhpcgmbbeihiaa
namespace Go.Proofs.Ytlhpcgmbbeihiaa
open Go.RowKit

theorem WS.refl (B r : Nat) (w : World) : Upd (WS B r w) w w := Upd.refl _ _

set_option maxRecDepth 100000 in
set_option maxHeartbeats 1000000 in
theorem letters_any' {B : Nat} (w : World) (r : Nat) (t : List UInt8) (many : Int) (s : WSt) (h : Writer B w r s) (hl : s.1.length + t.length < 70368744177664) :
    Calls Try.prog 64 #[.pointer (some ⟨r, 0, none⟩), str t, .int .i64 many] w fun e w' => e = .returned (.tuple #[]) ∧ Writer B w' r (lettersW many t s) ∧ Upd (WS B r w) w w' := by
  have H := Lib.hid h
  clear h
  go_enter Try.func64, Try.ntmps64
  go_wp2
  go_loopw [9] (fun i wr => ∃ k : Nat, k ≤ t.length ∧ i = .int .i64 k ∧ Writer B wr r (lettersW many (t.take k) s) ∧ Upd (WS B r w) w wr) (fun i _ => t.length - (intOf i).toNat)
  case atStart => exact ⟨0, Nat.zero_le _, rfl, H.out, WS.refl _ _ _⟩
  case round =>
    obtain ⟨k, hk, rfl, hw, hu⟩ := hrel
    have HW := Lib.hid hw
    have HU := Lib.hid hu
    clear hw hu
    by_cases hlt : k < t.length
    · obtain ⟨m, hm⟩ : ∃ m : Int, m = t[k].toNat := ⟨_, rfl⟩
      have hm0 : 0 ≤ m := by omega
      have hm1 : m < 256 := by have := UInt8.toNat_lt t[k]; omega
      have hidx := run_index_str (P := Try.prog) Try.underlying9 (m := m) (List.getElem?_eq_getElem hlt) hm.symm
      have HM := Lib.hid hm
      have hll := lettersW_len many (t.take k) s
      rw [List.length_take] at hll
      have HLL := Lib.hid hll
      clear hm hll
      go_wp2_with (go_at_call 34; fail)
      refine (put_any _ r (m - 97) many _ HW.out (by have := HLL.out; omega)).mono ?_
      rintro e w2 ⟨rfl, hw2, hu2⟩
      have HW2 := Lib.hid hw2
      have HU2 := Lib.hid (WS.trans HU.out hu2)
      clear hw2 hu2
      go_wp2
      go_roundw
      case rel =>
        refine ⟨k + 1, by omega, by go_num, ?_, HU2.out⟩
        rw [List.take_succ_eq_append_getElem hlt, lettersW_snoc, ← HM.out]
        exact HW2.out
      case measure => simp [intOf]; omega
    · go_wp2
      go_end0
      have hkl : k = t.length := by omega
      rw [hkl, List.take_length] at HW
      exact ⟨rfl, HW.out, HU.out⟩

set_option maxRecDepth 100000 in
set_option maxHeartbeats 1000000 in
theorem name_any' {B : Nat} (w : World) (r : Nat) (t : List UInt8) (s : WSt) (h : Writer B w r s) (hl : s.1.length + t.length < 70368744177663) (ht : t.length < 70368744177664) :
    Calls Try.prog 63 #[.pointer (some ⟨r, 0, none⟩), str t] w fun e w' => e = .returned (.tuple #[]) ∧ Writer B w' r (nameW t s) ∧ Upd (WS B r w) w w' := by
  have hb := h.bad true
  have H := Lib.hid h
  have HB := Lib.hid hb
  obtain ⟨h0, h1, v, h2, h3⟩ := h
  have y1 := cellAt h2 1 (.bool s.2) rfl
  have f1 := freeAt h2 1
  clear h2 h3 hb
  go_enter Try.func63, Try.ntmps63
  by_cases h0' : t.length = 0
  · have hq : ((t.length : Int) == 0) = true := by simp [h0']
    have HQ := Lib.hid h0'
    clear h0'
    go_wp2_with (go_at_call 34; fail)
    refine (put_any _ r 255 256 _ H.out (by omega)).mono ?_
    rintro e w2 ⟨rfl, hw2, hu2⟩
    go_wp2
    go_end0
    exact ⟨rfl, by rw [nameW, if_pos HQ.out]; exact hw2, hu2⟩
  · have hq : ((t.length : Int) == 0) = false := by simpa using h0'
    by_cases h1' : t.length = 1
    · have hq1 : ((t.length : Int) == 1) = true := by simp [h1']
      have HQ := Lib.hid h0'
      have HQ1 := Lib.hid h1'
      clear h0' h1'
      go_wp2_with (go_at_call 64; fail)
      refine (letters_any' _ r t 6 _ H.out (by omega)).mono ?_
      rintro e w2 ⟨rfl, hw2, hu2⟩
      go_wp2
      go_end0
      exact ⟨rfl, by rw [nameW, if_neg HQ.out, if_pos HQ1.out]; exact hw2, hu2⟩
    · have hq1 : ((t.length : Int) == 1) = false := by simp; omega
      have HQ := Lib.hid h0'
      have HQ1 := Lib.hid h1'
      clear h0' h1'
      go_wp2
      go_end0
      exact ⟨rfl, by rw [nameW, if_neg HQ.out, if_neg HQ1.out]; exact HB.out.1, HB.out.2⟩
end Go.Proofs.Ytlhpcgmbbeihiaa
