/-
  CONTRACTS of the library's sort at []uint64, first part: cmp.Less, insertionSortOrdered. No condition beyond each one's own.
  CONTRACTS of the library's sort at []uint64, second part: siftDownOrdered, heapSortOrdered, reverseRangeOrdered. No condition beyond each one's own.
  CONTRACTS of the library's sort at []uint64, third part: heapSortOrdered, reverseRangeOrdered. No condition beyond each one's own.
-/
import Derived.Test.YtfpioijfocmfcaaGreatDoorProg
import Derived.WalkKit
import Derived.WalkSpells
import Derived.WalkLawsBesides
import Derived.Lib.Hide
import Derived.Deep.QuietTactic
import Derived.BigQuiet
import Derived.BigGuard
import Derived.BigCall
import Derived.CellFam
import Derived.Deep.Draws
import Derived.Deep.Cut
import Derived.Deep.LoopGhost
import Derived.Sort.Walk13a
import Derived.Sort.AssemblyPlain
import Derived.Deep.CutRange
namespace Go.Proofs.YtfpioijfocmfcaaGreatDoor
open Go.RowKit Go.Sort

abbrev U : Int → Value := Value.int .u64
def iof : Value → Int | .int _ q => q | _ => 0

section
variable {w wr : World} {blk off len : Nat} {d dk : Array Int}
/-- Two stores that exchange two cells. -/
theorem At.swaps (hH : Holds U w blk off d) (hb : blk < w.heap.size) (hl : len = d.size) (hs : dk.size = len) (h : At U w blk off dk wr) (q i j : Nat) (hi : i < len) (hj : j < len) :
    At U w blk off (swp dk i j) (((wr.drewN q).setCell ⟨blk, off + i, none⟩ (U dk[j]!)).setCell ⟨blk, off + j, none⟩ (U dk[i]!)) := by
  have h1 := h.ahead q
  obtain ⟨hh, hb1⟩ := h1.holds hH (hs.trans hl) hb
  refine h1.step hb (size_swp _ _ _) ⟨0, ?_⟩
  have e := putRow_swp U (Sort.ahead wr q) blk off dk i j (by omega) (by omega)
  rw [putRow_self U _ blk off dk hh] at e
  rw [ahead_zero]
  exact e
theorem At.cell (hH : Holds U w blk off d) (hb : blk < w.heap.size) (hl : len = d.size) (hs : dk.size = len) (h : At U w blk off dk wr) (t : Nat) (ht : t < len) : wr.cell? ⟨blk, off + t, none⟩ = some (.int .u64 dk[t]!) :=
  ((h.holds hH (hs.trans hl) hb).1 t (by omega)).1
theorem At.thaw (hH : Holds U w blk off d) (hb : blk < w.heap.size) (hl : len = d.size) (hs : dk.size = len) (h : At U w blk off dk wr) (t : Nat) (ht : t < len) : wr.frozen? ⟨blk, off + t, none⟩ = false :=
  ((h.holds hH (hs.trans hl) hb).1 t (by omega)).2
end

theorem isNaN_u (x : Int) (w : World) : Calls Tryz.prog 112 #[.int .u64 x] w fun e w' => e = .returned (.bool false) ∧ w' = w := by
  go_enter Tryz.func112, Tryz.ntmps112
  go_wp2
  go_ret
  exact ⟨by simp, rfl⟩
theorem less_u (x y : Int) (w : World) : Calls Tryz.prog 84 #[.int .u64 x, .int .u64 y] w fun e w' => e = .returned (.bool (ltInt x y)) ∧ w' = w := by
  go_enter Tryz.func84, Tryz.ntmps84
  go_wp2_with (go_at_call 112; refine (isNaN_u _ _).mono ?_; rintro e w' ⟨rfl, rfl⟩)
  go_ret
  exact ⟨rfl, rfl⟩

/-! insertionSort: what a round does -/
theorem inner_go (a j : Nat) (d : Array Int) (h : a < j) (hl : ltInt d[j]! d[j - 1]! = true) : insInner ltInt a j d = insInner ltInt a (j - 1) (swp d j (j - 1)) := by
  cases j with
  | zero => omega
  | succ k => simp [insInner, show k + 1 > a from h, show ltInt d[k + 1]! d[k]! = true from hl]
theorem inner_end (a j : Nat) (d : Array Int) (h : j ≤ a ∨ ltInt d[j]! d[j - 1]! = false) : insInner ltInt a j d = d := by
  cases j with
  | zero => simp [insInner]
  | succ k =>
    rcases h with h | h
    · simp [insInner, show ¬ k + 1 > a by omega]
    · simp [insInner, show ltInt d[k + 1]! d[k]! = false from h]

set_option maxRecDepth 100000 in
set_option maxHeartbeats 8000000 in
theorem ins_u (blk off cap a b : Nat) (d : Array Int) (w : World) (hH : Holds U w blk off d) (hblk : blk < w.heap.size) (hab : a ≤ b) (hb : b ≤ d.size) (hsz : d.size < 1000000000) :
    Calls Tryz.prog 78 #[.slice (some ⟨blk, off, none⟩) d.size cap, .int .i64 a, .int .i64 b] w fun e w' => e = .returned (.tuple #[]) ∧ At U w blk off (insertionSort ltInt d a b) w' := by
  obtain ⟨len, hlen⟩ : ∃ n, n = d.size := ⟨_, rfl⟩
  have H := Lib.hid hH
  clear hH
  rw [← hlen]
  go_enter Tryz.func78, Tryz.ntmps78
  go_wp2
  go_loopw [6] (fun vi wr => ∃ (i : Nat) (dk : Array Int), vi = .int .i64 i ∧ a < i ∧ i ≤ b + 1 ∧ dk.size = len ∧ At U w blk off dk wr ∧ Hid (insOuter ltInt a b i dk = insOuter ltInt a b (a + 1) d)) (fun vi _ => b + 1 - (iof vi).toNat)
  case atStart => exact ⟨a + 1, d, by go_num, by omega, by omega, hlen.symm, At.refl H.out, Lib.hid rfl⟩
  case round =>
    obtain ⟨i, dk, rfl, hai, hib, hsk, hA, hO⟩ := hrel
    by_cases hlt : i < b
    · go_wp2
      go_loopw [7] (fun vj wr2 => ∃ (j : Nat) (dj : Array Int), vj = .int .i64 j ∧ a ≤ j ∧ j ≤ i ∧ dj.size = len ∧ At U w blk off dj wr2 ∧ Hid (insInner ltInt a j dj = insInner ltInt a i dk)) (fun vj _ => (iof vj).toNat)
      case atStart => exact ⟨i, dk, rfl, by omega, Nat.le_refl _, hsk, hA, Lib.hid rfl⟩
      case round =>
        obtain ⟨j, dj, rfl, haj, hji, hsj, hA2, hI⟩ := hrel
        obtain ⟨G, hG⟩ : ∃ G : Nat → Int, ∀ t, G t = dj[t]! := ⟨fun t => dj[t]!, fun _ => rfl⟩
        have hcw : ∀ t, t < len → wr.cell? ⟨blk, off + t, none⟩ = some (.int .u64 (G t)) := fun t ht => by rw [hG]; exact At.cell H.out hblk hlen hsj hA2 t ht
        have hfw : ∀ t, t < len → wr.frozen? ⟨blk, off + t, none⟩ = false := fun t ht => At.thaw H.out hblk hlen hsj hA2 t ht
        have HG := Lib.hid hG
        have HA := Lib.hid hA2
        clear hG hA2 hA
        have OUT : Hid ((j ≤ a ∨ ltInt (G j) (G (j - 1)) = false) → ∀ q, ∃ (i' : Nat) (dk' : Array Int), Value.int .i64 ((i : Int) + 1) = .int .i64 i' ∧ a < i' ∧ i' ≤ b + 1 ∧ dk'.size = len ∧ At U w blk off dk' (wr.drewN q) ∧ Hid (insOuter ltInt a b i' dk' = insOuter ltInt a b (a + 1) d)) := Lib.hid fun hs q =>
          ⟨i + 1, dj, by go_num, by omega, by omega, hsj, HA.out.ahead q, Lib.hid (by
            rw [HG.out, HG.out] at hs
            rw [← hO.out, insOuter.eq_1 ltInt a b i dk, if_pos hlt, ← hI.out, inner_end _ _ _ hs])⟩
        go_wp2
        by_cases hja : a < j
        · go_quiet (first | (go_at_call 84; refine Calls.quiet_of_same (less_u _ _ _)))
          go_wp2
          · have hl : ltInt (G j) (G (j - 1)) = true := by assumption
            go_region
            all_goals go_wp2
            go_roundw
            case rel =>
              refine ⟨j - 1, swp dj j (j - 1), by congr 1; omega, by omega, by omega, by rw [size_swp]; exact hsj, ?_, ?_⟩
              · rw [HG.out, HG.out]
                exact At.swaps H.out hblk hlen hsj HA.out (nq + 1) j (j - 1) (by omega) (by omega)
              · exact Lib.hid (by rw [← hI.out, inner_go a j dj hja (by rw [← HG.out, ← HG.out]; exact hl)])
            case measure => simp [iof]; omega
          · have hl : ltInt (G j) (G (j - 1)) = false := by assumption
            go_roundw
            case rel => exact OUT.out (Or.inr hl) nq
            case measure => simp [iof]; omega
        · go_quiet (first | (go_at_call 84; refine Calls.quiet_of_same (less_u _ _ _)))
          go_wp2
          go_roundw
          case rel => exact OUT.out (Or.inl (by omega)) nq
          case measure => simp [iof]; omega
    · go_wp2
      go_end0
      exact ⟨rfl, by unfold Sort.insertionSort; rw [← hO.out, insOuter.eq_1 ltInt a b i dk, if_neg hlt]; exact hA⟩
end Go.Proofs.YtfpioijfocmfcaaGreatDoor
namespace Go.Proofs.YtfpioijfocmfcaaGreatDoor
open Go.RowKit Go.Sort

theorem sift_stop (hi f r : Nat) (d : Array Int) (h : hi ≤ 2 * r + 1) : siftDown ltInt hi f r d = d := by rw [siftDown, dif_pos h]
theorem sift_step (hi f r c : Nat) (d : Array Int) (h : (c = 2 * r + 2 ∧ c < hi ∧ ltInt d[f + (2 * r + 1)]! d[f + (2 * r + 1) + 1]! = true) ∨ (c = 2 * r + 1 ∧ c < hi ∧ (2 * r + 2 < hi → ltInt d[f + (2 * r + 1)]! d[f + (2 * r + 1) + 1]! = false))) :
    siftDown ltInt hi f r d = if ltInt d[f + r]! d[f + c]! = true then siftDown ltInt hi f c (swp d (f + r) (f + c)) else d := by
  rcases h with ⟨rfl, h1, h2⟩ | ⟨rfl, h1, h2⟩
  · rw [siftDown, dif_neg (by omega)]
    cases h3 : ltInt d[f + r]! d[f + (2 * r + 2)]! <;> simp [show 2 * r + 1 + 1 < hi by omega, h2]
  · rw [siftDown, dif_neg (by omega), if_neg (by intro h3; simp at h3; have := h2 (by omega); rw [this] at h3; simp at h3)]
    cases h3 : ltInt d[f + r]! d[f + (2 * r + 1)]! <;> simp

set_option maxRecDepth 100000 in
set_option maxHeartbeats 8000000 in
theorem sift_u (blk off cap lo hi f : Nat) (d : Array Int) (w : World) (hH : Holds U w blk off d) (hblk : blk < w.heap.size) (hlo : lo ≤ hi) (hb : f + hi ≤ d.size) (hsz : d.size < 1000000000) :
    Calls Tryz.prog 109 #[.slice (some ⟨blk, off, none⟩) d.size cap, .int .i64 lo, .int .i64 hi, .int .i64 f] w fun e w' => e = .returned (.tuple #[]) ∧ At U w blk off (siftDown ltInt hi f lo d) w' := by
  obtain ⟨len, hlen⟩ : ∃ n, n = d.size := ⟨_, rfl⟩
  have H := Lib.hid hH
  clear hH
  rw [← hlen]
  rw [← hlen] at hb hsz
  have HL := Lib.hid hlen
  clear hlen
  go_enter Tryz.func109, Tryz.ntmps109
  go_wp2
  go_loopg [8] (hi - lo) (fun k vr wr => ∃ (r : Nat) (dk : Array Int), vr = .int .i64 r ∧ r ≤ hi ∧ k = hi - r ∧ dk.size = len ∧ At U w blk off dk wr ∧ Hid (siftDown ltInt hi f r dk = siftDown ltInt hi f lo d))
  case atStart => exact ⟨lo, d, rfl, hlo, rfl, HL.out.symm, At.refl H.out, Lib.hid rfl⟩
  case round =>
    obtain ⟨r, dk, rfl, hr, hk, hsk, hA, hO⟩ := hrel
    obtain ⟨G, hG⟩ : ∃ G : Nat → Int, ∀ t, G t = dk[t]! := ⟨fun t => dk[t]!, fun _ => rfl⟩
    have hcw : ∀ t, t < len → wr.cell? ⟨blk, off + t, none⟩ = some (.int .u64 (G t)) := fun t ht => by rw [hG]; exact At.cell H.out hblk HL.out hsk hA t ht
    have hfw : ∀ t, t < len → wr.frozen? ⟨blk, off + t, none⟩ = false := fun t ht => At.thaw H.out hblk HL.out hsk hA t ht
    have HG := Lib.hid hG
    have HA := Lib.hid hA
    clear hG hA
    by_cases h1 : 2 * r + 1 < hi
    · have h1z : ¬ ((hi : Int) ≤ 2 * (r : Int) + 1) := by omega
      by_cases h2 : 2 * r + 2 < hi
      · have h2z : 2 * (r : Int) + 1 + 1 < (hi : Int) := by omega
        go_wp2_with fail
        go_big_quiet (first | (go_at_call 84; refine Calls.quiet_of_same (less_u _ _ _)))
        have hcq : ∀ q, At U w blk off dk (wr.drewN q) := fun q => HA.out.ahead q
        go_upto_if 36 with fail
        go_cut [9] from 11 to 75 (fun s9 wc => ∃ c : Nat, s9 = .int .i64 c ∧ (c = 2 * r + 1 ∨ c = 2 * r + 2) ∧ c < hi ∧ At U w blk off dk wc ∧ Hid (siftDown ltInt hi f r dk = if ltInt dk[f + r]! dk[f + c]! = true then siftDown ltInt hi f c (swp dk (f + r) (f + c)) else dk))
        case first =>
          go_wp2_with fail
          · have hl : ltInt (G (f + (2 * r + 1))) (G (f + (2 * r + 1) + 1)) = true := by assumption
            rw [HG.out, HG.out] at hl
            go_meet
            case rel => exact ⟨2 * r + 2, by congr 1, by omega, h2, hcq nq, Lib.hid (sift_step hi f r _ dk (.inl ⟨rfl, h2, hl⟩))⟩
          · have hl : ltInt (G (f + (2 * r + 1))) (G (f + (2 * r + 1) + 1)) = false := by assumption
            rw [HG.out, HG.out] at hl
            go_meet
            case rel => exact ⟨2 * r + 1, by congr 1, by omega, h1, hcq nq, Lib.hid (sift_step hi f r _ dk (.inr ⟨rfl, h1, fun _ => hl⟩))⟩
        case rest =>
          obtain ⟨c, rfl, hc1, hc2, hA2, hS⟩ := hcut
          have hc1z : (c : Int) = 2 * (r : Int) + 1 ∨ (c : Int) = 2 * (r : Int) + 2 := by omega
          have hcw2 : ∀ t, t < len → wc.cell? ⟨blk, off + t, none⟩ = some (.int .u64 (G t)) := fun t ht => by rw [HG.out]; exact At.cell H.out hblk HL.out hsk hA2 t ht
          have hfw2 : ∀ t, t < len → wc.frozen? ⟨blk, off + t, none⟩ = false := fun t ht => At.thaw H.out hblk HL.out hsk hA2 t ht
          have HA2 := Lib.hid hA2
          clear hA2
          go_wp2_with fail
          go_big_quiet (first | (go_at_call 84; refine Calls.quiet_of_same (less_u _ _ _)))
          go_wp2_with fail
          · have hl : ltInt (G (f + r)) (G (f + c)) = false := by
              have : (!ltInt (G (f + r)) (G (f + c))) = true := by assumption
              simpa using this
            (try simp only [Exit.inBlock, Exit.then]); refine bodyPost_ret (results_none rfl _ _ _) rfl ?_
            rw [HG.out, HG.out] at hl
            refine ⟨rfl, ?_⟩
            rw [← hO.out, hS.out, hl]
            exact HA2.out.ahead nq
          · have hl : ltInt (G (f + r)) (G (f + c)) = true := by
              have : (!ltInt (G (f + r)) (G (f + c))) = false := by assumption
              simpa using this
            have hcw3 : ∀ t, t < len → (wc.drewN nq).cell? ⟨blk, off + t, none⟩ = some (.int .u64 (G t)) := hcw2
            have hfw3 : ∀ t, t < len → (wc.drewN nq).frozen? ⟨blk, off + t, none⟩ = false := hfw2
            have HA3 : Hid (At U w blk off dk (wc.drewN nq)) := Lib.hid (HA2.out.ahead nq)
            clear hcw2 hfw2 HA2
            generalize wc.drewN nq = wr3 at hcw3 hfw3 HA3 ⊢
            go_region
            go_wp2
            go_roundg (hi - c)
            case rel =>
              refine ⟨c, swp dk (f + r) (f + c), rfl, by omega, rfl, by rw [size_swp]; exact hsk, ?_, Lib.hid ?_⟩
              · rw [HG.out, HG.out]
                exact At.swaps H.out hblk HL.out hsk HA3.out 1 (f + r) (f + c) (by omega) (by omega)
              · rw [HG.out, HG.out] at hl
                rw [← hO.out, hS.out, hl]
                rfl
            case measure => omega
      · have h2z : decide (2 * (r : Int) + 1 + 1 < (hi : Int)) = false := decide_eq_false (by omega)
        go_wp2_with fail
        go_big_quiet (first | (go_at_call 84; refine Calls.quiet_of_same (less_u _ _ _)))
        have hcq : ∀ q, At U w blk off dk (wr.drewN q) := fun q => HA.out.ahead q
        go_upto_if 36 with fail
        go_cut [9] from 11 to 75 (fun s9 wc => ∃ c : Nat, s9 = .int .i64 c ∧ (c = 2 * r + 1 ∨ c = 2 * r + 2) ∧ c < hi ∧ At U w blk off dk wc ∧ Hid (siftDown ltInt hi f r dk = if ltInt dk[f + r]! dk[f + c]! = true then siftDown ltInt hi f c (swp dk (f + r) (f + c)) else dk))
        case first =>
          go_wp2_with fail
          go_meet
          case rel => exact ⟨2 * r + 1, by congr 1, by omega, h1, hcq nq, Lib.hid (sift_step hi f r _ dk (.inr ⟨rfl, h1, fun h => absurd h h2⟩))⟩
        case rest =>
          obtain ⟨c, rfl, hc1, hc2, hA2, hS⟩ := hcut
          have hc1z : (c : Int) = 2 * (r : Int) + 1 ∨ (c : Int) = 2 * (r : Int) + 2 := by omega
          have hcw2 : ∀ t, t < len → wc.cell? ⟨blk, off + t, none⟩ = some (.int .u64 (G t)) := fun t ht => by rw [HG.out]; exact At.cell H.out hblk HL.out hsk hA2 t ht
          have hfw2 : ∀ t, t < len → wc.frozen? ⟨blk, off + t, none⟩ = false := fun t ht => At.thaw H.out hblk HL.out hsk hA2 t ht
          have HA2 := Lib.hid hA2
          clear hA2
          go_wp2_with fail
          go_big_quiet (first | (go_at_call 84; refine Calls.quiet_of_same (less_u _ _ _)))
          go_wp2_with fail
          · have hl : ltInt (G (f + r)) (G (f + c)) = false := by
              have : (!ltInt (G (f + r)) (G (f + c))) = true := by assumption
              simpa using this
            (try simp only [Exit.inBlock, Exit.then]); refine bodyPost_ret (results_none rfl _ _ _) rfl ?_
            rw [HG.out, HG.out] at hl
            refine ⟨rfl, ?_⟩
            rw [← hO.out, hS.out, hl]
            exact HA2.out.ahead nq
          · have hl : ltInt (G (f + r)) (G (f + c)) = true := by
              have : (!ltInt (G (f + r)) (G (f + c))) = false := by assumption
              simpa using this
            have hcw3 : ∀ t, t < len → (wc.drewN nq).cell? ⟨blk, off + t, none⟩ = some (.int .u64 (G t)) := hcw2
            have hfw3 : ∀ t, t < len → (wc.drewN nq).frozen? ⟨blk, off + t, none⟩ = false := hfw2
            have HA3 : Hid (At U w blk off dk (wc.drewN nq)) := Lib.hid (HA2.out.ahead nq)
            clear hcw2 hfw2 HA2
            generalize wc.drewN nq = wr3 at hcw3 hfw3 HA3 ⊢
            go_region
            go_wp2
            go_roundg (hi - c)
            case rel =>
              refine ⟨c, swp dk (f + r) (f + c), rfl, by omega, rfl, by rw [size_swp]; exact hsk, ?_, Lib.hid ?_⟩
              · rw [HG.out, HG.out]
                exact At.swaps H.out hblk HL.out hsk HA3.out 1 (f + r) (f + c) (by omega) (by omega)
              · rw [HG.out, HG.out] at hl
                rw [← hO.out, hS.out, hl]
                rfl
            case measure => omega
    · have h1z : (hi : Int) ≤ 2 * (r : Int) + 1 := by omega
      go_wp2
      go_end0
      exact ⟨rfl, by rw [← hO.out, sift_stop _ _ _ _ (by omega)]; exact HA.out⟩
end Go.Proofs.YtfpioijfocmfcaaGreatDoor
namespace Go.Proofs.YtfpioijfocmfcaaGreatDoor
open Go.RowKit Go.Sort

theorem sift_size (hi f r : Nat) (d : Array Int) : (siftDown ltInt hi f r d).size = d.size := by
  induction hn : hi - r using Nat.strongRecOn generalizing r d with
  | _ n ih =>
    by_cases h : hi ≤ 2 * r + 1
    · rw [sift_stop _ _ _ _ h]
    · have H : ∀ c, (c = 2 * r + 2 ∨ c = 2 * r + 1) → c < hi → (siftDown ltInt hi f r d = if ltInt d[f + r]! d[f + c]! = true then siftDown ltInt hi f c (swp d (f + r) (f + c)) else d) → (siftDown ltInt hi f r d).size = d.size := by
        intro c hc hc2 e
        rw [e]
        split
        · rw [ih (hi - c) (by omega) c _ rfl, size_swp]
        · rfl
      by_cases h2 : 2 * r + 2 < hi
      · cases h3 : ltInt d[f + (2 * r + 1)]! d[f + (2 * r + 1) + 1]! with
        | true => exact H _ (.inl rfl) h2 (sift_step hi f r _ d (.inl ⟨rfl, h2, h3⟩))
        | false => exact H _ (.inr rfl) (by omega) (sift_step hi f r _ d (.inr ⟨rfl, by omega, fun _ => h3⟩))
      · exact H _ (.inr rfl) (by omega) (sift_step hi f r _ d (.inr ⟨rfl, by omega, fun h => absurd h h2⟩))

set_option maxRecDepth 100000 in
set_option maxHeartbeats 8000000 in
theorem heap_u (blk off cap a b : Nat) (d : Array Int) (w : World) (hH : Holds U w blk off d) (hblk : blk < w.heap.size) (hab : a < b) (hb : b ≤ d.size) (hsz : d.size < 1000000000) :
    Calls Tryz.prog 79 #[.slice (some ⟨blk, off, none⟩) d.size cap, .int .i64 a, .int .i64 b] w fun e w' => e = .returned (.tuple #[]) ∧ At U w blk off (heapSort ltInt d a b) w' := by
  obtain ⟨len, hlen⟩ : ∃ n, n = d.size := ⟨_, rfl⟩
  have H := Lib.hid hH
  clear hH
  rw [← hlen]
  rw [← hlen] at hb hsz
  have HL := Lib.hid hlen
  clear hlen
  have ecast : ((b - a : Nat) : Int) = (b : Int) - (a : Int) := by omega
  have HS : Hid (∀ (lo hi f : Nat) (dk : Array Int) (wr : World), lo ≤ hi → f + hi ≤ len → dk.size = len → At U w blk off dk wr → Calls Tryz.prog 109 #[.slice (some ⟨blk, off, none⟩) len cap, .int .i64 lo, .int .i64 hi, .int .i64 f] wr fun e w' => e = .returned (.tuple #[]) ∧ At U w blk off (siftDown ltInt hi f lo dk) w') := Lib.hid (by
    intro lo hi f dk wr h1 h2 h3 hA
    obtain ⟨hh, hb2⟩ := hA.holds H.out (h3.trans HL.out) hblk
    have := sift_u blk off cap lo hi f dk wr hh hb2 h1 (by omega) (by omega)
    rw [h3] at this
    refine this.mono ?_
    rintro e w' ⟨rfl, m, os, h4⟩
    exact ⟨rfl, hA.stepG hblk (sift_size _ _ _ _) ⟨m, os, h4⟩⟩)
  go_enter Tryz.func79, Tryz.ntmps79
  go_wp2
  go_loopg [9] ((b - a - 1) / 2 + 1) (fun k s9 wr => s9 = .int .i64 ((k : Int) - 1) ∧ k ≤ (b - a - 1) / 2 + 1 ∧ ∃ dk : Array Int, dk.size = len ∧ At U w blk off dk wr ∧ Hid (heapBuild ltInt (b - a) a k dk = heapBuild ltInt (b - a) a ((b - a - 1) / 2 + 1) d))
  case atStart => exact ⟨by congr 1; omega, Nat.le_refl _, d, HL.out.symm, At.refl H.out, Lib.hid rfl⟩
  case round =>
    obtain ⟨rfl, hk, dk, hsk, hA, hO⟩ := hrel
    have HA := Lib.hid hA
    clear hA
    cases gk with
    | succ k =>
      have hc := HS.out k (b - a) a dk wr (by omega) (by omega) hsk HA.out
      rw [ecast] at hc
      have HC := Lib.hid hc
      clear hc
      go_wp2_with (go_at_call 109; refine HC.out.mono ?_; rintro e w1 ⟨rfl, hA1⟩)
      go_roundg k
      case measure => omega
      case rel => exact ⟨by simp, by omega, _, by rw [sift_size]; exact hsk, hA1, Lib.hid (by rw [← hO.out]; rfl)⟩
    | zero =>
      have HB : Hid (dk = heapBuild ltInt (b - a) a ((b - a - 1) / 2 + 1) d) := Lib.hid hO.out
      clear hO hk
      go_wp2
      go_loopg [10] (b - a) (fun k s10 wr => s10 = .int .i64 ((k : Int) - 1) ∧ k ≤ b - a ∧ ∃ dj : Array Int, dj.size = len ∧ At U w blk off dj wr ∧ Hid (heapPop ltInt a k dj = heapPop ltInt a (b - a) dk))
      case atStart => exact ⟨by rw [ecast], Nat.le_refl _, dk, hsk, HA.out, Lib.hid rfl⟩
      case round =>
        obtain ⟨rfl, hk, dj, hsj, hA, hO⟩ := hrel
        cases gk with
        | zero =>
          go_wp2
          go_end0
          refine ⟨rfl, ?_⟩
          have e : dj = heapSort ltInt d a b := by rw [heapSort, ← HB.out, ← hO.out]; rfl
          rw [← e]
          exact hA
        | succ k =>
          obtain ⟨G, hG⟩ : ∃ G : Nat → Int, ∀ t, G t = dj[t]! := ⟨fun t => dj[t]!, fun _ => rfl⟩
          have hcw : ∀ t, t < len → wr.cell? ⟨blk, off + t, none⟩ = some (.int .u64 (G t)) := fun t ht => by rw [hG]; exact At.cell H.out hblk HL.out hsj hA t ht
          have hfw : ∀ t, t < len → wr.frozen? ⟨blk, off + t, none⟩ = false := fun t ht => At.thaw H.out hblk HL.out hsj hA t ht
          have HG := Lib.hid hG
          have HA := Lib.hid hA
          clear hG hA
          have HSW : Hid (∀ q, At U w blk off (swp dj a (a + k)) (((wr.drewN q).setCell ⟨blk, off + a, none⟩ (U (G (a + k)))).setCell ⟨blk, off + (a + k), none⟩ (U (G a)))) := Lib.hid fun q => by
            rw [HG.out, HG.out]; exact At.swaps H.out hblk HL.out hsj HA.out q a (a + k) (by omega) (by omega)
          have HC : Hid (∀ wq, At U w blk off (swp dj a (a + k)) wq → Calls Tryz.prog 109 #[.slice (some ⟨blk, off, none⟩) len cap, .int .i64 0, .int .i64 k, .int .i64 a] wq fun e w' => e = .returned (.tuple #[]) ∧ At U w blk off (siftDown ltInt k a 0 (swp dj a (a + k))) w') :=
            Lib.hid fun wq hq => HS.out 0 k a _ wq (by omega) (by omega) (by rw [size_swp]; exact hsj) hq
          rcases Nat.eq_zero_or_pos k with hk0 | hkp
          · subst hk0
            simp only [Nat.add_zero] at HSW
            go_wp2_with fail
            go_region
            go_wp2_with (go_at_call 109; refine (HC.out _ (by first | exact HSW.out 1 | exact HSW.out _)).mono ?_; rintro e w1 ⟨rfl, hA1⟩)
            go_roundg 0
            case measure => omega
            case rel => exact ⟨by simp, by omega, _, by rw [sift_size, size_swp]; exact hsj, hA1, Lib.hid (by rw [← hO.out]; rfl)⟩
          · go_wp2_with fail
            go_region
            go_wp2_with (go_at_call 109; refine (HC.out _ (by first | exact HSW.out 1 | exact HSW.out _)).mono ?_; rintro e w1 ⟨rfl, hA1⟩)
            go_roundg k
            case measure => omega
            case rel => exact ⟨by simp, by omega, _, by rw [sift_size, size_swp]; exact hsj, hA1, Lib.hid (by rw [← hO.out]; rfl)⟩
end Go.Proofs.YtfpioijfocmfcaaGreatDoor
