/-
  CONTRACT of the library's sort at []uint64: partialInsertionSortOrdered. No condition beyond its own.
  CONTRACTS of the library's sort at []uint64: order2Ordered, medianOrdered, medianAdjacentOrdered, choosePivotOrdered: where the pivot lies, no more. No condition beyond each one's own.
  CONTRACTS of the library's sort at []uint64: xorshift.Next, nextPowerOfTwo, breakPatternsOrdered: the row is one of its own permutations. No condition beyond each one's own.
-/
import Derived.Test.YtfpioijfocmfcaaGreatDoorGUB
import Derived.Deep.CutBlock
import Derived.Test.YtfpioijfocmfcaaGreatDoorGUA
import Derived.Sort.Walk7a
import Derived.Test.YtfpioijfocmfcaaGreatDoorShelf
import Derived.Sort.WalkA14
import Derived.Deep.CutRange
namespace Go.Proofs.YtfpioijfocmfcaaGreatDoor
open Go.RowKit Go.Sort

theorem ss_go (b i : Nat) (d : Array Int) (h : i < b) (hl : ltInt d[i]! d[i - 1]! = false) : scanSorted ltInt d b i = scanSorted ltInt d b (i + 1) := by rw [scanSorted]; simp [h, hl]
theorem ss_end (b i : Nat) (d : Array Int) (h : ¬ i < b ∨ ltInt d[i]! d[i - 1]! = true) : scanSorted ltInt d b i = i := by
  rw [scanSorted]
  rcases h with h | h
  · simp [h]
  · simp [h]
theorem sd_go (j : Nat) (d : Array Int) (h : 1 ≤ j) (hl : ltInt d[j]! d[j - 1]! = true) : shiftDown ltInt j d = shiftDown ltInt (j - 1) (swp d j (j - 1)) := by
  cases j with
  | zero => omega
  | succ j => rw [shiftDown]; simp [show ltInt d[j + 1]! d[j]! = true from hl]
theorem sd_end (j : Nat) (d : Array Int) (h : j = 0 ∨ ltInt d[j]! d[j - 1]! = false) : shiftDown ltInt j d = d := by
  cases j with
  | zero => rw [shiftDown]
  | succ j =>
    rcases h with h | h
    · omega
    · rw [shiftDown]; simp [show ltInt d[j + 1]! d[j]! = false from h]
theorem su_go (b j : Nat) (d : Array Int) (h : j < b) (hl : ltInt d[j]! d[j - 1]! = true) : shiftUp ltInt b j d = shiftUp ltInt b (j + 1) (swp d j (j - 1)) := by rw [shiftUp, if_pos h]; simp [hl]
theorem su_end (b j : Nat) (d : Array Int) (h : ¬ j < b ∨ ltInt d[j]! d[j - 1]! = false) : shiftUp ltInt b j d = d := by
  rw [shiftUp]
  rcases h with h | h
  · rw [if_neg h]
  · split
    · simp [h]
    · rfl
theorem sd_size : ∀ (j : Nat) (d : Array Int), (shiftDown ltInt j d).size = d.size
  | 0, d => by rw [shiftDown]
  | j + 1, d => by
    rw [shiftDown]
    split
    · rfl
    · rw [sd_size j, size_swp]
theorem su_size (b : Nat) : ∀ (n j : Nat) (d : Array Int), b - j = n → (shiftUp ltInt b j d).size = d.size
  | 0, j, d, h => by rw [shiftUp, if_neg (by omega)]
  | n + 1, j, d, h => by
    rw [shiftUp]
    split
    · split
      · rfl
      · rw [su_size b n (j + 1) _ (by omega), size_swp]
    · rfl
theorem size_down (c : Prop) [Decidable c] (j : Nat) (d : Array Int) : (if c then shiftDown ltInt j d else d).size = d.size := by
  split
  · exact sd_size j d
  · rfl
theorem size_up (c : Prop) [Decidable c] (b j : Nat) (d : Array Int) : (if c then shiftUp ltInt b j d else d).size = d.size := by
  split
  · exact su_size b _ j d rfl
  · rfl
theorem pi_done (a b k i : Nat) (d : Array Int) (h : b = scanSorted ltInt d b i) : partialIns ltInt a b (k + 1) i d = (d, true) := by
  rw [partialIns]
  simp only []
  rw [← h, if_pos rfl]
theorem pi_short (a b k i : Nat) (d : Array Int) (i2 : Nat) (h : i2 = scanSorted ltInt d b i) (h1 : ¬ i2 = b) (h2 : b - a < 50) : partialIns ltInt a b (k + 1) i d = (d, false) := by
  rw [partialIns]
  simp only []
  rw [← h, if_neg h1, if_pos h2]
theorem pi_next (a b k i : Nat) (d : Array Int) (i2 : Nat) (h : i2 = scanSorted ltInt d b i) (h1 : ¬ i2 = b) (h2 : ¬ b - a < 50) : partialIns ltInt a b (k + 1) i d =
    partialIns ltInt a b k i2 (if 2 ≤ b - i2 then shiftUp ltInt b (i2 + 1) (if 2 ≤ i2 - a then shiftDown ltInt (i2 - 1) (swp d i2 (i2 - 1)) else swp d i2 (i2 - 1)) else (if 2 ≤ i2 - a then shiftDown ltInt (i2 - 1) (swp d i2 (i2 - 1)) else swp d i2 (i2 - 1))) := by
  rw [partialIns]
  simp only []
  rw [← h, if_neg h1, if_neg h2]

set_option maxRecDepth 100000 in
set_option maxHeartbeats 16000000 in
theorem pins_u (blk off cap a b : Nat) (d : Array Int) (w : World) (hH : Holds U w blk off d) (hblk : blk < w.heap.size) (hab : a < b) (hb : b ≤ d.size) (hsz : d.size < 1000000000) :
    Calls Tryz.prog 83 #[.slice (some ⟨blk, off, none⟩) d.size cap, .int .i64 a, .int .i64 b] w fun e w' =>
      e = .returned (.bool (partialInsertionSort ltInt d a b).2) ∧ At U w blk off (partialInsertionSort ltInt d a b).1 w' := by
  unfold partialInsertionSort
  obtain ⟨len, hlen⟩ : ∃ n, n = d.size := ⟨_, rfl⟩
  have H := Lib.hid hH
  clear hH
  rw [← hlen]
  rw [← hlen] at hb hsz
  have HL := Lib.hid hlen
  clear hlen
  go_enter Tryz.func83, Tryz.ntmps83
  go_wp2
  go_loopg [7, 8] 5 (fun k s7 s8 wr => ∃ (i : Nat) (dk : Array Int), s7 = .int .i64 i ∧ s8 = .int .i64 (5 - (k : Int)) ∧ k ≤ 5 ∧ a < i ∧ i ≤ b ∧ dk.size = len ∧ At U w blk off dk wr ∧ Hid (partialIns ltInt a b k i dk = partialIns ltInt a b 5 (a + 1) d))
  case atStart => exact ⟨a + 1, d, by go_num, by simp, by omega, by omega, by omega, HL.out.symm, At.refl H.out, Lib.hid rfl⟩
  case round =>
    obtain ⟨i, dk, rfl, rfl, hk5, hai, hib, hsk, hAk, hO⟩ := hrel
    cases gk with
    | zero =>
      go_wp2_with fail
      go_ret
      have e : partialIns ltInt a b 0 i dk = (dk, false) := by rw [partialIns]
      rw [e] at hO
      rw [← hO.out]
      exact ⟨rfl, hAk⟩
    | succ k =>
      have hk4 : (5 - ((k + 1 : Nat) : Int)) < 5 := by omega
      go_upto_block 2 with fail
      go_cut [7] from 13 to 132 (fun s wc => ∃ i2 : Nat, s = .int .i64 i2 ∧ Hid (i2 = scanSorted ltInt dk b i) ∧ i ≤ i2 ∧ i2 ≤ b ∧ At U w blk off dk wc)
      case first =>
        go_wp2_with fail
        go_loopg [7] (b - i) (fun k s wr => ∃ x : Nat, s = .int .i64 x ∧ i ≤ x ∧ x ≤ b ∧ k = b - x ∧ At U w blk off dk wr ∧ Hid (scanSorted ltInt dk b x = scanSorted ltInt dk b i))
        case atStart => exact ⟨i, rfl, by omega, by omega, rfl, hAk, Lib.hid rfl⟩
        case round =>
          clear hAk
          obtain ⟨x, rfl, hx1, hx2, hk2, hAs, hS⟩ := hrel
          obtain ⟨Gs, hGs⟩ : ∃ G : Nat → Int, ∀ t, G t = dk[t]! := ⟨fun t => dk[t]!, fun _ => rfl⟩
          have hcws : ∀ t, t < len → wr.cell? ⟨blk, off + t, none⟩ = some (.int .u64 (Gs t)) := fun t ht => by rw [hGs]; exact At.cell H.out hblk HL.out hsk hAs t ht
          have hfws : ∀ t, t < len → wr.frozen? ⟨blk, off + t, none⟩ = false := fun t ht => At.thaw H.out hblk HL.out hsk hAs t ht
          have HGs := Lib.hid hGs
          have HAs := Lib.hid hAs
          clear hGs hAs
          by_cases hle : x < b
          · go_wp2_with fail
            go_big_quiet (first | (go_at_call 84; refine Calls.quiet_of_same (less_u _ _ _)))
            go_wp2_with fail
            · have ht : (!ltInt (Gs x) (Gs (x - 1))) = true := by assumption
              rw [HGs.out, HGs.out] at ht
              go_roundg (b - (x + 1))
              case measure => omega
              case rel => exact ⟨x + 1, by go_num, by omega, by omega, rfl, HAs.out.ahead nq, Lib.hid (by rw [← hS.out, ss_go _ _ _ hle (by simpa using ht)])⟩
            · have ht : (!ltInt (Gs x) (Gs (x - 1))) = false := by assumption
              rw [HGs.out, HGs.out] at ht
              go_meet
              case rel => exact ⟨x, rfl, Lib.hid (by rw [← hS.out, ss_end _ _ _ (.inr (by simpa using ht))]), hx1, hx2, HAs.out.ahead nq⟩
          · have hlez : decide ((x : Int) < (b : Int)) = false := decide_eq_false (by omega)
            go_wp2_with fail
            go_big_quiet (first | (go_at_call 84; refine Calls.quiet_of_same (less_u _ _ _)))
            go_wp2_with fail
            go_meet
            case rel => exact ⟨x, rfl, Lib.hid (by rw [← hS.out, ss_end _ _ _ (.inl hle)]), hx1, hx2, HAs.out.ahead nq⟩
      case rest =>
        clear hAk
        obtain ⟨i2, rfl, Hi2, hi21, hi22, hAi2⟩ := hcut
        by_cases hend : i2 = b
        · subst hend
          go_wp2_with fail
          go_ret
          exact ⟨by rw [← hO.out, pi_done a i2 k i dk Hi2.out]; rfl, by rw [← hO.out, pi_done a i2 k i dk Hi2.out]; exact hAi2⟩
        · have hendz : ¬ ((i2 : Int) = (b : Int)) := by omega
          by_cases hfif : b - a < 50
          · have hfz : (b : Int) - (a : Int) < 50 := by omega
            go_wp2_with fail
            go_ret
            exact ⟨by rw [← hO.out, pi_short a b k i dk i2 Hi2.out hend hfif]; rfl, by rw [← hO.out, pi_short a b k i dk i2 Hi2.out hend hfif]; exact hAi2⟩
          · have hfz : ¬ ((b : Int) - (a : Int) < 50) := by omega
            go_upto_region 11 with fail
            go_cut [] from 13 to 132 (fun wc => At U w blk off (swp dk i2 (i2 - 1)) wc)
            case first =>
              obtain ⟨Gq, hGq⟩ : ∃ G : Nat → Int, ∀ t, G t = dk[t]! := ⟨fun t => dk[t]!, fun _ => rfl⟩
              have hcwq : ∀ t, t < len → wc.cell? ⟨blk, off + t, none⟩ = some (.int .u64 (Gq t)) := fun t ht => by rw [hGq]; exact At.cell H.out hblk HL.out hsk hAi2 t ht
              have hfwq : ∀ t, t < len → wc.frozen? ⟨blk, off + t, none⟩ = false := fun t ht => At.thaw H.out hblk HL.out hsk hAi2 t ht
              have HGq := Lib.hid hGq
              have HAq := Lib.hid hAi2
              clear hGq hAi2
              go_wp2_with fail
              go_region
              go_wp2_with fail
              go_meet
              case rel =>
                (repeat rw [HGq.out])
                exact At.swaps H.out hblk HL.out hsk HAq.out 1 i2 (i2 - 1) (by omega) (by omega)
            case rest =>
              obtain ⟨d1, hd1⟩ : ∃ d1, d1 = swp dk i2 (i2 - 1) := ⟨_, rfl⟩
              have hs1 : d1.size = len := by rw [hd1, size_swp]; exact hsk
              have hA1 : At U w blk off d1 wc := by rw [hd1]; exact hcut
              have Hd1 := Lib.hid hd1
              clear hd1 hcut hAi2
              go_upto_if 61 with fail
              go_cut [9] from 13 to 132 (fun _ wc => (if 2 ≤ i2 - a then shiftDown ltInt (i2 - 1) d1 else d1).size = len ∧ At U w blk off (if 2 ≤ i2 - a then shiftDown ltInt (i2 - 1) d1 else d1) wc)
              case first =>
                by_cases hc : 2 ≤ i2 - a
                · have hcz : (2 : Int) ≤ (i2 : Int) - (a : Int) := by omega
                  go_wp2_with fail
                  go_loopg [9] (i2 - 1) (fun k s wr => ∃ (j : Nat) (dj : Array Int), s = .int .i64 j ∧ j < i2 ∧ k = j ∧ dj.size = len ∧ At U w blk off dj wr ∧ Hid (shiftDown ltInt j dj = shiftDown ltInt (i2 - 1) d1))
                  case atStart => exact ⟨i2 - 1, d1, by congr 1; omega, by omega, rfl, hs1, hA1, Lib.hid rfl⟩
                  case round =>
                    clear hA1
                    obtain ⟨j, dj, rfl, hj1, hk, hsj, hAj, hS⟩ := hrel
                    obtain ⟨Gs, hGs⟩ : ∃ G : Nat → Int, ∀ t, G t = dj[t]! := ⟨fun t => dj[t]!, fun _ => rfl⟩
                    have hcws : ∀ t, t < len → wr.cell? ⟨blk, off + t, none⟩ = some (.int .u64 (Gs t)) := fun t ht => by rw [hGs]; exact At.cell H.out hblk HL.out hsj hAj t ht
                    have hfws : ∀ t, t < len → wr.frozen? ⟨blk, off + t, none⟩ = false := fun t ht => At.thaw H.out hblk HL.out hsj hAj t ht
                    have HGs := Lib.hid hGs
                    have HAs := Lib.hid hAj
                    clear hGs hAj
                    by_cases hle : 1 ≤ j
                    · have hjz : (1 : Int) ≤ (j : Int) := by omega
                      go_wp2_with fail
                      go_big_quiet (first | (go_at_call 84; refine Calls.quiet_of_same (less_u _ _ _)))
                      go_wp2_with fail
                      · have ht : ltInt (Gs j) (Gs (j - 1)) = false := by
                          have : (!ltInt (Gs j) (Gs (j - 1))) = true := by assumption
                          simpa using this
                        rw [HGs.out, HGs.out] at ht
                        go_meet
                        case rel => exact ⟨by rw [size_down]; exact hs1, by rw [if_pos (by omega), ← hS.out, sd_end _ _ (.inr ht)]; exact HAs.out.ahead nq⟩
                      · have ht : ltInt (Gs j) (Gs (j - 1)) = true := by
                          have : (!ltInt (Gs j) (Gs (j - 1))) = false := by assumption
                          simpa using this
                        have hcw3 : ∀ t, t < len → (wr.drewN nq).cell? ⟨blk, off + t, none⟩ = some (.int .u64 (Gs t)) := hcws
                        have hfw3 : ∀ t, t < len → (wr.drewN nq).frozen? ⟨blk, off + t, none⟩ = false := hfws
                        have HA3 : Hid (At U w blk off dj (wr.drewN nq)) := Lib.hid (HAs.out.ahead nq)
                        clear hcws hfws HAs
                        generalize wr.drewN nq = wr3 at hcw3 hfw3 HA3 ⊢
                        go_region
                        go_wp2_with fail
                        go_roundg (j - 1)
                        case measure => omega
                        case rel =>
                          refine ⟨j - 1, swp dj j (j - 1), by congr 1; omega, by omega, rfl, by rw [size_swp]; exact hsj, ?_, Lib.hid ?_⟩
                          · rw [HGs.out, HGs.out]
                            exact At.swaps H.out hblk HL.out hsj HA3.out 1 j (j - 1) (by omega) (by omega)
                          · rw [HGs.out, HGs.out] at ht
                            rw [← hS.out, sd_go _ _ hle ht]
                    · have hjz : (j : Int) ≤ 0 := by omega
                      go_wp2_with fail
                      go_meet
                      case rel => exact ⟨by rw [size_down]; exact hs1, by rw [if_pos (by omega), ← hS.out, sd_end _ _ (.inl (by omega))]; exact HAs.out⟩
                · have hcz : ¬ ((2 : Int) ≤ (i2 : Int) - (a : Int)) := by omega
                  go_wp2_with fail
                  go_meet
                  case rel => exact ⟨by rw [if_neg hc]; exact hs1, by rw [if_neg hc]; exact hA1⟩
              case rest =>
                obtain ⟨hs2, hA2⟩ := hcut
                clear hA1 hs1
                obtain ⟨d2, hd2⟩ : ∃ d2, d2 = (if 2 ≤ i2 - a then shiftDown ltInt (i2 - 1) d1 else d1) := ⟨_, rfl⟩
                rw [← hd2] at hs2 hA2
                have Hd2 := Lib.hid hd2
                clear hd2
                have hs1 := hs2
                have hA1 := hA2
                clear hs2 hA2
                by_cases hc : 2 ≤ b - i2
                · have hcz : (2 : Int) ≤ (b : Int) - (i2 : Int) := by omega
                  go_wp2_with fail
                  go_loopg [10] (b - (i2 + 1)) (fun k s wr => ∃ (j : Nat) (dj : Array Int), s = .int .i64 j ∧ i2 < j ∧ j ≤ b ∧ k = b - j ∧ dj.size = len ∧ At U w blk off dj wr ∧ Hid (shiftUp ltInt b j dj = shiftUp ltInt b (i2 + 1) d2))
                  case atStart => exact ⟨i2 + 1, d2, by go_num, by omega, by omega, rfl, hs1, hA1, Lib.hid rfl⟩
                  case round =>
                    clear hA1
                    obtain ⟨j, dj, rfl, hj1, hj2, hk, hsj, hAj, hS⟩ := hrel
                    obtain ⟨Gs, hGs⟩ : ∃ G : Nat → Int, ∀ t, G t = dj[t]! := ⟨fun t => dj[t]!, fun _ => rfl⟩
                    have hcws : ∀ t, t < len → wr.cell? ⟨blk, off + t, none⟩ = some (.int .u64 (Gs t)) := fun t ht => by rw [hGs]; exact At.cell H.out hblk HL.out hsj hAj t ht
                    have hfws : ∀ t, t < len → wr.frozen? ⟨blk, off + t, none⟩ = false := fun t ht => At.thaw H.out hblk HL.out hsj hAj t ht
                    have HGs := Lib.hid hGs
                    have HAs := Lib.hid hAj
                    clear hGs hAj
                    by_cases hle : j < b
                    · have hjz : (j : Int) < (b : Int) := by omega
                      go_wp2_with fail
                      go_big_quiet (first | (go_at_call 84; refine Calls.quiet_of_same (less_u _ _ _)))
                      go_wp2_with fail
                      · have ht : ltInt (Gs j) (Gs (j - 1)) = false := by
                          have : (!ltInt (Gs j) (Gs (j - 1))) = true := by assumption
                          simpa using this
                        rw [HGs.out, HGs.out] at ht
                        go_roundg k
                        case measure => omega
                        case rel =>
                          refine ⟨i2, if 2 ≤ b - i2 then shiftUp ltInt b (i2 + 1) d2 else d2, rfl, by simp; omega, by omega, by omega, by omega, by rw [size_up]; exact hs1, by rw [if_pos (by omega), ← hS.out, su_end b _ _ (.inr ht)]; exact HAs.out.ahead nq, Lib.hid ?_⟩
                          rw [← hO.out, pi_next a b k i dk i2 Hi2.out (by omega) hfif, ← Hd1.out, ← Hd2.out]
                      · have ht : ltInt (Gs j) (Gs (j - 1)) = true := by
                          have : (!ltInt (Gs j) (Gs (j - 1))) = false := by assumption
                          simpa using this
                        have hcw3 : ∀ t, t < len → (wr.drewN nq).cell? ⟨blk, off + t, none⟩ = some (.int .u64 (Gs t)) := hcws
                        have hfw3 : ∀ t, t < len → (wr.drewN nq).frozen? ⟨blk, off + t, none⟩ = false := hfws
                        have HA3 : Hid (At U w blk off dj (wr.drewN nq)) := Lib.hid (HAs.out.ahead nq)
                        clear hcws hfws HAs
                        generalize wr.drewN nq = wr3 at hcw3 hfw3 HA3 ⊢
                        go_region
                        go_wp2_with fail
                        go_roundg (b - (j + 1))
                        case measure => omega
                        case rel =>
                          refine ⟨j + 1, swp dj j (j - 1), by go_num, by omega, by omega, rfl, by rw [size_swp]; exact hsj, ?_, Lib.hid ?_⟩
                          · rw [HGs.out, HGs.out]
                            exact At.swaps H.out hblk HL.out hsj HA3.out 1 j (j - 1) (by omega) (by omega)
                          · rw [HGs.out, HGs.out] at ht
                            rw [← hS.out, su_go b _ _ hle ht]
                    · have hjz : (b : Int) ≤ (j : Int) := by omega
                      go_wp2_with fail
                      go_roundg k
                      case measure => omega
                      case rel =>
                        refine ⟨i2, if 2 ≤ b - i2 then shiftUp ltInt b (i2 + 1) d2 else d2, rfl, by simp; omega, by omega, by omega, by omega, by rw [size_up]; exact hs1, by rw [if_pos (by omega), ← hS.out, su_end b _ _ (.inl (by omega))]; exact HAs.out, Lib.hid ?_⟩
                        rw [← hO.out, pi_next a b k i dk i2 Hi2.out (by omega) hfif, ← Hd1.out, ← Hd2.out]
                · have hcz : ¬ ((2 : Int) ≤ (b : Int) - (i2 : Int)) := by omega
                  go_wp2_with fail
                  go_roundg k
                  case measure => omega
                  case rel =>
                    refine ⟨i2, if 2 ≤ b - i2 then shiftUp ltInt b (i2 + 1) d2 else d2, rfl, by simp; omega, by omega, by omega, by omega, by rw [size_up]; exact hs1, by rw [if_neg hc]; exact hA1, Lib.hid ?_⟩
                    rw [← hO.out, pi_next a b k i dk i2 Hi2.out (by omega) hfif, ← Hd1.out, ← Hd2.out]
end Go.Proofs.YtfpioijfocmfcaaGreatDoor
namespace Go.Proofs.YtfpioijfocmfcaaGreatDoor
open Go.RowKit Go.Sort

/-- The world of w, some draws on, one cell of its own (block g) holding x. -/
def Sw (k : IntKind) (w : World) (g : Nat) (x : Int) (wr : World) : Prop := ∃ n, wr = (Sort.ahead w n).setCell ⟨g, 0, none⟩ (.int k x)
/-- That block. -/
def Own1 (w : World) (g : Nat) (v : Value) : Prop := ∃ ty, w.heap[g]? = some (.cells #[v] ty (0, 0))

section
variable {k : IntKind} {w wr : World} {g blk off : Nat} {x : Int} {v : Value} {d : Array Int}
theorem Sw.refl (h : Own1 w g (.int k x)) : Sw k w g x w := by
  obtain ⟨ty, h⟩ := h
  refine ⟨0, ?_⟩
  rw [ahead_zero, setCell_eq]
  refine (mapBlock_id w g _ ?_).symm
  intro c e fr hc
  rw [h] at hc
  injection hc with hc
  injection hc with h1 _ _
  subst h1
  simp
theorem Sw.ahead (h : Sw k w g x wr) (q : Nat) : Sw k w g x (wr.drewN q) := by
  obtain ⟨n, rfl⟩ := h
  exact ⟨n + q, by rw [← ahead_ahead]; rfl⟩
theorem Sw.set (h : Sw k w g x wr) (y : Int) : Sw k w g y (wr.setCell ⟨g, 0, none⟩ (.int k y)) := by
  obtain ⟨n, rfl⟩ := h
  exact ⟨n, setCell_setCell _ _ _ _ _⟩
theorem Sw.cell (h : Sw k w g x wr) (ho : Own1 w g v) : wr.cell? ⟨g, 0, none⟩ = some (.int k x) := by
  obtain ⟨n, rfl⟩ := h
  obtain ⟨ty, ho⟩ := ho
  rw [setCell_eq, cell?_mapBlock _ _ _ _ (show (Sort.ahead w n).heap[g]? = _ from ho)]
  simp
theorem Sw.thaw (h : Sw k w g x wr) (ho : Own1 w g v) : wr.frozen? ⟨g, 0, none⟩ = false := by
  obtain ⟨n, rfl⟩ := h
  obtain ⟨ty, ho⟩ := ho
  have : ((Sort.ahead w n).setCell ⟨g, 0, none⟩ (.int k x)).heap[g]? = some (.cells #[.int k x] ty (0, 0)) := by
    rw [setCell_eq]
    simp only [mapBlock, onCells, Array.getElem?_modify, if_true, Sort.ahead, ho, Option.map_some]
    rfl
  simp [World.frozen?, this]
theorem Sw.holds (h : Sw k w g x wr) (hH : Holds U w blk off d) (hne : g ≠ blk) : Holds U wr blk off d := by
  obtain ⟨n, rfl⟩ := h
  intro j hj
  obtain ⟨h1, h2⟩ := hH j hj
  have e : ((Sort.ahead w n).setCell ⟨g, 0, none⟩ (.int k x)).heap[blk]? = w.heap[blk]? := by
    rw [setCell_eq]
    simp [mapBlock, Array.getElem?_modify, hne, Sort.ahead]
  simp only [World.cell?, World.frozen?] at h1 h2 ⊢
  rw [e]
  exact ⟨h1, h2⟩
end

/-- What the pivot's functions ask of the world. -/
structure PvIn (w : World) (g blk off len : Nat) (d : Array Int) : Prop where
  own : ∃ v, Own1 w g v
  row : Holds U w blk off d
  ne : g ≠ blk
  len : len = d.size
theorem PvIn.cells {w : World} {g blk off len : Nat} {d : Array Int} (h : PvIn w g blk off len d) {x : Int} {wr : World} (hw : Sw .i64 w g x wr) (t : Nat) (ht : t < len) : wr.cell? ⟨blk, off + t, none⟩ = some (.int .u64 d[t]!) :=
  ((hw.holds h.row h.ne) t (by have := h.len; omega)).1

set_option maxRecDepth 100000 in
set_option maxHeartbeats 8000000 in
theorem order2_u (w : World) (g blk off cap len : Nat) (d : Array Int) (hP : PvIn w g blk off len d) (s : Nat) (hs : s < 1000000) (a b : Nat) (ha : a < len) (hb : b < len) (_ : len < 1000000000) (wr : World) (hw : Sw .i64 w g s wr) :
    Calls Tryz.prog 127 #[.slice (some ⟨blk, off, none⟩) len cap, .int .i64 a, .int .i64 b, .pointer (some ⟨g, 0, none⟩)] wr fun e w' => ∃ x y s' : Nat, e = .returned (.tuple #[.int .i64 x, .int .i64 y]) ∧ ((x = a ∧ y = b) ∨ (x = b ∧ y = a)) ∧ s' ≤ s + 1 ∧ Sw .i64 w g s' w' := by
  obtain ⟨G, hG⟩ : ∃ G : Nat → Int, ∀ t, G t = d[t]! := ⟨fun t => d[t]!, fun _ => rfl⟩
  have hcw : ∀ t, t < len → wr.cell? ⟨blk, off + t, none⟩ = some (.int .u64 (G t)) := fun t ht => by rw [hG]; exact hP.cells hw t ht
  obtain ⟨v0, hO⟩ := hP.own
  have HO := Lib.hid hO
  have HW := Lib.hid hw
  clear hG hP hw hO
  go_enter Tryz.func127, Tryz.ntmps127
  go_wp2_with fail
  go_big_quiet (first | (go_at_call 84; refine Calls.quiet_of_same (less_u _ _ _)))
  have c1 : (wr.drewN nq).cell? ⟨g, 0, none⟩ = some (.int .i64 s) := (HW.out.ahead nq).cell HO.out
  have f1 : (wr.drewN nq).frozen? ⟨g, 0, none⟩ = false := (HW.out.ahead nq).thaw HO.out
  have HW1 := Lib.hid (HW.out.ahead nq)
  generalize wr.drewN nq = wq at c1 f1 HW1 ⊢
  go_wp2_with fail
  · go_ret2
    exact ⟨b, a, s + 1, rfl, .inr ⟨rfl, rfl⟩, Nat.le_refl _, by have := HW1.out.set ((s : Int) + 1); simpa using this⟩
  · go_ret2
    exact ⟨a, b, s, rfl, .inl ⟨rfl, rfl⟩, by omega, HW1.out⟩

set_option maxRecDepth 100000 in
set_option maxHeartbeats 8000000 in
theorem median_u (w : World) (g blk off cap len : Nat) (d : Array Int) (hP : PvIn w g blk off len d) (s : Nat) (hs : s < 900000) (a b c : Nat) (ha : a < len) (hb : b < len) (hc : c < len) (_ : len < 1000000000) (wr : World) (hw : Sw .i64 w g s wr) :
    Calls Tryz.prog 111 #[.slice (some ⟨blk, off, none⟩) len cap, .int .i64 a, .int .i64 b, .int .i64 c, .pointer (some ⟨g, 0, none⟩)] wr fun e w' => ∃ m s' : Nat, e = .returned (.int .i64 m) ∧ (m = a ∨ m = b ∨ m = c) ∧ s' ≤ s + 3 ∧ Sw .i64 w g s' w' := by
  have HP := Lib.hid hP
  have HW := Lib.hid hw
  clear hP hw
  go_enter Tryz.func111, Tryz.ntmps111
  have C1 := Lib.hid (order2_u w g blk off cap len d HP.out s (by omega) a b ha hb (by assumption) wr HW.out)
  go_upto_region 2 with (go_at_call 127; refine C1.out.mono ?_; rintro e w1 ⟨x1, y1, s1, rfl, hm1, hs1, hw1⟩)
  have C2 := Lib.hid (order2_u w g blk off cap len d HP.out s1 (by omega) y1 c (by omega) hc (by assumption) w1 hw1)
  go_upto_region 3 with (go_at_call 127; refine C2.out.mono ?_; rintro e w2 ⟨x2, y2, s2, rfl, hm2, hs2, hw2⟩)
  have C3 := Lib.hid (order2_u w g blk off cap len d HP.out s2 (by omega) x1 x2 (by omega) (by omega) (by assumption) w2 hw2)
  go_wp2_with (go_at_call 127; refine C3.out.mono ?_; rintro e w3 ⟨x3, y3, s3, rfl, hm3, hs3, hw3⟩)
  go_ret
  exact ⟨y3, s3, rfl, by omega, by omega, hw3⟩

set_option maxRecDepth 100000 in
set_option maxHeartbeats 8000000 in
theorem medadj_u (w : World) (g blk off cap len : Nat) (d : Array Int) (hP : PvIn w g blk off len d) (s : Nat) (hs : s < 900000) (a : Nat) (h0 : 0 < a) (ha : a + 1 < len) (_ : len < 1000000000) (wr : World) (hw : Sw .i64 w g s wr) :
    Calls Tryz.prog 110 #[.slice (some ⟨blk, off, none⟩) len cap, .int .i64 a, .pointer (some ⟨g, 0, none⟩)] wr fun e w' => ∃ m s' : Nat, e = .returned (.int .i64 m) ∧ (m + 1 = a ∨ m = a ∨ m = a + 1) ∧ s' ≤ s + 3 ∧ Sw .i64 w g s' w' := by
  have C := median_u w g blk off cap len d hP s hs (a - 1) a (a + 1) (by omega) (by omega) (by omega) (by assumption) wr hw
  rw [show ((a - 1 : Nat) : Int) = (a : Int) - 1 by omega, show ((a + 1 : Nat) : Int) = (a : Int) + 1 by omega] at C
  have HC := Lib.hid C
  clear C hP hw
  go_enter Tryz.func110, Tryz.ntmps110
  go_wp2_with (go_at_call 111; refine HC.out.mono ?_; rintro e w1 ⟨m, s1, rfl, hm1, hs1, hw1⟩)
  go_ret
  exact ⟨m, s1, rfl, by omega, by omega, hw1⟩
/-- The block of a new variable. -/
theorem own_new (w : World) (v : Value) (ty : TypeId) : Own1 (w.alloc (.cells #[v] ty)) w.heap.size v := ⟨ty, by rw [alloc_eq_grow]; show (w.heap ++ #[_])[w.heap.size]? = _; exact Array.getElem?_push_size (xs := w.heap)⟩
theorem Sw.grown {k : IntKind} {w wr : World} {x : Int} {v : Value} {ty : TypeId} (h : Sw k (w.alloc (.cells #[v] ty)) w.heap.size x wr) : ∃ n os, wr = grow (Sort.ahead w n) os := by
  obtain ⟨n, rfl⟩ := h
  refine ⟨n, #[.cells #[.int k x] ty], ?_⟩
  rw [alloc_eq_grow, ahead_grow, setCell_eq, mapBlock_grow_new _ _ _ _ (by simp [Sort.ahead])]
  congr 1
  simp [Sort.ahead, onCells]
theorem holds_new {w : World} {blk off : Nat} {d : Array Int} (h : Holds U w blk off d) (hb : blk < w.heap.size) (o : Obj) : Holds U (w.alloc o) blk off d := by
  rw [alloc_eq_grow]
  exact holds_grow U w _ blk off d hb h

set_option maxRecDepth 100000 in
set_option maxHeartbeats 16000000 in
theorem pivot_u (blk off cap a b : Nat) (d : Array Int) (w : World) (hH : Holds U w blk off d) (hblk : blk < w.heap.size) (hab : a + 12 < b) (hb : b ≤ d.size) (hsz : d.size < 1000000000) :
    Calls Tryz.prog 81 #[.slice (some ⟨blk, off, none⟩) d.size cap, .int .i64 a, .int .i64 b] w fun e w' =>
      ∃ (p h : Nat), e = .returned (.tuple #[.int .i64 p, .int .i64 h]) ∧ a ≤ p ∧ p < b ∧ h ≤ 2 ∧ ∃ n os, w' = grow (Sort.ahead w n) os := by
  obtain ⟨len, hlen⟩ : ∃ n, n = d.size := ⟨_, rfl⟩
  obtain ⟨w1, hw1⟩ : ∃ u, u = w.alloc (.cells #[.int .i64 0] 3) := ⟨_, rfl⟩
  have HP : Hid (PvIn w1 w.heap.size blk off len d) := Lib.hid ⟨⟨_, by rw [hw1]; exact own_new _ _ _⟩, by rw [hw1]; exact holds_new hH hblk _, by omega, hlen⟩
  have hS : Sw .i64 w1 w.heap.size (0 : Nat) w1 := Sw.refl (by rw [hw1]; exact own_new _ _ _)
  obtain ⟨v0, hO⟩ := HP.out.own
  have HO := Lib.hid hO
  have HS := Lib.hid hS
  have HW1 := Lib.hid hw1
  have HG : Hid (∀ x wr, Sw .i64 w1 w.heap.size x wr → ∃ n os, wr = grow (Sort.ahead w n) os) := Lib.hid fun x wr h => by rw [hw1] at h; exact h.grown
  rw [← hlen]
  rw [← hlen] at hb hsz
  obtain ⟨g, hg⟩ : ∃ g, g = w.heap.size := ⟨_, rfl⟩
  rw [← hg] at HP HO HS HG
  have HGE := Lib.hid hg
  clear hO hS hw1 hlen hH hg hblk
  obtain ⟨q, hq⟩ : ∃ q : Nat, q = (b - a) / 4 := ⟨_, rfl⟩
  have hq1 : 3 ≤ q := by omega
  have hq2 : 4 * q ≤ b - a := by omega
  have hqz : ((b : Int) - (a : Int)) / 4 = (q : Int) := by omega
  have HQ := Lib.hid hq
  clear hq
  have h8 : (8 : Int) ≤ (b : Int) - (a : Int) := by omega
  go_enter Tryz.func81, Tryz.ntmps81
  go_upto_region 5 with fail
  rw [HW1.out.symm]
  go_cut [9, 10, 11, 12] from 13 (fun s9 s10 s11 s12 wc => ∃ i0 j0 l0 : Nat, s9 = .pointer (some ⟨g, 0, none⟩) ∧ s10 = .int .i64 i0 ∧ s11 = .int .i64 j0 ∧ s12 = .int .i64 l0 ∧ a < i0 ∧ i0 + 1 < b ∧ a < j0 ∧ j0 + 1 < b ∧ a < l0 ∧ l0 + 1 < b ∧ wc = w1)
  case first =>
    go_wp2_with fail
    go_meet
    case rel => exact ⟨a + q, a + 2 * q, a + 3 * q, by rw [HGE.out], by first | rfl | (congr 1; omega), by first | rfl | (congr 1; omega), by first | rfl | (congr 1; omega), by omega, by omega, by omega, by omega, by omega, by omega, rfl⟩
  case rest =>
    obtain ⟨i0, j0, l0, rfl, rfl, rfl, rfl, hi01, hi02, hj01, hj02, hl01, hl02, hwc⟩ := hcut
    rw [hwc]
    clear hwc
    go_upto_if 34 with fail
    go_cut [10, 11, 12] from 13 (fun s10 s11 s12 wc => ∃ i j l s : Nat, s10 = .int .i64 i ∧ s11 = .int .i64 j ∧ s12 = .int .i64 l ∧ a ≤ i ∧ i < b ∧ a ≤ j ∧ j < b ∧ a ≤ l ∧ l < b ∧ s ≤ 9 ∧ Sw .i64 w1 g s wc)
    case first =>
      by_cases h50 : 50 ≤ b - a
      · have h50z : (50 : Int) ≤ (b : Int) - (a : Int) := by omega
        have C1 := Lib.hid (medadj_u w1 g blk off cap len d HP.out 0 (by omega) i0 (by omega) (by omega) (by omega) w1 HS.out)
        go_upto_region 9 with (go_at_call 110; refine C1.out.mono ?_; rintro e w2 ⟨m1, s1, rfl, hm1, hs1, hw2⟩)
        have C2 := Lib.hid (medadj_u w1 g blk off cap len d HP.out s1 (by omega) j0 (by omega) (by omega) (by omega) w2 hw2)
        go_upto_region 10 with (go_at_call 110; refine C2.out.mono ?_; rintro e w3 ⟨m2, s2, rfl, hm2, hs2, hw3⟩)
        have C3 := Lib.hid (medadj_u w1 g blk off cap len d HP.out s2 (by omega) l0 (by omega) (by omega) (by omega) w3 hw3)
        go_wp2_with (go_at_call 110; refine C3.out.mono ?_; rintro e w4 ⟨m3, s3, rfl, hm3, hs3, hw4⟩)
        go_meet
        case rel => exact ⟨m1, m2, m3, s3, rfl, rfl, rfl, by omega, by omega, by omega, by omega, by omega, by omega, by omega, hw4⟩
      · have h50z : ¬ (50 : Int) ≤ (b : Int) - (a : Int) := by omega
        go_wp2_with fail
        go_meet
        case rel => exact ⟨i0, j0, l0, 0, rfl, rfl, rfl, by omega, by omega, by omega, by omega, by omega, by omega, by omega, HS.out⟩
    case rest =>
      obtain ⟨i, j, l, s, rfl, rfl, rfl, hi1, hi2, hj1, hj2, hl1, hl2, hs, hws⟩ := hcut
      have C := Lib.hid (median_u w1 g blk off cap len d HP.out s (by omega) i j l (by omega) (by omega) (by omega) (by omega) wc hws)
      go_upto_region 12 with (go_at_call 111; refine C.out.mono ?_; rintro e w2 ⟨m, s2, rfl, hm, hs2, hw2⟩)
      have c1 := hw2.cell HO.out
      have HW2 := Lib.hid (HG.out _ _ hw2)
      clear hw2
      go_wp2_with fail
      · go_ret2
        exact ⟨m, 1, rfl, by omega, by omega, by omega, HW2.out⟩
      · go_ret2
        exact ⟨m, 2, rfl, by omega, by omega, by omega, HW2.out⟩
      · go_ret2
        exact ⟨m, 0, rfl, by omega, by omega, by omega, HW2.out⟩
end Go.Proofs.YtfpioijfocmfcaaGreatDoor
namespace Go.Proofs.YtfpioijfocmfcaaGreatDoor
open Go.RowKit Go.Sort

theorem xor_lt (x y : Nat) (hx : x < 18446744073709551616) (hy : y < 18446744073709551616) : x ^^^ y < 18446744073709551616 := Nat.xor_lt_two_pow (n := 64) hx hy
/-- One step of the three: a number of 64 bits is handed on to one. -/
theorem xor_step (x : Nat) (y : Int) (hx : x < 18446744073709551616) (h0 : 0 ≤ y) (h1 : y < 18446744073709551616) : ∃ z : Nat, z < 18446744073709551616 ∧ bits .xor .u64 (x : Int) y = (z : Int) := by
  obtain ⟨n, rfl⟩ := Int.eq_ofNat_of_zero_le h0
  exact ⟨x ^^^ n, xor_lt _ _ hx (by omega), bits_xor_u64_nat _ _ hx (by omega)⟩

set_option maxRecDepth 1000000 in
set_option maxHeartbeats 8000000 in
theorem next_u (w : World) (g x : Nat) (hO : ∃ v, Own1 w g v) (hx : x < 18446744073709551616) (wr : World) (hw : Sw .u64 w g x wr) :
    Calls Tryz.prog 105 #[.pointer (some ⟨g, 0, none⟩)] wr fun e w' => ∃ y : Nat, e = .returned (.int .u64 y) ∧ y < 18446744073709551616 ∧ Sw .u64 w g y w' := by
  obtain ⟨v0, hO⟩ := hO
  obtain ⟨x1, l1, e1⟩ := xor_step x (IntKind.u64.wrap ((x : Int) * 8192)) hx (by rw [IntKind.wrap_u64]; omega) (by rw [IntKind.wrap_u64]; omega)
  obtain ⟨x2, l2, e2⟩ := xor_step x1 ((x1 : Int) / 128) l1 (by omega) (by omega)
  obtain ⟨x3, l3, e3⟩ := xor_step x2 (IntKind.u64.wrap ((x2 : Int) * 131072)) l2 (by rw [IntKind.wrap_u64]; omega) (by rw [IntKind.wrap_u64]; omega)
  have hc := hw.cell hO
  have hf := hw.thaw hO
  have hss : ∀ v v', (wr.setCell ⟨g, 0, none⟩ v).setCell ⟨g, 0, none⟩ v' = wr.setCell ⟨g, 0, none⟩ v' := setCell_setCell wr g 0
  have HE : Hid (Sw .u64 w g x3 ((wr.setCell ⟨g, 0, none⟩ (.int .u64 x3)).drewN 3)) := Lib.hid ((hw.set x3).ahead 3)
  clear hw hO
  go_enter Tryz.func105, Tryz.ntmps105
  go_wp2
  go_region
  all_goals go_wp2
  all_goals go_region
  all_goals go_wp2
  all_goals go_region
  all_goals go_wp2
  go_ret
  exact ⟨x3, rfl, l3, HE.out⟩

set_option maxRecDepth 100000 in
theorem npt_u (n : Nat) (hn : n < 1000000000) (w : World) : Calls Tryz.prog 104 #[.int .i64 n] w fun e w' => e = .returned (.int .u64 ((2 ^ bitsLen n : Nat) : Int)) ∧ w' = w := by
  have hLen : ∀ w, Calls Tryz.prog 48 #[.int .u64 (n : Int)] w fun e w' => e = .returned (.int .i64 (bitsLen n : Nat)) ∧ w' = w := fun w => by
    have h := Tryz.bits_Len (n : Int) w (by omega) (by omega)
    rwa [Int.toNat_natCast, bitLen_eq _ (by omega)] at h
  have hk : bitsLen n ≤ 62 := (bitsLen_le_iff n 62).2 (by omega)
  have hp := wrap_two_pow (bitsLen n) hk
  rw [Nat.one_shiftLeft] at hp
  have wr : IntKind.u64.wrap (n : Int) = n := by rw [IntKind.wrap_u64]; omega
  go_enter Tryz.func104, Tryz.ntmps104
  go_wp2_with (go_at_call 48; refine (hLen _).mono ?_; rintro e w' ⟨rfl, rfl⟩)
  go_ret
  exact ⟨rfl, rfl⟩

/-! The row beside the block of the random number -/
theorem mapBlock_comm (w : World) (g b : Nat) (hne : g ≠ b) (f h : Array Value → Array Value) : mapBlock (mapBlock w g f) b h = mapBlock (mapBlock w b h) g f := by
  unfold mapBlock
  congr 1
  apply Array.ext_getElem?
  intro k
  simp only [Array.getElem?_modify]
  by_cases h1 : b = k
  · have h2 : ¬ g = k := fun e => hne (e.trans h1.symm)
    simp [h1, h2]
  · simp [h1]
section
variable {w wr : World} {g blk off : Nat} {x : Int} {d dk : Array Int} {v : Value}
theorem own_row (h : Own1 w g v) (hne : g ≠ blk) : Own1 (putRow U w blk off dk) g v := by
  obtain ⟨ty, h⟩ := h
  refine ⟨ty, ?_⟩
  unfold putRow mapBlock
  simp [Array.getElem?_modify, Ne.symm hne, h]
theorem Sw.rowSet (_ : Holds U w blk off d) (hs : dk.size = d.size) (hne : g ≠ blk) (h : Sw .u64 (putRow U w blk off dk) g x wr) (q i j : Nat) (hi : i < d.size) (hj : j < d.size) :
    Sw .u64 (putRow U w blk off (swp dk i j)) g x (((wr.drewN q).setCell ⟨blk, off + i, none⟩ (U dk[j]!)).setCell ⟨blk, off + j, none⟩ (U dk[i]!)) := by
  obtain ⟨n, rfl⟩ := h
  refine ⟨n + q, ?_⟩
  have e := putRow_swp U (Sort.ahead w (n + q)) blk off dk i j (by omega) (by omega)
  have e0 : ((Sort.ahead (putRow U w blk off dk) n).setCell ⟨g, 0, none⟩ (.int .u64 x)).drewN q = (putRow U (Sort.ahead w (n + q)) blk off dk).setCell ⟨g, 0, none⟩ (.int .u64 x) := by
    rw [putRow_ahead, ← ahead_ahead]
    rfl
  have e2 : Sort.ahead (putRow U w blk off (swp dk i j)) (n + q) = putRow U (Sort.ahead w (n + q)) blk off (swp dk i j) := (putRow_ahead U w (n + q) blk off _).symm
  rw [e0, e2, ← e]
  simp only [setCell_eq]
  rw [mapBlock_comm _ g blk hne, mapBlock_comm _ g blk hne]
end

set_option maxRecDepth 100000 in
set_option maxHeartbeats 16000000 in
theorem break_u (blk off cap a b : Nat) (d : Array Int) (w : World) (hH : Holds U w blk off d) (hblk : blk < w.heap.size) (hab : a + 12 < b) (hb : b ≤ d.size) (hsz : d.size < 1000000000) :
    Calls Tryz.prog 80 #[.slice (some ⟨blk, off, none⟩) d.size cap, .int .i64 a, .int .i64 b] w fun e w' => e = .returned (.tuple #[]) ∧ ∃ d', PermIn a b d d' ∧ At U w blk off d' w' := by
  obtain ⟨len, hlen⟩ : ∃ n, n = d.size := ⟨_, rfl⟩
  obtain ⟨g, hg⟩ : ∃ g, g = w.heap.size := ⟨_, rfl⟩
  have hne : g ≠ blk := by omega
  obtain ⟨w1, hw1⟩ : ∃ u, u = w.alloc (.cells #[.int .u64 ((b - a : Nat) : Int)] 151) := ⟨_, rfl⟩
  have hH1 : Holds U w1 blk off d := by rw [hw1]; exact holds_new hH hblk _
  have hO1 : Own1 w1 g (.int .u64 ((b - a : Nat) : Int)) := by rw [hw1, hg]; exact own_new _ _ _
  have HN : Hid (∀ (dk : Array Int) (x : Nat) wr, x < 18446744073709551616 → Sw .u64 (putRow U w1 blk off dk) g x wr → Calls Tryz.prog 105 #[.pointer (some ⟨g, 0, none⟩)] wr fun e w' => ∃ y : Nat, e = .returned (.int .u64 y) ∧ y < 18446744073709551616 ∧ Sw .u64 (putRow U w1 blk off dk) g y w') :=
    Lib.hid fun dk x wr hx hw => next_u _ g x ⟨_, own_row hO1 hne⟩ hx wr hw
  have HROW : Hid (∀ (dk : Array Int) wr, dk.size = len → (∃ x : Int, Sw .u64 (putRow U w1 blk off dk) g x wr) → Holds U wr blk off dk) :=
    Lib.hid fun dk wr hs hx => by obtain ⟨x, hx⟩ := hx; exact hx.holds (holds_putRow U w1 blk off d dk hH1 (hs.trans hlen)) hne
  have HSW : Hid (∀ (dk : Array Int) wr (i j q : Nat), dk.size = len → i < len → j < len → (∃ x : Nat, x < 18446744073709551616 ∧ Sw .u64 (putRow U w1 blk off dk) g x wr) → ∃ x : Nat, x < 18446744073709551616 ∧ Sw .u64 (putRow U w1 blk off (swp dk i j)) g x (((wr.drewN q).setCell ⟨blk, off + i, none⟩ (U dk[j]!)).setCell ⟨blk, off + j, none⟩ (U dk[i]!))) :=
    Lib.hid fun dk wr i j q hs hi hj hx => by obtain ⟨x, hx1, hx2⟩ := hx; exact ⟨x, hx1, Sw.rowSet hH1 (hs.trans hlen) hne hx2 q i j (by omega) (by omega)⟩
  have HEND : Hid (∀ (dk : Array Int) wr, dk.size = len → (∃ x : Nat, x < 18446744073709551616 ∧ Sw .u64 (putRow U w1 blk off dk) g x wr) → At U w blk off dk wr) := Lib.hid fun dk wr hs hx => by
    obtain ⟨x, -, n, rfl⟩ := hx
    refine ⟨n, #[.cells #[.int .u64 x] 151], ?_⟩
    rw [hw1, hg, alloc_eq_grow, putRow_grow _ _ _ _ _ _ hblk, ahead_grow, setCell_eq, mapBlock_grow_new _ _ _ _ (by simp [putRow, mapBlock, Sort.ahead]), putRow_ahead]
    congr 1
    simp [putRow, mapBlock, Sort.ahead, onCells]
  have HS1 : Hid (∀ u : World, u = w1 → ∃ x : Nat, x < 18446744073709551616 ∧ Sw .u64 (putRow U w1 blk off d) g x u) := Lib.hid fun u hu => ⟨b - a, by omega, by
    rw [hu, putRow_self U w1 blk off d hH1]; exact Sw.refl hO1⟩
  have HW1 := Lib.hid hw1
  have HGE := Lib.hid hg
  have HPE : Hid (PermIn a b d d) := Lib.hid (permIn_refl _ _ _)
  have hbd : b ≤ len := by omega
  have hlz : len < 1000000000 := by omega
  have HL := Lib.hid hlen
  rw [← hlen]
  clear hlen hg hw1 hH1 hO1 hH hb hsz hblk hne
  obtain ⟨L, hL⟩ : ∃ L : Nat, L = b - a := ⟨_, rfl⟩
  obtain ⟨q, hq⟩ : ∃ q : Nat, q = L / 4 := ⟨_, rfl⟩
  obtain ⟨M, hM⟩ : ∃ M : Nat, M = 2 ^ bitsLen L := ⟨_, rfl⟩
  have hM1 : L < M := by rw [hM]; exact lt_two_pow_bitsLen L
  have hM2 : M ≤ 2 * L := by rw [hM]; exact two_pow_bitsLen_le (by omega)
  have hLz : (b : Int) - (a : Int) = (L : Int) := by omega
  have hqz : (L : Int) / 4 = (q : Int) := by omega
  have hq1 : 3 ≤ q := by omega
  have hq2 : 4 * q ≤ L := by omega
  have hLb : a + L = b := by omega
  have HNP := Lib.hid (fun w => npt_u L (by omega) w)
  rw [← hM] at HNP
  clear hM hL hq
  have hL12 : 12 < L := by omega
  have hL12z : (8 : Int) ≤ (L : Int) := by omega
  go_enter Tryz.func80, Tryz.ntmps80
  go_upto_region 4 with (go_at_call 104; refine (HNP.out _).mono ?_; rintro e w' ⟨rfl, rfl⟩)
  go_upto_block 0 with fail
  go_wp2_with fail
  rw [← HGE.out]
  go_loopg [9] 3 (fun k s9 wr => ∃ (i : Nat) (dk : Array Int), s9 = .int .i64 i ∧ k = a + 2 * q + 2 - i ∧ a + 2 * q ≤ i + 1 ∧ i ≤ a + 2 * q + 2 ∧ dk.size = len ∧ Hid (PermIn a b d dk) ∧ ∃ x : Nat, x < 18446744073709551616 ∧ Sw .u64 (putRow U w1 blk off dk) g x wr)
  case atStart => exact ⟨a + 2 * q - 1, d, by congr 1; omega, by omega, by omega, by omega, HL.out.symm, HPE, HS1.out _ (by rw [HW1.out, show ((b - a : Nat) : Int) = (L : Int) by omega])⟩
  case round =>
    clear HS1
    obtain ⟨i, dk, rfl, hk, hi1, hi2, hsk, HPM, hwx⟩ := hrel
    by_cases hle : i ≤ a + 2 * q + 1
    · have hlez : (i : Int) ≤ (a : Int) + (q : Int) * 2 + 1 := by omega
      obtain ⟨x, hx, hwx⟩ := hwx
      have HC := Lib.hid (HN.out dk x wr hx hwx)
      clear hwx
      go_upto_region 8 with (go_at_call 105; refine HC.out.mono ?_; rintro e w2 ⟨y, rfl, hy, hw2⟩)
      obtain ⟨O, hO⟩ : ∃ O : Nat, O = y &&& (M - 1) := ⟨_, rfl⟩
      have hOM : O ≤ M - 1 := by rw [hO]; exact Nat.and_le_right
      have eAnd : bits .and .u64 (y : Int) ((M : Int) - 1) = (O : Int) := by
        rw [show ((M : Int) - 1) = ((M - 1 : Nat) : Int) by omega, bits_and_u64_nat _ _ hy (by omega), hO]
      clear hO
      have eW : IntKind.u64.wrap ((M : Int) - 1) = (M : Int) - 1 := by rw [IntKind.wrap_u64]; omega
      have eI : wrap64 (O : Int) = (O : Int) := by unfold wrap64; omega
      rw [eAnd, eI]
      clear eAnd eI eW
      go_upto_if 43 with fail
      go_cut [10] from 26 to 64 (fun s10 wc => ∃ z : Nat, s10 = .int .i64 z ∧ z < L ∧ wc = w2)
      case first =>
        by_cases hz : L ≤ O
        · have hzz : (L : Int) ≤ (O : Int) := by omega
          go_wp2_with fail
          go_meet
          case rel => exact ⟨O - L, by congr 1; omega, by omega, rfl⟩
        · have hzz : (O : Int) < (L : Int) := by omega
          go_wp2_with fail
          go_meet
          case rel => exact ⟨O, rfl, by omega, rfl⟩
      case rest =>
        obtain ⟨z, rfl, hz, hwc⟩ := hcut
        rw [hwc]
        clear hwc
        obtain ⟨z2, hz2⟩ : ∃ z2, z2 = a + z := ⟨_, rfl⟩
        have hz2z : (a : Int) + (z : Int) = (z2 : Int) := by omega
        have hz2a : a ≤ z2 := by omega
        have hz2b : z2 < b := by omega
        clear hz2
        obtain ⟨G, hG⟩ : ∃ G : Nat → Int, ∀ t, G t = dk[t]! := ⟨fun t => dk[t]!, fun _ => rfl⟩
        have hcw : ∀ t, t < len → w2.cell? ⟨blk, off + t, none⟩ = some (.int .u64 (G t)) := fun t ht => by rw [hG]; exact (HROW.out dk w2 hsk ⟨y, hw2⟩ t (by omega)).1
        have hfw : ∀ t, t < len → w2.frozen? ⟨blk, off + t, none⟩ = false := fun t ht => (HROW.out dk w2 hsk ⟨y, hw2⟩ t (by omega)).2
        have HG := Lib.hid hG
        have HA := Lib.hid hw2
        clear hG hw2
        rcases Nat.lt_trichotomy i z2 with hne | hee | hne
        · go_wp2_with fail
          go_region
          go_wp2_with fail
          go_roundg (a + 2 * q + 2 - (i + 1))
          case measure => omega
          case rel =>
            refine ⟨i + 1, swp dk i z2, by go_num, rfl, by omega, by omega, by rw [size_swp]; exact hsk, Lib.hid (permIn_trans _ _ _ a b HPM.out (swp_permIn dk a b i z2 (by omega) (by omega) (by omega) (by omega) (by omega))), ?_⟩
            (repeat rw [HG.out])
            exact HSW.out dk w2 i z2 1 hsk (by omega) (by omega) ⟨y, hy, HA.out⟩
        · subst hee
          go_wp2_with fail
          go_region
          go_wp2_with fail
          go_roundg (a + 2 * q + 2 - (i + 1))
          case measure => omega
          case rel =>
            refine ⟨i + 1, swp dk i i, by go_num, rfl, by omega, by omega, by rw [size_swp]; exact hsk, Lib.hid (permIn_trans _ _ _ a b HPM.out (swp_permIn dk a b i i (by omega) (by omega) (by omega) (by omega) (by omega))), ?_⟩
            (repeat rw [HG.out])
            exact HSW.out dk w2 i i 1 hsk (by omega) (by omega) ⟨y, hy, HA.out⟩
        · go_wp2_with fail
          go_region
          go_wp2_with fail
          go_roundg (a + 2 * q + 2 - (i + 1))
          case measure => omega
          case rel =>
            refine ⟨i + 1, swp dk i z2, by go_num, rfl, by omega, by omega, by rw [size_swp]; exact hsk, Lib.hid (permIn_trans _ _ _ a b HPM.out (swp_permIn dk a b i z2 (by omega) (by omega) (by omega) (by omega) (by omega))), ?_⟩
            (repeat rw [HG.out])
            exact HSW.out dk w2 i z2 1 hsk (by omega) (by omega) ⟨y, hy, HA.out⟩
    · have hlez : (a : Int) + (q : Int) * 2 + 1 < (i : Int) := by omega
      go_wp2_with fail
      go_end0
      exact ⟨rfl, dk, HPM.out, HEND.out dk wr hsk hwx⟩
end Go.Proofs.YtfpioijfocmfcaaGreatDoor
