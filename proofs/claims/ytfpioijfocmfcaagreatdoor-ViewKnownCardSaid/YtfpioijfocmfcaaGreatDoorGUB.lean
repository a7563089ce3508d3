/-
  CONTRACTS of the library's sort at []uint64, fourth part: reverseRangeOrdered, partitionOrdered. No condition beyond each one's own.
  CONTRACT of the library's sort at []uint64: partitionOrdered. No condition beyond its own.
  CONTRACT of the library's sort at []uint64: partitionEqualOrdered. No condition beyond its own.
-/
import Derived.Test.YtfpioijfocmfcaaGreatDoorGUA
import Derived.Deep.CutRange
import Derived.Deep.CutBlock
namespace Go.Proofs.YtfpioijfocmfcaaGreatDoor
open Go.RowKit Go.Sort

theorem rev_go (i j : Nat) (d : Array Int) (h : i < j) : reverseLoop i j d = reverseLoop (i + 1) (j - 1) (swp d i j) := by rw [reverseLoop, if_pos h]
theorem rev_end (i j : Nat) (d : Array Int) (h : ¬ i < j) : reverseLoop i j d = d := by rw [reverseLoop, if_neg h]

set_option maxRecDepth 100000 in
set_option maxHeartbeats 8000000 in
theorem rev_u (blk off cap a b : Nat) (d : Array Int) (w : World) (hH : Holds U w blk off d) (hblk : blk < w.heap.size) (hab : a < b) (hb : b ≤ d.size) (hsz : d.size < 1000000000) :
    Calls Tryz.prog 82 #[.slice (some ⟨blk, off, none⟩) d.size cap, .int .i64 a, .int .i64 b] w fun e w' => e = .returned (.tuple #[]) ∧ At U w blk off (reverseRange d a b) w' := by
  obtain ⟨len, hlen⟩ : ∃ n, n = d.size := ⟨_, rfl⟩
  have H := Lib.hid hH
  clear hH
  rw [← hlen]
  rw [← hlen] at hb hsz
  have HL := Lib.hid hlen
  clear hlen
  go_enter Tryz.func82, Tryz.ntmps82
  go_wp2
  go_loopg [6, 7] b (fun k s6 s7 wr => ∃ (i j : Nat) (dk : Array Int), s6 = .int .i64 i ∧ s7 = .int .i64 j ∧ j < b ∧ j ≤ k ∧ dk.size = len ∧ At U w blk off dk wr ∧ Hid (reverseLoop i j dk = reverseLoop a (b - 1) d))
  case atStart => exact ⟨a, b - 1, d, rfl, by congr 1; omega, by omega, by omega, HL.out.symm, At.refl H.out, Lib.hid rfl⟩
  case round =>
    obtain ⟨i, j, dk, rfl, rfl, hj, hk, hsk, hA, hO⟩ := hrel
    by_cases hlt : i < j
    · obtain ⟨G, hG⟩ : ∃ G : Nat → Int, ∀ t, G t = dk[t]! := ⟨fun t => dk[t]!, fun _ => rfl⟩
      have hcw : ∀ t, t < len → wr.cell? ⟨blk, off + t, none⟩ = some (.int .u64 (G t)) := fun t ht => by rw [hG]; exact At.cell H.out hblk HL.out hsk hA t ht
      have hfw : ∀ t, t < len → wr.frozen? ⟨blk, off + t, none⟩ = false := fun t ht => At.thaw H.out hblk HL.out hsk hA t ht
      have HG := Lib.hid hG
      have HA := Lib.hid hA
      clear hG hA
      go_wp2_with fail
      go_region
      go_wp2
      go_roundg (j - 1)
      case measure => omega
      case rel =>
        refine ⟨i + 1, j - 1, swp dk i j, by go_num, by congr 1; omega, by omega, by omega, by rw [size_swp]; exact hsk, ?_, Lib.hid (by rw [← hO.out, rev_go _ _ _ hlt])⟩
        rw [HG.out, HG.out]
        exact At.swaps H.out hblk HL.out hsk HA.out 1 i j (by omega) (by omega)
    · go_wp2
      go_end0
      exact ⟨rfl, by unfold reverseRange; rw [← hO.out, rev_end _ _ _ hlt]; exact hA⟩

/-! The scans -/
theorem up_go (p : Int → Bool) (d : Array Int) (i j : Nat) (h : i ≤ j) (hp : p d[i]! = true) : scanUp p d j i = scanUp p d j (i + 1) := by rw [scanUp]; simp [h, hp]
theorem up_end (p : Int → Bool) (d : Array Int) (i j : Nat) (h : j < i ∨ p d[i]! = false) : scanUp p d j i = i := by
  rw [scanUp]
  rcases h with h | h
  · simp [show ¬ i ≤ j by omega]
  · simp [h]
theorem down_go (p : Int → Bool) (d : Array Int) (i j : Nat) (h0 : 0 < j) (h : i ≤ j) (hp : p d[j]! = true) : scanDown p d i j = scanDown p d i (j - 1) := by
  cases j with
  | zero => omega
  | succ j => rw [scanDown]; simp [h, hp]
theorem down_end (p : Int → Bool) (d : Array Int) (i j : Nat) (_ : 0 < i) (h : j < i ∨ p d[j]! = false) : scanDown p d i j = j := by
  cases j with
  | zero => rw [scanDown]
  | succ j =>
    rw [scanDown]
    rcases h with h | h
    · simp [show ¬ i ≤ j + 1 by omega]
    · simp [h]
/-- The two scans do not stop at one place. -/
theorem scans_ne (p q : Int → Bool) (hq : ∀ x, q x = !p x) (d : Array Int) (i j : Nat) (h0 : 0 < i) (h : scanUp p d j i ≤ scanDown q d (scanUp p d j i) j) : scanUp p d j i < scanDown q d (scanUp p d j i) j := by
  obtain ⟨h1, -, -, h4⟩ := scanUp_spec p d j _ i rfl
  obtain ⟨g1, -, -, g4⟩ := scanDown_spec q d (scanUp p d j i) j
  rcases Nat.lt_or_eq_of_le h with h2 | h2
  · exact h2
  · have e1 := h4 (by omega)
    have e2 := g4 h (by omega)
    rw [← h2, hq] at e2
    simp [e1] at e2
end Go.Proofs.YtfpioijfocmfcaaGreatDoor
namespace Go.Proofs.YtfpioijfocmfcaaGreatDoor
open Go.RowKit Go.Sort

theorem part_one (lt : Int → Int → Bool) (d : Array Int) (a b pivot : Nat) (dk : Array Int) (i j i2 j2 : Nat) (hd : dk = swp d a pivot) (hi : i = a + 1) (hj : j = b - 1) (h2 : i2 = scanUp (fun x => lt x dk[a]!) dk j i) (h3 : j2 = scanDown (fun x => !lt x dk[a]!) dk i2 j) (h : j2 < i2) :
    partition lt d a b pivot = (j2, true, swp dk j2 a) := by
  subst hd hi hj
  unfold partition
  simp only []
  rw [← h2, ← h3, if_pos h]
theorem part_two (lt : Int → Int → Bool) (d : Array Int) (a b pivot : Nat) (dk : Array Int) (i j i2 j2 : Nat) (hd : dk = swp d a pivot) (hi : i = a + 1) (hj : j = b - 1) (h2 : i2 = scanUp (fun x => lt x dk[a]!) dk j i) (h3 : j2 = scanDown (fun x => !lt x dk[a]!) dk i2 j) (h : ¬ j2 < i2) :
    partition lt d a b pivot = ((partLoop lt a (i2 + 1) (j2 - 1) (swp dk i2 j2)).1, false, swp (partLoop lt a (i2 + 1) (j2 - 1) (swp dk i2 j2)).2 (partLoop lt a (i2 + 1) (j2 - 1) (swp dk i2 j2)).1 a) := by
  subst hd hi hj
  unfold partition
  simp only []
  rw [← h2, ← h3, if_neg h]

set_option maxRecDepth 100000 in
set_option maxHeartbeats 16000000 in
theorem part_u (blk off cap a b pivot : Nat) (d : Array Int) (w : World) (hH : Holds U w blk off d) (hblk : blk < w.heap.size) (hap : a ≤ pivot) (hpb : pivot < b) (hb : b ≤ d.size) (hsz : d.size < 1000000000) :
    Calls Tryz.prog 86 #[.slice (some ⟨blk, off, none⟩) d.size cap, .int .i64 a, .int .i64 b, .int .i64 pivot] w fun e w' =>
      e = .returned (.tuple #[.int .i64 (partition ltInt d a b pivot).1, .bool (partition ltInt d a b pivot).2.1]) ∧ At U w blk off (partition ltInt d a b pivot).2.2 w' := by
  obtain ⟨len, hlen⟩ : ∃ n, n = d.size := ⟨_, rfl⟩
  have H := Lib.hid hH
  clear hH
  rw [← hlen]
  rw [← hlen] at hb hsz
  have HL := Lib.hid hlen
  clear hlen
  have hA0 := At.refl H.out
  have hs0 : d.size = len := HL.out.symm
  have HS0 := Lib.hid hs0
  clear hs0
  go_enter Tryz.func86, Tryz.ntmps86
  go_upto_region 1 with fail
  go_cut [] from 12 to 25 (fun wc => At U w blk off (swp d a pivot) wc)
  case first =>
    obtain ⟨Gq, hGq⟩ : ∃ G : Nat → Int, ∀ t, G t = d[t]! := ⟨fun t => d[t]!, fun _ => rfl⟩
    have hcwq : ∀ t, t < len → w.cell? ⟨blk, off + t, none⟩ = some (.int .u64 (Gq t)) := fun t ht => by rw [hGq]; exact At.cell H.out hblk HL.out HS0.out hA0 t ht
    have hfwq : ∀ t, t < len → w.frozen? ⟨blk, off + t, none⟩ = false := fun t ht => At.thaw H.out hblk HL.out HS0.out hA0 t ht
    have HGq := Lib.hid hGq
    have HAq := Lib.hid hA0
    clear hGq hA0
    rcases Nat.lt_trichotomy a pivot with hne | hee | hne
    · go_wp2_with fail
      go_region
      go_wp2_with fail
      go_meet
      case rel =>
        (repeat rw [HGq.out])
        exact At.swaps H.out hblk HL.out HS0.out HAq.out 1 a pivot (by omega) (by omega)
    · subst hee
      go_wp2_with fail
      go_region
      go_wp2_with fail
      go_meet
      case rel =>
        (repeat rw [HGq.out])
        exact At.swaps H.out hblk HL.out HS0.out HAq.out 1 a a (by omega) (by omega)
    · exact absurd hne (by omega)
  case rest =>
    go_upto_region 2 with fail
    go_cut [10, 11] from 26 to 29 (fun s10 s11 wr => ∃ (i j : Nat) (dk : Array Int), s10 = .int .i64 i ∧ s11 = .int .i64 j ∧ Hid (i = a + 1) ∧ Hid (j = b - 1) ∧ Hid (dk = swp d a pivot) ∧ a < i ∧ i ≤ j + 1 ∧ j < b ∧ dk.size = len ∧ At U w blk off dk wr)
    case first =>
      go_wp2_with fail
      go_meet
      case rel => exact ⟨a + 1, b - 1, _, by go_num, by congr 1; omega, Lib.hid rfl, Lib.hid rfl, Lib.hid rfl, by omega, by omega, by omega, by rw [size_swp]; exact HS0.out, hcut⟩
    case rest =>
      obtain ⟨i, j, dk, rfl, rfl, HI, HJ, HDK, hai, hij, hjb, hsk, hAk⟩ := hcut
      go_upto_block 0 with fail
      go_cut [10] from 30 to 45 (fun s wc => ∃ i2 : Nat, s = .int .i64 i2 ∧ Hid (i2 = scanUp (fun x => ltInt x dk[a]!) dk j i) ∧ i ≤ i2 ∧ i2 ≤ j + 1 ∧ At U w blk off dk wc)
      case first =>
        go_wp2_with fail
        go_loopg [10] (j + 1 - i) (fun k s wr => ∃ x : Nat, s = .int .i64 x ∧ i ≤ x ∧ x ≤ j + 1 ∧ x ≤ j + 1 ∧ k = j + 1 - x ∧ At U w blk off dk wr ∧ Hid (scanUp (fun x => ltInt x dk[a]!) dk j x = scanUp (fun x => ltInt x dk[a]!) dk j i))
        case atStart => exact ⟨i, rfl, by omega, by omega, by omega, rfl, hAk, Lib.hid rfl⟩
        case round =>
          obtain ⟨x, rfl, hx1, hx2, hx3, hk, hAs, hS⟩ := hrel
          obtain ⟨Gs, hGs⟩ : ∃ G : Nat → Int, ∀ t, G t = dk[t]! := ⟨fun t => dk[t]!, fun _ => rfl⟩
          have hcws : ∀ t, t < len → wr.cell? ⟨blk, off + t, none⟩ = some (.int .u64 (Gs t)) := fun t ht => by rw [hGs]; exact At.cell H.out hblk HL.out hsk hAs t ht
          have hfws : ∀ t, t < len → wr.frozen? ⟨blk, off + t, none⟩ = false := fun t ht => At.thaw H.out hblk HL.out hsk hAs t ht
          have HGs := Lib.hid hGs
          have HAs := Lib.hid hAs
          clear hGs hAs
          by_cases hle : x ≤ j
          · go_wp2_with fail
            go_big_quiet (first | (go_at_call 84; refine Calls.quiet_of_same (less_u _ _ _)))
            go_wp2_with fail
            · have ht : ltInt (Gs x) (Gs a) = true := by assumption
              go_roundg (j + 1 - (x + 1))
              case measure => omega
              case rel => exact ⟨x + 1, by go_num, by omega, by omega, by omega, rfl, HAs.out.ahead nq, Lib.hid (by rw [← hS.out, up_go _ _ _ _ hle (by show ltInt dk[x]! dk[a]! = true; rw [← HGs.out, ← HGs.out]; exact ht)])⟩
            · have ht : ltInt (Gs x) (Gs a) = false := by assumption
              go_meet
              case rel => exact ⟨x, rfl, Lib.hid (by rw [← hS.out, up_end _ _ _ _ (.inr (by show ltInt dk[x]! dk[a]! = false; rw [← HGs.out, ← HGs.out]; exact ht))]), hx1, hx2, HAs.out.ahead nq⟩
          · have hlez : decide ((x : Int) ≤ (j : Int)) = false := decide_eq_false (by omega)
            go_wp2_with fail
            go_big_quiet (first | (go_at_call 84; refine Calls.quiet_of_same (less_u _ _ _)))
            go_wp2_with fail
            go_meet
            case rel => exact ⟨x, rfl, Lib.hid (by rw [← hS.out, up_end _ _ _ _ (.inl (by omega))]), hx1, hx2, HAs.out.ahead nq⟩
      case rest =>
        obtain ⟨i2, rfl, Hi2, hi21, hi22, hAi2⟩ := hcut
        go_upto_block 2 with fail
        go_cut [11] from 46 to 62 (fun s wc => ∃ j2 : Nat, s = .int .i64 j2 ∧ Hid (j2 = scanDown (fun x => !ltInt x dk[a]!) dk i2 j) ∧ j2 ≤ j ∧ i2 ≤ j2 + 1 ∧ At U w blk off dk wc)
        case first =>
          go_wp2_with fail
          go_loopg [11] (j + 1 - i2) (fun k s wr => ∃ x : Nat, s = .int .i64 x ∧ x ≤ j ∧ i2 ≤ x + 1 ∧ x ≤ j + 1 ∧ k = x + 1 - i2 ∧ At U w blk off dk wr ∧ Hid (scanDown (fun x => !ltInt x dk[a]!) dk i2 x = scanDown (fun x => !ltInt x dk[a]!) dk i2 j))
          case atStart => exact ⟨j, rfl, by omega, by omega, by omega, rfl, hAi2, Lib.hid rfl⟩
          case round =>
            obtain ⟨x, rfl, hx1, hx2, hx3, hk, hAs, hS⟩ := hrel
            obtain ⟨Gs, hGs⟩ : ∃ G : Nat → Int, ∀ t, G t = dk[t]! := ⟨fun t => dk[t]!, fun _ => rfl⟩
            have hcws : ∀ t, t < len → wr.cell? ⟨blk, off + t, none⟩ = some (.int .u64 (Gs t)) := fun t ht => by rw [hGs]; exact At.cell H.out hblk HL.out hsk hAs t ht
            have hfws : ∀ t, t < len → wr.frozen? ⟨blk, off + t, none⟩ = false := fun t ht => At.thaw H.out hblk HL.out hsk hAs t ht
            have HGs := Lib.hid hGs
            have HAs := Lib.hid hAs
            clear hGs hAs
            by_cases hle : i2 ≤ x
            · go_wp2_with fail
              go_big_quiet (first | (go_at_call 84; refine Calls.quiet_of_same (less_u _ _ _)))
              go_wp2_with fail
              · have ht : (!ltInt (Gs x) (Gs a)) = true := by assumption
                go_roundg (x - 1 + 1 - i2)
                case measure => omega
                case rel => exact ⟨x - 1, by congr 1; omega, by omega, by omega, by omega, rfl, HAs.out.ahead nq, Lib.hid (by rw [← hS.out, down_go _ _ _ _ (by omega) hle (by show (!ltInt dk[x]! dk[a]!) = true; rw [← HGs.out, ← HGs.out]; exact ht)])⟩
              · have ht : (!ltInt (Gs x) (Gs a)) = false := by assumption
                go_meet
                case rel => exact ⟨x, rfl, Lib.hid (by rw [← hS.out, down_end _ _ _ _ (by omega) (.inr (by show (!ltInt dk[x]! dk[a]!) = false; rw [← HGs.out, ← HGs.out]; exact ht))]), hx1, hx2, HAs.out.ahead nq⟩
            · have hlez : decide ((i2 : Int) ≤ (x : Int)) = false := decide_eq_false (by omega)
              go_wp2_with fail
              go_big_quiet (first | (go_at_call 84; refine Calls.quiet_of_same (less_u _ _ _)))
              go_wp2_with fail
              go_meet
              case rel => exact ⟨x, rfl, Lib.hid (by rw [← hS.out, down_end _ _ _ _ (by omega) (.inl (by omega))]), hx1, hx2, HAs.out.ahead nq⟩
        case rest =>
          obtain ⟨j2, rfl, Hj2, hj21, hj22, hAj2⟩ := hcut
          by_cases hgt : j2 < i2
          · have HP : Hid (partition ltInt d a b pivot = (j2, true, swp dk j2 a)) := Lib.hid (part_one ltInt d a b pivot dk i j i2 j2 HDK.out HI.out HJ.out Hi2.out Hj2.out hgt)
            go_upto_region 8 with fail
            go_cut [] from 66 to 79 (fun wc => At U w blk off (swp dk j2 a) wc)
            case first =>
              obtain ⟨Gq, hGq⟩ : ∃ G : Nat → Int, ∀ t, G t = dk[t]! := ⟨fun t => dk[t]!, fun _ => rfl⟩
              have hcwq : ∀ t, t < len → wc.cell? ⟨blk, off + t, none⟩ = some (.int .u64 (Gq t)) := fun t ht => by rw [hGq]; exact At.cell H.out hblk HL.out hsk hAj2 t ht
              have hfwq : ∀ t, t < len → wc.frozen? ⟨blk, off + t, none⟩ = false := fun t ht => At.thaw H.out hblk HL.out hsk hAj2 t ht
              have HGq := Lib.hid hGq
              have HAq := Lib.hid hAj2
              clear hGq hAj2
              rcases Nat.lt_trichotomy j2 a with hne | hee | hne
              · exact absurd hne (by omega)
              · subst hee
                go_wp2_with fail
                go_region
                go_wp2_with fail
                go_meet
                case rel =>
                  (repeat rw [HGq.out])
                  exact At.swaps H.out hblk HL.out hsk HAq.out 1 j2 j2 (by omega) (by omega)
              · go_wp2_with fail
                go_region
                go_wp2_with fail
                go_meet
                case rel =>
                  (repeat rw [HGq.out])
                  exact At.swaps H.out hblk HL.out hsk HAq.out 1 j2 a (by omega) (by omega)
            case rest =>
              have hAz := hcut
              go_wp2
              go_ret2
              rw [HP.out]
              exact ⟨rfl, hAz⟩
          · have hlt2 : i2 < j2 := by
              have := scans_ne (fun x => ltInt x dk[a]!) (fun x => !ltInt x dk[a]!) (fun _ => rfl) dk i j (by omega) (by rw [← Hi2.out, ← Hj2.out]; omega)
              rw [← Hi2.out, ← Hj2.out] at this
              exact this
            have hnz : ¬ ((j2 : Int) < (i2 : Int)) := by omega
            go_upto_region 10 with fail
            go_cut [] from 81 to 94 (fun wc => At U w blk off (swp dk i2 j2) wc)
            case first =>
              obtain ⟨Gq, hGq⟩ : ∃ G : Nat → Int, ∀ t, G t = dk[t]! := ⟨fun t => dk[t]!, fun _ => rfl⟩
              have hcwq : ∀ t, t < len → wc.cell? ⟨blk, off + t, none⟩ = some (.int .u64 (Gq t)) := fun t ht => by rw [hGq]; exact At.cell H.out hblk HL.out hsk hAj2 t ht
              have hfwq : ∀ t, t < len → wc.frozen? ⟨blk, off + t, none⟩ = false := fun t ht => At.thaw H.out hblk HL.out hsk hAj2 t ht
              have HGq := Lib.hid hGq
              have HAq := Lib.hid hAj2
              clear hGq hAj2
              go_wp2_with fail
              go_region
              go_wp2_with fail
              go_meet
              case rel =>
                (repeat rw [HGq.out])
                exact At.swaps H.out hblk HL.out hsk HAq.out 1 i2 j2 (by omega) (by omega)
            case rest =>
              have hASW := hcut

              obtain ⟨R1, R2, hR⟩ : ∃ R1 R2, partLoop ltInt a (i2 + 1) (j2 - 1) (swp dk i2 j2) = (R1, R2) := ⟨_, _, rfl⟩
              have HR := Lib.hid hR
              clear hR
              have HP : Hid (partition ltInt d a b pivot = (R1, false, swp R2 R1 a)) := Lib.hid (by rw [part_two ltInt d a b pivot dk i j i2 j2 HDK.out HI.out HJ.out Hi2.out Hj2.out (by omega), HR.out])
              go_upto_block 4 with fail
              go_cut [10, 11] from 99 to 152 (fun s10 s11 wc => s11 = .int .i64 R1 ∧ a ≤ R1 ∧ R1 < b ∧ R2.size = len ∧ At U w blk off R2 wc)
              case first =>
                go_wp2_with fail
                go_loopg [10, 11] (j2 - 1 + 1 - (i2 + 1)) (fun k s10 s11 wr => ∃ (i j : Nat) (dj : Array Int), s10 = .int .i64 i ∧ s11 = .int .i64 j ∧ a < i ∧ i ≤ j + 1 ∧ j < b ∧ k = j + 1 - i ∧ dj.size = len ∧ At U w blk off dj wr ∧ Hid (partLoop ltInt a i j dj = partLoop ltInt a (i2 + 1) (j2 - 1) (swp dk i2 j2)))
                case atStart => exact ⟨i2 + 1, j2 - 1, swp dk i2 j2, by go_num, by congr 1; omega, by omega, by omega, by omega, rfl, by rw [size_swp]; exact hsk, hASW, Lib.hid rfl⟩
                case round =>
                  clear hASW
                  obtain ⟨i, j, dj, rfl, rfl, hi1, hi2, hj1, hk, hsj, hAj, hOj⟩ := hrel
                  go_upto_block 6 with fail
                  go_cut [10] from 99 to 114 (fun s wc => ∃ i3 : Nat, s = .int .i64 i3 ∧ Hid (i3 = scanUp (fun x => ltInt x dj[a]!) dj j i) ∧ i ≤ i3 ∧ i3 ≤ j + 1 ∧ At U w blk off dj wc)
                  case first =>
                    go_wp2_with fail
                    go_loopg [10] (j + 1 - i) (fun k s wr => ∃ x : Nat, s = .int .i64 x ∧ i ≤ x ∧ x ≤ j + 1 ∧ x ≤ j + 1 ∧ k = j + 1 - x ∧ At U w blk off dj wr ∧ Hid (scanUp (fun x => ltInt x dj[a]!) dj j x = scanUp (fun x => ltInt x dj[a]!) dj j i))
                    case atStart => exact ⟨i, rfl, by omega, by omega, by omega, rfl, hAj, Lib.hid rfl⟩
                    case round =>
                      obtain ⟨x, rfl, hx1, hx2, hx3, hk, hAs, hS⟩ := hrel
                      obtain ⟨Gs, hGs⟩ : ∃ G : Nat → Int, ∀ t, G t = dj[t]! := ⟨fun t => dj[t]!, fun _ => rfl⟩
                      have hcws : ∀ t, t < len → wr.cell? ⟨blk, off + t, none⟩ = some (.int .u64 (Gs t)) := fun t ht => by rw [hGs]; exact At.cell H.out hblk HL.out hsj hAs t ht
                      have hfws : ∀ t, t < len → wr.frozen? ⟨blk, off + t, none⟩ = false := fun t ht => At.thaw H.out hblk HL.out hsj hAs t ht
                      have HGs := Lib.hid hGs
                      have HAs := Lib.hid hAs
                      clear hGs hAs
                      by_cases hle : x ≤ j
                      · go_wp2_with fail
                        go_big_quiet (first | (go_at_call 84; refine Calls.quiet_of_same (less_u _ _ _)))
                        go_wp2_with fail
                        · have ht : ltInt (Gs x) (Gs a) = true := by assumption
                          go_roundg (j + 1 - (x + 1))
                          case measure => omega
                          case rel => exact ⟨x + 1, by go_num, by omega, by omega, by omega, rfl, HAs.out.ahead nq, Lib.hid (by rw [← hS.out, up_go _ _ _ _ hle (by show ltInt dj[x]! dj[a]! = true; rw [← HGs.out, ← HGs.out]; exact ht)])⟩
                        · have ht : ltInt (Gs x) (Gs a) = false := by assumption
                          go_meet
                          case rel => exact ⟨x, rfl, Lib.hid (by rw [← hS.out, up_end _ _ _ _ (.inr (by show ltInt dj[x]! dj[a]! = false; rw [← HGs.out, ← HGs.out]; exact ht))]), hx1, hx2, HAs.out.ahead nq⟩
                      · have hlez : decide ((x : Int) ≤ (j : Int)) = false := decide_eq_false (by omega)
                        go_wp2_with fail
                        go_big_quiet (first | (go_at_call 84; refine Calls.quiet_of_same (less_u _ _ _)))
                        go_wp2_with fail
                        go_meet
                        case rel => exact ⟨x, rfl, Lib.hid (by rw [← hS.out, up_end _ _ _ _ (.inl (by omega))]), hx1, hx2, HAs.out.ahead nq⟩
                  case rest =>
                    obtain ⟨i3, rfl, Hi3, hi31, hi32, hAi3⟩ := hcut
                    go_upto_block 8 with fail
                    go_cut [11] from 115 to 131 (fun s wc => ∃ j3 : Nat, s = .int .i64 j3 ∧ Hid (j3 = scanDown (fun x => !ltInt x dj[a]!) dj i3 j) ∧ j3 ≤ j ∧ i3 ≤ j3 + 1 ∧ At U w blk off dj wc)
                    case first =>
                      go_wp2_with fail
                      go_loopg [11] (j + 1 - i3) (fun k s wr => ∃ x : Nat, s = .int .i64 x ∧ x ≤ j ∧ i3 ≤ x + 1 ∧ x ≤ j + 1 ∧ k = x + 1 - i3 ∧ At U w blk off dj wr ∧ Hid (scanDown (fun x => !ltInt x dj[a]!) dj i3 x = scanDown (fun x => !ltInt x dj[a]!) dj i3 j))
                      case atStart => exact ⟨j, rfl, by omega, by omega, by omega, rfl, hAi3, Lib.hid rfl⟩
                      case round =>
                        obtain ⟨x, rfl, hx1, hx2, hx3, hk, hAs, hS⟩ := hrel
                        obtain ⟨Gs, hGs⟩ : ∃ G : Nat → Int, ∀ t, G t = dj[t]! := ⟨fun t => dj[t]!, fun _ => rfl⟩
                        have hcws : ∀ t, t < len → wr.cell? ⟨blk, off + t, none⟩ = some (.int .u64 (Gs t)) := fun t ht => by rw [hGs]; exact At.cell H.out hblk HL.out hsj hAs t ht
                        have hfws : ∀ t, t < len → wr.frozen? ⟨blk, off + t, none⟩ = false := fun t ht => At.thaw H.out hblk HL.out hsj hAs t ht
                        have HGs := Lib.hid hGs
                        have HAs := Lib.hid hAs
                        clear hGs hAs
                        by_cases hle : i3 ≤ x
                        · go_wp2_with fail
                          go_big_quiet (first | (go_at_call 84; refine Calls.quiet_of_same (less_u _ _ _)))
                          go_wp2_with fail
                          · have ht : (!ltInt (Gs x) (Gs a)) = true := by assumption
                            go_roundg (x - 1 + 1 - i3)
                            case measure => omega
                            case rel => exact ⟨x - 1, by congr 1; omega, by omega, by omega, by omega, rfl, HAs.out.ahead nq, Lib.hid (by rw [← hS.out, down_go _ _ _ _ (by omega) hle (by show (!ltInt dj[x]! dj[a]!) = true; rw [← HGs.out, ← HGs.out]; exact ht)])⟩
                          · have ht : (!ltInt (Gs x) (Gs a)) = false := by assumption
                            go_meet
                            case rel => exact ⟨x, rfl, Lib.hid (by rw [← hS.out, down_end _ _ _ _ (by omega) (.inr (by show (!ltInt dj[x]! dj[a]!) = false; rw [← HGs.out, ← HGs.out]; exact ht))]), hx1, hx2, HAs.out.ahead nq⟩
                        · have hlez : decide ((i3 : Int) ≤ (x : Int)) = false := decide_eq_false (by omega)
                          go_wp2_with fail
                          go_big_quiet (first | (go_at_call 84; refine Calls.quiet_of_same (less_u _ _ _)))
                          go_wp2_with fail
                          go_meet
                          case rel => exact ⟨x, rfl, Lib.hid (by rw [← hS.out, down_end _ _ _ _ (by omega) (.inl (by omega))]), hx1, hx2, HAs.out.ahead nq⟩
                    case rest =>
                      obtain ⟨j3, rfl, Hj3, hj31, hj32, hAj3⟩ := hcut
                      have hPE : Hid (partLoop ltInt a i j dj = if i3 > j3 then (j3, dj) else partLoop ltInt a (i3 + 1) (j3 - 1) (swp dj i3 j3)) := Lib.hid (by rw [partLoop_eq, ← Hi3.out, ← Hj3.out])
                      by_cases hgt : j3 < i3
                      · go_wp2_with fail
                        go_meet
                        case rel =>
                          have e : (R1, R2) = (j3, dj) := by rw [← HR.out, ← hOj.out, hPE.out, if_pos hgt]
                          injection e with e1 e2
                          exact ⟨by rw [e1], by omega, by omega, by rw [e2]; exact hsj, by rw [e2]; exact hAj3⟩
                      · have hlt3 : i3 < j3 := by
                          have := scans_ne (fun x => ltInt x dj[a]!) (fun x => !ltInt x dj[a]!) (fun _ => rfl) dj i j (by omega) (by rw [← Hi3.out, ← Hj3.out]; omega)
                          rw [← Hi3.out, ← Hj3.out] at this
                          exact this
                        have hnz : ¬ ((j3 : Int) < (i3 : Int)) := by omega
                        go_wp2_with fail
                        obtain ⟨Gq, hGq⟩ : ∃ G : Nat → Int, ∀ t, G t = dj[t]! := ⟨fun t => dj[t]!, fun _ => rfl⟩
                        have hcwq : ∀ t, t < len → wc.cell? ⟨blk, off + t, none⟩ = some (.int .u64 (Gq t)) := fun t ht => by rw [hGq]; exact At.cell H.out hblk HL.out hsj hAj3 t ht
                        have hfwq : ∀ t, t < len → wc.frozen? ⟨blk, off + t, none⟩ = false := fun t ht => At.thaw H.out hblk HL.out hsj hAj3 t ht
                        have HGq := Lib.hid hGq
                        have HAq := Lib.hid hAj3
                        clear hGq hAj3

                        go_region
                        go_wp2_with fail
                        go_roundg (j3 - 1 + 1 - (i3 + 1))
                        case measure => omega
                        case rel =>
                          refine ⟨i3 + 1, j3 - 1, swp dj i3 j3, by go_num, by congr 1; omega, by omega, by omega, by omega, rfl, by rw [size_swp]; exact hsj, ?_, Lib.hid (by rw [← hOj.out, hPE.out, if_neg (by omega)])⟩
                          rw [HGq.out, HGq.out]
                          exact At.swaps H.out hblk HL.out hsj HAq.out 1 i3 j3 (by omega) (by omega)
              case rest =>
                obtain ⟨rfl, hR1, hR2, hR2s, hAR⟩ := hcut
                go_upto_region 21 with fail
                go_cut [] from 153 to 166 (fun wc => At U w blk off (swp R2 R1 a) wc)
                case first =>
                  obtain ⟨Gq, hGq⟩ : ∃ G : Nat → Int, ∀ t, G t = R2[t]! := ⟨fun t => R2[t]!, fun _ => rfl⟩
                  have hcwq : ∀ t, t < len → wc.cell? ⟨blk, off + t, none⟩ = some (.int .u64 (Gq t)) := fun t ht => by rw [hGq]; exact At.cell H.out hblk HL.out hR2s hAR t ht
                  have hfwq : ∀ t, t < len → wc.frozen? ⟨blk, off + t, none⟩ = false := fun t ht => At.thaw H.out hblk HL.out hR2s hAR t ht
                  have HGq := Lib.hid hGq
                  have HAq := Lib.hid hAR
                  clear hGq hAR
                  rcases Nat.lt_trichotomy R1 a with hne | hee | hne
                  · exact absurd hne (by omega)
                  · subst hee
                    go_wp2_with fail
                    go_region
                    go_wp2_with fail
                    go_meet
                    case rel =>
                      (repeat rw [HGq.out])
                      exact At.swaps H.out hblk HL.out hR2s HAq.out 1 R1 R1 (by omega) (by omega)
                  · go_wp2_with fail
                    go_region
                    go_wp2_with fail
                    go_meet
                    case rel =>
                      (repeat rw [HGq.out])
                      exact At.swaps H.out hblk HL.out hR2s HAq.out 1 R1 a (by omega) (by omega)
                case rest =>
                  obtain ⟨wz, hwz⟩ : ∃ wz, wz = wc := ⟨_, rfl⟩
                  have hAz := hcut
                  go_wp2
                  go_ret2
                  rw [HP.out]
                  exact ⟨rfl, hAz⟩
end Go.Proofs.YtfpioijfocmfcaaGreatDoor
namespace Go.Proofs.YtfpioijfocmfcaaGreatDoor
open Go.RowKit Go.Sort

set_option maxRecDepth 100000 in
set_option maxHeartbeats 16000000 in
theorem peq_u (blk off cap a b pivot : Nat) (d : Array Int) (w : World) (hH : Holds U w blk off d) (hblk : blk < w.heap.size) (hap : a ≤ pivot) (hpb : pivot < b) (hb : b ≤ d.size) (hsz : d.size < 1000000000) :
    Calls Tryz.prog 85 #[.slice (some ⟨blk, off, none⟩) d.size cap, .int .i64 a, .int .i64 b, .int .i64 pivot] w fun e w' =>
      e = .returned (.int .i64 (partitionEqual ltInt d a b pivot).1) ∧ At U w blk off (partitionEqual ltInt d a b pivot).2 w' := by
  obtain ⟨len, hlen⟩ : ∃ n, n = d.size := ⟨_, rfl⟩
  have H := Lib.hid hH
  clear hH
  rw [← hlen]
  rw [← hlen] at hb hsz
  have HL := Lib.hid hlen
  clear hlen
  have hA0 := At.refl H.out
  have hs0 : d.size = len := HL.out.symm
  have HS0 := Lib.hid hs0
  clear hs0
  go_enter Tryz.func85, Tryz.ntmps85
  go_upto_region 1 with fail
  go_cut [] from 11 to 24 (fun wc => At U w blk off (swp d a pivot) wc)
  case first =>
    obtain ⟨Gq, hGq⟩ : ∃ G : Nat → Int, ∀ t, G t = d[t]! := ⟨fun t => d[t]!, fun _ => rfl⟩
    have hcwq : ∀ t, t < len → w.cell? ⟨blk, off + t, none⟩ = some (.int .u64 (Gq t)) := fun t ht => by rw [hGq]; exact At.cell H.out hblk HL.out HS0.out hA0 t ht
    have hfwq : ∀ t, t < len → w.frozen? ⟨blk, off + t, none⟩ = false := fun t ht => At.thaw H.out hblk HL.out HS0.out hA0 t ht
    have HGq := Lib.hid hGq
    have HAq := Lib.hid hA0
    clear hGq hA0
    rcases Nat.lt_trichotomy a pivot with hne | hee | hne
    · go_wp2_with fail
      go_region
      go_wp2_with fail
      go_meet
      case rel =>
        (repeat rw [HGq.out])
        exact At.swaps H.out hblk HL.out HS0.out HAq.out 1 a pivot (by omega) (by omega)
    · subst hee
      go_wp2_with fail
      go_region
      go_wp2_with fail
      go_meet
      case rel =>
        (repeat rw [HGq.out])
        exact At.swaps H.out hblk HL.out HS0.out HAq.out 1 a a (by omega) (by omega)
    · exact absurd hne (by omega)
  case rest =>
    have hA1 := hcut
    clear hcut
    go_wp2_with fail
    go_loopg [9, 10] (b - 1 + 1 - (a + 1)) (fun k s9 s10 wr => ∃ (i j : Nat) (dj : Array Int), s9 = .int .i64 i ∧ s10 = .int .i64 j ∧ a < i ∧ i ≤ j + 1 ∧ j < b ∧ k = j + 1 - i ∧ dj.size = len ∧ At U w blk off dj wr ∧ Hid (partEqLoop ltInt a i j dj = partitionEqual ltInt d a b pivot))
    case atStart => exact ⟨a + 1, b - 1, swp d a pivot, by go_num, by congr 1; omega, by omega, by omega, by omega, rfl, by rw [size_swp]; exact HS0.out, hA1, Lib.hid rfl⟩
    case round =>
      clear hA1
      obtain ⟨i, j, dj, rfl, rfl, hi1, hi2, hj1, hk, hsj, hAj, hOj⟩ := hrel
      go_upto_block 2 with fail
      go_cut [9] from 29 to 45 (fun s wc => ∃ i3 : Nat, s = .int .i64 i3 ∧ Hid (i3 = scanUp (fun x => !ltInt dj[a]! x) dj j i) ∧ i ≤ i3 ∧ i3 ≤ j + 1 ∧ At U w blk off dj wc)
      case first =>
        go_wp2_with fail
        go_loopg [9] (j + 1 - i) (fun k s wr => ∃ x : Nat, s = .int .i64 x ∧ i ≤ x ∧ x ≤ j + 1 ∧ x ≤ j + 1 ∧ k = j + 1 - x ∧ At U w blk off dj wr ∧ Hid (scanUp (fun x => !ltInt dj[a]! x) dj j x = scanUp (fun x => !ltInt dj[a]! x) dj j i))
        case atStart => exact ⟨i, rfl, by omega, by omega, by omega, rfl, hAj, Lib.hid rfl⟩
        case round =>
          obtain ⟨x, rfl, hx1, hx2, hx3, hk, hAs, hS⟩ := hrel
          obtain ⟨Gs, hGs⟩ : ∃ G : Nat → Int, ∀ t, G t = dj[t]! := ⟨fun t => dj[t]!, fun _ => rfl⟩
          have hcws : ∀ t, t < len → wr.cell? ⟨blk, off + t, none⟩ = some (.int .u64 (Gs t)) := fun t ht => by rw [hGs]; exact At.cell H.out hblk HL.out hsj hAs t ht
          have hfws : ∀ t, t < len → wr.frozen? ⟨blk, off + t, none⟩ = false := fun t ht => At.thaw H.out hblk HL.out hsj hAs t ht
          have HGs := Lib.hid hGs
          have HAs := Lib.hid hAs
          clear hGs hAs
          by_cases hle : x ≤ j
          · go_wp2_with fail
            go_big_quiet (first | (go_at_call 84; refine Calls.quiet_of_same (less_u _ _ _)))
            go_wp2_with fail
            · have ht : (!ltInt (Gs a) (Gs x)) = true := by assumption
              go_roundg (j + 1 - (x + 1))
              case measure => omega
              case rel => exact ⟨x + 1, by go_num, by omega, by omega, by omega, rfl, HAs.out.ahead nq, Lib.hid (by rw [← hS.out, up_go _ _ _ _ hle (by show (!ltInt dj[a]! dj[x]!) = true; rw [← HGs.out, ← HGs.out]; exact ht)])⟩
            · have ht : (!ltInt (Gs a) (Gs x)) = false := by assumption
              go_meet
              case rel => exact ⟨x, rfl, Lib.hid (by rw [← hS.out, up_end _ _ _ _ (.inr (by show (!ltInt dj[a]! dj[x]!) = false; rw [← HGs.out, ← HGs.out]; exact ht))]), hx1, hx2, HAs.out.ahead nq⟩
          · have hlez : decide ((x : Int) ≤ (j : Int)) = false := decide_eq_false (by omega)
            go_wp2_with fail
            go_big_quiet (first | (go_at_call 84; refine Calls.quiet_of_same (less_u _ _ _)))
            go_wp2_with fail
            go_meet
            case rel => exact ⟨x, rfl, Lib.hid (by rw [← hS.out, up_end _ _ _ _ (.inl (by omega))]), hx1, hx2, HAs.out.ahead nq⟩
      case rest =>
        obtain ⟨i3, rfl, Hi3, hi31, hi32, hAi3⟩ := hcut
        go_upto_block 4 with fail
        go_cut [10] from 46 to 61 (fun s wc => ∃ j3 : Nat, s = .int .i64 j3 ∧ Hid (j3 = scanDown (fun x => ltInt dj[a]! x) dj i3 j) ∧ j3 ≤ j ∧ i3 ≤ j3 + 1 ∧ At U w blk off dj wc)
        case first =>
          go_wp2_with fail
          go_loopg [10] (j + 1 - i3) (fun k s wr => ∃ x : Nat, s = .int .i64 x ∧ x ≤ j ∧ i3 ≤ x + 1 ∧ x ≤ j + 1 ∧ k = x + 1 - i3 ∧ At U w blk off dj wr ∧ Hid (scanDown (fun x => ltInt dj[a]! x) dj i3 x = scanDown (fun x => ltInt dj[a]! x) dj i3 j))
          case atStart => exact ⟨j, rfl, by omega, by omega, by omega, rfl, hAi3, Lib.hid rfl⟩
          case round =>
            obtain ⟨x, rfl, hx1, hx2, hx3, hk, hAs, hS⟩ := hrel
            obtain ⟨Gs, hGs⟩ : ∃ G : Nat → Int, ∀ t, G t = dj[t]! := ⟨fun t => dj[t]!, fun _ => rfl⟩
            have hcws : ∀ t, t < len → wr.cell? ⟨blk, off + t, none⟩ = some (.int .u64 (Gs t)) := fun t ht => by rw [hGs]; exact At.cell H.out hblk HL.out hsj hAs t ht
            have hfws : ∀ t, t < len → wr.frozen? ⟨blk, off + t, none⟩ = false := fun t ht => At.thaw H.out hblk HL.out hsj hAs t ht
            have HGs := Lib.hid hGs
            have HAs := Lib.hid hAs
            clear hGs hAs
            by_cases hle : i3 ≤ x
            · go_wp2_with fail
              go_big_quiet (first | (go_at_call 84; refine Calls.quiet_of_same (less_u _ _ _)))
              go_wp2_with fail
              · have ht : ltInt (Gs a) (Gs x) = true := by assumption
                go_roundg (x - 1 + 1 - i3)
                case measure => omega
                case rel => exact ⟨x - 1, by congr 1; omega, by omega, by omega, by omega, rfl, HAs.out.ahead nq, Lib.hid (by rw [← hS.out, down_go _ _ _ _ (by omega) hle (by show ltInt dj[a]! dj[x]! = true; rw [← HGs.out, ← HGs.out]; exact ht)])⟩
              · have ht : ltInt (Gs a) (Gs x) = false := by assumption
                go_meet
                case rel => exact ⟨x, rfl, Lib.hid (by rw [← hS.out, down_end _ _ _ _ (by omega) (.inr (by show ltInt dj[a]! dj[x]! = false; rw [← HGs.out, ← HGs.out]; exact ht))]), hx1, hx2, HAs.out.ahead nq⟩
            · have hlez : decide ((i3 : Int) ≤ (x : Int)) = false := decide_eq_false (by omega)
              go_wp2_with fail
              go_big_quiet (first | (go_at_call 84; refine Calls.quiet_of_same (less_u _ _ _)))
              go_wp2_with fail
              go_meet
              case rel => exact ⟨x, rfl, Lib.hid (by rw [← hS.out, down_end _ _ _ _ (by omega) (.inl (by omega))]), hx1, hx2, HAs.out.ahead nq⟩
        case rest =>
          obtain ⟨j3, rfl, Hj3, hj31, hj32, hAj3⟩ := hcut
          have hPE : Hid (partEqLoop ltInt a i j dj = if i3 > j3 then (i3, dj) else partEqLoop ltInt a (i3 + 1) (j3 - 1) (swp dj i3 j3)) := Lib.hid (by rw [partEqLoop_eq, ← Hi3.out, ← Hj3.out])
          by_cases hgt : j3 < i3
          · have HP : Hid (partitionEqual ltInt d a b pivot = (i3, dj)) := Lib.hid (by rw [← hOj.out, hPE.out, if_pos hgt])
            go_wp2_with fail
            go_ret
            rw [HP.out]
            exact ⟨rfl, hAj3⟩
          · have hlt3 : i3 < j3 := by
              have := scans_ne (fun x => !ltInt dj[a]! x) (fun x => ltInt dj[a]! x) (fun x => by simp) dj i j (by omega) (by rw [← Hi3.out, ← Hj3.out]; omega)
              rw [← Hi3.out, ← Hj3.out] at this
              exact this
            have hnz : ¬ ((j3 : Int) < (i3 : Int)) := by omega
            go_wp2_with fail
            obtain ⟨Gq, hGq⟩ : ∃ G : Nat → Int, ∀ t, G t = dj[t]! := ⟨fun t => dj[t]!, fun _ => rfl⟩
            have hcwq : ∀ t, t < len → wc.cell? ⟨blk, off + t, none⟩ = some (.int .u64 (Gq t)) := fun t ht => by rw [hGq]; exact At.cell H.out hblk HL.out hsj hAj3 t ht
            have hfwq : ∀ t, t < len → wc.frozen? ⟨blk, off + t, none⟩ = false := fun t ht => At.thaw H.out hblk HL.out hsj hAj3 t ht
            have HGq := Lib.hid hGq
            have HAq := Lib.hid hAj3
            clear hGq hAj3

            go_region
            go_wp2_with fail
            go_roundg (j3 - 1 + 1 - (i3 + 1))
            case measure => omega
            case rel =>
              refine ⟨i3 + 1, j3 - 1, swp dj i3 j3, by go_num, by congr 1; omega, by omega, by omega, by omega, rfl, by rw [size_swp]; exact hsj, ?_, Lib.hid (by rw [← hOj.out, hPE.out, if_neg (by omega)])⟩
              rw [HGq.out, HGq.out]
              exact At.swaps H.out hblk HL.out hsj HAq.out 1 i3 j3 (by omega) (by omega)
end Go.Proofs.YtfpioijfocmfcaaGreatDoor
