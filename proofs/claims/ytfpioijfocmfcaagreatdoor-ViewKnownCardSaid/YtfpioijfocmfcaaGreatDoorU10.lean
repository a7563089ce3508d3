/-
  CONTRACTS of the library's sort at []uint64: pdqsortOrdered, slices.Sort: the row is sorted. No condition but the row's length.
-/
import Derived.Test.YtfpioijfocmfcaaGreatDoorGUA
import Derived.Test.YtfpioijfocmfcaaGreatDoorGUB
import Derived.Test.YtfpioijfocmfcaaGreatDoorGUC
import Derived.Deep.CutBlock
namespace Go.Proofs.YtfpioijfocmfcaaGreatDoor
open Go.RowKit Go.Sort

theorem At.trans {w wr w' : World} {blk off : Nat} {d d' : Array Int} (h : At U w blk off d wr) (hb : blk < w.heap.size) (hs : d'.size = d.size) (h1 : At U wr blk off d' w') : At U w blk off d' w' := by
  obtain ⟨n, os, h1⟩ := h1
  exact h.stepG hb hs ⟨n, os, h1⟩

/-- What is left to do: whoever sorts the part at hand has sorted the whole. -/
def Left (a b : Nat) (d : Array Int) (a' b' : Nat) (dk : Array Int) : Prop := ∀ R, PermIn a' b' dk R → SortedIn ltInt a' b' R → PermIn a b d R ∧ SortedIn ltInt a b R
theorem Left.perm {a b a' b' : Nat} {d dk d1 : Array Int} (h : Left a b d a' b' dk) (hp : PermIn a' b' dk d1) : Left a b d a' b' d1 := fun R h1 h2 => h R (permIn_trans _ _ _ a' b' hp h1) h2

section
variable {w : World} {blk off cap len : Nat} {d : Array Int}
theorem ins_at (hH : Holds U w blk off d) (hb : blk < w.heap.size) (hl : len = d.size) (hz : len < 1000000000) (dk : Array Int) (wr : World) (hs : dk.size = len) (hA : At U w blk off dk wr) (a b : Nat) (h1 : a ≤ b) (h2 : b ≤ len) :
    Calls Tryz.prog 78 #[.slice (some ⟨blk, off, none⟩) len cap, .int .i64 a, .int .i64 b] wr fun e w' => e = .returned (.tuple #[]) ∧ ∃ R, PermIn a b dk R ∧ SortedIn ltInt a b R ∧ At U w blk off R w' := by
  obtain ⟨hh, hb2⟩ := hA.holds hH (hs.trans hl) hb
  have := ins_u blk off cap a b dk wr hh hb2 h1 (by omega) (by omega)
  rw [hs] at this
  refine this.mono ?_
  rintro e w' ⟨rfl, h⟩
  have hp := insertionSort_of swp_permIn permIn_refl permIn_trans (swo_ltInt) dk a b h1 (by omega)
  exact ⟨rfl, _, hp.1, hp.2, At.trans hA hb hp.1.1 h⟩
theorem heap_at (hH : Holds U w blk off d) (hb : blk < w.heap.size) (hl : len = d.size) (hz : len < 1000000000) (dk : Array Int) (wr : World) (hs : dk.size = len) (hA : At U w blk off dk wr) (a b : Nat) (h1 : a < b) (h2 : b ≤ len) :
    Calls Tryz.prog 79 #[.slice (some ⟨blk, off, none⟩) len cap, .int .i64 a, .int .i64 b] wr fun e w' => e = .returned (.tuple #[]) ∧ ∃ R, PermIn a b dk R ∧ SortedIn ltInt a b R ∧ At U w blk off R w' := by
  obtain ⟨hh, hb2⟩ := hA.holds hH (hs.trans hl) hb
  have := heap_u blk off cap a b dk wr hh hb2 h1 (by omega) (by omega)
  rw [hs] at this
  refine this.mono ?_
  rintro e w' ⟨rfl, h⟩
  have hp := heapSort_holds swo_ltInt dk a b (by omega) (by omega)
  exact ⟨rfl, _, hp.1, hp.2, At.trans hA hb hp.1.1 h⟩
theorem break_at (hH : Holds U w blk off d) (hb : blk < w.heap.size) (hl : len = d.size) (hz : len < 1000000000) (dk : Array Int) (wr : World) (hs : dk.size = len) (hA : At U w blk off dk wr) (a b : Nat) (h1 : a + 12 < b) (h2 : b ≤ len) :
    Calls Tryz.prog 80 #[.slice (some ⟨blk, off, none⟩) len cap, .int .i64 a, .int .i64 b] wr fun e w' => e = .returned (.tuple #[]) ∧ ∃ R, PermIn a b dk R ∧ At U w blk off R w' := by
  obtain ⟨hh, hb2⟩ := hA.holds hH (hs.trans hl) hb
  have := break_u blk off cap a b dk wr hh hb2 h1 (by omega) (by omega)
  rw [hs] at this
  refine this.mono ?_
  rintro e w' ⟨rfl, R, hp, h⟩
  exact ⟨rfl, R, hp, At.trans hA hb hp.1 h⟩
theorem pivot_at (hH : Holds U w blk off d) (hb : blk < w.heap.size) (hl : len = d.size) (hz : len < 1000000000) (dk : Array Int) (wr : World) (hs : dk.size = len) (hA : At U w blk off dk wr) (a b : Nat) (h1 : a + 12 < b) (h2 : b ≤ len) :
    Calls Tryz.prog 81 #[.slice (some ⟨blk, off, none⟩) len cap, .int .i64 a, .int .i64 b] wr fun e w' => ∃ p h : Nat, e = .returned (.tuple #[.int .i64 p, .int .i64 h]) ∧ a ≤ p ∧ p < b ∧ h ≤ 2 ∧ At U w blk off dk w' := by
  obtain ⟨hh, hb2⟩ := hA.holds hH (hs.trans hl) hb
  have := pivot_u blk off cap a b dk wr hh hb2 h1 (by omega) (by omega)
  rw [hs] at this
  refine this.mono ?_
  rintro e w' ⟨p, h, rfl, p1, p2, p3, h4⟩
  exact ⟨p, h, rfl, p1, p2, p3, hA.same hH (hs.trans hl) hb h4⟩
theorem rev_at (hH : Holds U w blk off d) (hb : blk < w.heap.size) (hl : len = d.size) (hz : len < 1000000000) (dk : Array Int) (wr : World) (hs : dk.size = len) (hA : At U w blk off dk wr) (a b : Nat) (h1 : a < b) (h2 : b ≤ len) :
    Calls Tryz.prog 82 #[.slice (some ⟨blk, off, none⟩) len cap, .int .i64 a, .int .i64 b] wr fun e w' => e = .returned (.tuple #[]) ∧ ∃ R, PermIn a b dk R ∧ At U w blk off R w' := by
  obtain ⟨hh, hb2⟩ := hA.holds hH (hs.trans hl) hb
  have := rev_u blk off cap a b dk wr hh hb2 h1 (by omega) (by omega)
  rw [hs] at this
  refine this.mono ?_
  rintro e w' ⟨rfl, h⟩
  have hp := reverseRange_holds dk a b (by omega) (by omega)
  exact ⟨rfl, _, hp, At.trans hA hb hp.1 h⟩
theorem pins_at (hH : Holds U w blk off d) (hb : blk < w.heap.size) (hl : len = d.size) (hz : len < 1000000000) (dk : Array Int) (wr : World) (hs : dk.size = len) (hA : At U w blk off dk wr) (a b : Nat) (h1 : a < b) (h2 : b ≤ len) (hB : Below ltInt a b dk) :
    Calls Tryz.prog 83 #[.slice (some ⟨blk, off, none⟩) len cap, .int .i64 a, .int .i64 b] wr fun e w' => ∃ r : Bool, e = .returned (.bool r) ∧ ∃ R, PermIn a b dk R ∧ (r = true → SortedIn ltInt a b R) ∧ At U w blk off R w' := by
  obtain ⟨hh, hb2⟩ := hA.holds hH (hs.trans hl) hb
  have := pins_u blk off cap a b dk wr hh hb2 h1 (by omega) (by omega)
  rw [hs] at this
  refine this.mono ?_
  rintro e w' ⟨rfl, h⟩
  have hp := partialInsertionSort_holds swo_ltInt dk a b h1 (by omega) hB
  exact ⟨_, rfl, _, hp.1, hp.2, At.trans hA hb hp.1.1 h⟩
theorem peq_at (hH : Holds U w blk off d) (hb : blk < w.heap.size) (hl : len = d.size) (hz : len < 1000000000) (dk : Array Int) (wr : World) (hs : dk.size = len) (hA : At U w blk off dk wr) (a b p : Nat) (h0 : 0 < a) (h1 : a ≤ p) (h2 : p < b) (h3 : b ≤ len) (hB : Below ltInt a b dk) (hn : ltInt dk[a - 1]! dk[p]! = false) :
    Calls Tryz.prog 85 #[.slice (some ⟨blk, off, none⟩) len cap, .int .i64 a, .int .i64 b, .int .i64 p] wr fun e w' => ∃ mid : Nat, e = .returned (.int .i64 mid) ∧ a < mid ∧ mid ≤ b ∧ ∃ R, R.size = len ∧ Below ltInt mid b R ∧ Left a b dk mid b R ∧ At U w blk off R w' := by
  obtain ⟨hh, hb2⟩ := hA.holds hH (hs.trans hl) hb
  have := peq_u blk off cap a b p dk wr hh hb2 h1 h2 (by omega) (by omega)
  rw [hs] at this
  refine this.mono ?_
  rintro e w' ⟨rfl, h⟩
  obtain ⟨r1, r2, r3, r4, r5⟩ := round_eq swo_ltInt (partitionEqual_holds ltInt) h0 h1 h2 (show b ≤ dk.size by omega) hB hn (show partitionEqual ltInt dk a b p = (_, _) from rfl)
  exact ⟨_, rfl, r1, r2, _, r3.trans hs, r4, r5, At.trans hA hb r3 h⟩
theorem part_at (hH : Holds U w blk off d) (hb : blk < w.heap.size) (hl : len = d.size) (hz : len < 1000000000) (dk : Array Int) (wr : World) (hs : dk.size = len) (hA : At U w blk off dk wr) (a b p : Nat) (h1 : a ≤ p) (h2 : p < b) (h3 : b ≤ len) (hB : Below ltInt a b dk) :
    Calls Tryz.prog 86 #[.slice (some ⟨blk, off, none⟩) len cap, .int .i64 a, .int .i64 b, .int .i64 p] wr fun e w' => ∃ (mid : Nat) (ap : Bool), e = .returned (.tuple #[.int .i64 mid, .bool ap]) ∧ a ≤ mid ∧ mid < b ∧ ∃ R, R.size = len ∧ Below ltInt a mid R ∧ Below ltInt (mid + 1) b R ∧
      (∀ L, PermIn a mid R L → SortedIn ltInt a mid L → Below ltInt (mid + 1) b L ∧ Left a b dk (mid + 1) b L) ∧ (∀ L, PermIn (mid + 1) b R L → SortedIn ltInt (mid + 1) b L → Below ltInt a mid L ∧ Left a b dk a mid L) ∧ At U w blk off R w' := by
  obtain ⟨hh, hb2⟩ := hA.holds hH (hs.trans hl) hb
  have := part_u blk off cap a b p dk wr hh hb2 h1 h2 (by omega) (by omega)
  rw [hs] at this
  refine this.mono ?_
  rintro e w' ⟨rfl, h⟩
  obtain ⟨r1, r2, r3, r4, r5, r6, r7⟩ := round_part swo_ltInt (partition_holds ltInt) h1 h2 (show b ≤ dk.size by omega) hB (show partition ltInt dk a b p = (_, _, _) from rfl)
  exact ⟨_, _, rfl, r1, r2, _, r3.trans hs, r4, r5, r6, r7, At.trans hA hb r3 h⟩
end

set_option maxRecDepth 1000000 in
set_option maxHeartbeats 32000000 in
theorem pdq_u (w : World) (blk off cap len : Nat) (d0 : Array Int) (hH : Holds U w blk off d0) (hblk : blk < w.heap.size) (hl : len = d0.size) (hz : len < 1000000000) :
    ∀ (N a b limit : Nat) (d : Array Int) (wi : World), b - a < N → d.size = len → At U w blk off d wi → a ≤ b → b ≤ len → limit < 1000000000 → Below ltInt a b d →
    Calls Tryz.prog 54 #[.slice (some ⟨blk, off, none⟩) len cap, .int .i64 a, .int .i64 b, .int .i64 limit] wi fun e w' => e = .returned (.tuple #[]) ∧ ∃ R, PermIn a b d R ∧ SortedIn ltInt a b R ∧ At U w blk off R w' := by
  have H := Lib.hid hH
  have HL := Lib.hid hl
  clear hH hl
  intro N
  induction N with
  | zero => intro _ _ _ _ _ h; exact absurd h (Nat.not_lt_zero _)
  | succ N ih =>
    intro a b limit d wi hN hds hAi hab hb hlimit hBi
    have IH := Lib.hid ih
    clear ih
    have HDS := Lib.hid hds
    clear hds
    go_enter Tryz.func54, Tryz.ntmps54
    go_wp2_with fail
    go_loopg [1, 2, 3, 8, 9] (b - a) (fun k s1 s2 s3 s8 s9 wr => ∃ (a' b' lim : Nat) (wb wp : Bool) (dk : Array Int), s1 = .int .i64 a' ∧ s2 = .int .i64 b' ∧ s3 = .int .i64 lim ∧ s8 = .bool wb ∧ s9 = .bool wp ∧
      a' ≤ b' ∧ b' ≤ len ∧ b' - a' ≤ k ∧ k ≤ b - a ∧ lim ≤ limit ∧ dk.size = len ∧ Below ltInt a' b' dk ∧ At U w blk off dk wr ∧ Hid (Left a b d a' b' dk))
    case atStart => exact ⟨a, b, limit, true, true, d, rfl, rfl, rfl, rfl, rfl, hab, hb, Nat.le_refl _, Nat.le_refl _, Nat.le_refl _, HDS.out, hBi, hAi, Lib.hid (fun R h1 h2 => ⟨h1, h2⟩)⟩
    case round =>
      clear hAi hBi
      obtain ⟨a', b', lim, wb, wp, dk, rfl, rfl, rfl, rfl, rfl, hab', hb', hk, hkN, hlim, hsk, hB, hA, HLk⟩ := hrel
      by_cases h12 : b' - a' ≤ 12
      · have h12z : (b' : Int) - (a' : Int) ≤ 12 := by omega
        have HC := Lib.hid (ins_at (cap := cap) H.out hblk HL.out hz dk wr hsk hA a' b' hab' hb')
        go_wp2_with (go_at_call 78; refine HC.out.mono ?_; rintro e w2 ⟨rfl, R, hpR, hsR, hAR⟩)
        (try simp only [Exit.inBlock, Exit.then]); refine bodyPost_ret (results_none rfl _ _ _) rfl ?_
        obtain ⟨g1, g2⟩ := HLk.out R hpR hsR
        exact ⟨rfl, R, g1, g2, hAR⟩
      · have h12z : ¬ ((b' : Int) - (a' : Int) ≤ 12) := by omega
        by_cases hl0 : lim = 0
        · subst hl0
          have HC := Lib.hid (heap_at (cap := cap) H.out hblk HL.out hz dk wr hsk hA a' b' (by omega) hb')
          go_wp2_with (go_at_call 79; refine HC.out.mono ?_; rintro e w2 ⟨rfl, R, hpR, hsR, hAR⟩)
          (try simp only [Exit.inBlock, Exit.then]); refine bodyPost_ret (results_none rfl _ _ _) rfl ?_
          obtain ⟨g1, g2⟩ := HLk.out R hpR hsR
          exact ⟨rfl, R, g1, g2, hAR⟩
        · have hl0z : ¬ ((lim : Int) = 0) := by omega
          -- breakPatterns
          go_upto_if 35 with fail
          go_cut [3] from 19 to 133 (fun s3 wx => ∃ (lim2 : Nat) (d1 : Array Int), s3 = .int .i64 lim2 ∧ lim2 ≤ limit ∧ d1.size = len ∧ Below ltInt a' b' d1 ∧ Hid (Left a b d a' b' d1) ∧ At U w blk off d1 wx)
          case first =>
            cases wb with
            | false =>
              have HC := Lib.hid (break_at (cap := cap) H.out hblk HL.out hz dk wr hsk hA a' b' (by omega) hb')
              go_wp2_with (go_at_call 80; refine HC.out.mono ?_; rintro e w2 ⟨rfl, R, hpR, hAR⟩)
              go_meet
              case rel => exact ⟨lim - 1, R, by congr 1; omega, by omega, hpR.1.trans hsk, hB.perm (by omega) hpR, Lib.hid (HLk.out.perm hpR), hAR⟩
            | true =>
              go_wp2_with fail
              go_meet
              case rel => exact ⟨lim, dk, rfl, hlim, hsk, hB, HLk, hA⟩
          case rest =>
            obtain ⟨lim2, d1, rfl, hlim2, hs1, hB1, HL1, hA1⟩ := hcut
            clear hA hB HLk hsk
            -- the pivot; reverseRange
            have HCp := Lib.hid (pivot_at (cap := cap) H.out hblk HL.out hz d1 wc hs1 hA1 a' b' (by omega) hb')
            go_upto_region 11 with (go_at_call 81; refine HCp.out.mono ?_; rintro e w2 ⟨p0, h0, rfl, hp01, hp02, hh0, hA1b⟩)
            clear hA1
            go_upto_if 50 with fail
            go_cut [11, 12] from 19 to 133 (fun s11 s12 wx => ∃ (p h : Nat) (d2 : Array Int), s11 = .int .i64 p ∧ s12 = .int .i64 h ∧ a' ≤ p ∧ p < b' ∧ d2.size = len ∧ Below ltInt a' b' d2 ∧ Hid (Left a b d a' b' d2) ∧ At U w blk off d2 wx)
            case first =>
              by_cases hh : h0 = 2
              · subst hh
                have HCr := Lib.hid (rev_at (cap := cap) H.out hblk HL.out hz d1 w2 hs1 hA1b a' b' (by omega) hb')
                go_wp2_with (go_at_call 82; refine HCr.out.mono ?_; rintro e w3 ⟨rfl, R, hpR, hAR⟩)
                go_meet
                case rel => exact ⟨b' - 1 - (p0 - a'), 1, R, by congr 1; omega, rfl, by omega, by omega, hpR.1.trans hs1, hB1.perm (by omega) hpR, Lib.hid (HL1.out.perm hpR), hAR⟩
              · have hhz : ¬ ((h0 : Int) = 2) := by omega
                go_wp2_with fail
                go_meet
                case rel => exact ⟨p0, h0, d1, rfl, rfl, hp01, hp02, hs1, hB1, HL1, hA1b⟩
            case rest =>
              obtain ⟨p, h, d2, rfl, rfl, hp1, hp2, hs2, hB2, HL2, hA2⟩ := hcut
              clear hA1b hs1 hB1 HL1 HCp
              -- the test of partialInsertionSort
              go_upto_region 15 with fail
              go_cut [68] from 19 to 133 (fun s68 wx => ∃ t : Bool, s68 = .bool t ∧ At U w blk off d2 wx)
              case first =>
                by_cases hh : h = 1
                · subst hh
                  cases wb <;> cases wp <;> (go_wp2_with fail; go_meet; case rel => exact ⟨_, rfl, hA2⟩)
                · have hhz : ((h : Int) == 1) = false := by simp; omega
                  cases wb <;> cases wp <;> (go_wp2_with fail; go_meet; case rel => exact ⟨_, rfl, hA2⟩)
              case rest =>
                clear hA2
                obtain ⟨t, rfl, hA2⟩ := hcut
                go_upto_if 68 with fail
                go_cut [] from 19 to 133 (fun wx => ∃ d3, d3.size = len ∧ Below ltInt a' b' d3 ∧ Hid (Left a b d a' b' d3) ∧ At U w blk off d3 wx)
                case first =>
                  cases t with
                  | false =>
                    go_wp2_with fail
                    go_meet
                    case rel => exact ⟨d2, hs2, hB2, HL2, hA2⟩
                  | true =>
                    have HC := Lib.hid (pins_at (cap := cap) H.out hblk HL.out hz d2 wc hs2 hA2 a' b' (by omega) hb' hB2)
                    go_upto_if 72 with (go_at_call 83; refine HC.out.mono ?_; rintro e w3 ⟨r, rfl, R, hpR, hsR, hAR⟩)
                    cases r with
                    | true =>
                      go_wp2_with fail
                      (try simp only [Exit.inBlock, Exit.then]); refine bodyPost_ret (results_none rfl _ _ _) rfl ?_
                      obtain ⟨g1, g2⟩ := HL2.out R hpR (by first | exact hsR rfl | exact hsR trivial | exact hsR)
                      exact ⟨rfl, R, g1, g2, hAR⟩
                    | false =>
                      go_wp2_with fail
                      go_meet
                      case rel => exact ⟨R, hpR.1.trans hs2, hB2.perm (by omega) hpR, Lib.hid (HL2.out.perm hpR), hAR⟩
                case rest =>
                  obtain ⟨d3, hs3, hB3, HLf, hA3⟩ := hcut
                  clear hA2 hs2 hB2 HL2
                  -- the test whether data[a-1] is as great as the pivot
                  go_upto_region 17 with fail
                  go_cut [87] from 19 to 133 (fun s87 wx => ∃ t : Bool, s87 = .bool t ∧ (t = true → 0 < a' ∧ ltInt d3[a' - 1]! d3[p]! = false) ∧ At U w blk off d3 wx)
                  case first =>
                    obtain ⟨G, hG⟩ : ∃ G : Nat → Int, ∀ t, G t = d3[t]! := ⟨fun t => d3[t]!, fun _ => rfl⟩
                    have hcw : ∀ t, t < len → wc.cell? ⟨blk, off + t, none⟩ = some (.int .u64 (G t)) := fun t ht => by rw [hG]; exact At.cell H.out hblk HL.out hs3 hA3 t ht
                    have HG := Lib.hid hG
                    have HA := Lib.hid hA3
                    clear hG hA3
                    by_cases ha0 : 0 < a'
                    · go_wp2_with fail
                      go_big_quiet (first | (go_at_call 84; refine Calls.quiet_of_same (less_u _ _ _)))
                      go_wp2_with fail
                      go_meet
                      case rel => exact ⟨_, rfl, fun h => ⟨ha0, by rw [← HG.out, ← HG.out]; simpa using h⟩, HA.out.ahead nq⟩
                    · have ha0z : decide ((0 : Int) < (a' : Int)) = false := decide_eq_false (by omega)
                      go_wp2_with fail
                      go_big_quiet (first | (go_at_call 84; refine Calls.quiet_of_same (less_u _ _ _)))
                      go_wp2_with fail
                      go_meet
                      case rel => exact ⟨false, rfl, fun h => (by cases h), HA.out.ahead nq⟩
                  case rest =>
                    obtain ⟨t, rfl, ht, hA4⟩ := hcut
                    clear hA3
                    have HT := Lib.hid ht
                    clear ht
                    cases t with
                    | true =>
                      obtain ⟨t1, t2⟩ := HT.out rfl
                      have HC := Lib.hid (peq_at (cap := cap) H.out hblk HL.out hz d3 wc hs3 hA4 a' b' p t1 hp1 hp2 hb' hB3 t2)
                      go_wp2_with (go_at_call 85; refine HC.out.mono ?_; rintro e w4 ⟨mid, rfl, hm1, hm2, R, hRs, hBR, hLR, hAR⟩)
                      go_roundg (b' - mid)
                      case measure => omega
                      case rel => exact ⟨mid, b', lim2, _, _, R, rfl, rfl, rfl, rfl, rfl, hm2, hb', by omega, by omega, by omega, hRs, hBR, hAR, Lib.hid (fun X x1 x2 => by obtain ⟨y1, y2⟩ := hLR X x1 x2; exact HLf.out X y1 y2)⟩
                    | false =>
                      have HC := Lib.hid (part_at (cap := cap) H.out hblk HL.out hz d3 wc hs3 hA4 a' b' p hp1 hp2 hb' hB3)
                      go_upto_region 21 with (go_at_call 86; refine HC.out.mono ?_; rintro e w4 ⟨mid, ap, rfl, hpart⟩)
                      obtain ⟨hm1, hm2, R, hRs, hB1, hB2, hL1, hL2, hAR⟩ := hpart
                      have HL1 := Lib.hid hL1
                      have HL2 := Lib.hid hL2
                      clear hL1 hL2
                      by_cases hlr : mid - a' < b' - mid
                      · have hlrz : (mid : Int) - (a' : Int) < (b' : Int) - (mid : Int) := by omega
                        have HC := Lib.hid (IH.out a' mid lim2 R w4 (by omega) hRs hAR hm1 (by omega) (by omega) hB1)
                        go_wp2_with (go_at_call 54; refine HC.out.mono ?_; rintro e w5 ⟨rfl, R2, hp2, hs2, hA2⟩)
                        go_roundg (b' - (mid + 1))
                        case measure => omega
                        case rel =>
                          obtain ⟨g1, g2⟩ := HL1.out R2 hp2 hs2
                          exact ⟨mid + 1, b', lim2, _, _, R2, by go_num, rfl, rfl, rfl, rfl, by omega, hb', by omega, by omega, by omega, hp2.1.trans hRs, g1, hA2, Lib.hid (fun X x1 x2 => by obtain ⟨y1, y2⟩ := g2 X x1 x2; exact HLf.out X y1 y2)⟩
                      · have hlrz : ¬ ((mid : Int) - (a' : Int) < (b' : Int) - (mid : Int)) := by omega
                        have hc := IH.out (mid + 1) b' lim2 R w4 (by omega) hRs hAR (by omega) (by omega) (by omega) hB2
                        rw [show ((mid + 1 : Nat) : Int) = (mid : Int) + 1 by omega] at hc
                        have HC := Lib.hid hc
                        clear hc
                        go_wp2_with (go_at_call 54; refine HC.out.mono ?_; rintro e w5 ⟨rfl, R2, hp2, hs2, hA2⟩)
                        go_roundg (mid - a')
                        case measure => omega
                        case rel =>
                          obtain ⟨g1, g2⟩ := HL2.out R2 hp2 hs2
                          exact ⟨a', mid, lim2, _, _, R2, rfl, rfl, rfl, rfl, rfl, by omega, by omega, by omega, by omega, by omega, hp2.1.trans hRs, g1, hA2, Lib.hid (fun X x1 x2 => by obtain ⟨y1, y2⟩ := g2 X x1 x2; exact HLf.out X y1 y2)⟩
end Go.Proofs.YtfpioijfocmfcaaGreatDoor
