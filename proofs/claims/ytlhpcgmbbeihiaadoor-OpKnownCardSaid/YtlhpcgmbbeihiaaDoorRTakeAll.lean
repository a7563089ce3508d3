/-
  CONTRACT of the reference's TakeAll, of few numbers.
-/
import Derived.Test.YtlhpcgmbbeihiaaDoorVAll
import Derived.Test.YtlhpcgmbbeihiaaDoorMD
namespace Go.Proofs.YtlhpcgmbbeihiaaDoor
open Go.RowKit

/-- So many numbers from a place on: the fault, the numbers, the place behind. -/
def numsP (l : List UInt8) : Nat → Nat → Int × List Nat × Nat
  | 0, a => (0, [], a)
  | k + 1, a => if (numF (l.drop a)).1 = 0 then (if (numsP l k (a + (numF (l.drop a)).2.2)).1 = 0 then (0, (numF (l.drop a)).2.1 :: (numsP l k (a + (numF (l.drop a)).2.2)).2.1, (numsP l k (a + (numF (l.drop a)).2.2)).2.2) else ((numsP l k (a + (numF (l.drop a)).2.2)).1, [], 0)) else ((numF (l.drop a)).1, [], 0)
/-- What has been taken, ahead of what comes. -/
def numsJoin (dn : List Nat) (r : Int × List Nat × Nat) : Int × List Nat × Nat := if r.1 = 0 then (0, dn ++ r.2.1, r.2.2) else (r.1, [], 0)
theorem numsJoin_step {l : List UInt8} {dn : List Nat} {k a : Nat} (h : (numF (l.drop a)).1 = 0) : numsJoin dn (numsP l (k + 1) a) = numsJoin (dn ++ [(numF (l.drop a)).2.1]) (numsP l k (a + (numF (l.drop a)).2.2)) := by
  rw [numsP, if_pos h]
  by_cases h1 : (numsP l k (a + (numF (l.drop a)).2.2)).1 = 0
  · rw [if_pos h1]
    simp only [numsJoin, h1, if_true]; simp
  · rw [if_neg h1]
    simp only [numsJoin, if_neg h1]
theorem numsJoin_bad {l : List UInt8} {dn : List Nat} {k a : Nat} (h : (numF (l.drop a)).1 ≠ 0) : numsJoin dn (numsP l (k + 1) a) = ((numF (l.drop a)).1, [], 0) := by
  rw [numsP, if_neg h, numsJoin, if_neg h]

theorem Tryd.u64sT : SliceT Tryd.prog 71 22 1 8 := sliceT_of Tryd.underlying71 (by kernel_rfl) (by decide)

set_option maxRecDepth 100000 in
set_option maxHeartbeats 1000000 in
theorem rTakeAll_any {S : Nat → Prop} (w : World) (v : Value) (l : List UInt8) (h : Bytes S w v l) (p many : Nat) (hp : p ≤ l.length) (hl : l.length ≤ 70368744177664) (hmany : many ≤ 100) :
    Calls Tryd.prog 46 #[v, .int .i64 p, .int .i64 many] w fun e w' => ∃ v, Ext w w' ∧
      (((numsP l many p).1 = 0 ∧ (numsP l many p).2.2 ≤ l.length ∧ (numsP l many p).2.1.length = many ∧ e = .returned (.tuple #[v, .int .i64 ((numsP l many p).2.2 : Nat), .int .i64 0]) ∧ w'.ownsRow w.heap.size 22 1 v many ((numsP l many p).2.1.map u64v)) ∨
        ((numsP l many p).1 ≠ 0 ∧ e = .returned (.tuple #[nilS, .int .i64 p, .int .i64 (numsP l many p).1]))) := by
  have g := h.addr
  have H := Lib.hid h
  obtain ⟨a, c, rfl, hn, hm, -⟩ := h
  have G := Lib.hid g
  clear g
  obtain ⟨R, hR⟩ : ∃ R, R = numsP l many p := ⟨_, rfl⟩
  rw [← hR]
  have HR := Lib.hid hR
  clear hR
  go_enter Tryd.func46, Tryd.ntmps46
  go_wp2
  go_loopw [9, 10, 11] (fun v q i wr => ∃ (j b : Nat) (dn : List Nat), j ≤ many ∧ b ≤ l.length ∧ dn.length = j ∧ i = .int .i64 (j : Int) ∧ q = .int .i64 (b : Int) ∧ R = numsJoin dn (numsP l (many - j) b) ∧ Ext w wr ∧ wr.ownsRow w.heap.size 22 1 v dn.length (dn.map u64v)) (fun _ _ i _ => many - (intOf i).toNat)
  case atStart =>
    refine ⟨0, p, [], by omega, hp, rfl, rfl, rfl, ?_, Upd.refl _ _, World.ownsRow_nil _ _ _ _⟩
    rw [HR.out, numsJoin]
    split
    · rename_i h; simp only [List.nil_append, Nat.sub_zero] at h ⊢
      exact (show ∀ q : Int × List Nat × Nat, q.1 = 0 → q = (0, q.2.1, q.2.2) from by rintro ⟨x, y, z⟩ h; simp at h; subst h; rfl) _ h
    · rename_i h
      simp only [Nat.sub_zero] at h ⊢
      cases many with
      | zero => exact absurd rfl h
      | succ m =>
        rw [numsP] at h ⊢
        split
        · rename_i h1
          rw [if_pos h1] at h
          split
          · rename_i h2; rw [if_pos h2] at h; exact absurd rfl h
          · rfl
        · rfl
  case round =>
    obtain ⟨j, b, dn, hj, hb, hdn, rfl, rfl, hr, hx, hown⟩ := hrel
    have HX := Lib.hid hx
    have hus := hx.size
    have HRJ := Lib.hid hr
    clear hx hr
    by_cases hlt : j < many
    · go_wp2_with (go_at_call 44; fail)
      refine (rTake_any _ _ l (H.out.ext HX.out) b hb hl).mono ?_
      rintro e w2 ⟨rfl, hx2⟩
      have hown1 := hx2.ownsRow hown (fun _ _ e => e)
      have hsz2 := hx2.size
      have HX2 := Lib.hid (HX.out.trans hx2)
      clear hown hx2
      have hstep := HRJ.out
      rw [show many - j = (many - (j + 1)) + 1 from by omega] at hstep
      by_cases h0 : (numF (l.drop b)).1 = 0
      · rw [numsJoin_step h0] at hstep
        obtain ⟨n1, n2, n3, n4⟩ := numF_ok h0
        rw [List.length_drop] at n4
        clear n2 n3
        obtain ⟨N, hN⟩ : ∃ N, N = (numF (l.drop b)).2.1 := ⟨_, rfl⟩
        obtain ⟨q, hq⟩ : ∃ q, q = b + (numF (l.drop b)).2.2 := ⟨_, rfl⟩
        rw [← hN, ← hq] at hstep
        have hql : q ≤ l.length := by omega
        rw [h0, ← hN, ← hq]
        rw [← hN] at n1
        have HS := Lib.hid hstep
        clear hstep hN hq n4 h0
        go_wp2_with (at_builtin; go_must (refine wpList_append_row rfl _ _ _ rfl Tryd.u64sT rfl (hown1.alloc _) rfl (row_new _ _ _ 1 _ (by decide) (by simp)) rfl (by intro u hu; simp at hu; subst hu; rfl) ?c3 ?c4 ?c5 ?_))
        case c3 => unfold maxLen; omega
        case c4 => omega
        case c5 => first | omega | (simp; omega)
        intro v' w3 hown3 hg _
        have hx3 := (HX2.out.alloc _).grown hg (fun j hj h => by have := (hown1.lt j hj).1; omega)
        have HX3 := Lib.hid hx3
        clear hx3 hg
        go_wp2
        go_roundw
        case rel => exact ⟨j + 1, q, dn ++ [N], by omega, hql, by simp [hdn], by go_num, rfl, HS.out, HX3.out, by rw [List.length_append, List.map_append, List.length_singleton, hdn]; exact hown3⟩
        case measure => simp [intOf]; omega
      · rw [numsJoin_bad h0] at hstep
        obtain ⟨E, hE⟩ : ∃ E, E = (numF (l.drop b)).1 := ⟨_, rfl⟩
        rw [← hE] at h0 hstep ⊢
        have hb : (E != 0) = true := by simpa using h0
        have HS := Lib.hid hstep
        have HE := Lib.hid h0
        clear hE hstep h0 hown1
        go_wp2
        go_ret3
        exact ⟨nilS, HX2.out, .inr ⟨by rw [HS.out]; exact HE.out, by rw [HS.out]; rfl⟩⟩
    · have hjm : j = many := by omega
      subst hjm
      go_wp2
      go_ret3
      have := HRJ.out
      rw [Nat.sub_self, numsP, numsJoin, if_pos rfl] at this
      rw [this]
      dsimp only
      rw [List.append_nil]
      rw [hdn] at hown
      refine ⟨?v, HX.out, .inl ⟨rfl, hb, hdn, ?d, ?e⟩⟩
      case e => exact hown
      case d => rfl
end Go.Proofs.YtlhpcgmbbeihiaaDoor
