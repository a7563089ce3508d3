/-
  CONTRACTS of op's reader: number, text.
-/
import Derived.Test.YtlhpcgmbbeihiaaDoorMC
import Derived.Test.YtlhpcgmbbeihiaaDoorMF
import Derived.Deep.RegionWith
namespace Go.Proofs.YtlhpcgmbbeihiaaDoor
open Go.RowKit

def Two (a b : Nat) : Nat → Prop := fun k => k = a ∨ k = b
/-- The reader's block. -/
abbrev RdrAt (w : World) (rb : Nat) (vb : Value) (s : Int × Nat) : Prop := w.heap[rb]? = some (.cells #[vb, .int .i64 (s.2 : Int), .int .i64 s.1] 76 (0, 0))
theorem set_same {cs : Array Value} {i : Nat} {u : Value} (h : cs[i]? = some u) : cs.setIfInBounds i u = cs := by
  obtain ⟨hi, hv⟩ := Array.getElem?_eq_some_iff.1 h
  apply Array.ext
  · simp
  · intro j h1 h2
    rw [Array.getElem_setIfInBounds h2]
    split
    · rename_i e; subst e; exact hv.symm
    · rfl

theorem rdr_done {w : World} {rb tb i a K : Nat} {vb u : Value} {E E1 n : Int} {cs : Array Value} {T : TypeId} (hr : RdrAt w rb vb (E, a)) (ht : w.heap[tb]? = some (.cells cs T (0, 0))) (hne : rb ≠ tb) (hn : n = (a : Int) + K) :
    RdrAt (((w.setCell ⟨tb, i, none⟩ u).setCell ⟨rb, 1, none⟩ (.int .i64 n)).setCell ⟨rb, 2, none⟩ (.int .i64 E1)).drew rb vb (E1, a + K) ∧
    (((w.setCell ⟨tb, i, none⟩ u).setCell ⟨rb, 1, none⟩ (.int .i64 n)).setCell ⟨rb, 2, none⟩ (.int .i64 E1)).drew.heap[tb]? = some (.cells (cs.setIfInBounds i u) T (0, 0)) ∧
    Upd (Two rb tb) w (((w.setCell ⟨tb, i, none⟩ u).setCell ⟨rb, 1, none⟩ (.int .i64 n)).setCell ⟨rb, 2, none⟩ (.int .i64 E1)).drew := by
  subst hn
  have r1 := (Upd.own w tb i u).at_ hr (fun e => by unfold At at e; exact hne e)
  have r2 := setAt (j := 1) (u := .int .i64 ((a : Int) + K)) r1
  have r3 := setAt (j := 2) (u := .int .i64 E1) r2
  have t1 := setAt (j := i) (u := u) ht
  have t2 := (Upd.own (w.setCell ⟨tb, i, none⟩ u) rb 1 (.int .i64 ((a : Int) + K))).at_ t1 (fun e => by unfold At at e; exact hne e.symm)
  have t3 := (Upd.own ((w.setCell ⟨tb, i, none⟩ u).setCell ⟨rb, 1, none⟩ (.int .i64 ((a : Int) + K))) rb 2 (.int .i64 E1)).at_ t2 (fun e => by unfold At at e; exact hne e.symm)
  refine ⟨r3, t3, ?_⟩
  exact ((((Upd.refl (Two rb tb) w).setCell (p := ⟨tb, i, none⟩) (fun _ => .inr rfl) u).setCell (p := ⟨rb, 1, none⟩) (fun _ => .inl rfl) _).setCell (p := ⟨rb, 2, none⟩) (fun _ => .inl rfl) _).drew

set_option maxRecDepth 100000 in
set_option maxHeartbeats 1000000 in
theorem rdrNum_any {S : Nat → Prop} (w : World) (rb tb i : Nat) (vb : Value) (l : List UInt8) (s : Int × Nat) (cs : Array Value) (T : TypeId) (hb : Bytes S w vb l) (_hl : l.length ≤ 70368744177664) (hs : s.2 ≤ l.length) (hr : RdrAt w rb vb s) (ht : w.heap[tb]? = some (.cells cs T (0, 0))) (hi : cs[i]? = some (.int .u64 0)) (hne : rb ≠ tb) :
    Calls Tryd.prog 41 #[.pointer (some ⟨rb, 0, none⟩), .pointer (some ⟨tb, i, none⟩)] w fun e w' => e = .returned (.tuple #[]) ∧ RdrAt w' rb vb (numS l s).2 ∧ w'.heap[tb]? = some (.cells (cs.setIfInBounds i (.int .u64 (((numS l s).1 : Nat) : Int))) T (0, 0)) ∧ Upd (Two rb tb) w w' := by
  obtain ⟨E, a⟩ := s
  dsimp only at hs hr ⊢
  have H := Lib.hid hb
  obtain ⟨va, vc, rfl, -, -, -⟩ := hb
  have z0 : w.cell? ⟨rb, 0, none⟩ = some (.slice va l.length vc) := cellAt hr 0 _ rfl
  have z1 : w.cell? ⟨rb, 1, none⟩ = some (.int .i64 a) := cellAt hr 1 _ rfl
  have z2 : w.cell? ⟨rb, 2, none⟩ = some (.int .i64 E) := cellAt hr 2 _ rfl
  have HR := Lib.hid hr
  have HT := Lib.hid ht
  have HI := Lib.hid hi
  have HS := Lib.hid hs
  clear hr ht hi
  by_cases h0 : E = 0
  · have hq : numS l (E, a) = ((numF (l.drop a)).2.1, (numF (l.drop a)).1, a + (numF (l.drop a)).2.2) := by rw [numS, if_pos h0]
    rw [hq]
    have hb0 : (E == 0) = true := by simpa using h0
    clear hq h0
    dsimp only
    obtain ⟨E1, hE⟩ : ∃ E, E = (numF (l.drop a)).1 := ⟨_, rfl⟩
    obtain ⟨N, hN⟩ : ∃ N, N = (numF (l.drop a)).2.1 := ⟨_, rfl⟩
    obtain ⟨K, hK⟩ : ∃ K, K = (numF (l.drop a)).2.2 := ⟨_, rfl⟩
    rw [← hE, ← hN, ← hK]
    have HENK := Lib.hid (And.intro hE (And.intro hN hK))
    clear hE hN hK
    go_enter Tryd.func41, Tryd.ntmps41
    go_wp2
    have f0 : w.frozen? ⟨tb, i, none⟩ = false := freeAt HT.out i
    have y0 : w.cell? ⟨tb, i, none⟩ = some (.int .u64 0) := cellAt HT.out i _ HI.out
    have f1 : w.frozen? ⟨rb, 1, none⟩ = false := freeAt HR.out 1
    have f2 : w.frozen? ⟨rb, 2, none⟩ = false := freeAt HR.out 2
    go_region_with (go_at_call 63; refine (vTake_same _ _ l (H.out.ext (Upd.refl _ _).drew) a HS.out).mono ?_; rintro e w1 ⟨rfl, rfl⟩; rw [← HENK.out.1, ← HENK.out.2.1, ← HENK.out.2.2])
    all_goals
      go_end0
      exact ⟨rfl, rdr_done HR.out HT.out hne rfl⟩
  · have hq : numS l (E, a) = (0, E, a) := numS_bad l h0
    rw [hq]
    have hb0 : (E == 0) = false := by simpa using h0
    clear hq h0
    dsimp only
    go_enter Tryd.func41, Tryd.ntmps41
    go_wp2
    go_end0
    exact ⟨rfl, HR.out, (set_same HI.out).symm ▸ HT.out, Upd.refl _ _⟩

set_option maxRecDepth 100000 in
set_option maxHeartbeats 1000000 in
theorem rdrText_any {S : Nat → Prop} (w : World) (rb tb i : Nat) (vb : Value) (l : List UInt8) (s : Int × Nat) (cs : Array Value) (T : TypeId) (hb : Bytes S w vb l) (hl : l.length ≤ 70368744177664) (hs : s.2 ≤ l.length) (hr : RdrAt w rb vb s) (ht : w.heap[tb]? = some (.cells cs T (0, 0))) (hi : cs[i]? = some (.string ⟨#[]⟩)) (hne : rb ≠ tb) :
    Calls Tryd.prog 42 #[.pointer (some ⟨rb, 0, none⟩), .pointer (some ⟨tb, i, none⟩)] w fun e w' => e = .returned (.tuple #[]) ∧ RdrAt w' rb vb (textS l s).2 ∧ w'.heap[tb]? = some (.cells (cs.setIfInBounds i (str (textS l s).1)) T (0, 0)) ∧ Upd (Two rb tb) w w' := by
  obtain ⟨E, a⟩ := s
  dsimp only at hs hr ⊢
  have H := Lib.hid hb
  obtain ⟨va, vc, rfl, -, -, -⟩ := hb
  have z0 : w.cell? ⟨rb, 0, none⟩ = some (.slice va l.length vc) := cellAt hr 0 _ rfl
  have z1 : w.cell? ⟨rb, 1, none⟩ = some (.int .i64 a) := cellAt hr 1 _ rfl
  have z2 : w.cell? ⟨rb, 2, none⟩ = some (.int .i64 E) := cellAt hr 2 _ rfl
  have HR := Lib.hid hr
  have HT := Lib.hid ht
  have HI := Lib.hid hi
  have HS := Lib.hid hs
  clear hr ht hi
  by_cases h0 : E = 0
  · have hq : textS l (E, a) = ((textF (l.drop a)).2.1, (textF (l.drop a)).1, a + (textF (l.drop a)).2.2) := by rw [textS, if_pos h0]
    rw [hq]
    have hb0 : (E == 0) = true := by simpa using h0
    clear hq h0
    dsimp only
    obtain ⟨E1, hE⟩ : ∃ E, E = (textF (l.drop a)).1 := ⟨_, rfl⟩
    obtain ⟨N, hN⟩ : ∃ N, N = (textF (l.drop a)).2.1 := ⟨_, rfl⟩
    obtain ⟨K, hK⟩ : ∃ K, K = (textF (l.drop a)).2.2 := ⟨_, rfl⟩
    rw [← hE, ← hN, ← hK]
    have HENK := Lib.hid (And.intro hE (And.intro hN hK))
    clear hE hN hK
    go_enter Tryd.func42, Tryd.ntmps42
    go_wp2
    have f0 : w.frozen? ⟨tb, i, none⟩ = false := freeAt HT.out i
    have y0 : w.cell? ⟨tb, i, none⟩ = some (.string ⟨#[]⟩) := cellAt HT.out i _ HI.out
    have f1 : w.frozen? ⟨rb, 1, none⟩ = false := freeAt HR.out 1
    have f2 : w.frozen? ⟨rb, 2, none⟩ = false := freeAt HR.out 2
    go_region_with (go_at_call 64; refine (vTakeText_same _ _ l (H.out.ext (Upd.refl _ _).drew) a HS.out hl).mono ?_; rintro e w1 ⟨rfl, rfl⟩; rw [← HENK.out.1, ← HENK.out.2.1, ← HENK.out.2.2])
    all_goals
      go_end0
      exact ⟨rfl, rdr_done HR.out HT.out hne rfl⟩
  · have hq : textS l (E, a) = ([], E, a) := textS_bad l h0
    rw [hq]
    have hb0 : (E == 0) = false := by simpa using h0
    clear hq h0
    dsimp only
    go_enter Tryd.func42, Tryd.ntmps42
    go_wp2
    go_end0
    exact ⟨rfl, HR.out, (set_same HI.out).symm ▸ HT.out, Upd.refl _ _⟩
end Go.Proofs.YtlhpcgmbbeihiaaDoor
