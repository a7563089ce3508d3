/-
  CONTRACT of the reference's ref19.Right, kind by kind. By program (gen/ref19c.py).
-/
import Derived.Test.YtlhpcgmbbeihiaaRef19c
import Derived.Test.YtlhpcgmbbeihiaaRef19d
import Derived.Test.YtlhpcgmbbeihiaaRef19e
namespace Go.Proofs.Ytlhpcgmbbeihiaa
open Go.RowKit

set_option maxRecDepth 100000 in
set_option maxHeartbeats 1000000 in
theorem rright_any {S : Nat → Prop} (w : World) (o : Oper') (v : Value) (h : Row S w v o.edits.length (editCells o.edits)) (hwf : ∀ x ∈ o.edits, 0 ≤ x.kind) (hk0 : 0 ≤ o.kind) :
    Calls Try.prog 48 #[.agg (opCells o v)] w (RightPost o w) := by
  obtain ⟨kind, doc, name, to, text, edits, epoch, version, dur⟩ := o
  dsimp only at h hwf hk0
  have hk : kind = 1 ∨ kind = 2 ∨ kind = 3 ∨ kind = 4 ∨ kind = 5 ∨ kind = 6 ∨ kind = 7 ∨ kind = 8 ∨ kind = 9 ∨ kind = 10 ∨ kind = 11 ∨ kind = 12 ∨ kind = 13 ∨ kind = 14 ∨ kind = 15 ∨ kind = 16 ∨ kind = 17 ∨ (kind < 1 ∨ 17 < kind) := by omega
  rcases hk with rfl | rfl | rfl | rfl | rfl | rfl | rfl | rfl | rfl | rfl | rfl | rfl | rfl | rfl | rfl | rfl | rfl | hk
  · exact rright1 w doc name to text edits epoch version dur v h hwf
  · exact rright2 w doc name to text edits epoch version dur v h hwf
  · exact rright3 w doc name to text edits epoch version dur v h hwf
  · exact rright4 w doc name to text edits epoch version dur v h hwf
  · exact rright5 w doc name to text edits epoch version dur v h hwf
  · exact rright6 w doc name to text edits epoch version dur v h hwf
  · exact rright7 w doc name to text edits epoch version dur v h hwf
  · exact rright8 w doc name to text edits epoch version dur v h hwf
  · exact rright9 w doc name to text edits epoch version dur v h hwf
  · exact rright10 w doc name to text edits epoch version dur v h hwf
  · exact rright11 w doc name to text edits epoch version dur v h hwf
  · exact rright12 w doc name to text edits epoch version dur v h hwf
  · exact rright13 w doc name to text edits epoch version dur v h hwf
  · exact rright14 w doc name to text edits epoch version dur v h hwf
  · exact rright15 w doc name to text edits epoch version dur v h hwf
  · exact rright16 w doc name to text edits epoch version dur v h hwf
  · exact rright17 w doc name to text edits epoch version dur v h hwf
  · have HK := Lib.hid (show opRight ⟨kind, doc, name, to, text, edits, epoch, version, dur⟩ = false from by
      rw [opRight]
      rcases hk with hk | hk
      · have : decide (1 ≤ kind) = false := by simp; omega
        simp [this]
      · have : decide (kind ≤ 17) = false := by simp; omega
        simp [this])
    have hux : Ext w (w.alloc (.cells (opCells ⟨kind, doc, name, to, text, edits, epoch, version, dur⟩ v) 59)) := (Upd.refl _ _).alloc _
    have HUX := Lib.hid hux
    obtain ⟨a, c, rfl, -, -, -⟩ := h
    clear hux hwf
    simp only [opCells]
    go_enter Try.func48, Try.ntmps48
    rcases hk with hk | hk
    · have d1 : decide (kind < 1) = true := by simpa using hk
      go_wp2
      go_ret
      exact ⟨by rw [HK.out]; rfl, HUX.out⟩
    · have d1 : decide (kind < 1) = false := by simp; omega
      have d2 : decide (17 < kind) = true := by simpa using hk
      go_wp2
      go_ret
      exact ⟨by rw [HK.out]; rfl, HUX.out⟩
end Go.Proofs.Ytlhpcgmbbeihiaa
