/-
  PLAIN: an operation of few bytes is written in few; what is read of few bytes has few edits; a fault hands back nothing. No program in sight.
-/
import Derived.Test.YtlhpcgmbbeihiaaDoorDFew
import Derived.Test.YtlhpcgmbbeihiaaDoorMF
import Derived.Test.YtlhpcgmbbeihiaaDoorOPut
namespace Go.Proofs.YtlhpcgmbbeihiaaDoor
open Go.RowKit

theorem vtext_few {s : List UInt8} {k : Nat} (h : s.length ≤ k) (hk : k < 18446744073709551616) : (vtext s).length ≤ 10 + k := by
  rw [vtext, List.length_append]
  have := vput_len_le (n := s.length) (by omega); omega
theorem editPut_few {e : Edit} (h : e.text.length ≤ 200) (hw : WfEdit e) : (editPut e).length ≤ 211 := by
  obtain ⟨-, -, h1, h2⟩ := hw
  rw [editPut, List.length_cons]
  split
  · have := vtext_few h (by decide); omega
  · have := vput_len_le (n := e.n.toNat) (by omega); omega
theorem editsPut_few : ∀ {l : List Edit}, (∀ e ∈ l, e.text.length ≤ 200) → (∀ e ∈ l, WfEdit e) → (editsPut l).length ≤ 211 * l.length := by
  intro l
  induction l with
  | nil => intro _ _; simp [editsPut]
  | cons e l ih =>
    intro h1 h2
    have a := editPut_few (h1 e (by simp)) (h2 e (by simp))
    have b := ih (fun x hx => h1 x (by simp [hx])) (fun x hx => h2 x (by simp [hx]))
    simp only [editsPut, List.map_cons, List.flatten_cons, List.length_append, List.length_cons] at b ⊢
    omega
theorem opPut_few {o : Oper'} (h : OpFew o) (hw : WfOp o) : (opPut o).length ≤ 10000 := by
  obtain ⟨h1, h2, h3, h4, h5⟩ := h
  have hp := opPut_parts o
  have e1 := editsPut_few h5 hw.edits
  have e2 : (editsPut o.edits).length ≤ 4220 := by omega
  have t1 := vtext_few h1 (by decide)
  have t2 := vtext_few h2 (by decide)
  have t3 := vtext_few h3 (by decide)
  have t4 := vtext_few e2 (by decide)
  have d1 := hw.doc; have d2 := hw.epoch; have d3 := hw.version; have d4 := hw.dur
  unfold U64 at d1 d2 d3 d4
  have v1 := vput_len_le (n := o.doc.toNat) (by omega)
  have v2 := vput_len_le (n := o.epoch.toNat) (by omega)
  have v3 := vput_len_le (n := o.version.toNat) (by omega)
  have v4 := vput_len_le (n := o.dur.toNat) (by omega)
  omega
theorem opP_bad {l : List UInt8} (h : (opP l).1 ≠ 0) : (opP l).2 = Oper'.zero 0 := by
  unfold opP at h ⊢
  split
  · rfl
  · rename_i h1
    rw [if_neg h1] at h
    split
    · rfl
    · rename_i h2
      rw [if_neg h2] at h
      unfold opEnd at h ⊢
      split
      · rfl
      · rename_i h3
        rw [if_neg h3] at h
        split
        · rfl
        · rename_i h4
          rw [if_neg h4] at h
          split
          · rfl
          · rename_i h5
            rw [if_neg h5] at h
            split
            · rename_i h6; rw [if_pos h6] at h; simp at h
            · rfl
theorem opP_edits (l : List UInt8) : (opP l).2.edits.length ≤ l.length := by
  by_cases h : (opP l).1 = 0
  · obtain ⟨-, -, h3⟩ := opP_ok h
    have hp := opPut_parts (opP l).2
    have h4 := editsPut_len (opP l).2.edits
    have h5 := vtext_len (editsPut (opP l).2.edits)
    rw [h3] at hp
    omega
  · rw [opP_bad h]; simp [Oper'.zero]
theorem wf_zero : WfOp (Oper'.zero 0) := ⟨by decide, by decide, ⟨by decide, by decide⟩, ⟨by decide, by decide⟩, ⟨by decide, by decide⟩, ⟨by decide, by decide⟩, by simp [Oper'.zero]⟩
theorem opP_wf (l : List UInt8) : WfOp (opP l).2 := by
  by_cases h : (opP l).1 = 0
  · exact (opP_ok h).2.1
  · rw [opP_bad h]; exact wf_zero
theorem opP_code (l : List UInt8) : ∃ c, (opP l).1 = c := ⟨_, rfl⟩
/-- The bytes of an operation that is right, or none. -/
def putL (o : Oper') : List UInt8 := if opRight o then opPut o else []
def PutOut (o : Oper') (v : Value) (w : World) : Prop := ∃ a n c, v = .slice a n c ∧ Bytes (fun _ => True) w (.slice a n c) (putL o)
theorem putOut_of {o : Oper'} {v : Value} {w' : World} {base : Nat} {t : TypeId} (h1 : opRight o = true → w'.ownsRow base t 1 v (opPut o).length ((opPut o).map u8)) (h2 : opRight o = false → v = nilS) : PutOut o v w' := by
  cases hr : opRight o with
  | true =>
    obtain ⟨a, n, c, rfl⟩ := ownsForm (h1 hr)
    refine ⟨a, n, c, rfl, ?_⟩
    rw [putL, if_pos hr]
    exact (Row.of_owns (h1 hr)).mono (fun _ _ => trivial)
  | false =>
    rw [h2 hr]
    refine ⟨none, 0, 0, rfl, ?_⟩
    rw [putL, hr]
    exact Row.nil _ _
end Go.Proofs.YtlhpcgmbbeihiaaDoor
