/-
  CONTRACTS of script's reader: next, name. The reader lies in a block of its own; its bytes lie elsewhere.
-/
import Derived.Test.YtlhpcgmbbeihiaaScriptSpec
import Derived.Test.YtlhpcgmbbeihiaaKit
namespace Go.Proofs.Ytlhpcgmbbeihiaa
open Go.RowKit

/-- The reader in block r has the bytes l left, which lie below block B. -/
def Reader (B : Nat) (w : World) (r : Nat) (l : List UInt8) : Prop := B ≤ r ∧ ∃ v, w.heap[r]? = some (.cells #[v] 70 (0, 0)) ∧ Bytes (Till B) w v l
theorem Reader.upd {B : Nat} {T : Nat → Prop} {w w1 : World} {r : Nat} {l : List UInt8} (h : Reader B w r l) (hu : Upd T w w1) (hT : ∀ k, T k → r < k) : Reader B w1 r l := by
  obtain ⟨h0, v, h1, h2⟩ := h
  exact ⟨h0, v, hu.at_ h1 (fun hk => Nat.lt_irrefl _ (hT _ hk)), h2.upd hu fun k hk ht => by have := hT k ht; unfold Till at hk; omega⟩
theorem Reader.lt {B : Nat} {w : World} {r : Nat} {l : List UInt8} (h : Reader B w r l) : r < w.heap.size := by obtain ⟨_, v, h1, _⟩ := h; exact lt_of_heap h1

theorem bytes_tail {S : Nat → Prop} {w : World} {b o c : Nat} {x : UInt8} {l : List UInt8} (hS : S b) (h1 : l.length + 1 ≤ c) (h2 : c ≤ maxLen) (h : ∀ j u, ((x :: l).map u8)[j]? = some u → w.cell? ⟨b, o + j, none⟩ = some u) (v : Value)
    (hv : v = .slice (some ⟨b, o + 1, none⟩) l.length (c - 1) ∨ (c = 1 ∧ v = .slice (some ⟨b, o, none⟩) l.length (c - 1))) : Bytes S w v l := by
  rcases hv with rfl | ⟨rfl, rfl⟩
  · refine ⟨_, _, rfl, by omega, by omega, fun e => (by cases e), fun a e => by cases e; exact ⟨rfl, hS⟩, fun b' o' e j u hj => ?_⟩
    cases e
    have := h (j + 1) u (by simpa using hj)
    rwa [show o + 1 + j = o + (j + 1) from by omega]
  · refine ⟨_, _, rfl, by omega, by omega, fun e => (by cases e), fun a e => by cases e; exact ⟨rfl, hS⟩, fun b' o' e j u hj => ?_⟩
    have hl : l = [] := List.eq_nil_of_length_eq_zero (by omega)
    subst hl; simp at hj

set_option maxHeartbeats 400000 in
theorem next_any {B : Nat} (w : World) (r : Nat) (l : List UInt8) (h : Reader B w r l) :
    Calls Try.prog 26 #[.pointer (some ⟨r, 0, none⟩)] w fun e w' => e = .returned (.int .i64 (hd l)) ∧ Upd (At r) w w' ∧ Reader B w' r (l.drop 1) := by
  obtain ⟨hB, v, hr, hb⟩ := h
  have hS : ¬ Till B r := by unfold Till; omega
  have hc := cell_of_one hr
  have hf := free_of_one hr
  have hlt := lt_of_heap hr
  have HR := Lib.hid hr
  clear hr
  cases l with
  | nil =>
    obtain ⟨a, c, rfl, h1, h2, h3⟩ := hb
    have HB := Lib.hid h3
    clear h3
    go_enter Try.func26, Try.ntmps26
    go_wp2
    go_ret
    exact ⟨rfl, Upd.refl _ _, hB, _, HR.out, a, c, rfl, h1, h2, HB.out⟩
  | cons x l =>
    obtain ⟨b, o, c, rfl, hSb, h1, h2, h3⟩ := hb.addr (by simp)
    have hx := bytes_cell h3 0 (by simp)
    have HB := Lib.hid h3
    clear h3 hb
    unfold maxLen at h2
    simp only [List.length_cons] at h1 hc
    simp only [Nat.add_zero, List.getElem_cons_zero] at hx
    have hlen : ((l.length : Int) + 1 == 0) = false := by rw [beq_eq_false_iff_ne]; omega
    have hxb : x.toNat < 256 := UInt8.toNat_lt _
    by_cases hcc : c = 1
    · have hl : l.length = 0 := by omega
      go_enter Try.func26, Try.ntmps26
      go_wp2
      go_ret
      exact ⟨by rw [hd_cons]; rfl, Upd.own _ _ _ _, hB, _, one_setCell HR.out, (bytes_tail hSb h1 (by unfold maxLen; omega) HB.out _ (.inr ⟨hcc, by rw [hl, hcc]⟩)).upd (Upd.own _ _ _ _) (fun k hk e => hS (by cases e; exact hk))⟩
    · go_enter Try.func26, Try.ntmps26
      go_wp2
      go_ret
      exact ⟨by rw [hd_cons]; rfl, Upd.own _ _ _ _, hB, _, one_setCell HR.out, (bytes_tail hSb h1 (by unfold maxLen; omega) HB.out _ (.inl rfl)).upd (Upd.own _ _ _ _) (fun k hk e => hS (by cases e; exact hk))⟩

/-- The same, what comes back behind names. -/
theorem next_c {B : Nat} (w : World) (r : Nat) (l : List UInt8) (h : Reader B w r l) :
    Calls Try.prog 26 #[.pointer (some ⟨r, 0, none⟩)] w fun e w' => ∃ (c : Nat) (l' : List UInt8), e = .returned (.int .i64 c) ∧ c < 256 ∧ Hid (c = hd l) ∧ Hid (l' = l.drop 1) ∧ Upd (At r) w w' ∧ Reader B w' r l' ∧ r < w'.heap.size :=
  (next_any w r l h).mono fun _ _ ⟨he, hu, hr⟩ => ⟨hd l, l.drop 1, he, hd_lt l, Lib.hid rfl, Lib.hid rfl, hu, hr, hr.lt⟩
theorem Reader.alloc {B : Nat} {w : World} {r : Nat} {l : List UInt8} (h : Reader B w r l) (o : Obj) : Reader B (w.alloc o) r l := h.upd ((Upd.refl Nothing w).alloc o) (fun _ e => e.elim)
theorem Reader.set {B : Nat} {w : World} {r : Nat} {l : List UInt8} (h : Reader B w r l) {b : Nat} (hb : r < b) (i : Nat) (u : Value) : Reader B (w.setCell ⟨b, i, none⟩ u) r l := h.upd (Upd.own w b i u) (fun _ e => by cases e; exact hb)

theorem Reader.grown {B : Nat} {w w' : World} {r : Nat} {l : List UInt8} {row : Option Nat} (h : Reader B w r l) (hg : w.grownBy w' row) (hr : ∀ k, row = some k → r < k) : Reader B w' r l :=
  h.upd (T := fun k => row = some k) ⟨hg.os, hg.tape, hg.output, hg.size, fun k hk e => hg.block k hk (fun e' => e e'.symm)⟩ hr

end Go.Proofs.Ytlhpcgmbbeihiaa
