/-
  CONTRACT of the law OpShows: it holds of any answers and any text. Condition: the library's table of powers of ten lies as it is laid.
-/
import Derived.Test.YtlhpcgmbbeihiaaDoorTells
import Derived.Test.YtlhpcgmbbeihiaaDoorShowInj
import Derived.Test.YtlhpcgmbbeihiaaDoorRShow
import Derived.Test.YtlhpcgmbbeihiaaDoorOSame
namespace Go.Proofs.YtlhpcgmbbeihiaaDoor
open Go.RowKit

def AnsOf (o : Ans) (v : Value) (w : World) : Prop := ∃ a n c, v = .agg (ansCells o (.slice a n c)) ∧ Texts (fun _ => True) w (.slice a n c) o.names
theorem AnsOf.ext {o : Ans} {v : Value} {w w' : World} (h : AnsOf o v w) (hu : Ext w w') : AnsOf o v w' := by
  obtain ⟨a, n, c, e, hr⟩ := h
  exact ⟨a, n, c, e, hr.ext hu⟩
def PairOf (p q : Ans × Value) (v : Value) (w : World) : Prop := ∃ b o c, v = .slice (some ⟨b, o, none⟩) 2 c ∧ Row (fun _ => True) w (.slice (some ⟨b, o, none⟩) 2 c) 2 (ansRow [p, q])
theorem PairOf.ext {p q : Ans × Value} {v : Value} {w w' : World} (h : PairOf p q v w) (hu : Ext w w') : PairOf p q v w' := by
  obtain ⟨a, n, c, e, hr⟩ := h
  exact ⟨a, n, c, e, hr.ext hu⟩
theorem pair_row (w : World) (p q : Ans × Value) : Row (At w.heap.size) (w.alloc (.cells #[.int .i64 p.1.err, .int .u64 p.1.n, str p.1.text, p.2, .int .i64 q.1.err, .int .u64 q.1.n, str q.1.text, q.2] 53)) (.slice (some ⟨w.heap.size, 0, none⟩) 2 2) 2 (ansRow [p, q]) :=
  row_new w #[.int .i64 p.1.err, .int .u64 p.1.n, str p.1.text, p.2, .int .i64 q.1.err, .int .u64 q.1.n, str q.1.text, q.2] 53 2 w.heap.size (by decide) rfl
theorem eqB_comm {α : Type} [DecidableEq α] (a b : α) : eqB a b = eqB b a := by
  unfold eqB; by_cases h : a = b
  · subst h; rfl
  · rw [decide_eq_false h, decide_eq_false (fun e => h e.symm)]
theorem sameTo_two (a b : Ans) : sameTo [a, b] 2 = eqB a b := by
  show (eqB (some a) (some a) && (eqB (some b) (some a) && true)) = eqB a b
  rw [eqB_self, Bool.true_and, Bool.and_true, eqB_comm a b]
  simp [eqB]
theorem sameTo_zero (l : List Ans) : sameTo l 0 = true := rfl
def AnsGood (a : Ans) : Prop := AnsIn a ∧ AnsFew a ∧ -4611686018427387904 < a.err
theorem four_at' {w : World} {b o : Nat} {x0 x1 x2 x3 : Value} (h0 : w.cell? ⟨b, o, none⟩ = some x0) (h1 : w.cell? ⟨b, o + 1, none⟩ = some x1) (h2 : w.cell? ⟨b, o + 2, none⟩ = some x2) (h3 : w.cell? ⟨b, o + 3, none⟩ = some x3) :
    ∀ (j : Nat) (u : Value), (#[x0, x1, x2, x3] : Array Value).toList[j]? = some u → w.cell? ⟨b, o + j, none⟩ = some u := by
  intro j u hj
  match j, hj with
  | 0, hj => simp at hj; rw [← hj]; exact h0
  | 1, hj => simp at hj; rw [← hj]; exact h1
  | 2, hj => simp at hj; rw [← hj]; exact h2
  | 3, hj => simp at hj; rw [← hj]; exact h3
structure SK where
  (lb lo lc k n : Nat)
  (k1 d1 : Int)
  t1' : List UInt8
  a1 : Option Addr
  e1 : List (List UInt8)
  z1 : Nat
  (k0 d0 : Int)
  t0' : List UInt8
  a0 : Option Addr
  e0 : List (List UInt8)
  z0 : Nat
  sm : Bool
  (s1 s0 : List UInt8)
def sval9 (p : SK) : Nat → Value
  | 0 => .bool true
  | 1 => .bool true
  | 2 => .slice (some ⟨p.lb, p.lo, none⟩) p.n p.lc
  | 3 => .int .i64 ((p.k : Nat) : Int)
  | 4 => .pointer (some ⟨p.lb, p.lo + p.k * 4, none⟩)
  | 5 => .agg #[.int .i64 p.k1, .int .u64 p.d1, str p.t1', .slice p.a1 p.e1.length p.z1]
  | 7 => .slice (some ⟨p.lb, p.lo, none⟩) p.n p.lc
  | 8 => .pointer (some ⟨p.lb, p.lo, none⟩)
  | 9 => .agg #[.int .i64 p.k0, .int .u64 p.d0, str p.t0', .slice p.a0 p.e0.length p.z0]
  | 11 => .bool p.sm
  | 12 => .bool p.sm
  | 13 => .bool p.sm
  | _ => undef
def SPhi9 (p : SK) (i : Nat) (v : Value) (w : World) : Prop := if i = 6 then AnsOf ⟨p.k1, p.d1, p.t1', p.e1⟩ v w else if i = 10 then AnsOf ⟨p.k0, p.d0, p.t0', p.e0⟩ v w else v = sval9 p i
theorem SPhi9.ext {p : SK} {i : Nat} {v : Value} {w w' : World} (h : SPhi9 p i v w) (hu : Ext w w') : SPhi9 p i v w' := by
  unfold SPhi9 at h ⊢
  by_cases c : i = 6
  · rw [if_pos c] at h ⊢; exact h.ext hu
  · rw [if_neg c] at h ⊢
    by_cases c : i = 10
    · rw [if_pos c] at h ⊢; exact h.ext hu
    · rw [if_neg c] at h ⊢; exact h
def sdst9 (i : Nat) : Tmp := if i = 13 then 5 else 30 + i
theorem sdst9_ne {j t : Nat} (ht : t ≠ 5 ∧ t < 30) (e : sdst9 j = t) : False := by
  unfold sdst9 at e
  have e : (if j = 13 then 5 else 30 + j : Nat) = t := e
  have h1 : (t : Nat) ≠ 5 := ht.1
  have h2 : (t : Nat) < 30 := ht.2
  split at e <;> omega
theorem sdst9_5 {j : Nat} (e : sdst9 j = 5) : j = 13 := by
  unfold sdst9 at e
  have e : (if j = 13 then 5 else 30 + j : Nat) = 5 := e
  split at e <;> omega
def sval13 (p : SK) : Nat → Value
  | 0 => .slice (some ⟨p.lb, p.lo, none⟩) p.n p.lc
  | 1 => .int .i64 ((p.k : Nat) : Int)
  | 2 => .pointer (some ⟨p.lb, p.lo + p.k * 4, none⟩)
  | 3 => .agg #[.int .i64 p.k1, .int .u64 p.d1, str p.t1', .slice p.a1 p.e1.length p.z1]
  | 4 => str p.s1
  | 5 => .slice (some ⟨p.lb, p.lo, none⟩) p.n p.lc
  | 6 => .int .i64 ((p.k : Nat) : Int)
  | 7 => .pointer (some ⟨p.lb, p.lo + p.k * 4, none⟩)
  | 8 => .agg #[.int .i64 p.k1, .int .u64 p.d1, str p.t1', .slice p.a1 p.e1.length p.z1]
  | 10 => str p.s1
  | 11 => .bool false
  | 12 => .bool false
  | 13 => .slice (some ⟨p.lb, p.lo, none⟩) p.n p.lc
  | 14 => .int .i64 ((p.k : Nat) : Int)
  | 15 => .pointer (some ⟨p.lb, p.lo + p.k * 4, none⟩)
  | 16 => .agg #[.int .i64 p.k1, .int .u64 p.d1, str p.t1', .slice p.a1 p.e1.length p.z1]
  | 17 => str p.s1
  | 18 => .slice (some ⟨p.lb, p.lo, none⟩) p.n p.lc
  | 19 => .pointer (some ⟨p.lb, p.lo, none⟩)
  | 20 => .agg #[.int .i64 p.k0, .int .u64 p.d0, str p.t0', .slice p.a0 p.e0.length p.z0]
  | 21 => str p.s0
  | 22 => .bool p.sm
  | 23 => .slice (some ⟨p.lb, p.lo, none⟩) p.n p.lc
  | 24 => .int .i64 ((p.k : Nat) : Int)
  | 25 => .pointer (some ⟨p.lb, p.lo + p.k * 4, none⟩)
  | 26 => .agg #[.int .i64 p.k1, .int .u64 p.d1, str p.t1', .slice p.a1 p.e1.length p.z1]
  | 27 => .slice (some ⟨p.lb, p.lo, none⟩) p.n p.lc
  | 28 => .pointer (some ⟨p.lb, p.lo, none⟩)
  | 29 => .agg #[.int .i64 p.k0, .int .u64 p.d0, str p.t0', .slice p.a0 p.e0.length p.z0]
  | 31 => .bool p.sm
  | 32 => .bool false
  | 33 => .bool false
  | _ => undef
def SPhi13 (p : SK) (i : Nat) (v : Value) (w : World) : Prop := if i = 9 then AnsOf ⟨p.k1, p.d1, p.t1', p.e1⟩ v w else if i = 30 then PairOf (⟨p.k1, p.d1, p.t1', p.e1⟩, .slice p.a1 p.e1.length p.z1) (⟨p.k0, p.d0, p.t0', p.e0⟩, .slice p.a0 p.e0.length p.z0) v w else v = sval13 p i
theorem SPhi13.ext {p : SK} {i : Nat} {v : Value} {w w' : World} (h : SPhi13 p i v w) (hu : Ext w w') : SPhi13 p i v w' := by
  unfold SPhi13 at h ⊢
  by_cases c : i = 9
  · rw [if_pos c] at h ⊢; exact h.ext hu
  · rw [if_neg c] at h ⊢
    by_cases c : i = 30
    · rw [if_pos c] at h ⊢; exact h.ext hu
    · rw [if_neg c] at h ⊢; exact h
def sdst13 (i : Nat) : Tmp := 49 + i
theorem sdst13_ne {j t : Nat} (ht : t < 49) (e : sdst13 j = t) : False := by
  have e : (49 + j : Nat) = t := e
  have h2 : (t : Nat) < 49 := ht
  omega

set_option maxRecDepth 100000 in
set_option maxHeartbeats 8000000 in
theorem shows_any {S1 S2 : Nat → Prop} (w : World) (l : List (Ans × Value)) (v : Value) (s : List UInt8) (h : Row S1 w v l.length (ansRow l)) (hn : ∀ p ∈ l, Texts S2 w p.2 p.1.names) (hi : ∀ p ∈ l, AnsIn p.1) (ht : Tab w) :
    Calls Tryd.prog 6 #[v, str s] w fun e w' => e = .returned (.bool true) ∧ Ext w w' := by
  have g := h.addr
  have h' := h
  obtain ⟨la, lc, rfl, hlc, hlm, -⟩ := h'
  unfold maxLen at hlm
  have G := Lib.hid g
  have HN := Lib.hid hn
  have HI := Lib.hid hi
  have HT := Lib.hid ht
  have HROW := Lib.hid h
  clear g hn hi ht h
  go_enter Tryd.func6, Tryd.ntmps6
  by_cases h5 : l.length ≤ 5
  case neg =>
    have q : decide ((5 : Int) < (l.length : Int)) = true := by simp; omega
    go_wp2_with (go_at_call 9; fail)
    refine (works_any _ HT.out).mono ?_
    rintro e w2 ⟨rfl, hx2⟩
    go_wp2
    go_ret
    exact ⟨rfl, hx2⟩
  have q5 : decide ((5 : Int) < (l.length : Int)) = false := by simp; omega
  by_cases h300 : s.length ≤ 300
  case neg =>
    have q : decide ((300 : Int) < (s.length : Int)) = true := by simp; omega
    go_wp2_with (go_at_call 9; fail)
    refine (works_any _ HT.out).mono ?_
    rintro e w2 ⟨rfl, hx2⟩
    go_wp2
    go_ret
    exact ⟨rfl, hx2⟩
  have q300 : decide ((300 : Int) < (s.length : Int)) = false := by simp; omega
  go_wp2
  go_loopw [5, 6] (fun al i wr => ∃ k : Nat, k ≤ l.length ∧ i = .int .i64 k ∧ al = .bool (sameTo (l.map (·.1)) k) ∧ Ext w wr ∧ ∀ p ∈ l.take k, AnsGood p.1) (fun _ i _ => l.length - (intOf i).toNat)
  case atStart => exact ⟨0, Nat.zero_le _, rfl, rfl, Upd.refl _ _, fun p hp => by simp at hp⟩
  case round =>
    obtain ⟨k, hk, rfl, rfl, hx, hgood⟩ := hrel
    have HX := Lib.hid hx
    have HGOOD := Lib.hid hgood
    clear hx hgood
    by_cases hlt : k < l.length
    · have h0 : 0 < l.length := by omega
      obtain ⟨lb, lo, lc', e1, -, -, -, hc1⟩ := G.out h0
      cases e1
      have hs1 : sameTo (l.map (·.1)) (k + 1) = (sameTo (l.map (·.1)) k && eqB l[k].1 l[0].1) := by
        have := sameTo_succ (l := l.map (·.1)) (k := k) (by rw [List.length_map]; exact hlt)
        simpa using this
      have t1 := HN.out l[k] (List.getElem_mem hlt)
      have t2 := HN.out l[0] (List.getElem_mem h0)
      have i1 := HI.out l[k] (List.getElem_mem hlt)
      obtain ⟨p1, p2, p3, p4⟩ := ans_cells hc1 k hlt
      obtain ⟨q1, q2, q3, q4⟩ := ans_cells hc1 0 h0
      have g0 : k ≠ 0 → AnsGood l[0].1 := fun hk0 => HGOOD.out l[0] (by rw [List.mem_take_iff_getElem]; exact ⟨0, by omega, rfl⟩)
      obtain ⟨⟨⟨k1, d1, t1', e1⟩, v1⟩, hx1⟩ : ∃ x, x = l[k] := ⟨_, rfl⟩
      obtain ⟨⟨⟨k0, d0, t0', e0⟩, v0⟩, hx0⟩ : ∃ x, x = l[0] := ⟨_, rfl⟩
      have hk00 : k = 0 → (⟨k0, d0, t0', e0⟩ : Ans) = ⟨k1, d1, t1', e1⟩ := fun e => by subst e; rw [← hx1] at hx0; exact (Prod.mk.inj hx0).1
      rw [← hx1] at p1 p2 p3 p4 t1 hs1 i1
      rw [← hx0] at q1 q2 q3 q4 t2 hs1 g0
      rw [Nat.zero_mul, Nat.add_zero] at q1 q2 q3 q4
      have t1c := t1
      have t2c := t2
      obtain ⟨a1, z1, ev1, -, -, -⟩ := t1c
      obtain ⟨a0, z0, ev0, -, -, -⟩ := t2c
      dsimp only at ev1 ev0
      subst ev1
      subst ev0
      have P1 := Lib.hid (HX.out.cell p1 id)
      have P2 := Lib.hid (HX.out.cell p2 id)
      have P3 := Lib.hid (HX.out.cell p3 id)
      have P4 := Lib.hid (HX.out.cell p4 id)
      have Q1 := Lib.hid (HX.out.cell q1 id)
      have Q2 := Lib.hid (HX.out.cell q2 id)
      have Q3 := Lib.hid (HX.out.cell q3 id)
      have Q4 := Lib.hid (HX.out.cell q4 id)
      have TK := Lib.hid (t1.ext HX.out)
      have T0 := Lib.hid (t2.ext HX.out)
      have HX1 := Lib.hid hx1
      have HX0 := Lib.hid hx0
      have HS1 := Lib.hid hs1
      have I1 := Lib.hid i1
      have G0 := Lib.hid g0
      have HK0 := Lib.hid hk00
      clear hc1 hx1 hx0 hs1 t1 t2 q1 q2 q3 q4 i1 g0 hk00 p1 p2 p3 p4
      have p1 := P1.out
      have p2 := P2.out
      have p3 := P3.out
      have p4 := P4.out
      go_wp2_with (go_at_call 23; fail)
      refine (little_any _ ⟨k1, d1, t1', e1⟩ _ TK.out).mono ?_
      rintro e w1 ⟨b1, rfl, hf1, hx1⟩
      have HXA := Lib.hid (HX.out.trans hx1)
      have HU1 := Lib.hid hx1
      clear hx1 p1 p2 p3 p4
      cases b1 with
      | false =>
        clear hf1
        go_wp2_with (go_at_call 9; fail)
        refine (works_any _ (tab_ext HT.out HXA.out)).mono ?_
        rintro e w2 ⟨rfl, hx2⟩
        have HX2 := Lib.hid (HXA.out.trans hx2)
        clear hx2
        go_wp2
        go_ret
        exact ⟨rfl, HX2.out⟩
      | true =>
        have hgk : AnsGood ⟨k1, d1, t1', e1⟩ := ⟨I1.out, (hf1 rfl).1, (hf1 rfl).2⟩
        have HGK := Lib.hid hgk
        clear hf1 hgk
        have hg0 : AnsGood ⟨k0, d0, t0', e0⟩ := by
          by_cases hk0 : k = 0
          · rw [HK0.out hk0]; exact HGK.out
          · exact G0.out hk0
        have HG0 := Lib.hid hg0
        have CK := Lib.hid (four_at' (HU1.out.cell P1.out id) (HU1.out.cell P2.out id) (HU1.out.cell P3.out id) (HU1.out.cell P4.out id))
        have C0 := Lib.hid (four_at' (HU1.out.cell Q1.out id) (HU1.out.cell Q2.out id) (HU1.out.cell Q3.out id) (HU1.out.cell Q4.out id))
        have TK := Lib.hid (TK.out.ext HU1.out)
        have T0 := Lib.hid (T0.out.ext HU1.out)
        obtain ⟨sm, hsm⟩ : ∃ b, b = eqB (⟨k1, d1, t1', e1⟩ : Ans) ⟨k0, d0, t0', e0⟩ := ⟨_, rfl⟩
        have HSM := Lib.hid hsm
        obtain ⟨al, hal⟩ : ∃ b, b = sameTo (l.map (·.1)) k := ⟨_, rfl⟩
        have HAL := Lib.hid hal
        have hgl : ∀ p ∈ l.take (k + 1), AnsGood p.1 := fun p hp => by
          rw [List.take_succ_eq_append_getElem hlt] at hp
          rcases List.mem_append.1 hp with hp | hp
          · exact HGOOD.out p hp
          · rw [List.mem_singleton] at hp; rw [hp, ← HX1.out]; exact HGK.out
        have HGL := Lib.hid hgl
        rw [← hal]
        clear hg0 hsm hal hgl
        go_upto_region 9 with (fail)
        cases al with
        | false =>
          go_quiet (fail)
          go_wp2
          go_roundw
          case rel => exact ⟨k + 1, by omega, by go_num, by rw [HS1.out, ← HAL.out]; rfl, HXA.out.trans ((Upd.refl Nothing _).drewN _), HGL.out⟩
          case measure => simp [intOf]; omega
        | true =>
          refine wp_region_invG Nothing (fun _ => Ext) 100 sdst9 (SPhi9 ⟨lb, lo, lc, k, l.length, k1, d1, t1', a1, e1, z1, k0, d0, t0', a0, e0, z0, sm, [], []⟩) 97 (by kernel_rfl) (by decide) (by decide) rfl (by decide) (fun i w w' h => ⟨h, fun _ => h⟩) (fun i j v w w' _ _ _ _ h hu => h.ext hu) ?_ ?_
          · intro i o' b' w1' ho hx1' hd hk' hE
            have hk := hk'
            have hi : i < 14 := (Array.getElem?_eq_some_iff.1 ho).1
            have hio : i = 0 ∨ i = 1 ∨ i = 2 ∨ i = 3 ∨ i = 4 ∨ i = 5 ∨ i = 6 ∨ i = 7 ∨ i = 8 ∨ i = 9 ∨ i = 10 ∨ i = 11 ∨ i = 12 ∨ i = 13 := by omega
            clear hE hk'
            have HW1 := Lib.hid hx1'
            clear hx1'
            rcases hio with rfl | rfl | rfl | rfl | rfl | rfl | rfl | rfl | rfl | rfl | rfl | rfl | rfl | rfl
            all_goals (simp at ho; subst ho)
            case inl =>
              refine ⟨by simp [Region.wanted], ?_⟩
              have o5 : b'.tmps[5]?.getD undef = .bool true := by
                have := hk 5 (fun j oj hoj e => by have hj := sdst9_5 e; subst hj; simp at hoj; subst hoj; exact .inr ⟨⟨0, .phase⟩, by simp, rfl, rfl⟩)
                simpa using this
              clear hd hk
              go_step
              exact ⟨_, rfl, rfl, Upd.refl _ _⟩
            case inr.inl =>
              refine ⟨by simp [Region.wanted], ?_⟩
              have e0 : b'.tmps[30]?.getD undef = .bool true := by have := (show b'.tmps.getD 30 undef = .bool true from hd ⟨0, .data⟩ (by simp) rfl); simpa using this
              clear hd hk
              go_step
              exact ⟨_, rfl, rfl, Upd.refl _ _⟩
            case inr.inr.inl =>
              refine ⟨by
                have := tmp_some (show b'.tmps.getD 31 undef = .bool true from hd ⟨1, .guard⟩ (by simp) rfl)
                simp [Region.wanted, yielded, this], ?_⟩
              have o0 : b'.tmps[0]?.getD undef = .slice (some ⟨lb, lo, none⟩) l.length lc := by
                have := hk 0 (fun j oj _ e => (sdst9_ne (by decide) e).elim)
                simpa using this
              clear hd hk
              go_step
              exact ⟨_, rfl, rfl, Upd.refl _ _⟩
            case inr.inr.inr.inl =>
              refine ⟨by
                have := tmp_some (show b'.tmps.getD 31 undef = .bool true from hd ⟨1, .guard⟩ (by simp) rfl)
                simp [Region.wanted, yielded, this], ?_⟩
              have o6 : b'.tmps[6]?.getD undef = .int .i64 (k : Int) := by
                have := hk 6 (fun j oj _ e => (sdst9_ne (by decide) e).elim)
                simpa using this
              clear hd hk
              go_step
              exact ⟨_, rfl, rfl, Upd.refl _ _⟩
            case inr.inr.inr.inr.inl =>
              refine ⟨by
                have := tmp_some (show b'.tmps.getD 31 undef = .bool true from hd ⟨1, .guard⟩ (by simp) rfl)
                simp [Region.wanted, yielded, this], ?_⟩
              have e2 : b'.tmps[32]?.getD undef = .slice (some ⟨lb, lo, none⟩) l.length lc := by have := (show b'.tmps.getD 32 undef = .slice (some ⟨lb, lo, none⟩) l.length lc from hd ⟨2, .data⟩ (by simp) rfl); simpa using this
              have e3 : b'.tmps[33]?.getD undef = .int .i64 (k : Int) := by have := (show b'.tmps.getD 33 undef = .int .i64 (k : Int) from hd ⟨3, .data⟩ (by simp) rfl); simpa using this
              clear hd hk
              go_step
              exact ⟨_, rfl, rfl, Upd.refl _ _⟩
            case inr.inr.inr.inr.inr.inl =>
              refine ⟨by
                have := tmp_some (show b'.tmps.getD 31 undef = .bool true from hd ⟨1, .guard⟩ (by simp) rfl)
                simp [Region.wanted, yielded, this], ?_⟩
              have o34 : b'.eval (.tmp 34) = .pointer (some ⟨lb, lo + k * 4, none⟩) := by
                have := (show b'.tmps.getD 34 undef = .pointer (some ⟨lb, lo + k * 4, none⟩) from hd ⟨4, .data⟩ (by simp) rfl)
                simpa [Act.eval] using this
              exact wp_load_mid (w := w1') 53 (.tmp 34) rfl lb (lo + k * 4) o34 (#[.int .i64 k1, .int .u64 d1, str t1', .slice a1 e1.length z1] : Array Value).toList _ (fun j u hj => HW1.out.cell (CK.out j u hj) id) Tryd.underlying53 rfl (by kernel_rfl) ⟨_, rfl, rfl, Upd.refl _ _⟩
            case inr.inr.inr.inr.inr.inr.inl =>
              refine ⟨by
                have := tmp_some (show b'.tmps.getD 31 undef = .bool true from hd ⟨1, .guard⟩ (by simp) rfl)
                simp [Region.wanted, yielded, this], ?_⟩
              have e5 : b'.tmps[35]?.getD undef = .agg #[.int .i64 k1, .int .u64 d1, str t1', .slice a1 e1.length z1] := by have := (show b'.tmps.getD 35 undef = .agg #[.int .i64 k1, .int .u64 d1, str t1', .slice a1 e1.length z1] from hd ⟨5, .data⟩ (by simp) rfl); simpa using this
              clear hd hk
              go_step
              refine (lawAns_any w1' ⟨k1, d1, t1', e1⟩ _ (TK.out.ext HW1.out) (by have := HGK.out.2.1.2.1; dsimp only at this ⊢; omega)).mono ?_
              rintro e w2 ⟨v2, rfl, ho2, hu⟩
              obtain ⟨a2, n2, c2, rfl⟩ := ownsForm ho2
              exact ⟨_, rfl, ⟨a2, n2, c2, rfl, (Row.of_owns ho2).mono (fun _ _ => trivial)⟩, hu⟩
            case inr.inr.inr.inr.inr.inr.inr.inl =>
              refine ⟨by
                have := tmp_some (show b'.tmps.getD 31 undef = .bool true from hd ⟨1, .guard⟩ (by simp) rfl)
                simp [Region.wanted, yielded, this], ?_⟩
              have o0 : b'.tmps[0]?.getD undef = .slice (some ⟨lb, lo, none⟩) l.length lc := by
                have := hk 0 (fun j oj _ e => (sdst9_ne (by decide) e).elim)
                simpa using this
              clear hd hk
              go_step
              exact ⟨_, rfl, rfl, Upd.refl _ _⟩
            case inr.inr.inr.inr.inr.inr.inr.inr.inl =>
              refine ⟨by
                have := tmp_some (show b'.tmps.getD 31 undef = .bool true from hd ⟨1, .guard⟩ (by simp) rfl)
                simp [Region.wanted, yielded, this], ?_⟩
              have e7 : b'.tmps[37]?.getD undef = .slice (some ⟨lb, lo, none⟩) l.length lc := by have := (show b'.tmps.getD 37 undef = .slice (some ⟨lb, lo, none⟩) l.length lc from hd ⟨7, .data⟩ (by simp) rfl); simpa using this
              clear hd hk
              go_step
              exact ⟨_, rfl, rfl, Upd.refl _ _⟩
            case inr.inr.inr.inr.inr.inr.inr.inr.inr.inl =>
              refine ⟨by
                have := tmp_some (show b'.tmps.getD 31 undef = .bool true from hd ⟨1, .guard⟩ (by simp) rfl)
                simp [Region.wanted, yielded, this], ?_⟩
              have o38 : b'.eval (.tmp 38) = .pointer (some ⟨lb, lo, none⟩) := by
                have := (show b'.tmps.getD 38 undef = .pointer (some ⟨lb, lo, none⟩) from hd ⟨8, .data⟩ (by simp) rfl)
                simpa [Act.eval] using this
              exact wp_load_mid (w := w1') 53 (.tmp 38) rfl lb (lo) o38 (#[.int .i64 k0, .int .u64 d0, str t0', .slice a0 e0.length z0] : Array Value).toList _ (fun j u hj => HW1.out.cell (C0.out j u hj) id) Tryd.underlying53 rfl (by kernel_rfl) ⟨_, rfl, rfl, Upd.refl _ _⟩
            case inr.inr.inr.inr.inr.inr.inr.inr.inr.inr.inl =>
              refine ⟨by
                have := tmp_some (show b'.tmps.getD 31 undef = .bool true from hd ⟨1, .guard⟩ (by simp) rfl)
                simp [Region.wanted, yielded, this], ?_⟩
              have e9 : b'.tmps[39]?.getD undef = .agg #[.int .i64 k0, .int .u64 d0, str t0', .slice a0 e0.length z0] := by have := (show b'.tmps.getD 39 undef = .agg #[.int .i64 k0, .int .u64 d0, str t0', .slice a0 e0.length z0] from hd ⟨9, .data⟩ (by simp) rfl); simpa using this
              clear hd hk
              go_step
              refine (lawAns_any w1' ⟨k0, d0, t0', e0⟩ _ (T0.out.ext HW1.out) (by have := HG0.out.2.1.2.1; dsimp only at this ⊢; omega)).mono ?_
              rintro e w2 ⟨v2, rfl, ho2, hu⟩
              obtain ⟨a2, n2, c2, rfl⟩ := ownsForm ho2
              exact ⟨_, rfl, ⟨a2, n2, c2, rfl, (Row.of_owns ho2).mono (fun _ _ => trivial)⟩, hu⟩
            case inr.inr.inr.inr.inr.inr.inr.inr.inr.inr.inr.inl =>
              refine ⟨by
                have := tmp_some (show b'.tmps.getD 31 undef = .bool true from hd ⟨1, .guard⟩ (by simp) rfl)
                simp [Region.wanted, yielded, this], ?_⟩
              have h6 := hd ⟨6, .data⟩ (by simp) rfl
              obtain ⟨a6, n6, c6, e6, r6⟩ := (show AnsOf ⟨k1, d1, t1', e1⟩ (b'.tmps.getD 36 undef) w1' from h6)
              replace e6 : b'.tmps[36]?.getD undef = .agg (ansCells ⟨k1, d1, t1', e1⟩ (.slice a6 n6 c6)) := by simpa using e6
              have h10 := hd ⟨10, .data⟩ (by simp) rfl
              obtain ⟨a10, n10, c10, e10, r10⟩ := (show AnsOf ⟨k0, d0, t0', e0⟩ (b'.tmps.getD 40 undef) w1' from h10)
              replace e10 : b'.tmps[40]?.getD undef = .agg (ansCells ⟨k0, d0, t0', e0⟩ (.slice a10 n10 c10)) := by simpa using e10
              clear hd hk
              go_step
              refine (rsameAns_any w1' ⟨k1, d1, t1', e1⟩ ⟨k0, d0, t0', e0⟩ _ _ r6 r10).mono ?_
              rintro e w2 ⟨rfl, hu⟩
              exact ⟨_, rfl, by rw [← HSM.out]; rfl, hu⟩
            case inr.inr.inr.inr.inr.inr.inr.inr.inr.inr.inr.inr.inl =>
              refine ⟨by simp [Region.wanted], ?_⟩
              have e1 : b'.tmps[31]?.getD undef = .bool true := by have := (show b'.tmps.getD 31 undef = .bool true from hd ⟨1, .data⟩ (by simp) rfl); simpa using this
              have e11 : b'.tmps[41]?.getD undef = .bool sm := by have := (show b'.tmps.getD 41 undef = .bool sm from hd ⟨11, .data⟩ (by simp) rfl); simpa using this
              clear hd hk
              go_step
              exact ⟨_, rfl, rfl, Upd.refl _ _⟩
            case inr.inr.inr.inr.inr.inr.inr.inr.inr.inr.inr.inr.inr =>
              refine ⟨by simp [Region.wanted], ?_⟩
              have e12 : b'.tmps[42]?.getD undef = .bool sm := by have := (show b'.tmps.getD 42 undef = .bool sm from hd ⟨12, .data⟩ (by simp) rfl); simpa using this
              clear hd hk
              go_step
              exact ⟨_, rfl, rfl, Upd.refl _ _⟩
          · intro v w1' hx1' hp
            have h13 : v 13 = .bool sm := hp 13 (by decide)
            have HX8 := Lib.hid (HXA.out.trans hx1')
            clear hp hx1'
            simp only [List.size_toArray, List.length_cons, List.length_nil, Nat.reduceAdd, fillAll, sdst9]
            go_simp
            go_wp2
            go_roundw
            case rel => exact ⟨k + 1, by omega, by go_num, by rw [HS1.out, ← HAL.out, HSM.out]; rfl, HX8.out, HGL.out⟩
            case measure => simp [intOf]; omega
    · have hkl : k = l.length := by omega
      subst hkl
      rw [List.take_length] at HGOOD
      have HALL := Lib.hid HGOOD.out
      clear HGOOD
      go_wp2
      obtain ⟨w0, hw0⟩ : ∃ x, x = wr := ⟨_, rfl⟩
      subst hw0
      go_loopw [7] (fun i wr' => ∃ k : Nat, k ≤ l.length ∧ i = .int .i64 k ∧ Ext w0 wr') (fun i _ => l.length - (intOf i).toNat)
      case atStart => exact ⟨0, Nat.zero_le _, rfl, Upd.refl _ _⟩
      case round =>
        obtain ⟨k, hk, rfl, hx⟩ := hrel
        have HXW := Lib.hid (HX.out.trans hx)
        have HX0W := Lib.hid hx
        clear hx
        by_cases hlt : k < l.length
        · have h0 : 0 < l.length := by omega
          have gk := HALL.out l[k] (List.getElem_mem hlt)
          have g0 := HALL.out l[0] (List.getElem_mem h0)
          obtain ⟨lb, lo, lc', e1, -, -, -, hc1⟩ := G.out h0
          cases e1
          have t1 := HN.out l[k] (List.getElem_mem hlt)
          have t2 := HN.out l[0] (List.getElem_mem h0)
          obtain ⟨p1, p2, p3, p4⟩ := ans_cells hc1 k hlt
          obtain ⟨q1, q2, q3, q4⟩ := ans_cells hc1 0 h0
          obtain ⟨⟨⟨k1, d1, t1', e1⟩, v1⟩, hx1⟩ : ∃ x, x = l[k] := ⟨_, rfl⟩
          obtain ⟨⟨⟨k0, d0, t0', e0⟩, v0⟩, hx0⟩ : ∃ x, x = l[0] := ⟨_, rfl⟩
          rw [← hx1] at p1 p2 p3 p4 t1 gk
          rw [← hx0] at q1 q2 q3 q4 t2 g0
          rw [Nat.zero_mul, Nat.add_zero] at q1 q2 q3 q4
          have t1c := t1
          have t2c := t2
          obtain ⟨a1, z1, ev1, -, -, -⟩ := t1c
          obtain ⟨a0, z0, ev0, -, -, -⟩ := t2c
          dsimp only at ev1 ev0
          subst ev1
          subst ev0
          have P1 := Lib.hid (HXW.out.cell p1 id)
          have P2 := Lib.hid (HXW.out.cell p2 id)
          have P3 := Lib.hid (HXW.out.cell p3 id)
          have P4 := Lib.hid (HXW.out.cell p4 id)
          have Q1 := Lib.hid (HXW.out.cell q1 id)
          have Q2 := Lib.hid (HXW.out.cell q2 id)
          have Q3 := Lib.hid (HXW.out.cell q3 id)
          have Q4 := Lib.hid (HXW.out.cell q4 id)
          have TK := Lib.hid (t1.ext HXW.out)
          have T0 := Lib.hid (t2.ext HXW.out)
          have HX1 := Lib.hid hx1
          have HX0 := Lib.hid hx0
          have HGK := Lib.hid gk
          have HG0 := Lib.hid g0
          have CK := Lib.hid (four_at' P1.out P2.out P3.out P4.out)
          have C0 := Lib.hid (four_at' Q1.out Q2.out Q3.out Q4.out)
          have HTR := Lib.hid (tab_ext HT.out HXW.out)
          obtain ⟨sm, hsm⟩ : ∃ b, b = eqB (⟨k1, d1, t1', e1⟩ : Ans) ⟨k0, d0, t0', e0⟩ := ⟨_, rfl⟩
          obtain ⟨s1, hs1⟩ : ∃ b, b = showF (⟨k1, d1, t1', e1⟩ : Ans) := ⟨_, rfl⟩
          obtain ⟨s0, hs0⟩ : ∃ b, b = showF (⟨k0, d0, t0', e0⟩ : Ans) := ⟨_, rfl⟩
          have heqs : eqB s1 s0 = sm := by
            rw [hsm]
            by_cases hq : (⟨k1, d1, t1', e1⟩ : Ans) = ⟨k0, d0, t0', e0⟩
            · rw [hs1, hs0, hq, eqB_self, eqB_self]
            · rw [eqB_ne hq, eqB_ne (fun e => hq (showF_inj gk.1.n0 g0.1.n0 (by rw [← hs1, ← hs0]; exact e)))]
          have HSM := Lib.hid hsm
          have HS1Q := Lib.hid hs1
          have HS0Q := Lib.hid hs0
          have HEQS := Lib.hid heqs
          clear hc1 hx1 hx0 t1 t2 q1 q2 q3 q4 p1 p2 p3 p4 gk g0 hsm hs1 hs0 heqs
          go_upto_region 13 with (fail)
          refine wp_region_invG Nothing (fun _ => Ext) 100 sdst13 (SPhi13 ⟨lb, lo, lc, k, l.length, k1, d1, t1', a1, e1, z1, k0, d0, t0', a0, e0, z0, sm, s1, s0⟩) 97 (by kernel_rfl) (by decide) (by decide) rfl (by decide) (fun i w w' h => ⟨h, fun _ => h⟩) (fun i j v w w' _ _ _ _ h hu => h.ext hu) ?_ ?_
          · intro i o' b' w1' ho hx1' hd hk' hE
            have hk := hk'
            have hi : i < 34 := (Array.getElem?_eq_some_iff.1 ho).1
            have hio : i = 0 ∨ i = 1 ∨ i = 2 ∨ i = 3 ∨ i = 4 ∨ i = 5 ∨ i = 6 ∨ i = 7 ∨ i = 8 ∨ i = 9 ∨ i = 10 ∨ i = 11 ∨ i = 12 ∨ i = 13 ∨ i = 14 ∨ i = 15 ∨ i = 16 ∨ i = 17 ∨ i = 18 ∨ i = 19 ∨ i = 20 ∨ i = 21 ∨ i = 22 ∨ i = 23 ∨ i = 24 ∨ i = 25 ∨ i = 26 ∨ i = 27 ∨ i = 28 ∨ i = 29 ∨ i = 30 ∨ i = 31 ∨ i = 32 ∨ i = 33 := by omega
            clear hE hk'
            have HW1 := Lib.hid hx1'
            clear hx1'
            rcases hio with rfl | rfl | rfl | rfl | rfl | rfl | rfl | rfl | rfl | rfl | rfl | rfl | rfl | rfl | rfl | rfl | rfl | rfl | rfl | rfl | rfl | rfl | rfl | rfl | rfl | rfl | rfl | rfl | rfl | rfl | rfl | rfl | rfl | rfl
            all_goals (simp at ho; subst ho)
            case inl =>
              refine ⟨by simp [Region.wanted], ?_⟩
              have o0 : b'.tmps[0]?.getD undef = .slice (some ⟨lb, lo, none⟩) l.length lc := by
                have := hk 0 (fun j oj _ e => (sdst13_ne (by decide) e).elim)
                simpa using this
              clear hd hk
              go_step
              exact ⟨_, rfl, rfl, Upd.refl _ _⟩
            case inr.inl =>
              refine ⟨by simp [Region.wanted], ?_⟩
              have o7 : b'.tmps[7]?.getD undef = .int .i64 (k : Int) := by
                have := hk 7 (fun j oj _ e => (sdst13_ne (by decide) e).elim)
                simpa using this
              clear hd hk
              go_step
              exact ⟨_, rfl, rfl, Upd.refl _ _⟩
            case inr.inr.inl =>
              refine ⟨by simp [Region.wanted], ?_⟩
              have e0 : b'.tmps[49]?.getD undef = .slice (some ⟨lb, lo, none⟩) l.length lc := by have := (show b'.tmps.getD 49 undef = .slice (some ⟨lb, lo, none⟩) l.length lc from hd ⟨0, .data⟩ (by simp) rfl); simpa using this
              have e1 : b'.tmps[50]?.getD undef = .int .i64 (k : Int) := by have := (show b'.tmps.getD 50 undef = .int .i64 (k : Int) from hd ⟨1, .data⟩ (by simp) rfl); simpa using this
              clear hd hk
              go_step
              exact ⟨_, rfl, rfl, Upd.refl _ _⟩
            case inr.inr.inr.inl =>
              refine ⟨by simp [Region.wanted], ?_⟩
              have o51 : b'.eval (.tmp 51) = .pointer (some ⟨lb, lo + k * 4, none⟩) := by
                have := (show b'.tmps.getD 51 undef = .pointer (some ⟨lb, lo + k * 4, none⟩) from hd ⟨2, .data⟩ (by simp) rfl)
                simpa [Act.eval] using this
              exact wp_load_mid (w := w1') 53 (.tmp 51) rfl lb (lo + k * 4) o51 (#[.int .i64 k1, .int .u64 d1, str t1', .slice a1 e1.length z1] : Array Value).toList _ (fun j u hj => HW1.out.cell (CK.out j u hj) id) Tryd.underlying53 rfl (by kernel_rfl) ⟨_, rfl, rfl, Upd.refl _ _⟩
            case inr.inr.inr.inr.inl =>
              refine ⟨by simp [Region.wanted], ?_⟩
              have e3 : b'.tmps[52]?.getD undef = .agg #[.int .i64 k1, .int .u64 d1, str t1', .slice a1 e1.length z1] := by have := (show b'.tmps.getD 52 undef = .agg #[.int .i64 k1, .int .u64 d1, str t1', .slice a1 e1.length z1] from hd ⟨3, .data⟩ (by simp) rfl); simpa using this
              clear hd hk
              go_step
              refine (show_any w1' ⟨k1, d1, t1', e1⟩ _ (TK.out.ext HW1.out) HGK.out.1 HGK.out.2.1 (tab_ext HTR.out HW1.out)).mono ?_
              rintro e w2 ⟨rfl, hu⟩
              exact ⟨_, rfl, by rw [HS1Q.out]; rfl, hu⟩
            case inr.inr.inr.inr.inr.inl =>
              refine ⟨by simp [Region.wanted], ?_⟩
              have o0 : b'.tmps[0]?.getD undef = .slice (some ⟨lb, lo, none⟩) l.length lc := by
                have := hk 0 (fun j oj _ e => (sdst13_ne (by decide) e).elim)
                simpa using this
              clear hd hk
              go_step
              exact ⟨_, rfl, rfl, Upd.refl _ _⟩
            case inr.inr.inr.inr.inr.inr.inl =>
              refine ⟨by simp [Region.wanted], ?_⟩
              have o7 : b'.tmps[7]?.getD undef = .int .i64 (k : Int) := by
                have := hk 7 (fun j oj _ e => (sdst13_ne (by decide) e).elim)
                simpa using this
              clear hd hk
              go_step
              exact ⟨_, rfl, rfl, Upd.refl _ _⟩
            case inr.inr.inr.inr.inr.inr.inr.inl =>
              refine ⟨by simp [Region.wanted], ?_⟩
              have e5 : b'.tmps[54]?.getD undef = .slice (some ⟨lb, lo, none⟩) l.length lc := by have := (show b'.tmps.getD 54 undef = .slice (some ⟨lb, lo, none⟩) l.length lc from hd ⟨5, .data⟩ (by simp) rfl); simpa using this
              have e6 : b'.tmps[55]?.getD undef = .int .i64 (k : Int) := by have := (show b'.tmps.getD 55 undef = .int .i64 (k : Int) from hd ⟨6, .data⟩ (by simp) rfl); simpa using this
              clear hd hk
              go_step
              exact ⟨_, rfl, rfl, Upd.refl _ _⟩
            case inr.inr.inr.inr.inr.inr.inr.inr.inl =>
              refine ⟨by simp [Region.wanted], ?_⟩
              have o56 : b'.eval (.tmp 56) = .pointer (some ⟨lb, lo + k * 4, none⟩) := by
                have := (show b'.tmps.getD 56 undef = .pointer (some ⟨lb, lo + k * 4, none⟩) from hd ⟨7, .data⟩ (by simp) rfl)
                simpa [Act.eval] using this
              exact wp_load_mid (w := w1') 53 (.tmp 56) rfl lb (lo + k * 4) o56 (#[.int .i64 k1, .int .u64 d1, str t1', .slice a1 e1.length z1] : Array Value).toList _ (fun j u hj => HW1.out.cell (CK.out j u hj) id) Tryd.underlying53 rfl (by kernel_rfl) ⟨_, rfl, rfl, Upd.refl _ _⟩
            case inr.inr.inr.inr.inr.inr.inr.inr.inr.inl =>
              refine ⟨by simp [Region.wanted], ?_⟩
              have e8 : b'.tmps[57]?.getD undef = .agg #[.int .i64 k1, .int .u64 d1, str t1', .slice a1 e1.length z1] := by have := (show b'.tmps.getD 57 undef = .agg #[.int .i64 k1, .int .u64 d1, str t1', .slice a1 e1.length z1] from hd ⟨8, .data⟩ (by simp) rfl); simpa using this
              clear hd hk
              go_step
              refine (lawAns_any w1' ⟨k1, d1, t1', e1⟩ _ (TK.out.ext HW1.out) (by have := HGK.out.2.1.2.1; dsimp only at this ⊢; omega)).mono ?_
              rintro e w2 ⟨v2, rfl, ho2, hu⟩
              obtain ⟨a2, n2, c2, rfl⟩ := ownsForm ho2
              exact ⟨_, rfl, ⟨a2, n2, c2, rfl, (Row.of_owns ho2).mono (fun _ _ => trivial)⟩, hu⟩
            case inr.inr.inr.inr.inr.inr.inr.inr.inr.inr.inl =>
              refine ⟨by simp [Region.wanted], ?_⟩
              have h9 := hd ⟨9, .data⟩ (by simp) rfl
              obtain ⟨a9, n9, c9, e9, r9⟩ := (show AnsOf ⟨k1, d1, t1', e1⟩ (b'.tmps.getD 58 undef) w1' from h9)
              replace e9 : b'.tmps[58]?.getD undef = .agg (ansCells ⟨k1, d1, t1', e1⟩ (.slice a9 n9 c9)) := by simpa using e9
              clear hd hk
              go_step
              refine (rshow_any w1' ⟨k1, d1, t1', e1⟩ _ r9 HGK.out.1 HGK.out.2.1 HGK.out.2.2).mono ?_
              rintro e w2 ⟨rfl, hu⟩
              exact ⟨_, rfl, by rw [HS1Q.out]; rfl, hu⟩
            case inr.inr.inr.inr.inr.inr.inr.inr.inr.inr.inr.inl =>
              refine ⟨by simp [Region.wanted], ?_⟩
              have e4 : b'.tmps[53]?.getD undef = str s1 := by have := (show b'.tmps.getD 53 undef = str s1 from hd ⟨4, .data⟩ (by simp) rfl); simpa using this
              have e10 : b'.tmps[59]?.getD undef = str s1 := by have := (show b'.tmps.getD 59 undef = str s1 from hd ⟨10, .data⟩ (by simp) rfl); simpa using this
              clear hd hk
              go_step
              exact ⟨_, rfl, rfl, Upd.refl _ _⟩
            case inr.inr.inr.inr.inr.inr.inr.inr.inr.inr.inr.inr.inl =>
              refine ⟨by simp [Region.wanted], ?_⟩
              have e11 : b'.tmps[60]?.getD undef = .bool false := by have := (show b'.tmps.getD 60 undef = .bool false from hd ⟨11, .data⟩ (by simp) rfl); simpa using this
              clear hd hk
              go_step
              exact ⟨_, rfl, rfl, Upd.refl _ _⟩
            case inr.inr.inr.inr.inr.inr.inr.inr.inr.inr.inr.inr.inr.inl =>
              refine ⟨by
                have := tmp_some (show b'.tmps.getD 61 undef = .bool false from hd ⟨12, .guard⟩ (by simp) rfl)
                simp [Region.wanted, yielded, this], ?_⟩
              have o0 : b'.tmps[0]?.getD undef = .slice (some ⟨lb, lo, none⟩) l.length lc := by
                have := hk 0 (fun j oj _ e => (sdst13_ne (by decide) e).elim)
                simpa using this
              clear hd hk
              go_step
              exact ⟨_, rfl, rfl, Upd.refl _ _⟩
            case inr.inr.inr.inr.inr.inr.inr.inr.inr.inr.inr.inr.inr.inr.inl =>
              refine ⟨by
                have := tmp_some (show b'.tmps.getD 61 undef = .bool false from hd ⟨12, .guard⟩ (by simp) rfl)
                simp [Region.wanted, yielded, this], ?_⟩
              have o7 : b'.tmps[7]?.getD undef = .int .i64 (k : Int) := by
                have := hk 7 (fun j oj _ e => (sdst13_ne (by decide) e).elim)
                simpa using this
              clear hd hk
              go_step
              exact ⟨_, rfl, rfl, Upd.refl _ _⟩
            case inr.inr.inr.inr.inr.inr.inr.inr.inr.inr.inr.inr.inr.inr.inr.inl =>
              refine ⟨by
                have := tmp_some (show b'.tmps.getD 61 undef = .bool false from hd ⟨12, .guard⟩ (by simp) rfl)
                simp [Region.wanted, yielded, this], ?_⟩
              have e13 : b'.tmps[62]?.getD undef = .slice (some ⟨lb, lo, none⟩) l.length lc := by have := (show b'.tmps.getD 62 undef = .slice (some ⟨lb, lo, none⟩) l.length lc from hd ⟨13, .data⟩ (by simp) rfl); simpa using this
              have e14 : b'.tmps[63]?.getD undef = .int .i64 (k : Int) := by have := (show b'.tmps.getD 63 undef = .int .i64 (k : Int) from hd ⟨14, .data⟩ (by simp) rfl); simpa using this
              clear hd hk
              go_step
              exact ⟨_, rfl, rfl, Upd.refl _ _⟩
            case inr.inr.inr.inr.inr.inr.inr.inr.inr.inr.inr.inr.inr.inr.inr.inr.inl =>
              refine ⟨by
                have := tmp_some (show b'.tmps.getD 61 undef = .bool false from hd ⟨12, .guard⟩ (by simp) rfl)
                simp [Region.wanted, yielded, this], ?_⟩
              have o64 : b'.eval (.tmp 64) = .pointer (some ⟨lb, lo + k * 4, none⟩) := by
                have := (show b'.tmps.getD 64 undef = .pointer (some ⟨lb, lo + k * 4, none⟩) from hd ⟨15, .data⟩ (by simp) rfl)
                simpa [Act.eval] using this
              exact wp_load_mid (w := w1') 53 (.tmp 64) rfl lb (lo + k * 4) o64 (#[.int .i64 k1, .int .u64 d1, str t1', .slice a1 e1.length z1] : Array Value).toList _ (fun j u hj => HW1.out.cell (CK.out j u hj) id) Tryd.underlying53 rfl (by kernel_rfl) ⟨_, rfl, rfl, Upd.refl _ _⟩
            case inr.inr.inr.inr.inr.inr.inr.inr.inr.inr.inr.inr.inr.inr.inr.inr.inr.inl =>
              refine ⟨by
                have := tmp_some (show b'.tmps.getD 61 undef = .bool false from hd ⟨12, .guard⟩ (by simp) rfl)
                simp [Region.wanted, yielded, this], ?_⟩
              have e16 : b'.tmps[65]?.getD undef = .agg #[.int .i64 k1, .int .u64 d1, str t1', .slice a1 e1.length z1] := by have := (show b'.tmps.getD 65 undef = .agg #[.int .i64 k1, .int .u64 d1, str t1', .slice a1 e1.length z1] from hd ⟨16, .data⟩ (by simp) rfl); simpa using this
              clear hd hk
              go_step
              refine (show_any w1' ⟨k1, d1, t1', e1⟩ _ (TK.out.ext HW1.out) HGK.out.1 HGK.out.2.1 (tab_ext HTR.out HW1.out)).mono ?_
              rintro e w2 ⟨rfl, hu⟩
              exact ⟨_, rfl, by rw [HS1Q.out]; rfl, hu⟩
            case inr.inr.inr.inr.inr.inr.inr.inr.inr.inr.inr.inr.inr.inr.inr.inr.inr.inr.inl =>
              refine ⟨by
                have := tmp_some (show b'.tmps.getD 61 undef = .bool false from hd ⟨12, .guard⟩ (by simp) rfl)
                simp [Region.wanted, yielded, this], ?_⟩
              have o0 : b'.tmps[0]?.getD undef = .slice (some ⟨lb, lo, none⟩) l.length lc := by
                have := hk 0 (fun j oj _ e => (sdst13_ne (by decide) e).elim)
                simpa using this
              clear hd hk
              go_step
              exact ⟨_, rfl, rfl, Upd.refl _ _⟩
            case inr.inr.inr.inr.inr.inr.inr.inr.inr.inr.inr.inr.inr.inr.inr.inr.inr.inr.inr.inl =>
              refine ⟨by
                have := tmp_some (show b'.tmps.getD 61 undef = .bool false from hd ⟨12, .guard⟩ (by simp) rfl)
                simp [Region.wanted, yielded, this], ?_⟩
              have e18 : b'.tmps[67]?.getD undef = .slice (some ⟨lb, lo, none⟩) l.length lc := by have := (show b'.tmps.getD 67 undef = .slice (some ⟨lb, lo, none⟩) l.length lc from hd ⟨18, .data⟩ (by simp) rfl); simpa using this
              clear hd hk
              go_step
              exact ⟨_, rfl, rfl, Upd.refl _ _⟩
            case inr.inr.inr.inr.inr.inr.inr.inr.inr.inr.inr.inr.inr.inr.inr.inr.inr.inr.inr.inr.inl =>
              refine ⟨by
                have := tmp_some (show b'.tmps.getD 61 undef = .bool false from hd ⟨12, .guard⟩ (by simp) rfl)
                simp [Region.wanted, yielded, this], ?_⟩
              have o68 : b'.eval (.tmp 68) = .pointer (some ⟨lb, lo, none⟩) := by
                have := (show b'.tmps.getD 68 undef = .pointer (some ⟨lb, lo, none⟩) from hd ⟨19, .data⟩ (by simp) rfl)
                simpa [Act.eval] using this
              exact wp_load_mid (w := w1') 53 (.tmp 68) rfl lb (lo) o68 (#[.int .i64 k0, .int .u64 d0, str t0', .slice a0 e0.length z0] : Array Value).toList _ (fun j u hj => HW1.out.cell (C0.out j u hj) id) Tryd.underlying53 rfl (by kernel_rfl) ⟨_, rfl, rfl, Upd.refl _ _⟩
            case inr.inr.inr.inr.inr.inr.inr.inr.inr.inr.inr.inr.inr.inr.inr.inr.inr.inr.inr.inr.inr.inl =>
              refine ⟨by
                have := tmp_some (show b'.tmps.getD 61 undef = .bool false from hd ⟨12, .guard⟩ (by simp) rfl)
                simp [Region.wanted, yielded, this], ?_⟩
              have e20 : b'.tmps[69]?.getD undef = .agg #[.int .i64 k0, .int .u64 d0, str t0', .slice a0 e0.length z0] := by have := (show b'.tmps.getD 69 undef = .agg #[.int .i64 k0, .int .u64 d0, str t0', .slice a0 e0.length z0] from hd ⟨20, .data⟩ (by simp) rfl); simpa using this
              clear hd hk
              go_step
              refine (show_any w1' ⟨k0, d0, t0', e0⟩ _ (T0.out.ext HW1.out) HG0.out.1 HG0.out.2.1 (tab_ext HTR.out HW1.out)).mono ?_
              rintro e w2 ⟨rfl, hu⟩
              exact ⟨_, rfl, by rw [HS0Q.out]; rfl, hu⟩
            case inr.inr.inr.inr.inr.inr.inr.inr.inr.inr.inr.inr.inr.inr.inr.inr.inr.inr.inr.inr.inr.inr.inl =>
              refine ⟨by
                have := tmp_some (show b'.tmps.getD 61 undef = .bool false from hd ⟨12, .guard⟩ (by simp) rfl)
                simp [Region.wanted, yielded, this], ?_⟩
              have e17 : b'.tmps[66]?.getD undef = str s1 := by have := (show b'.tmps.getD 66 undef = str s1 from hd ⟨17, .data⟩ (by simp) rfl); simpa using this
              have e21 : b'.tmps[70]?.getD undef = str s0 := by have := (show b'.tmps.getD 70 undef = str s0 from hd ⟨21, .data⟩ (by simp) rfl); simpa using this
              clear hd hk
              go_step
              rw [show (s1 == s0) = sm from by rw [← HEQS.out]; exact Bool.eq_iff_iff.2 (by simp [eqB])]
              exact ⟨_, rfl, rfl, Upd.refl _ _⟩
            case inr.inr.inr.inr.inr.inr.inr.inr.inr.inr.inr.inr.inr.inr.inr.inr.inr.inr.inr.inr.inr.inr.inr.inl =>
              refine ⟨by
                have := tmp_some (show b'.tmps.getD 61 undef = .bool false from hd ⟨12, .guard⟩ (by simp) rfl)
                simp [Region.wanted, yielded, this], ?_⟩
              have o0 : b'.tmps[0]?.getD undef = .slice (some ⟨lb, lo, none⟩) l.length lc := by
                have := hk 0 (fun j oj _ e => (sdst13_ne (by decide) e).elim)
                simpa using this
              clear hd hk
              go_step
              exact ⟨_, rfl, rfl, Upd.refl _ _⟩
            case inr.inr.inr.inr.inr.inr.inr.inr.inr.inr.inr.inr.inr.inr.inr.inr.inr.inr.inr.inr.inr.inr.inr.inr.inl =>
              refine ⟨by
                have := tmp_some (show b'.tmps.getD 61 undef = .bool false from hd ⟨12, .guard⟩ (by simp) rfl)
                simp [Region.wanted, yielded, this], ?_⟩
              have o7 : b'.tmps[7]?.getD undef = .int .i64 (k : Int) := by
                have := hk 7 (fun j oj _ e => (sdst13_ne (by decide) e).elim)
                simpa using this
              clear hd hk
              go_step
              exact ⟨_, rfl, rfl, Upd.refl _ _⟩
            case inr.inr.inr.inr.inr.inr.inr.inr.inr.inr.inr.inr.inr.inr.inr.inr.inr.inr.inr.inr.inr.inr.inr.inr.inr.inl =>
              refine ⟨by
                have := tmp_some (show b'.tmps.getD 61 undef = .bool false from hd ⟨12, .guard⟩ (by simp) rfl)
                simp [Region.wanted, yielded, this], ?_⟩
              have e23 : b'.tmps[72]?.getD undef = .slice (some ⟨lb, lo, none⟩) l.length lc := by have := (show b'.tmps.getD 72 undef = .slice (some ⟨lb, lo, none⟩) l.length lc from hd ⟨23, .data⟩ (by simp) rfl); simpa using this
              have e24 : b'.tmps[73]?.getD undef = .int .i64 (k : Int) := by have := (show b'.tmps.getD 73 undef = .int .i64 (k : Int) from hd ⟨24, .data⟩ (by simp) rfl); simpa using this
              clear hd hk
              go_step
              exact ⟨_, rfl, rfl, Upd.refl _ _⟩
            case inr.inr.inr.inr.inr.inr.inr.inr.inr.inr.inr.inr.inr.inr.inr.inr.inr.inr.inr.inr.inr.inr.inr.inr.inr.inr.inl =>
              refine ⟨by
                have := tmp_some (show b'.tmps.getD 61 undef = .bool false from hd ⟨12, .guard⟩ (by simp) rfl)
                simp [Region.wanted, yielded, this], ?_⟩
              have o74 : b'.eval (.tmp 74) = .pointer (some ⟨lb, lo + k * 4, none⟩) := by
                have := (show b'.tmps.getD 74 undef = .pointer (some ⟨lb, lo + k * 4, none⟩) from hd ⟨25, .data⟩ (by simp) rfl)
                simpa [Act.eval] using this
              exact wp_load_mid (w := w1') 53 (.tmp 74) rfl lb (lo + k * 4) o74 (#[.int .i64 k1, .int .u64 d1, str t1', .slice a1 e1.length z1] : Array Value).toList _ (fun j u hj => HW1.out.cell (CK.out j u hj) id) Tryd.underlying53 rfl (by kernel_rfl) ⟨_, rfl, rfl, Upd.refl _ _⟩
            case inr.inr.inr.inr.inr.inr.inr.inr.inr.inr.inr.inr.inr.inr.inr.inr.inr.inr.inr.inr.inr.inr.inr.inr.inr.inr.inr.inl =>
              refine ⟨by
                have := tmp_some (show b'.tmps.getD 61 undef = .bool false from hd ⟨12, .guard⟩ (by simp) rfl)
                simp [Region.wanted, yielded, this], ?_⟩
              have o0 : b'.tmps[0]?.getD undef = .slice (some ⟨lb, lo, none⟩) l.length lc := by
                have := hk 0 (fun j oj _ e => (sdst13_ne (by decide) e).elim)
                simpa using this
              clear hd hk
              go_step
              exact ⟨_, rfl, rfl, Upd.refl _ _⟩
            case inr.inr.inr.inr.inr.inr.inr.inr.inr.inr.inr.inr.inr.inr.inr.inr.inr.inr.inr.inr.inr.inr.inr.inr.inr.inr.inr.inr.inl =>
              refine ⟨by
                have := tmp_some (show b'.tmps.getD 61 undef = .bool false from hd ⟨12, .guard⟩ (by simp) rfl)
                simp [Region.wanted, yielded, this], ?_⟩
              have e27 : b'.tmps[76]?.getD undef = .slice (some ⟨lb, lo, none⟩) l.length lc := by have := (show b'.tmps.getD 76 undef = .slice (some ⟨lb, lo, none⟩) l.length lc from hd ⟨27, .data⟩ (by simp) rfl); simpa using this
              clear hd hk
              go_step
              exact ⟨_, rfl, rfl, Upd.refl _ _⟩
            case inr.inr.inr.inr.inr.inr.inr.inr.inr.inr.inr.inr.inr.inr.inr.inr.inr.inr.inr.inr.inr.inr.inr.inr.inr.inr.inr.inr.inr.inl =>
              refine ⟨by
                have := tmp_some (show b'.tmps.getD 61 undef = .bool false from hd ⟨12, .guard⟩ (by simp) rfl)
                simp [Region.wanted, yielded, this], ?_⟩
              have o77 : b'.eval (.tmp 77) = .pointer (some ⟨lb, lo, none⟩) := by
                have := (show b'.tmps.getD 77 undef = .pointer (some ⟨lb, lo, none⟩) from hd ⟨28, .data⟩ (by simp) rfl)
                simpa [Act.eval] using this
              exact wp_load_mid (w := w1') 53 (.tmp 77) rfl lb (lo) o77 (#[.int .i64 k0, .int .u64 d0, str t0', .slice a0 e0.length z0] : Array Value).toList _ (fun j u hj => HW1.out.cell (C0.out j u hj) id) Tryd.underlying53 rfl (by kernel_rfl) ⟨_, rfl, rfl, Upd.refl _ _⟩
            case inr.inr.inr.inr.inr.inr.inr.inr.inr.inr.inr.inr.inr.inr.inr.inr.inr.inr.inr.inr.inr.inr.inr.inr.inr.inr.inr.inr.inr.inr.inl =>
              refine ⟨by
                have := tmp_some (show b'.tmps.getD 61 undef = .bool false from hd ⟨12, .guard⟩ (by simp) rfl)
                simp [Region.wanted, yielded, this], ?_⟩
              have e26 : b'.tmps[75]?.getD undef = .agg #[.int .i64 k1, .int .u64 d1, str t1', .slice a1 e1.length z1] := by have := (show b'.tmps.getD 75 undef = .agg #[.int .i64 k1, .int .u64 d1, str t1', .slice a1 e1.length z1] from hd ⟨26, .data⟩ (by simp) rfl); simpa using this
              have e29 : b'.tmps[78]?.getD undef = .agg #[.int .i64 k0, .int .u64 d0, str t0', .slice a0 e0.length z0] := by have := (show b'.tmps.getD 78 undef = .agg #[.int .i64 k0, .int .u64 d0, str t0', .slice a0 e0.length z0] from hd ⟨29, .data⟩ (by simp) rfl); simpa using this
              clear hd hk
              go_step
              exact ⟨_, rfl, ⟨w1'.heap.size, 0, 2, rfl, (pair_row w1' (⟨k1, d1, t1', e1⟩, .slice a1 e1.length z1) (⟨k0, d0, t0', e0⟩, .slice a0 e0.length z0)).mono (fun _ _ => trivial)⟩, (Upd.refl _ _).alloc _⟩
            case inr.inr.inr.inr.inr.inr.inr.inr.inr.inr.inr.inr.inr.inr.inr.inr.inr.inr.inr.inr.inr.inr.inr.inr.inr.inr.inr.inr.inr.inr.inr.inl =>
              refine ⟨by
                have := tmp_some (show b'.tmps.getD 61 undef = .bool false from hd ⟨12, .guard⟩ (by simp) rfl)
                simp [Region.wanted, yielded, this], ?_⟩
              have h30 := hd ⟨30, .data⟩ (by simp) rfl
              obtain ⟨a30, n30, c30, e30, r30⟩ := (show PairOf (⟨k1, d1, t1', e1⟩, .slice a1 e1.length z1) (⟨k0, d0, t0', e0⟩, .slice a0 e0.length z0) (b'.tmps.getD 79 undef) w1' from h30)
              replace e30 : b'.tmps[79]?.getD undef = .slice (some ⟨a30, n30, none⟩) 2 c30 := by simpa using e30
              clear hd hk
              go_step
              refine (opSame_any w1' [(⟨k1, d1, t1', e1⟩, .slice a1 e1.length z1), (⟨k0, d0, t0', e0⟩, .slice a0 e0.length z0)] _ r30 (fun p hp => by simp at hp; rcases hp with rfl | rfl; exact TK.out.ext HW1.out; exact T0.out.ext HW1.out)).mono ?_
              rintro e w2 ⟨rfl, hu⟩
              exact ⟨_, rfl, by rw [show ([(⟨k1, d1, t1', e1⟩, .slice a1 e1.length z1), (⟨k0, d0, t0', e0⟩, .slice a0 e0.length z0)] : List (Ans × Value)).length = 2 from rfl]; exact congrArg Value.bool ((sameTo_two _ _).trans HSM.out.symm), hu⟩
            case inr.inr.inr.inr.inr.inr.inr.inr.inr.inr.inr.inr.inr.inr.inr.inr.inr.inr.inr.inr.inr.inr.inr.inr.inr.inr.inr.inr.inr.inr.inr.inr.inl =>
              refine ⟨by
                have := tmp_some (show b'.tmps.getD 61 undef = .bool false from hd ⟨12, .guard⟩ (by simp) rfl)
                simp [Region.wanted, yielded, this], ?_⟩
              have e22 : b'.tmps[71]?.getD undef = .bool sm := by have := (show b'.tmps.getD 71 undef = .bool sm from hd ⟨22, .data⟩ (by simp) rfl); simpa using this
              have e31 : b'.tmps[80]?.getD undef = .bool sm := by have := (show b'.tmps.getD 80 undef = .bool sm from hd ⟨31, .data⟩ (by simp) rfl); simpa using this
              clear hd hk
              go_step
              exact ⟨_, rfl, rfl, Upd.refl _ _⟩
            case inr.inr.inr.inr.inr.inr.inr.inr.inr.inr.inr.inr.inr.inr.inr.inr.inr.inr.inr.inr.inr.inr.inr.inr.inr.inr.inr.inr.inr.inr.inr.inr.inr =>
              refine ⟨by simp [Region.wanted], ?_⟩
              have e12 : b'.tmps[61]?.getD undef = .bool false := by have := (show b'.tmps.getD 61 undef = .bool false from hd ⟨12, .data⟩ (by simp) rfl); simpa using this
              have e32 : b'.tmps[81]?.getD undef = .bool false := by have := (show b'.tmps.getD 81 undef = .bool false from hd ⟨32, .data⟩ (by simp) rfl); simpa using this
              clear hd hk
              go_step
              exact ⟨_, rfl, rfl, Upd.refl _ _⟩
          · intro v w1' hx1' hp
            have h33 : v 33 = .bool false := hp 33 (by decide)
            have HX8 := Lib.hid (HX0W.out.trans hx1')
            clear hp hx1'
            simp only [List.size_toArray, List.length_cons, List.length_nil, Nat.reduceAdd, fillAll, sdst13]
            go_simp
            go_wp2
            go_roundw
            case rel => exact ⟨k + 1, by omega, by go_num, HX8.out⟩
            case measure => simp [intOf]; omega
        · have hkl : k = l.length := by omega
          subst hkl
          have hqs : s.length ≤ 17592186044416 := by omega
          go_wp2_with (go_at_call 28; fail)
          refine (opSame_any _ l _ (HROW.out.ext HXW.out) (fun p hp => (HN.out p hp).ext HXW.out)).mono ?_
          rintro e w2 ⟨rfl, hx2⟩
          obtain ⟨al, hal⟩ : ∃ b, b = sameTo (l.map (·.1)) l.length := ⟨_, rfl⟩
          rw [← hal]
          have HX2 := Lib.hid (HXW.out.trans hx2)
          clear hx2 hal
          go_wp2_with (go_at_call 29; fail)
          refine (oQuote_any _ s hqs).mono ?_
          rintro e w3 ⟨rfl, hx3⟩
          have HX3 := Lib.hid (HX2.out.trans hx3)
          clear hx3
          go_wp2_with (go_at_call 30; fail)
          refine (rQuote_any _ s hqs).mono ?_
          rintro e w4 ⟨rfl, hx4⟩
          have HX4 := Lib.hid (HX3.out.trans hx4)
          clear hx4
          go_wp2_with (go_at_call 9; fail)
          refine (works_any _ (tab_ext HT.out HX4.out)).mono ?_
          rintro e w5 ⟨rfl, hx5⟩
          have HX5 := Lib.hid (HX4.out.trans hx5)
          clear hx5
          go_wp2
          go_ret
          exact ⟨rfl, HX5.out⟩
end Go.Proofs.YtlhpcgmbbeihiaaDoor
