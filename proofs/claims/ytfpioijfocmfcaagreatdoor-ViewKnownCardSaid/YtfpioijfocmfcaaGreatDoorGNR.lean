/-
  CONTRACTS of the reference's Digits and number. No condition but that the number is one of 64 bits, the text of few bytes.
  CONTRACT of the reference's split. Condition: a text of few bytes.
  CONTRACTS of the reference's numbers, May. No condition.
  CONTRACT of the reference's Put. Condition: the numbers are numbers of 64 bits.
  CONTRACT of the reference's Parse. Condition: a text of few bytes.
-/
import Derived.Test.YtfpioijfocmfcaaGreatDoorNParse
import Derived.Great.BuildSlice
namespace Go.Proofs.YtfpioijfocmfcaaGreatDoor
open Go.RowKit

/-- What Digits has: digits t behind what is left of u. -/
def DigInv (u m : Nat) (t : List UInt8) : Prop := (t = [] ∧ m = u) ∨ (t ≠ [] ∧ Lib.decDigits u = (if m = 0 then [] else Lib.decDigits m) ++ t)
theorem DigInv.step {u m : Nat} {t : List UInt8} (h : DigInv u m t) (hc : 0 < m ∨ t = []) : DigInv u (m / 10) (UInt8.ofNat (48 + m % 10) :: t) := by
  have key : Lib.decDigits m = (if m / 10 = 0 then [] else Lib.decDigits (m / 10)) ++ [UInt8.ofNat (48 + m % 10)] := by
    rw [Lib.decDigits]
    split
    · rename_i h10
      rw [if_pos (by omega), Nat.mod_eq_of_lt h10]; rfl
    · rename_i h10
      rw [if_neg (by omega)]
  refine .inr ⟨by simp, ?_⟩
  rcases h with ⟨rfl, rfl⟩ | ⟨h1, h2⟩
  · rw [key]
  · have hm : ¬ m = 0 := by rcases hc with hc | hc; omega; exact absurd hc h1
    rw [h2, if_neg hm, key, List.append_assoc]; rfl
theorem DigInv.done {u m : Nat} {t : List UInt8} (h : DigInv u m t) (hm : m = 0) (ht : t ≠ []) : Lib.decDigits u = t := by
  rcases h with ⟨h1, -⟩ | ⟨-, h2⟩
  · exact absurd h1 ht
  · rw [h2, if_pos hm]; rfl
def digM (a b : Value) : Nat := 2 * (intOf a).toNat + (match b with | .string s => if s.size = 0 then 1 else 0 | _ => 0)
theorem digM_le (a b : Value) : 2 * (intOf a).toNat ≤ digM a b ∧ digM a b ≤ 2 * (intOf a).toNat + 1 := by
  unfold digM
  split
  · split <;> omega
  · omega

set_option maxHeartbeats 1000000 in
theorem digits_any (w : World) (u : Nat) (hu : u < 18446744073709551616) :
    Calls Tryz.prog 76 #[.int .u64 u] w fun e w' => e = .returned (str (Lib.decDigits u)) ∧ Ext w w' := by
  go_enter Tryz.func76, Tryz.ntmps76
  go_wp2
  go_loopw [0, 3] (fun a b wr => ∃ (m : Nat) (t : List UInt8), m ≤ u ∧ a = .int .u64 m ∧ b = str t ∧ t.length ≤ 20 ∧ DigInv u m t ∧ Ext w wr) (fun a b _ => digM a b)
  case atStart => exact ⟨u, [], Nat.le_refl _, rfl, rfl, by simp, .inl ⟨rfl, rfl⟩, Upd.refl _ _⟩
  case round =>
    obtain ⟨m, t, hm, rfl, rfl, htl, hinv, hx⟩ := hrel
    have hm64 : m < 18446744073709551616 := by omega
    have HI := Lib.hid hinv
    have HX := Lib.hid hx
    have hl : Hid (0 < m ∨ t = [] → (UInt8.ofNat (48 + m % 10) :: t).length ≤ 20) := Lib.hid (fun hc => by
      have := hinv.step hc
      rcases this with ⟨h, -⟩ | ⟨-, h⟩
      · cases h
      · have hd := dec_len hu
        rw [h, List.length_append] at hd
        simp only [List.length_cons] at hd ⊢; omega)
    clear hinv hx
    have body : ∀ (hc : 0 < m ∨ t = []), Bytes (At wr.heap.size) (wr.alloc (.cells #[.int .u8 (48 + (m : Int) % 10)] 5)) (.slice (some ⟨wr.heap.size, 0, none⟩) 1 1) [UInt8.ofNat (48 + m % 10)] := fun _ => by
      have := row_new wr #[.int .u8 (48 + (m : Int) % 10)] 5 1 wr.heap.size (by decide) rfl
      rw [show (#[.int .u8 (48 + (m : Int) % 10)] : Array Value).toList = [UInt8.ofNat (48 + m % 10)].map Go.Proofs.YtfpioijfocmfcaaGreatDoor.u8 from by
        simp only [List.map_cons, List.map_nil, Go.Proofs.YtfpioijfocmfcaaGreatDoor.u8]
        rw [digit_toNat (Nat.mod_lt _ (by decide))]
        show [Value.int .u8 (48 + (m : Int) % 10)] = [Value.int .u8 ((48 + m % 10 : Nat) : Int)]
        congr 2] at this
      exact this
    obtain ⟨c, hc⟩ : ∃ c, c = UInt8.ofNat (48 + m % 10) := ⟨_, rfl⟩
    rw [← hc] at body hl
    have HC := Lib.hid hc
    clear hc
    by_cases hgo : 0 < m ∨ t = []
    · have hcv := row_string (P := Tryz.prog) (body hgo) Tryz.underlying131 Tryz.underlying5 Tryz.underlying9
      have HGO := Lib.hid hgo
      clear body hgo
      by_cases hm0 : 0 < m
      · go_wp2
        go_roundw
        case rel =>
          refine ⟨m / 10, c :: t, by omega, congrArg (Value.int .u64) (by omega), ?_, hl.out HGO.out, by rw [HC.out]; exact HI.out.step HGO.out, HX.out.alloc _⟩
          show Value.string _ = _
          congr 1
          first | done | (apply ByteArray.ext; simp)
        case measure => exact Nat.lt_of_le_of_lt (digM_le _ _).2 (Nat.lt_of_lt_of_le (by simp [intOf]; omega) (digM_le _ _).1)
      · have ht : t = [] := by rcases HGO.out with h | h; omega; exact h
        subst ht
        go_wp2
        go_roundw
        case rel =>
          refine ⟨m / 10, [c], by omega, congrArg (Value.int .u64) (by omega), ?_, by simp, by rw [HC.out]; exact HI.out.step HGO.out, HX.out.alloc _⟩
          first | rfl | (show Value.string _ = _; congr 1; first | done | (apply ByteArray.ext; simp))
        case measure =>
          have e2 : (m : Int) = 0 := by omega
          simp [digM, intOf, e2]
          rw [if_neg (show ¬ ((⟨#[c]⟩ : ByteArray) = ByteArray.empty ∧ (⟨#[]⟩ : ByteArray) = ByteArray.empty) from fun h => absurd (show 1 = 0 from congrArg ByteArray.size h.1) (by decide)), if_pos (show (⟨#[]⟩ : ByteArray) = ByteArray.empty from rfl)]; decide
    · clear body
      have hm0 : m = 0 := by omega
      have ht : t ≠ [] := fun e => hgo (.inr e)
      have HT := Lib.hid ht
      have hb : ((⟨t.toArray⟩ : ByteArray).toList == (⟨#[]⟩ : ByteArray).toList) = false := by
        rw [beq_eq_false_iff_ne, bytes_toList]; intro e; exact ht (e.trans (bytes_toList []))
      have hb2 : t.isEmpty = false := by simpa using ht
      have hb3 : (t == []) = false := by simpa using ht
      subst hm0
      clear hgo ht
      go_wp2
      go_ret
      exact ⟨by rw [HI.out.done rfl HT.out]; rfl, HX.out⟩
/-- What the first bytes of a text spell, in 64 bits. -/
def numS (n : Nat) (c : UInt8) : Nat := (10 * n + (c.toNat + 208) % 256) % 18446744073709551616
def valF (s : List UInt8) : Nat := (s.take 20).foldl numS 0
theorem foldl_lt : ∀ (l : List UInt8) (n : Nat), n < 18446744073709551616 → l.foldl numS n < 18446744073709551616
  | [], _, h => h
  | c :: r, n, _ => foldl_lt r _ (Nat.mod_lt _ (by decide))
theorem valF_lt (s : List UInt8) : valF s < 18446744073709551616 := foldl_lt _ 0 (by decide)
theorem fold_digits : ∀ u : Nat, u < 18446744073709551616 → (Lib.decDigits u).foldl numS 0 = u := by
  intro u
  induction u using Nat.strongRecOn with
  | ind u ih =>
    intro hu
    rw [Lib.decDigits]
    split
    · rename_i h
      have hd := digit_toNat h
      show numS 0 _ = u
      unfold numS; rw [hd]; omega
    · rename_i h
      have hd := digit_toNat (show u % 10 < 10 from Nat.mod_lt _ (by decide))
      rw [List.foldl_append, ih (u / 10) (by omega) (by omega)]
      show numS (u / 10) _ = u
      unfold numS; rw [hd]; omega
theorem valF_digits {u : Nat} (hu : u < 18446744073709551616) : valF (Lib.decDigits u) = u := by
  unfold valF
  rw [List.take_of_length_le (dec_len hu), fold_digits u hu]
/-- What number answers: the number, and whether these are its digits. -/
theorem numF_val (s : List UInt8) : (Lib.decDigits (valF s) = s ↔ numF s = some (valF s)) ∧ (∀ u, numF s = some u → valF s = u) := by
  have h2 : ∀ u, numF s = some u → valF s = u := fun u h => by
    obtain ⟨h1, h2, -⟩ := numF_some h
    rw [← h1]; exact valF_digits h2
  refine ⟨⟨fun h => ?_, fun h => (numF_some h).1⟩, h2⟩
  have := numF_digits (valF_lt s)
  rwa [h] at this
def okF (s : List UInt8) : Bool := eqB (Lib.decDigits (valF s)) s
theorem take_snoc {s : List UInt8} {k : Nat} (h : k < s.length) : s.take (k + 1) = s.take k ++ [s[k]] := List.take_succ_eq_append_getElem h

set_option maxRecDepth 10000 in
set_option maxHeartbeats 1000000 in
theorem number_any (w : World) (s : List UInt8) (hs : s.length ≤ 1000000) :
    Calls Tryz.prog 52 #[str s] w fun e w' => e = .returned (.tuple #[.int .u64 (valF s), .bool (okF s)]) ∧ Ext w w' := by
  go_enter Tryz.func52, Tryz.ntmps52
  go_wp2
  go_loop [4, 5] (fun a b => ∃ (n k : Nat), k ≤ s.length ∧ k ≤ 20 ∧ a = .int .u64 n ∧ b = .int .i64 k ∧ n < 18446744073709551616 ∧ n = (s.take k).foldl numS 0) (fun _ b => 20 - (intOf b).toNat)
  case atStart => exact ⟨0, 0, Nat.zero_le _, by omega, rfl, rfl, by decide, rfl⟩
  case round =>
    obtain ⟨n, k, hk, hk20, rfl, rfl, hn, hval⟩ := hrel
    have HV := Lib.hid hval
    have HN := Lib.hid hn
    clear hval hn
    have hsz : (⟨s.toArray⟩ : ByteArray).size = s.length := rfl
    by_cases hlt : k < s.length ∧ k < 20
    · obtain ⟨h1, h2⟩ := hlt
      obtain ⟨c, hc⟩ : ∃ c, c = s[k] := ⟨_, rfl⟩
      have hix := index_str (P := Tryz.prog) (T := 9) Tryz.underlying9 (ps := s) (k := k) (c := c) (m := c.toNat) (by rw [hc]; simp [h1]) rfl
      have hcl : (c.toNat : Int) < 256 := by have := c.toNat_lt; omega
      have HC := Lib.hid hc
      have hst : (s.take (k + 1)).foldl numS 0 = numS n c := by rw [take_snoc h1, List.foldl_append, ← HV.out, ← hc]; rfl
      have HS := Lib.hid hst
      clear hc hst hsz
      go_wp2
      go_round
      case rel =>
        refine ⟨numS n c, k + 1, by omega, by omega, ?_, by go_num, Nat.mod_lt _ (by decide), HS.out.symm⟩
        congr 1
        simp only [IntKind.wrap_u64]
        unfold numS
        omega
      case measure => simp [intOf]; omega
    · have hv : n = valF s := by
        rw [HV.out]; unfold valF
        by_cases h1 : k < s.length
        · rw [show k = 20 by omega]
        · rw [List.take_of_length_le (by omega), List.take_of_length_le (by omega)]
      have HN2 := Lib.hid (show n < 18446744073709551616 from HN.out)
      have hfin : ∀ wx, wx = w → True := fun _ _ => trivial
      have tail : Hid (∀ (D : List UInt8), D = Lib.decDigits n → okF s = eqB D s) := Lib.hid (fun D hD => by unfold okF; rw [hD, hv])
      have HVV := Lib.hid hv
      clear hv hfin
      by_cases h1 : k < s.length
      all_goals
        go_wp2_with (go_at_call 76; fail)
        refine (digits_any _ n HN2.out).mono ?_
        rintro e w1 ⟨rfl, hx1⟩
        have HX1 := Lib.hid hx1
        obtain ⟨D, hD⟩ : ∃ D, D = Lib.decDigits n := ⟨_, rfl⟩
        rw [← hD]
        have HT := Lib.hid (tail.out D hD)
        clear hx1 hD
        by_cases he : D = s
        · have HE := Lib.hid he
          subst he
          go_wp2
          go_ret2
          exact ⟨by rw [HT.out, eqB_self, ← HVV.out]; rfl, HX1.out⟩
        · have hb : (D == s) = false := by rw [beq_eq_false_iff_ne]; exact he
          have hb2 : ((⟨D.toArray⟩ : ByteArray).toList == (⟨s.toArray⟩ : ByteArray).toList) = false := by rw [beq_eq_false_iff_ne, bytes_toList, bytes_toList]; exact he
          have HE := Lib.hid he
          clear he
          go_wp2
          go_ret2
          exact ⟨by rw [HT.out, eqB_ne HE.out, ← HVV.out]; rfl, HX1.out⟩
end Go.Proofs.YtfpioijfocmfcaaGreatDoor
namespace Go.Proofs.YtfpioijfocmfcaaGreatDoor
open Go.RowKit

theorem splitF_stroke : ∀ t : List UInt8, splitF (t ++ [45]) = splitF t ++ [[]]
  | [] => by simp [splitF]
  | b :: r => by
    have ih := splitF_stroke r
    obtain ⟨w, ws, e⟩ := splitF_cons r
    rw [List.cons_append, splitF, splitF, ih, e]
    split <;> simp
theorem splitF_more : ∀ (t : List UInt8) (c : UInt8), c ≠ 45 → ∃ d y, splitF t = d ++ [y] ∧ splitF (t ++ [c]) = d ++ [y ++ [c]]
  | [], c, h => ⟨[], [], by simp [splitF], by simp [splitF, h]⟩
  | b :: r, c, h => by
    obtain ⟨d, y, h1, h2⟩ := splitF_more r c h
    rw [List.cons_append, splitF, splitF, h2, h1]
    by_cases hb : b = 45
    · rw [if_pos hb, if_pos hb]
      exact ⟨[] :: d, y, rfl, rfl⟩
    · rw [if_neg hb, if_neg hb]
      cases d with
      | nil => exact ⟨[], b :: y, by simp, by simp⟩
      | cons a d => exact ⟨(b :: a) :: d, y, by simp, by simp⟩
theorem splitF_len (s : List UInt8) : 1 ≤ (splitF s).length ∧ (splitF s).length ≤ s.length + 1 := by
  have h := (split_is s).2
  have := Lib.countB_le ⟨#[45]⟩ (by decide) s.length ⟨s.toArray⟩ (Nat.le_refl _)
  have : Lib.count s [45] ≤ s.length := this
  omega
def SplRow (B g m cap : Nat) (xs : List Value) (_ : Value) (w : World) : Prop := w.ownsRow B 9 1 (.slice (some ⟨g, 0, none⟩) m cap) m xs
theorem SplRow.ext {B g m cap : Nat} {xs : List Value} {v : Value} {w w' : World} (h : SplRow B g m cap xs v w) (hu : Ext w w') : SplRow B g m cap xs v w' := hu.ownsRow h (fun _ _ e => e)
def splVal (g m cap k p B : Nat) (y s : List UInt8) (c : UInt8) (xs : List Value) : Nat → Value
  | 0 => .slice (some ⟨g, 0, none⟩) m cap
  | 1 => .slice (some ⟨g, 0, none⟩) m cap
  | 2 => .int .i64 (m : Int)
  | 3 => .int .i64 (p : Int)
  | 4 => .slice (some ⟨g, 0, none⟩) m cap
  | 5 => .slice (some ⟨g, 0, none⟩) m cap
  | 6 => .int .i64 (m : Int)
  | 7 => .int .i64 (p : Int)
  | 8 => .pointer (some ⟨g, p, none⟩)
  | 9 => str y
  | 10 => str s
  | 11 => .int .i64 (k : Int)
  | 12 => .int .i64 (k : Int)
  | 13 => .int .i64 ((k : Int) + 1)
  | 14 => str [c]
  | 15 => str (y ++ [c])
  | 16 => .pointer (some ⟨g, p, none⟩)
  | _ => undef
def splDst (i : Nat) : Tmp := if i = 17 then 1017 else 19 + i
theorem splDst_ne {j t : Nat} (ht : t = 0 ∨ t = 3 ∨ t = 4) (e : splDst j = t) : False := by
  unfold splDst at e
  have e : (if j = 17 then 1017 else 19 + j : Nat) = t := e
  rcases ht with rfl | rfl | rfl <;> (repeat' (split at e)) <;> omega
def splPhi (g m cap k p B : Nat) (y s : List UInt8) (c : UInt8) (xs : List Value) (i : Nat) (v : Value) (w : World) : Prop := if i = 17 then SplRow B g m cap xs v w else v = splVal g m cap k p B y s c xs i
theorem splPhi.ext {g m cap k p B : Nat} {y s : List UInt8} {c : UInt8} {xs : List Value} {i : Nat} {v : Value} {w w' : World} (h : splPhi g m cap k p B y s c xs i v w) (hu : Ext w w') : splPhi g m cap k p B y s c xs i v w' := by
  unfold splPhi at h ⊢
  by_cases c : i = 17
  · rw [if_pos c] at h ⊢; exact h.ext hu
  · rw [if_neg c] at h ⊢
    exact h
theorem splPhi.pure {g m cap k p B : Nat} {y s : List UInt8} {c : UInt8} {xs : List Value} {i : Nat} {v : Value} {w w' : World} (e : ¬ i = 17) (h : splPhi g m cap k p B y s c xs i v w) : splPhi g m cap k p B y s c xs i v w' := by
  unfold splPhi at h ⊢; rw [if_neg e] at h ⊢; exact h
/-- The last cell of an owned row turned. -/
theorem owns_last {w : World} {B e g m cap : Nat} {d : List Value} {x y : Value} (h : w.ownsRow B e 1 (.slice (some ⟨g, 0, none⟩) m cap) m (d ++ [x])) (hm : m = d.length + 1) :
    (w.setCell ⟨g, d.length, none⟩ y).ownsRow B e 1 (.slice (some ⟨g, 0, none⟩) m cap) m (d ++ [y]) ∧ w.cell? ⟨g, d.length, none⟩ = some x ∧ w.frozen? ⟨g, d.length, none⟩ = false ∧ B ≤ g ∧ g < w.heap.size ∧ m ≤ cap ∧ cap ≤ maxLen := by
  obtain ⟨h1, ⟨h2, -⟩ | ⟨g', cap', cur, e1, h3, h4, h5, h6, h7, h8⟩⟩ := h
  · cases h2
  · cases e1
    have hd : d.length < cur.size := by omega
    have hat : cur[d.length]? = some x := by
      have : (cur.toList.take (m * 1))[d.length]? = some x := by rw [h8]; simp
      rw [List.getElem?_take] at this
      rw [if_pos (by omega)] at this
      simpa using this
    refine ⟨⟨by simp at h1 ⊢; omega, .inr ⟨g, cap, cur.setIfInBounds d.length y, rfl, h3, setAt h4, h5, h6, by simp; omega, ?_⟩⟩, cellAt h4 _ _ hat, freeAt h4 _, h3, lt_of_heap h4, h5, h6⟩
    rw [Array.toList_setIfInBounds, List.take_set, h8]
    simp
set_option maxRecDepth 100000 in
set_option maxHeartbeats 2000000 in
theorem rsplit_any (w : World) (s : List UInt8) (hs : s.length ≤ 1000000) :
    Calls Tryz.prog 51 #[str s] w fun e w' => ∃ v, e = .returned v ∧ w'.ownsRow w.heap.size 9 1 v (splitF s).length (strs (splitF s)) ∧ Ext w w' := by
  have h0 := own_lit w #[str []] 9 1 w.heap.size w.heap.size (by unfold maxLen; omega) rfl (Nat.le_refl _) rfl
  have H0 := Lib.hid h0
  obtain ⟨B, hB⟩ : ∃ B, B = w.heap.size := ⟨_, rfl⟩
  have HB := Lib.hid hB
  clear h0 hB
  go_enter Tryz.func51, Tryz.ntmps51
  go_wp2
  go_loopw [3, 4] (fun v i wr => ∃ k : Nat, k ≤ s.length ∧ i = .int .i64 k ∧ wr.ownsRow B 9 1 v (splitF (s.take k)).length (strs (splitF (s.take k))) ∧ Ext w wr) (fun _ i _ => s.length - (intOf i).toNat)
  case atStart => exact ⟨0, Nat.zero_le _, rfl, by rw [HB.out]; exact H0.out, (Upd.refl _ _).alloc _⟩
  case round =>
    obtain ⟨k, hk, rfl, hown, hx⟩ := hrel
    have HX := Lib.hid hx
    have hBw : B ≤ wr.heap.size := by rw [HB.out]; exact hx.size
    obtain ⟨ad, n0, cap, rfl⟩ := ownsForm hown
    have hsz : (⟨s.toArray⟩ : ByteArray).size = s.length := rfl
    by_cases hlt : k < s.length
    · have hsn : s.take (k + 1) = s.take k ++ [s[k]] := List.take_succ_eq_append_getElem hlt
      obtain ⟨c, hc⟩ : ∃ c, c = s[k] := ⟨_, rfl⟩
      rw [← hc] at hsn
      have hix := index_str (P := Tryz.prog) (T := 9) Tryz.underlying9 (ps := s) (k := k) (c := c) (m := c.toNat) (by rw [hc]; simp [hlt]) rfl
      have hl := splitF_len (s.take k)
      rw [List.length_take] at hl
      have HSN := Lib.hid hsn
      clear hx hsz
      by_cases h45 : c = 45
      · have hst := splitF_stroke (s.take k)
        rw [show s.take k ++ [45] = s.take (k + 1) from by rw [HSN.out, h45]] at hst
        have HST := Lib.hid hst
        subst h45
        have hl1 : (splitF (s.take k)).length ≤ 1000001 := by omega
        clear hst hc hl
        obtain ⟨m, hm⟩ : ∃ m, m = (splitF (s.take k)).length := ⟨_, rfl⟩
        obtain ⟨xs, hxs⟩ : ∃ xs, xs = splitF (s.take k) := ⟨_, rfl⟩
        rw [← hxs] at hm hown hl1 HST
        have HM := Lib.hid hm
        have HXS := Lib.hid hxs
        rw [← hm] at hown hl1
        clear hm hxs
        go_wp2_with (at_builtin; go_must (refine wpList_append_row rfl _ _ _ rfl Tryz.textsT rfl (hown.alloc _) rfl (row_new _ _ _ 1 _ (by decide) (by simp)) rfl (by intro u hu; simp at hu; subst hu; rfl) ?c3 ?c4 ?c5 ?_))
        case c3 => unfold maxLen; omega
        case c4 => omega
        case c5 => first | omega | (simp; omega)
        intro v' w6 hown6 hg _
        have hx6 := (HX.out.alloc _).grown hg (fun j hj h => by have := (hown.lt j hj).1; have := HB.out; omega)
        have HX6 := Lib.hid hx6
        have HO6 := Lib.hid hown6
        clear hx6 hg hown6 hown
        go_wp2
        go_roundw
        case rel =>
          refine ⟨k + 1, by omega, by go_num, ?_, HX6.out⟩
          rw [HST.out, List.length_append, show strs (xs ++ [[]]) = strs xs ++ [str []] from by simp]
          rw [← HM.out]
          exact HO6.out
        case measure => simp [intOf]; omega
      · obtain ⟨d, y, h1, h2⟩ := splitF_more (s.take k) c h45
        rw [← HSN.out] at h2
        rw [h1] at hown hl
        have hn : n0 = (d ++ [y]).length := by
          obtain ⟨-, ⟨h2, h3⟩ | ⟨g', cap', cur, e1, -⟩⟩ := hown
          · simp at h3
          · cases e1; rfl
        obtain ⟨m, hm⟩ : ∃ m, m = (d ++ [y]).length := ⟨_, rfl⟩
        rw [← hm] at hown hn hl
        have hn' := hn.symm
        subst hn'
        have hmd : m = d.length + 1 := by rw [hm]; simp
        obtain ⟨g, had⟩ : ∃ g, ad = some ⟨g, 0, none⟩ := by
          obtain ⟨-, ⟨h2, h3⟩ | ⟨g', cap', cur, e1, -⟩⟩ := hown
          · omega
          · cases e1; exact ⟨g', rfl⟩
        subst had
        rw [show strs (d ++ [y]) = strs d ++ [str y] from by simp] at hown
        have hdl : (strs d).length = d.length := by simp
        have hnew := owns_last (y := str (y ++ [c])) hown (by rw [hdl]; exact hmd)
        rw [hdl] at hnew
        obtain ⟨n1, n2, n3, n4, n5, n6, n7⟩ := hnew
        have HO := Lib.hid hown
        have HMD := Lib.hid hmd
        have HM2 := Lib.hid hm
        have H2 := Lib.hid h2
        have hcb : ((c.toNat : Int) == 45) = false := by
          rw [beq_eq_false_iff_ne]; intro e; apply h45
          exact UInt8.toNat_inj.1 (by have : c.toNat = 45 := by omega
                                      exact this)
        have N2 := Lib.hid n2
        obtain ⟨p, hp⟩ : ∃ p, p = d.length := ⟨_, rfl⟩
        rw [← hp] at n1 n2 n3 hmd
        have HP := Lib.hid hp
        have hc1 : m ≤ 1000001 := by omega
        have hp1 : m ≤ p + 1 := by omega
        have hp2 : p + 1 ≤ m := by omega
        have hpm : p < m := by omega
        have hyl : y.length ≤ 1000000 := by
          have := split_len (s.take k) y (by rw [h1]; simp)
          rw [List.length_take] at this; omega
        have hyc : ¬ 9223372036854775807 < y.length + 1 := by omega
        have N1 := Lib.hid n1
        have N2 := Lib.hid n2
        have N3 := Lib.hid n3
        have hcx : (s.drop k).take 1 = [c] := by rw [hc, List.drop_eq_getElem_cons hlt]; rfl
        have HCX := Lib.hid hcx
        have hsl : ∀ W, (Instr.sliceAt 9 (str s) (some (.int .i64 (k : Int))) (some (.int .i64 ((k : Int) + 1))) none).run Tryz.prog W = .ok (str [c]) W := fun W => by
          have u9 := Tryz.underlying9
          have hb1 : ¬ ((k : Int) + 1 < (k : Int)) := by omega
          have hsz' : (⟨s.toArray⟩ : ByteArray).size = s.length := rfl
          go_simp
          rw [if_pos ⟨by omega, by omega⟩, if_pos (by omega), ← hc]
          congr 2
          apply ByteArray.ext
          apply Array.ext'
          rw [Lib.extract_data]
          rw [show k + 1 - k = 1 by omega]
          exact hcx
        have HSL := Lib.hid hsl
        clear hown h1 h2 hm hp hmd hn n1 n2 n3 h45 hc hcx hsl hdl hl
        unfold maxLen at n7
        go_upto_region 7 with (fail)
        refine wp_region_invH (At g) (fun i w w' => if i = 17 then Upd (At g) w w' else Ext w w') 17 splDst (splPhi g m cap k p B y s c (strs (d ++ [y ++ [c]]))) 37 (by kernel_rfl) (by decide) (by decide) rfl (fun i hi => if e : i = 17 then .inr (fun v v' w h => by subst e; exact h) else .inl ((by decide : ∀ i, i < 18 → i ≠ 17 → splDst i < 37) i hi e)) (fun i w w' h => by by_cases e : i = 17; (rw [if_pos e] at h; exact ⟨h, fun he => absurd e he⟩); (rw [if_neg e] at h; exact ⟨h.mono (fun _ _ e => e.elim), fun _ => h⟩)) (fun i j v w w' _ _ hne _ h hu => by by_cases e : j = 17; (rw [if_neg (by omega)] at hu; exact h.ext hu); (exact splPhi.pure e h)) ?_ ?_
        · intro i o b' w1' ho hx1' hd hk hE hSZ
          have hi : i < 18 := (Array.getElem?_eq_some_iff.1 ho).1
          have his : i = 0 ∨ i = 1 ∨ i = 2 ∨ i = 3 ∨ i = 4 ∨ i = 5 ∨ i = 6 ∨ i = 7 ∨ i = 8 ∨ i = 9 ∨ i = 10 ∨ i = 11 ∨ i = 12 ∨ i = 13 ∨ i = 14 ∨ i = 15 ∨ i = 16 ∨ i = 17 := by omega
          have HEE := Lib.hid hE
          have HSZ := Lib.hid hSZ
          clear hE hSZ
          have HW1 := Lib.hid hx1'
          clear hx1'
          rcases his with rfl | rfl | rfl | rfl | rfl | rfl | rfl | rfl | rfl | rfl | rfl | rfl | rfl | rfl | rfl | rfl | rfl | rfl
          all_goals (simp at ho; subst ho)
          case inl =>
            refine .inl ⟨by simp [Region.wanted], ?_⟩
            have o3 : b'.tmps[3]?.getD undef = .slice (some ⟨g, 0, none⟩) m cap := by
              have := hk 3 (fun j oj _ e => (splDst_ne (by decide) e).elim)
              simpa using this
            clear hd hk
            go_step
            exact ⟨_, rfl, rfl, Upd.refl _ _⟩
          case inr.inl =>
            refine .inl ⟨by simp [Region.wanted], ?_⟩
            have o3 : b'.tmps[3]?.getD undef = .slice (some ⟨g, 0, none⟩) m cap := by
              have := hk 3 (fun j oj _ e => (splDst_ne (by decide) e).elim)
              simpa using this
            clear hd hk
            go_step
            exact ⟨_, rfl, rfl, Upd.refl _ _⟩
          case inr.inr.inl =>
            refine .inl ⟨by simp [Region.wanted], ?_⟩
            have e1 : b'.tmps[20]?.getD undef = .slice (some ⟨g, 0, none⟩) m cap := by have := (show b'.tmps.getD 20 undef = .slice (some ⟨g, 0, none⟩) m cap from hd ⟨1, .data⟩ (by simp) rfl); simpa using this
            clear hd hk
            go_step
            exact ⟨_, rfl, rfl, Upd.refl _ _⟩
          case inr.inr.inr.inl =>
            refine .inl ⟨by simp [Region.wanted], ?_⟩
            have e2 : b'.tmps[21]?.getD undef = .int .i64 (m : Int) := by have := (show b'.tmps.getD 21 undef = .int .i64 (m : Int) from hd ⟨2, .data⟩ (by simp) rfl); simpa using this
            clear hd hk
            go_step
            exact ⟨_, rfl, (show Value.int .i64 ((m : Int) - 1) = .int .i64 (p : Int) from congrArg _ (by omega)), Upd.refl _ _⟩
          case inr.inr.inr.inr.inl =>
            refine .inl ⟨by simp [Region.wanted], ?_⟩
            have o3 : b'.tmps[3]?.getD undef = .slice (some ⟨g, 0, none⟩) m cap := by
              have := hk 3 (fun j oj _ e => (splDst_ne (by decide) e).elim)
              simpa using this
            clear hd hk
            go_step
            exact ⟨_, rfl, rfl, Upd.refl _ _⟩
          case inr.inr.inr.inr.inr.inl =>
            refine .inl ⟨by simp [Region.wanted], ?_⟩
            have o3 : b'.tmps[3]?.getD undef = .slice (some ⟨g, 0, none⟩) m cap := by
              have := hk 3 (fun j oj _ e => (splDst_ne (by decide) e).elim)
              simpa using this
            clear hd hk
            go_step
            exact ⟨_, rfl, rfl, Upd.refl _ _⟩
          case inr.inr.inr.inr.inr.inr.inl =>
            refine .inl ⟨by simp [Region.wanted], ?_⟩
            have e5 : b'.tmps[24]?.getD undef = .slice (some ⟨g, 0, none⟩) m cap := by have := (show b'.tmps.getD 24 undef = .slice (some ⟨g, 0, none⟩) m cap from hd ⟨5, .data⟩ (by simp) rfl); simpa using this
            clear hd hk
            go_step
            exact ⟨_, rfl, rfl, Upd.refl _ _⟩
          case inr.inr.inr.inr.inr.inr.inr.inl =>
            refine .inl ⟨by simp [Region.wanted], ?_⟩
            have e6 : b'.tmps[25]?.getD undef = .int .i64 (m : Int) := by have := (show b'.tmps.getD 25 undef = .int .i64 (m : Int) from hd ⟨6, .data⟩ (by simp) rfl); simpa using this
            clear hd hk
            go_step
            exact ⟨_, rfl, (show Value.int .i64 ((m : Int) - 1) = .int .i64 (p : Int) from congrArg _ (by omega)), Upd.refl _ _⟩
          case inr.inr.inr.inr.inr.inr.inr.inr.inl =>
            refine .inl ⟨by simp [Region.wanted], ?_⟩
            have e4 : b'.tmps[23]?.getD undef = .slice (some ⟨g, 0, none⟩) m cap := by have := (show b'.tmps.getD 23 undef = .slice (some ⟨g, 0, none⟩) m cap from hd ⟨4, .data⟩ (by simp) rfl); simpa using this
            have e7 : b'.tmps[26]?.getD undef = .int .i64 (p : Int) := by have := (show b'.tmps.getD 26 undef = .int .i64 (p : Int) from hd ⟨7, .data⟩ (by simp) rfl); simpa using this
            clear hd hk
            go_step
            exact ⟨_, rfl, rfl, Upd.refl _ _⟩
          case inr.inr.inr.inr.inr.inr.inr.inr.inr.inl =>
            refine .inl ⟨by simp [Region.wanted], ?_⟩
            have e8 : b'.tmps[27]?.getD undef = .pointer (some ⟨g, p, none⟩) := by have := (show b'.tmps.getD 27 undef = .pointer (some ⟨g, p, none⟩) from hd ⟨8, .data⟩ (by simp) rfl); simpa using this
            clear hd hk
            have hxe := HEE.out (.inr (by kernel_rfl))
            have hc9 := hxe.cell N2.out id
            clear hxe
            go_step
            exact ⟨_, rfl, rfl, Upd.refl _ _⟩
          case inr.inr.inr.inr.inr.inr.inr.inr.inr.inr.inl =>
            refine .inl ⟨by simp [Region.wanted], ?_⟩
            have o0 : b'.tmps[0]?.getD undef = str s := by
              have := hk 0 (fun j oj _ e => (splDst_ne (by decide) e).elim)
              simpa using this
            clear hd hk
            go_step
            exact ⟨_, rfl, rfl, Upd.refl _ _⟩
          case inr.inr.inr.inr.inr.inr.inr.inr.inr.inr.inr.inl =>
            refine .inl ⟨by simp [Region.wanted], ?_⟩
            have o4 : b'.tmps[4]?.getD undef = .int .i64 (k : Int) := by
              have := hk 4 (fun j oj _ e => (splDst_ne (by decide) e).elim)
              simpa using this
            clear hd hk
            go_step
            exact ⟨_, rfl, rfl, Upd.refl _ _⟩
          case inr.inr.inr.inr.inr.inr.inr.inr.inr.inr.inr.inr.inl =>
            refine .inl ⟨by simp [Region.wanted], ?_⟩
            have o4 : b'.tmps[4]?.getD undef = .int .i64 (k : Int) := by
              have := hk 4 (fun j oj _ e => (splDst_ne (by decide) e).elim)
              simpa using this
            clear hd hk
            go_step
            exact ⟨_, rfl, rfl, Upd.refl _ _⟩
          case inr.inr.inr.inr.inr.inr.inr.inr.inr.inr.inr.inr.inr.inl =>
            refine .inl ⟨by simp [Region.wanted], ?_⟩
            have e12 : b'.tmps[31]?.getD undef = .int .i64 (k : Int) := by have := (show b'.tmps.getD 31 undef = .int .i64 (k : Int) from hd ⟨12, .data⟩ (by simp) rfl); simpa using this
            clear hd hk
            go_step
            exact ⟨_, rfl, rfl, Upd.refl _ _⟩
          case inr.inr.inr.inr.inr.inr.inr.inr.inr.inr.inr.inr.inr.inr.inl =>
            refine .inl ⟨by simp [Region.wanted], ?_⟩
            have e10 : b'.tmps[29]?.getD undef = str s := by have := (show b'.tmps.getD 29 undef = str s from hd ⟨10, .data⟩ (by simp) rfl); simpa using this
            have e11 : b'.tmps[30]?.getD undef = .int .i64 (k : Int) := by have := (show b'.tmps.getD 30 undef = .int .i64 (k : Int) from hd ⟨11, .data⟩ (by simp) rfl); simpa using this
            have e13 : b'.tmps[32]?.getD undef = .int .i64 ((k : Int) + 1) := by have := (show b'.tmps.getD 32 undef = .int .i64 ((k : Int) + 1) from hd ⟨13, .data⟩ (by simp) rfl); simpa using this
            clear hd hk
            have hs14 := HSL.out
            go_step
            exact ⟨_, rfl, rfl, Upd.refl _ _⟩
          case inr.inr.inr.inr.inr.inr.inr.inr.inr.inr.inr.inr.inr.inr.inr.inl =>
            refine .inl ⟨by simp [Region.wanted], ?_⟩
            have e9 : b'.tmps[28]?.getD undef = str y := by have := (show b'.tmps.getD 28 undef = str y from hd ⟨9, .data⟩ (by simp) rfl); simpa using this
            have e14 : b'.tmps[33]?.getD undef = str [c] := by have := (show b'.tmps.getD 33 undef = str [c] from hd ⟨14, .data⟩ (by simp) rfl); simpa using this
            clear hd hk
            go_step
            exact ⟨_, rfl, (show Value.string _ = _ from by congr 1; first | done | (apply ByteArray.ext; simp)), Upd.refl _ _⟩
          case inr.inr.inr.inr.inr.inr.inr.inr.inr.inr.inr.inr.inr.inr.inr.inr.inl =>
            refine .inl ⟨by simp [Region.wanted], ?_⟩
            have e0 : b'.tmps[19]?.getD undef = .slice (some ⟨g, 0, none⟩) m cap := by have := (show b'.tmps.getD 19 undef = .slice (some ⟨g, 0, none⟩) m cap from hd ⟨0, .data⟩ (by simp) rfl); simpa using this
            have e3 : b'.tmps[22]?.getD undef = .int .i64 (p : Int) := by have := (show b'.tmps.getD 22 undef = .int .i64 (p : Int) from hd ⟨3, .data⟩ (by simp) rfl); simpa using this
            clear hd hk
            go_step
            exact ⟨_, rfl, rfl, Upd.refl _ _⟩
          case inr.inr.inr.inr.inr.inr.inr.inr.inr.inr.inr.inr.inr.inr.inr.inr.inr =>
            refine .inl ⟨by simp [Region.wanted], ?_⟩
            have e15 : b'.tmps[34]?.getD undef = str (y ++ [c]) := by have := (show b'.tmps.getD 34 undef = str (y ++ [c]) from hd ⟨15, .data⟩ (by simp) rfl); simpa using this
            have e16 : b'.tmps[35]?.getD undef = .pointer (some ⟨g, p, none⟩) := by have := (show b'.tmps.getD 35 undef = .pointer (some ⟨g, p, none⟩) from hd ⟨16, .data⟩ (by simp) rfl); simpa using this
            clear hd hk
            have hxe := HEE.out (.inl rfl)
            have ho := hxe.ownsRow HO.out (fun _ _ e => e)
            have hnew := owns_last (y := str (y ++ [c])) ho (by rw [HMD.out]; simp)
            rw [show (strs d).length = p from by simp [HP.out]] at hnew
            obtain ⟨n1, n2, n3, n4, n5, -, -⟩ := hnew
            have N1' := Lib.hid n1
            clear ho n1 hxe
            go_step
            refine ⟨undef, put_past (by rw [HSZ.out]; show 37 ≤ splDst 17; decide), ?_, Upd.own _ _ _ _⟩
            show SplRow B g m cap (strs d ++ [str (y ++ [c])]) undef _
            exact N1'.out
        · intro v w1' hx1' hp
          have h17 : SplRow B g m cap (strs (d ++ [y ++ [c]])) (v 17) w1' := hp 17 (by decide)
          have HX7 := Lib.hid (HX.out.step hx1' (fun i hi e => by unfold At at e; have := HB.out; omega))
          have H17 := Lib.hid h17
          clear hp hx1' h17
          simp only [List.size_toArray, List.length_cons, List.length_nil, Nat.reduceAdd, fillAll, splDst]
          go_simp
          go_wp2
          go_roundw
          case rel =>
            refine ⟨k + 1, by omega, by go_num, ?_, HX7.out⟩
            rw [H2.out]
            have : (d ++ [y ++ [c]]).length = m := by rw [HMD.out]; simp
            rw [this]
            exact H17.out
          case measure => simp [intOf]; omega
    · have hkl : k = s.length := by omega
      subst hkl
      have HO := Lib.hid hown
      clear hown hsz
      go_wp2
      go_ret
      refine ⟨_, rfl, ?_, HX.out⟩
      have := HO.out
      rwa [List.take_length, HB.out] at this
end Go.Proofs.YtfpioijfocmfcaaGreatDoor
namespace Go.Proofs.YtfpioijfocmfcaaGreatDoor
open Go.RowKit

abbrev NumRow (l : List Nat) (v : Value) (w : World) : Prop := Row (fun _ => True) w v l.length (l.map u64)
theorem NumRow.ext {l : List Nat} {v : Value} {w w' : World} (h : NumRow l v w) (hu : Ext w w') : NumRow l v w' := Row.ext h hu
theorem mayF_12 {x : Nm} (h : x.kind = 1 ∨ x.kind = 2) : mayF x = (decide (x.proc = 0) && (decide (x.inc = 0) && decide (x.k = 0))) := by
  obtain ⟨k, a, b, c, d, e⟩ := x
  rw [Bool.eq_iff_iff]
  rcases h with h | h <;> (simp only at h; subst h; simp [mayF, ofF, numsF] <;> first | exact eq_comm | omega)
theorem mayF_3 {x : Nm} (h : x.kind = 3) : mayF x = (decide (x.doc = 0) && decide (x.n = 0)) := by
  obtain ⟨k, a, b, c, d, e⟩ := x
  rw [Bool.eq_iff_iff]
  simp only at h; subst h; simp [mayF, ofF, numsF] <;> first | exact eq_comm | omega
theorem mayF_4 {x : Nm} (h : x.kind = 4) : mayF x = decide (x.n = 0) := by
  obtain ⟨k, a, b, c, d, e⟩ := x
  rw [Bool.eq_iff_iff]
  simp only at h; subst h; simp [mayF, ofF, numsF] <;> first | exact eq_comm | omega
theorem dec_int0 (n : Nat) : ((n : Int) == 0) = decide (n = 0) := by
  rw [Bool.eq_iff_iff]; simp
def rna0Val (x : Nm) (g : Nat) : Nat → Value
  | 0 => .pointer (some ⟨g, 1, none⟩)
  | 1 => u64 x.doc
  | 2 => .pointer (some ⟨g, 2, none⟩)
  | 3 => u64 x.n
  | 5 => .pointer (some ⟨g, 3, none⟩)
  | 6 => u64 x.proc
  | 7 => .bool false
  | 8 => .bool false
  | 12 => .bool false
  | 13 => .bool false
  | 17 => .bool false
  | 19 => .bool false
  | _ => undef
def rna0Dst (i : Nat) : Tmp := if i = 18 then 2 else if i = 19 then 3 else 9 + i
theorem rna0Dst_ne {j t : Nat} (ht : t = 1) (e : rna0Dst j = t) : False := by
  unfold rna0Dst at e
  have e : (if j = 18 then 2 else if j = 19 then 3 else 9 + j : Nat) = t := e
  rcases ht with rfl <;> (repeat' (split at e)) <;> omega
def rna0Phi (x : Nm) (g : Nat) (i : Nat) (v : Value) (w : World) : Prop := if i = 4 then NumRow [x.doc, x.n] v w else if i = 18 then NumRow [x.doc, x.n] v w else v = rna0Val x g i
theorem rna0Phi.ext {x : Nm} {g : Nat} {i : Nat} {v : Value} {w w' : World} (h : rna0Phi x g i v w) (hu : Ext w w') : rna0Phi x g i v w' := by
  unfold rna0Phi at h ⊢
  by_cases c : i = 4
  · rw [if_pos c] at h ⊢; exact h.ext hu
  · rw [if_neg c] at h ⊢
    by_cases c : i = 18
    · rw [if_pos c] at h ⊢; exact h.ext hu
    · rw [if_neg c] at h ⊢
      exact h
def rna1Val (x : Nm) (g : Nat) : Nat → Value
  | 0 => .pointer (some ⟨g, 1, none⟩)
  | 1 => u64 x.doc
  | 2 => .pointer (some ⟨g, 2, none⟩)
  | 3 => u64 x.n
  | 5 => .pointer (some ⟨g, 3, none⟩)
  | 6 => u64 x.proc
  | 7 => .bool true
  | 8 => .bool true
  | 9 => .pointer (some ⟨g, 4, none⟩)
  | 10 => u64 x.inc
  | 11 => .bool false
  | 12 => .bool false
  | 13 => .bool false
  | 17 => .bool false
  | 19 => .bool false
  | _ => undef
def rna1Dst (i : Nat) : Tmp := if i = 18 then 2 else if i = 19 then 3 else 9 + i
theorem rna1Dst_ne {j t : Nat} (ht : t = 1) (e : rna1Dst j = t) : False := by
  unfold rna1Dst at e
  have e : (if j = 18 then 2 else if j = 19 then 3 else 9 + j : Nat) = t := e
  rcases ht with rfl <;> (repeat' (split at e)) <;> omega
def rna1Phi (x : Nm) (g : Nat) (i : Nat) (v : Value) (w : World) : Prop := if i = 4 then NumRow [x.doc, x.n] v w else if i = 18 then NumRow [x.doc, x.n] v w else v = rna1Val x g i
theorem rna1Phi.ext {x : Nm} {g : Nat} {i : Nat} {v : Value} {w w' : World} (h : rna1Phi x g i v w) (hu : Ext w w') : rna1Phi x g i v w' := by
  unfold rna1Phi at h ⊢
  by_cases c : i = 4
  · rw [if_pos c] at h ⊢; exact h.ext hu
  · rw [if_neg c] at h ⊢
    by_cases c : i = 18
    · rw [if_pos c] at h ⊢; exact h.ext hu
    · rw [if_neg c] at h ⊢
      exact h
def rna2Val (x : Nm) (g : Nat) : Nat → Value
  | 0 => .pointer (some ⟨g, 1, none⟩)
  | 1 => u64 x.doc
  | 2 => .pointer (some ⟨g, 2, none⟩)
  | 3 => u64 x.n
  | 5 => .pointer (some ⟨g, 3, none⟩)
  | 6 => u64 x.proc
  | 7 => .bool true
  | 8 => .bool true
  | 9 => .pointer (some ⟨g, 4, none⟩)
  | 10 => u64 x.inc
  | 11 => .bool true
  | 12 => .bool true
  | 13 => .bool true
  | 14 => .pointer (some ⟨g, 5, none⟩)
  | 15 => u64 x.k
  | 16 => .bool ((x.k : Int) == 0)
  | 17 => .bool ((x.k : Int) == 0)
  | 19 => .bool ((x.k : Int) == 0)
  | _ => undef
def rna2Dst (i : Nat) : Tmp := if i = 18 then 2 else if i = 19 then 3 else 9 + i
theorem rna2Dst_ne {j t : Nat} (ht : t = 1) (e : rna2Dst j = t) : False := by
  unfold rna2Dst at e
  have e : (if j = 18 then 2 else if j = 19 then 3 else 9 + j : Nat) = t := e
  rcases ht with rfl <;> (repeat' (split at e)) <;> omega
def rna2Phi (x : Nm) (g : Nat) (i : Nat) (v : Value) (w : World) : Prop := if i = 4 then NumRow [x.doc, x.n] v w else if i = 18 then NumRow [x.doc, x.n] v w else v = rna2Val x g i
theorem rna2Phi.ext {x : Nm} {g : Nat} {i : Nat} {v : Value} {w w' : World} (h : rna2Phi x g i v w) (hu : Ext w w') : rna2Phi x g i v w' := by
  unfold rna2Phi at h ⊢
  by_cases c : i = 4
  · rw [if_pos c] at h ⊢; exact h.ext hu
  · rw [if_neg c] at h ⊢
    by_cases c : i = 18
    · rw [if_pos c] at h ⊢; exact h.ext hu
    · rw [if_neg c] at h ⊢
      exact h
def rnb0Val (x : Nm) (g : Nat) : Nat → Value
  | 0 => .pointer (some ⟨g, 3, none⟩)
  | 1 => u64 x.proc
  | 2 => .pointer (some ⟨g, 4, none⟩)
  | 3 => u64 x.inc
  | 4 => .pointer (some ⟨g, 5, none⟩)
  | 5 => u64 x.k
  | 7 => .pointer (some ⟨g, 1, none⟩)
  | 8 => u64 x.doc
  | 9 => .bool false
  | 10 => .bool false
  | 14 => .bool false
  | 16 => .bool false
  | _ => undef
def rnb0Dst (i : Nat) : Tmp := if i = 15 then 2 else if i = 16 then 3 else 29 + i
theorem rnb0Dst_ne {j t : Nat} (ht : t = 1) (e : rnb0Dst j = t) : False := by
  unfold rnb0Dst at e
  have e : (if j = 15 then 2 else if j = 16 then 3 else 29 + j : Nat) = t := e
  rcases ht with rfl <;> (repeat' (split at e)) <;> omega
def rnb0Phi (x : Nm) (g : Nat) (i : Nat) (v : Value) (w : World) : Prop := if i = 6 then NumRow [x.proc, x.inc, x.k] v w else if i = 15 then NumRow [x.proc, x.inc, x.k] v w else v = rnb0Val x g i
theorem rnb0Phi.ext {x : Nm} {g : Nat} {i : Nat} {v : Value} {w w' : World} (h : rnb0Phi x g i v w) (hu : Ext w w') : rnb0Phi x g i v w' := by
  unfold rnb0Phi at h ⊢
  by_cases c : i = 6
  · rw [if_pos c] at h ⊢; exact h.ext hu
  · rw [if_neg c] at h ⊢
    by_cases c : i = 15
    · rw [if_pos c] at h ⊢; exact h.ext hu
    · rw [if_neg c] at h ⊢
      exact h
def rnb1Val (x : Nm) (g : Nat) : Nat → Value
  | 0 => .pointer (some ⟨g, 3, none⟩)
  | 1 => u64 x.proc
  | 2 => .pointer (some ⟨g, 4, none⟩)
  | 3 => u64 x.inc
  | 4 => .pointer (some ⟨g, 5, none⟩)
  | 5 => u64 x.k
  | 7 => .pointer (some ⟨g, 1, none⟩)
  | 8 => u64 x.doc
  | 9 => .bool true
  | 10 => .bool true
  | 11 => .pointer (some ⟨g, 2, none⟩)
  | 12 => u64 x.n
  | 13 => .bool ((x.n : Int) == 0)
  | 14 => .bool ((x.n : Int) == 0)
  | 16 => .bool ((x.n : Int) == 0)
  | _ => undef
def rnb1Dst (i : Nat) : Tmp := if i = 15 then 2 else if i = 16 then 3 else 29 + i
theorem rnb1Dst_ne {j t : Nat} (ht : t = 1) (e : rnb1Dst j = t) : False := by
  unfold rnb1Dst at e
  have e : (if j = 15 then 2 else if j = 16 then 3 else 29 + j : Nat) = t := e
  rcases ht with rfl <;> (repeat' (split at e)) <;> omega
def rnb1Phi (x : Nm) (g : Nat) (i : Nat) (v : Value) (w : World) : Prop := if i = 6 then NumRow [x.proc, x.inc, x.k] v w else if i = 15 then NumRow [x.proc, x.inc, x.k] v w else v = rnb1Val x g i
theorem rnb1Phi.ext {x : Nm} {g : Nat} {i : Nat} {v : Value} {w w' : World} (h : rnb1Phi x g i v w) (hu : Ext w w') : rnb1Phi x g i v w' := by
  unfold rnb1Phi at h ⊢
  by_cases c : i = 6
  · rw [if_pos c] at h ⊢; exact h.ext hu
  · rw [if_neg c] at h ⊢
    by_cases c : i = 15
    · rw [if_pos c] at h ⊢; exact h.ext hu
    · rw [if_neg c] at h ⊢
      exact h
def rncVal (x : Nm) (g : Nat) : Nat → Value
  | 0 => .pointer (some ⟨g, 1, none⟩)
  | 1 => u64 x.doc
  | 2 => .pointer (some ⟨g, 3, none⟩)
  | 3 => u64 x.proc
  | 4 => .pointer (some ⟨g, 4, none⟩)
  | 5 => u64 x.inc
  | 6 => .pointer (some ⟨g, 5, none⟩)
  | 7 => u64 x.k
  | 9 => .pointer (some ⟨g, 2, none⟩)
  | 10 => u64 x.n
  | 11 => .bool ((x.n : Int) == 0)
  | 13 => .bool ((x.n : Int) == 0)
  | _ => undef
def rncDst (i : Nat) : Tmp := if i = 12 then 2 else if i = 13 then 3 else 46 + i
theorem rncDst_ne {j t : Nat} (ht : t = 1) (e : rncDst j = t) : False := by
  unfold rncDst at e
  have e : (if j = 12 then 2 else if j = 13 then 3 else 46 + j : Nat) = t := e
  rcases ht with rfl <;> (repeat' (split at e)) <;> omega
def rncPhi (x : Nm) (g : Nat) (i : Nat) (v : Value) (w : World) : Prop := if i = 8 then NumRow [x.doc, x.proc, x.inc, x.k] v w else if i = 12 then NumRow [x.doc, x.proc, x.inc, x.k] v w else v = rncVal x g i
theorem rncPhi.ext {x : Nm} {g : Nat} {i : Nat} {v : Value} {w w' : World} (h : rncPhi x g i v w) (hu : Ext w w') : rncPhi x g i v w' := by
  unfold rncPhi at h ⊢
  by_cases c : i = 8
  · rw [if_pos c] at h ⊢; exact h.ext hu
  · rw [if_neg c] at h ⊢
    by_cases c : i = 12
    · rw [if_pos c] at h ⊢; exact h.ext hu
    · rw [if_neg c] at h ⊢
      exact h
set_option maxRecDepth 100000 in
set_option maxHeartbeats 4000000 in
theorem rnums_any (w : World) (x : Nm) :
    Calls Tryz.prog 77 #[.agg (nmCells x)] w fun e w' => ∃ v, e = .returned (.tuple #[v, .bool (mayF x)]) ∧ (mayF x = true → NumRow (numsF x) v w') ∧ Ext w w' := by
  have hx : Ext w (w.alloc (.cells (nmCells x) 70)) := (Upd.refl _ _).alloc _
  have hb := newAt w (.cells (nmCells x) 70)
  obtain ⟨wb, hwb⟩ : ∃ u, u = w.alloc (.cells (nmCells x) 70) := ⟨_, rfl⟩
  obtain ⟨g, hg⟩ : ∃ g, g = w.heap.size := ⟨_, rfl⟩
  rw [← hwb] at hx hb
  rw [← hg] at hb
  have HX := Lib.hid hx
  have HB := Lib.hid hb
  have HWB := Lib.hid hwb
  have HG := Lib.hid hg
  have hc0 : wb.cell? ⟨g, 0, none⟩ = some (.int .u8 x.kind) := cellAt hb 0 _ rfl
  clear hx hb hwb hg
  go_enter Tryz.func77, Tryz.ntmps77
  go_upto_region 1 with (fail)
  rw [show w.alloc (.cells (nmCells x) 70) = wb from HWB.out.symm, show w.heap.size = g from HG.out.symm]
  by_cases h12 : x.kind = 1 ∨ x.kind = 2
  · have hm := mayF_12 h12
    have hn : numsF x = [x.doc, x.n] := by unfold numsF; rw [if_pos h12]
    have HM := Lib.hid hm
    have HN := Lib.hid hn
    have key : (((x.kind : Int) == 1) = true) ∨ (((x.kind : Int) == 1) = false ∧ ((x.kind : Int) == 2) = true) := by
      rcases h12 with h | h <;> simp [h]
    clear h12 hm hn
    by_cases hp : x.proc = 0
    · have fp : ((x.proc : Int) == 0) = true := by simp; omega
      by_cases hi : x.inc = 0
      · have fi : ((x.inc : Int) == 0) = true := by simp; omega
        have HP := Lib.hid hp
        have HI := Lib.hid hi
        clear hp hi
        rcases key with k1 | ⟨k1, k2⟩
        all_goals
          clear hc0
          have hc0 : wb.cell? ⟨g, 0, none⟩ = some (.int .u8 x.kind) := cellAt HB.out 0 _ rfl
          go_upto_region 4 with (fail)
          clear hc0
          refine wp_region_invH Nothing (fun _ => Ext) 1000 rna2Dst (rna2Phi x g) 58 (by kernel_rfl) (by decide) (by decide) rfl (fun i hi => .inl ((by decide : ∀ i, i < 20 → rna2Dst i < 58) i hi)) (fun i w w' h => ⟨h, fun _ => h⟩) (fun i j v w w' _ _ _ _ h hu => h.ext hu) ?_ ?_
          · intro i o b' w1' ho hx1' hd hk hE hSZ
            have hi : i < 20 := (Array.getElem?_eq_some_iff.1 ho).1
            have his : i = 0 ∨ i = 1 ∨ i = 2 ∨ i = 3 ∨ i = 4 ∨ i = 5 ∨ i = 6 ∨ i = 7 ∨ i = 8 ∨ i = 9 ∨ i = 10 ∨ i = 11 ∨ i = 12 ∨ i = 13 ∨ i = 14 ∨ i = 15 ∨ i = 16 ∨ i = 17 ∨ i = 18 ∨ i = 19 := by omega
            clear hE hSZ
            have HW1 := Lib.hid hx1'
            clear hx1'
            rcases his with rfl | rfl | rfl | rfl | rfl | rfl | rfl | rfl | rfl | rfl | rfl | rfl | rfl | rfl | rfl | rfl | rfl | rfl | rfl | rfl
            all_goals (simp at ho; subst ho)
            case inl =>
              refine .inl ⟨by simp [Region.wanted], ?_⟩
              have o1 : b'.tmps[1]?.getD undef = .pointer (some ⟨g, 0, none⟩) := by
                have := hk 1 (fun j oj _ e => (rna2Dst_ne (by decide) e).elim)
                simpa using this
              clear hd hk
              go_step
              exact ⟨_, rfl, rfl, Upd.refl _ _⟩
            case inr.inl =>
              refine .inl ⟨by simp [Region.wanted], ?_⟩
              have e0 : b'.tmps[9]?.getD undef = .pointer (some ⟨g, 1, none⟩) := by have := (show b'.tmps.getD 9 undef = .pointer (some ⟨g, 1, none⟩) from hd ⟨0, .data⟩ (by simp) rfl); simpa using this
              clear hd hk
              have hc : w1'.cell? ⟨g, 1, none⟩ = some (u64 x.doc) := cellAt (HW1.out.at_ HB.out id) 1 _ rfl
              go_step
              exact ⟨_, rfl, rfl, Upd.refl _ _⟩
            case inr.inr.inl =>
              refine .inl ⟨by simp [Region.wanted], ?_⟩
              have o1 : b'.tmps[1]?.getD undef = .pointer (some ⟨g, 0, none⟩) := by
                have := hk 1 (fun j oj _ e => (rna2Dst_ne (by decide) e).elim)
                simpa using this
              clear hd hk
              go_step
              exact ⟨_, rfl, rfl, Upd.refl _ _⟩
            case inr.inr.inr.inl =>
              refine .inl ⟨by simp [Region.wanted], ?_⟩
              have e2 : b'.tmps[11]?.getD undef = .pointer (some ⟨g, 2, none⟩) := by have := (show b'.tmps.getD 11 undef = .pointer (some ⟨g, 2, none⟩) from hd ⟨2, .data⟩ (by simp) rfl); simpa using this
              clear hd hk
              have hc : w1'.cell? ⟨g, 2, none⟩ = some (u64 x.n) := cellAt (HW1.out.at_ HB.out id) 2 _ rfl
              go_step
              exact ⟨_, rfl, rfl, Upd.refl _ _⟩
            case inr.inr.inr.inr.inl =>
              refine .inl ⟨by simp [Region.wanted], ?_⟩
              have e1 : b'.tmps[10]?.getD undef = u64 x.doc := by have := (show b'.tmps.getD 10 undef = u64 x.doc from hd ⟨1, .data⟩ (by simp) rfl); simpa using this
              have e3 : b'.tmps[12]?.getD undef = u64 x.n := by have := (show b'.tmps.getD 12 undef = u64 x.n from hd ⟨3, .data⟩ (by simp) rfl); simpa using this
              clear hd hk
              go_step
              exact ⟨_, rfl, (show NumRow [x.doc, x.n] _ _ from (row_new w1' ([x.doc, x.n].map u64).toArray 22 2 w1'.heap.size (by decide) rfl).mono (fun _ _ => trivial)), (Upd.refl _ _).alloc _⟩
            case inr.inr.inr.inr.inr.inl =>
              refine .inl ⟨by simp [Region.wanted], ?_⟩
              have o1 : b'.tmps[1]?.getD undef = .pointer (some ⟨g, 0, none⟩) := by
                have := hk 1 (fun j oj _ e => (rna2Dst_ne (by decide) e).elim)
                simpa using this
              clear hd hk
              go_step
              exact ⟨_, rfl, rfl, Upd.refl _ _⟩
            case inr.inr.inr.inr.inr.inr.inl =>
              refine .inl ⟨by simp [Region.wanted], ?_⟩
              have e5 : b'.tmps[14]?.getD undef = .pointer (some ⟨g, 3, none⟩) := by have := (show b'.tmps.getD 14 undef = .pointer (some ⟨g, 3, none⟩) from hd ⟨5, .data⟩ (by simp) rfl); simpa using this
              clear hd hk
              have hc : w1'.cell? ⟨g, 3, none⟩ = some (u64 x.proc) := cellAt (HW1.out.at_ HB.out id) 3 _ rfl
              go_step
              exact ⟨_, rfl, rfl, Upd.refl _ _⟩
            case inr.inr.inr.inr.inr.inr.inr.inl =>
              refine .inl ⟨by simp [Region.wanted], ?_⟩
              have e6 : b'.tmps[15]?.getD undef = u64 x.proc := by have := (show b'.tmps.getD 15 undef = u64 x.proc from hd ⟨6, .data⟩ (by simp) rfl); simpa using this
              clear hd hk
              go_step
              exact ⟨_, rfl, rfl, Upd.refl _ _⟩
            case inr.inr.inr.inr.inr.inr.inr.inr.inl =>
              refine .inl ⟨by simp [Region.wanted], ?_⟩
              have e7 : b'.tmps[16]?.getD undef = .bool true := by have := (show b'.tmps.getD 16 undef = .bool true from hd ⟨7, .data⟩ (by simp) rfl); simpa using this
              clear hd hk
              go_step
              exact ⟨_, rfl, rfl, Upd.refl _ _⟩
            case inr.inr.inr.inr.inr.inr.inr.inr.inr.inl =>
              refine .inl ⟨by
                have := tmp_some (show b'.tmps.getD 17 undef = .bool true from hd ⟨8, .guard⟩ (by simp) rfl)
                simp [Region.wanted, yielded, this], ?_⟩
              have o1 : b'.tmps[1]?.getD undef = .pointer (some ⟨g, 0, none⟩) := by
                have := hk 1 (fun j oj _ e => (rna2Dst_ne (by decide) e).elim)
                simpa using this
              clear hd hk
              go_step
              exact ⟨_, rfl, rfl, Upd.refl _ _⟩
            case inr.inr.inr.inr.inr.inr.inr.inr.inr.inr.inl =>
              refine .inl ⟨by
                have := tmp_some (show b'.tmps.getD 17 undef = .bool true from hd ⟨8, .guard⟩ (by simp) rfl)
                simp [Region.wanted, yielded, this], ?_⟩
              have e9 : b'.tmps[18]?.getD undef = .pointer (some ⟨g, 4, none⟩) := by have := (show b'.tmps.getD 18 undef = .pointer (some ⟨g, 4, none⟩) from hd ⟨9, .data⟩ (by simp) rfl); simpa using this
              clear hd hk
              have hc : w1'.cell? ⟨g, 4, none⟩ = some (u64 x.inc) := cellAt (HW1.out.at_ HB.out id) 4 _ rfl
              go_step
              exact ⟨_, rfl, rfl, Upd.refl _ _⟩
            case inr.inr.inr.inr.inr.inr.inr.inr.inr.inr.inr.inl =>
              refine .inl ⟨by
                have := tmp_some (show b'.tmps.getD 17 undef = .bool true from hd ⟨8, .guard⟩ (by simp) rfl)
                simp [Region.wanted, yielded, this], ?_⟩
              have e10 : b'.tmps[19]?.getD undef = u64 x.inc := by have := (show b'.tmps.getD 19 undef = u64 x.inc from hd ⟨10, .data⟩ (by simp) rfl); simpa using this
              clear hd hk
              go_step
              exact ⟨_, rfl, rfl, Upd.refl _ _⟩
            case inr.inr.inr.inr.inr.inr.inr.inr.inr.inr.inr.inr.inl =>
              refine .inl ⟨by simp [Region.wanted], ?_⟩
              have e8 : b'.tmps[17]?.getD undef = .bool true := by have := (show b'.tmps.getD 17 undef = .bool true from hd ⟨8, .data⟩ (by simp) rfl); simpa using this
              have e11 : b'.tmps[20]?.getD undef = .bool true := by have := (show b'.tmps.getD 20 undef = .bool true from hd ⟨11, .data⟩ (by simp) rfl); simpa using this
              clear hd hk
              go_step
              exact ⟨_, rfl, rfl, Upd.refl _ _⟩
            case inr.inr.inr.inr.inr.inr.inr.inr.inr.inr.inr.inr.inr.inl =>
              refine .inl ⟨by simp [Region.wanted], ?_⟩
              have e12 : b'.tmps[21]?.getD undef = .bool true := by have := (show b'.tmps.getD 21 undef = .bool true from hd ⟨12, .data⟩ (by simp) rfl); simpa using this
              clear hd hk
              go_step
              exact ⟨_, rfl, rfl, Upd.refl _ _⟩
            case inr.inr.inr.inr.inr.inr.inr.inr.inr.inr.inr.inr.inr.inr.inl =>
              refine .inl ⟨by
                have := tmp_some (show b'.tmps.getD 22 undef = .bool true from hd ⟨13, .guard⟩ (by simp) rfl)
                simp [Region.wanted, yielded, this], ?_⟩
              have o1 : b'.tmps[1]?.getD undef = .pointer (some ⟨g, 0, none⟩) := by
                have := hk 1 (fun j oj _ e => (rna2Dst_ne (by decide) e).elim)
                simpa using this
              clear hd hk
              go_step
              exact ⟨_, rfl, rfl, Upd.refl _ _⟩
            case inr.inr.inr.inr.inr.inr.inr.inr.inr.inr.inr.inr.inr.inr.inr.inl =>
              refine .inl ⟨by
                have := tmp_some (show b'.tmps.getD 22 undef = .bool true from hd ⟨13, .guard⟩ (by simp) rfl)
                simp [Region.wanted, yielded, this], ?_⟩
              have e14 : b'.tmps[23]?.getD undef = .pointer (some ⟨g, 5, none⟩) := by have := (show b'.tmps.getD 23 undef = .pointer (some ⟨g, 5, none⟩) from hd ⟨14, .data⟩ (by simp) rfl); simpa using this
              clear hd hk
              have hc : w1'.cell? ⟨g, 5, none⟩ = some (u64 x.k) := cellAt (HW1.out.at_ HB.out id) 5 _ rfl
              go_step
              exact ⟨_, rfl, rfl, Upd.refl _ _⟩
            case inr.inr.inr.inr.inr.inr.inr.inr.inr.inr.inr.inr.inr.inr.inr.inr.inl =>
              refine .inl ⟨by
                have := tmp_some (show b'.tmps.getD 22 undef = .bool true from hd ⟨13, .guard⟩ (by simp) rfl)
                simp [Region.wanted, yielded, this], ?_⟩
              have e15 : b'.tmps[24]?.getD undef = u64 x.k := by have := (show b'.tmps.getD 24 undef = u64 x.k from hd ⟨15, .data⟩ (by simp) rfl); simpa using this
              clear hd hk
              go_step
              exact ⟨_, rfl, rfl, Upd.refl _ _⟩
            case inr.inr.inr.inr.inr.inr.inr.inr.inr.inr.inr.inr.inr.inr.inr.inr.inr.inl =>
              refine .inl ⟨by simp [Region.wanted], ?_⟩
              have e13 : b'.tmps[22]?.getD undef = .bool true := by have := (show b'.tmps.getD 22 undef = .bool true from hd ⟨13, .data⟩ (by simp) rfl); simpa using this
              have e16 : b'.tmps[25]?.getD undef = .bool ((x.k : Int) == 0) := by have := (show b'.tmps.getD 25 undef = .bool ((x.k : Int) == 0) from hd ⟨16, .data⟩ (by simp) rfl); simpa using this
              clear hd hk
              go_step
              exact ⟨_, rfl, rfl, Upd.refl _ _⟩
            case inr.inr.inr.inr.inr.inr.inr.inr.inr.inr.inr.inr.inr.inr.inr.inr.inr.inr.inl =>
              refine .inl ⟨by simp [Region.wanted], ?_⟩
              have h4 := hd ⟨4, .data⟩ (by simp) rfl
              have h4 : NumRow [x.doc, x.n] (b'.tmps.getD 13 undef) w1' := h4
              have h4' := h4
              obtain ⟨a4, c4, q4, -, -, -⟩ := h4'
              have e4 : b'.tmps[13]?.getD undef = .slice a4 2 c4 := by simpa using q4
              rw [show b'.tmps.getD 13 undef = .slice a4 2 c4 from q4] at h4
              clear hd hk
              go_step
              exact ⟨_, rfl, h4, Upd.refl _ _⟩
            case inr.inr.inr.inr.inr.inr.inr.inr.inr.inr.inr.inr.inr.inr.inr.inr.inr.inr.inr =>
              refine .inl ⟨by simp [Region.wanted], ?_⟩
              have e17 : b'.tmps[26]?.getD undef = .bool ((x.k : Int) == 0) := by have := (show b'.tmps.getD 26 undef = .bool ((x.k : Int) == 0) from hd ⟨17, .data⟩ (by simp) rfl); simpa using this
              clear hd hk
              go_step
              exact ⟨_, rfl, rfl, Upd.refl _ _⟩
          · intro v w1' hx1' hp
            have hs := hp 18 (by decide)
            have hb : v 19 = .bool ((x.k : Int) == 0) := hp 19 (by decide)
            have hs : NumRow [x.doc, x.n] (v 18) w1' := hs
            have HS := Lib.hid hs
            have HX8 := Lib.hid (HX.out.trans hx1')
            clear hp hx1' hs
            simp only [List.size_toArray, List.length_cons, List.length_nil, Nat.reduceAdd, fillAll, rna2Dst]
            go_simp
            clear hb
            go_wp2
            go_ret2
            refine ⟨_, by rw [show mayF x = ((x.k : Int) == 0) by rw [HM.out, HP.out, HI.out, dec_int0]; simp]; rfl, fun _ => ?_, HX8.out⟩
            rw [show numsF x = [x.doc, x.n] from HN.out]
            exact HS.out
      · have fi : ((x.inc : Int) == 0) = false := by simp; omega
        have HP := Lib.hid hp
        have HI := Lib.hid hi
        clear hp hi
        rcases key with k1 | ⟨k1, k2⟩
        all_goals
          clear hc0
          have hc0 : wb.cell? ⟨g, 0, none⟩ = some (.int .u8 x.kind) := cellAt HB.out 0 _ rfl
          go_upto_region 4 with (fail)
          clear hc0
          refine wp_region_invH Nothing (fun _ => Ext) 1000 rna1Dst (rna1Phi x g) 58 (by kernel_rfl) (by decide) (by decide) rfl (fun i hi => .inl ((by decide : ∀ i, i < 20 → rna1Dst i < 58) i hi)) (fun i w w' h => ⟨h, fun _ => h⟩) (fun i j v w w' _ _ _ _ h hu => h.ext hu) ?_ ?_
          · intro i o b' w1' ho hx1' hd hk hE hSZ
            have hi : i < 20 := (Array.getElem?_eq_some_iff.1 ho).1
            have his : i = 0 ∨ i = 1 ∨ i = 2 ∨ i = 3 ∨ i = 4 ∨ i = 5 ∨ i = 6 ∨ i = 7 ∨ i = 8 ∨ i = 9 ∨ i = 10 ∨ i = 11 ∨ i = 12 ∨ i = 13 ∨ i = 14 ∨ i = 15 ∨ i = 16 ∨ i = 17 ∨ i = 18 ∨ i = 19 := by omega
            clear hE hSZ
            have HW1 := Lib.hid hx1'
            clear hx1'
            rcases his with rfl | rfl | rfl | rfl | rfl | rfl | rfl | rfl | rfl | rfl | rfl | rfl | rfl | rfl | rfl | rfl | rfl | rfl | rfl | rfl
            all_goals (simp at ho; subst ho)
            case inl =>
              refine .inl ⟨by simp [Region.wanted], ?_⟩
              have o1 : b'.tmps[1]?.getD undef = .pointer (some ⟨g, 0, none⟩) := by
                have := hk 1 (fun j oj _ e => (rna1Dst_ne (by decide) e).elim)
                simpa using this
              clear hd hk
              go_step
              exact ⟨_, rfl, rfl, Upd.refl _ _⟩
            case inr.inl =>
              refine .inl ⟨by simp [Region.wanted], ?_⟩
              have e0 : b'.tmps[9]?.getD undef = .pointer (some ⟨g, 1, none⟩) := by have := (show b'.tmps.getD 9 undef = .pointer (some ⟨g, 1, none⟩) from hd ⟨0, .data⟩ (by simp) rfl); simpa using this
              clear hd hk
              have hc : w1'.cell? ⟨g, 1, none⟩ = some (u64 x.doc) := cellAt (HW1.out.at_ HB.out id) 1 _ rfl
              go_step
              exact ⟨_, rfl, rfl, Upd.refl _ _⟩
            case inr.inr.inl =>
              refine .inl ⟨by simp [Region.wanted], ?_⟩
              have o1 : b'.tmps[1]?.getD undef = .pointer (some ⟨g, 0, none⟩) := by
                have := hk 1 (fun j oj _ e => (rna1Dst_ne (by decide) e).elim)
                simpa using this
              clear hd hk
              go_step
              exact ⟨_, rfl, rfl, Upd.refl _ _⟩
            case inr.inr.inr.inl =>
              refine .inl ⟨by simp [Region.wanted], ?_⟩
              have e2 : b'.tmps[11]?.getD undef = .pointer (some ⟨g, 2, none⟩) := by have := (show b'.tmps.getD 11 undef = .pointer (some ⟨g, 2, none⟩) from hd ⟨2, .data⟩ (by simp) rfl); simpa using this
              clear hd hk
              have hc : w1'.cell? ⟨g, 2, none⟩ = some (u64 x.n) := cellAt (HW1.out.at_ HB.out id) 2 _ rfl
              go_step
              exact ⟨_, rfl, rfl, Upd.refl _ _⟩
            case inr.inr.inr.inr.inl =>
              refine .inl ⟨by simp [Region.wanted], ?_⟩
              have e1 : b'.tmps[10]?.getD undef = u64 x.doc := by have := (show b'.tmps.getD 10 undef = u64 x.doc from hd ⟨1, .data⟩ (by simp) rfl); simpa using this
              have e3 : b'.tmps[12]?.getD undef = u64 x.n := by have := (show b'.tmps.getD 12 undef = u64 x.n from hd ⟨3, .data⟩ (by simp) rfl); simpa using this
              clear hd hk
              go_step
              exact ⟨_, rfl, (show NumRow [x.doc, x.n] _ _ from (row_new w1' ([x.doc, x.n].map u64).toArray 22 2 w1'.heap.size (by decide) rfl).mono (fun _ _ => trivial)), (Upd.refl _ _).alloc _⟩
            case inr.inr.inr.inr.inr.inl =>
              refine .inl ⟨by simp [Region.wanted], ?_⟩
              have o1 : b'.tmps[1]?.getD undef = .pointer (some ⟨g, 0, none⟩) := by
                have := hk 1 (fun j oj _ e => (rna1Dst_ne (by decide) e).elim)
                simpa using this
              clear hd hk
              go_step
              exact ⟨_, rfl, rfl, Upd.refl _ _⟩
            case inr.inr.inr.inr.inr.inr.inl =>
              refine .inl ⟨by simp [Region.wanted], ?_⟩
              have e5 : b'.tmps[14]?.getD undef = .pointer (some ⟨g, 3, none⟩) := by have := (show b'.tmps.getD 14 undef = .pointer (some ⟨g, 3, none⟩) from hd ⟨5, .data⟩ (by simp) rfl); simpa using this
              clear hd hk
              have hc : w1'.cell? ⟨g, 3, none⟩ = some (u64 x.proc) := cellAt (HW1.out.at_ HB.out id) 3 _ rfl
              go_step
              exact ⟨_, rfl, rfl, Upd.refl _ _⟩
            case inr.inr.inr.inr.inr.inr.inr.inl =>
              refine .inl ⟨by simp [Region.wanted], ?_⟩
              have e6 : b'.tmps[15]?.getD undef = u64 x.proc := by have := (show b'.tmps.getD 15 undef = u64 x.proc from hd ⟨6, .data⟩ (by simp) rfl); simpa using this
              clear hd hk
              go_step
              exact ⟨_, rfl, rfl, Upd.refl _ _⟩
            case inr.inr.inr.inr.inr.inr.inr.inr.inl =>
              refine .inl ⟨by simp [Region.wanted], ?_⟩
              have e7 : b'.tmps[16]?.getD undef = .bool true := by have := (show b'.tmps.getD 16 undef = .bool true from hd ⟨7, .data⟩ (by simp) rfl); simpa using this
              clear hd hk
              go_step
              exact ⟨_, rfl, rfl, Upd.refl _ _⟩
            case inr.inr.inr.inr.inr.inr.inr.inr.inr.inl =>
              refine .inl ⟨by
                have := tmp_some (show b'.tmps.getD 17 undef = .bool true from hd ⟨8, .guard⟩ (by simp) rfl)
                simp [Region.wanted, yielded, this], ?_⟩
              have o1 : b'.tmps[1]?.getD undef = .pointer (some ⟨g, 0, none⟩) := by
                have := hk 1 (fun j oj _ e => (rna1Dst_ne (by decide) e).elim)
                simpa using this
              clear hd hk
              go_step
              exact ⟨_, rfl, rfl, Upd.refl _ _⟩
            case inr.inr.inr.inr.inr.inr.inr.inr.inr.inr.inl =>
              refine .inl ⟨by
                have := tmp_some (show b'.tmps.getD 17 undef = .bool true from hd ⟨8, .guard⟩ (by simp) rfl)
                simp [Region.wanted, yielded, this], ?_⟩
              have e9 : b'.tmps[18]?.getD undef = .pointer (some ⟨g, 4, none⟩) := by have := (show b'.tmps.getD 18 undef = .pointer (some ⟨g, 4, none⟩) from hd ⟨9, .data⟩ (by simp) rfl); simpa using this
              clear hd hk
              have hc : w1'.cell? ⟨g, 4, none⟩ = some (u64 x.inc) := cellAt (HW1.out.at_ HB.out id) 4 _ rfl
              go_step
              exact ⟨_, rfl, rfl, Upd.refl _ _⟩
            case inr.inr.inr.inr.inr.inr.inr.inr.inr.inr.inr.inl =>
              refine .inl ⟨by
                have := tmp_some (show b'.tmps.getD 17 undef = .bool true from hd ⟨8, .guard⟩ (by simp) rfl)
                simp [Region.wanted, yielded, this], ?_⟩
              have e10 : b'.tmps[19]?.getD undef = u64 x.inc := by have := (show b'.tmps.getD 19 undef = u64 x.inc from hd ⟨10, .data⟩ (by simp) rfl); simpa using this
              clear hd hk
              go_step
              exact ⟨_, rfl, rfl, Upd.refl _ _⟩
            case inr.inr.inr.inr.inr.inr.inr.inr.inr.inr.inr.inr.inl =>
              refine .inl ⟨by simp [Region.wanted], ?_⟩
              have e8 : b'.tmps[17]?.getD undef = .bool true := by have := (show b'.tmps.getD 17 undef = .bool true from hd ⟨8, .data⟩ (by simp) rfl); simpa using this
              have e11 : b'.tmps[20]?.getD undef = .bool false := by have := (show b'.tmps.getD 20 undef = .bool false from hd ⟨11, .data⟩ (by simp) rfl); simpa using this
              clear hd hk
              go_step
              exact ⟨_, rfl, rfl, Upd.refl _ _⟩
            case inr.inr.inr.inr.inr.inr.inr.inr.inr.inr.inr.inr.inr.inl =>
              refine .inl ⟨by simp [Region.wanted], ?_⟩
              have e12 : b'.tmps[21]?.getD undef = .bool false := by have := (show b'.tmps.getD 21 undef = .bool false from hd ⟨12, .data⟩ (by simp) rfl); simpa using this
              clear hd hk
              go_step
              exact ⟨_, rfl, rfl, Upd.refl _ _⟩
            case inr.inr.inr.inr.inr.inr.inr.inr.inr.inr.inr.inr.inr.inr.inl =>
              refine .inr ⟨by
                have := tmp_some (show b'.tmps.getD 22 undef = .bool false from hd ⟨13, .guard⟩ (by simp) rfl)
                simp [Region.wanted, yielded, this], rfl, rfl, Upd.refl _ _⟩
            case inr.inr.inr.inr.inr.inr.inr.inr.inr.inr.inr.inr.inr.inr.inr.inl =>
              refine .inr ⟨by
                have := tmp_some (show b'.tmps.getD 22 undef = .bool false from hd ⟨13, .guard⟩ (by simp) rfl)
                simp [Region.wanted, yielded, this], rfl, rfl, Upd.refl _ _⟩
            case inr.inr.inr.inr.inr.inr.inr.inr.inr.inr.inr.inr.inr.inr.inr.inr.inl =>
              refine .inr ⟨by
                have := tmp_some (show b'.tmps.getD 22 undef = .bool false from hd ⟨13, .guard⟩ (by simp) rfl)
                simp [Region.wanted, yielded, this], rfl, rfl, Upd.refl _ _⟩
            case inr.inr.inr.inr.inr.inr.inr.inr.inr.inr.inr.inr.inr.inr.inr.inr.inr.inl =>
              refine .inl ⟨by simp [Region.wanted], ?_⟩
              have e13 : b'.tmps[22]?.getD undef = .bool false := by have := (show b'.tmps.getD 22 undef = .bool false from hd ⟨13, .data⟩ (by simp) rfl); simpa using this
              have e16 : b'.tmps[25]?.getD undef = undef := by have := (show b'.tmps.getD 25 undef = undef from hd ⟨16, .data⟩ (by simp) rfl); simpa using this
              clear hd hk
              go_step
              exact ⟨_, rfl, rfl, Upd.refl _ _⟩
            case inr.inr.inr.inr.inr.inr.inr.inr.inr.inr.inr.inr.inr.inr.inr.inr.inr.inr.inl =>
              refine .inl ⟨by simp [Region.wanted], ?_⟩
              have h4 := hd ⟨4, .data⟩ (by simp) rfl
              have h4 : NumRow [x.doc, x.n] (b'.tmps.getD 13 undef) w1' := h4
              have h4' := h4
              obtain ⟨a4, c4, q4, -, -, -⟩ := h4'
              have e4 : b'.tmps[13]?.getD undef = .slice a4 2 c4 := by simpa using q4
              rw [show b'.tmps.getD 13 undef = .slice a4 2 c4 from q4] at h4
              clear hd hk
              go_step
              exact ⟨_, rfl, h4, Upd.refl _ _⟩
            case inr.inr.inr.inr.inr.inr.inr.inr.inr.inr.inr.inr.inr.inr.inr.inr.inr.inr.inr =>
              refine .inl ⟨by simp [Region.wanted], ?_⟩
              have e17 : b'.tmps[26]?.getD undef = .bool false := by have := (show b'.tmps.getD 26 undef = .bool false from hd ⟨17, .data⟩ (by simp) rfl); simpa using this
              clear hd hk
              go_step
              exact ⟨_, rfl, rfl, Upd.refl _ _⟩
          · intro v w1' hx1' hp
            have hs := hp 18 (by decide)
            have hb : v 19 = .bool false := hp 19 (by decide)
            have hs : NumRow [x.doc, x.n] (v 18) w1' := hs
            have HS := Lib.hid hs
            have HX8 := Lib.hid (HX.out.trans hx1')
            clear hp hx1' hs
            simp only [List.size_toArray, List.length_cons, List.length_nil, Nat.reduceAdd, fillAll, rna1Dst]
            go_simp
            clear hb
            go_wp2
            go_ret2
            refine ⟨_, by rw [show mayF x = false by rw [HM.out, HP.out, decide_eq_false HI.out]; simp]; rfl, fun _ => ?_, HX8.out⟩
            rw [show numsF x = [x.doc, x.n] from HN.out]
            exact HS.out
    · have fp : ((x.proc : Int) == 0) = false := by simp; omega
      have HP := Lib.hid hp
      clear hp
      rcases key with k1 | ⟨k1, k2⟩
      all_goals
        clear hc0
        have hc0 : wb.cell? ⟨g, 0, none⟩ = some (.int .u8 x.kind) := cellAt HB.out 0 _ rfl
        go_upto_region 4 with (fail)
        clear hc0
        refine wp_region_invH Nothing (fun _ => Ext) 1000 rna0Dst (rna0Phi x g) 58 (by kernel_rfl) (by decide) (by decide) rfl (fun i hi => .inl ((by decide : ∀ i, i < 20 → rna0Dst i < 58) i hi)) (fun i w w' h => ⟨h, fun _ => h⟩) (fun i j v w w' _ _ _ _ h hu => h.ext hu) ?_ ?_
        · intro i o b' w1' ho hx1' hd hk hE hSZ
          have hi : i < 20 := (Array.getElem?_eq_some_iff.1 ho).1
          have his : i = 0 ∨ i = 1 ∨ i = 2 ∨ i = 3 ∨ i = 4 ∨ i = 5 ∨ i = 6 ∨ i = 7 ∨ i = 8 ∨ i = 9 ∨ i = 10 ∨ i = 11 ∨ i = 12 ∨ i = 13 ∨ i = 14 ∨ i = 15 ∨ i = 16 ∨ i = 17 ∨ i = 18 ∨ i = 19 := by omega
          clear hE hSZ
          have HW1 := Lib.hid hx1'
          clear hx1'
          rcases his with rfl | rfl | rfl | rfl | rfl | rfl | rfl | rfl | rfl | rfl | rfl | rfl | rfl | rfl | rfl | rfl | rfl | rfl | rfl | rfl
          all_goals (simp at ho; subst ho)
          case inl =>
            refine .inl ⟨by simp [Region.wanted], ?_⟩
            have o1 : b'.tmps[1]?.getD undef = .pointer (some ⟨g, 0, none⟩) := by
              have := hk 1 (fun j oj _ e => (rna0Dst_ne (by decide) e).elim)
              simpa using this
            clear hd hk
            go_step
            exact ⟨_, rfl, rfl, Upd.refl _ _⟩
          case inr.inl =>
            refine .inl ⟨by simp [Region.wanted], ?_⟩
            have e0 : b'.tmps[9]?.getD undef = .pointer (some ⟨g, 1, none⟩) := by have := (show b'.tmps.getD 9 undef = .pointer (some ⟨g, 1, none⟩) from hd ⟨0, .data⟩ (by simp) rfl); simpa using this
            clear hd hk
            have hc : w1'.cell? ⟨g, 1, none⟩ = some (u64 x.doc) := cellAt (HW1.out.at_ HB.out id) 1 _ rfl
            go_step
            exact ⟨_, rfl, rfl, Upd.refl _ _⟩
          case inr.inr.inl =>
            refine .inl ⟨by simp [Region.wanted], ?_⟩
            have o1 : b'.tmps[1]?.getD undef = .pointer (some ⟨g, 0, none⟩) := by
              have := hk 1 (fun j oj _ e => (rna0Dst_ne (by decide) e).elim)
              simpa using this
            clear hd hk
            go_step
            exact ⟨_, rfl, rfl, Upd.refl _ _⟩
          case inr.inr.inr.inl =>
            refine .inl ⟨by simp [Region.wanted], ?_⟩
            have e2 : b'.tmps[11]?.getD undef = .pointer (some ⟨g, 2, none⟩) := by have := (show b'.tmps.getD 11 undef = .pointer (some ⟨g, 2, none⟩) from hd ⟨2, .data⟩ (by simp) rfl); simpa using this
            clear hd hk
            have hc : w1'.cell? ⟨g, 2, none⟩ = some (u64 x.n) := cellAt (HW1.out.at_ HB.out id) 2 _ rfl
            go_step
            exact ⟨_, rfl, rfl, Upd.refl _ _⟩
          case inr.inr.inr.inr.inl =>
            refine .inl ⟨by simp [Region.wanted], ?_⟩
            have e1 : b'.tmps[10]?.getD undef = u64 x.doc := by have := (show b'.tmps.getD 10 undef = u64 x.doc from hd ⟨1, .data⟩ (by simp) rfl); simpa using this
            have e3 : b'.tmps[12]?.getD undef = u64 x.n := by have := (show b'.tmps.getD 12 undef = u64 x.n from hd ⟨3, .data⟩ (by simp) rfl); simpa using this
            clear hd hk
            go_step
            exact ⟨_, rfl, (show NumRow [x.doc, x.n] _ _ from (row_new w1' ([x.doc, x.n].map u64).toArray 22 2 w1'.heap.size (by decide) rfl).mono (fun _ _ => trivial)), (Upd.refl _ _).alloc _⟩
          case inr.inr.inr.inr.inr.inl =>
            refine .inl ⟨by simp [Region.wanted], ?_⟩
            have o1 : b'.tmps[1]?.getD undef = .pointer (some ⟨g, 0, none⟩) := by
              have := hk 1 (fun j oj _ e => (rna0Dst_ne (by decide) e).elim)
              simpa using this
            clear hd hk
            go_step
            exact ⟨_, rfl, rfl, Upd.refl _ _⟩
          case inr.inr.inr.inr.inr.inr.inl =>
            refine .inl ⟨by simp [Region.wanted], ?_⟩
            have e5 : b'.tmps[14]?.getD undef = .pointer (some ⟨g, 3, none⟩) := by have := (show b'.tmps.getD 14 undef = .pointer (some ⟨g, 3, none⟩) from hd ⟨5, .data⟩ (by simp) rfl); simpa using this
            clear hd hk
            have hc : w1'.cell? ⟨g, 3, none⟩ = some (u64 x.proc) := cellAt (HW1.out.at_ HB.out id) 3 _ rfl
            go_step
            exact ⟨_, rfl, rfl, Upd.refl _ _⟩
          case inr.inr.inr.inr.inr.inr.inr.inl =>
            refine .inl ⟨by simp [Region.wanted], ?_⟩
            have e6 : b'.tmps[15]?.getD undef = u64 x.proc := by have := (show b'.tmps.getD 15 undef = u64 x.proc from hd ⟨6, .data⟩ (by simp) rfl); simpa using this
            clear hd hk
            go_step
            exact ⟨_, rfl, rfl, Upd.refl _ _⟩
          case inr.inr.inr.inr.inr.inr.inr.inr.inl =>
            refine .inl ⟨by simp [Region.wanted], ?_⟩
            have e7 : b'.tmps[16]?.getD undef = .bool false := by have := (show b'.tmps.getD 16 undef = .bool false from hd ⟨7, .data⟩ (by simp) rfl); simpa using this
            clear hd hk
            go_step
            exact ⟨_, rfl, rfl, Upd.refl _ _⟩
          case inr.inr.inr.inr.inr.inr.inr.inr.inr.inl =>
            refine .inr ⟨by
              have := tmp_some (show b'.tmps.getD 17 undef = .bool false from hd ⟨8, .guard⟩ (by simp) rfl)
              simp [Region.wanted, yielded, this], rfl, rfl, Upd.refl _ _⟩
          case inr.inr.inr.inr.inr.inr.inr.inr.inr.inr.inl =>
            refine .inr ⟨by
              have := tmp_some (show b'.tmps.getD 17 undef = .bool false from hd ⟨8, .guard⟩ (by simp) rfl)
              simp [Region.wanted, yielded, this], rfl, rfl, Upd.refl _ _⟩
          case inr.inr.inr.inr.inr.inr.inr.inr.inr.inr.inr.inl =>
            refine .inr ⟨by
              have := tmp_some (show b'.tmps.getD 17 undef = .bool false from hd ⟨8, .guard⟩ (by simp) rfl)
              simp [Region.wanted, yielded, this], rfl, rfl, Upd.refl _ _⟩
          case inr.inr.inr.inr.inr.inr.inr.inr.inr.inr.inr.inr.inl =>
            refine .inl ⟨by simp [Region.wanted], ?_⟩
            have e8 : b'.tmps[17]?.getD undef = .bool false := by have := (show b'.tmps.getD 17 undef = .bool false from hd ⟨8, .data⟩ (by simp) rfl); simpa using this
            have e11 : b'.tmps[20]?.getD undef = undef := by have := (show b'.tmps.getD 20 undef = undef from hd ⟨11, .data⟩ (by simp) rfl); simpa using this
            clear hd hk
            go_step
            exact ⟨_, rfl, rfl, Upd.refl _ _⟩
          case inr.inr.inr.inr.inr.inr.inr.inr.inr.inr.inr.inr.inr.inl =>
            refine .inl ⟨by simp [Region.wanted], ?_⟩
            have e12 : b'.tmps[21]?.getD undef = .bool false := by have := (show b'.tmps.getD 21 undef = .bool false from hd ⟨12, .data⟩ (by simp) rfl); simpa using this
            clear hd hk
            go_step
            exact ⟨_, rfl, rfl, Upd.refl _ _⟩
          case inr.inr.inr.inr.inr.inr.inr.inr.inr.inr.inr.inr.inr.inr.inl =>
            refine .inr ⟨by
              have := tmp_some (show b'.tmps.getD 22 undef = .bool false from hd ⟨13, .guard⟩ (by simp) rfl)
              simp [Region.wanted, yielded, this], rfl, rfl, Upd.refl _ _⟩
          case inr.inr.inr.inr.inr.inr.inr.inr.inr.inr.inr.inr.inr.inr.inr.inl =>
            refine .inr ⟨by
              have := tmp_some (show b'.tmps.getD 22 undef = .bool false from hd ⟨13, .guard⟩ (by simp) rfl)
              simp [Region.wanted, yielded, this], rfl, rfl, Upd.refl _ _⟩
          case inr.inr.inr.inr.inr.inr.inr.inr.inr.inr.inr.inr.inr.inr.inr.inr.inl =>
            refine .inr ⟨by
              have := tmp_some (show b'.tmps.getD 22 undef = .bool false from hd ⟨13, .guard⟩ (by simp) rfl)
              simp [Region.wanted, yielded, this], rfl, rfl, Upd.refl _ _⟩
          case inr.inr.inr.inr.inr.inr.inr.inr.inr.inr.inr.inr.inr.inr.inr.inr.inr.inl =>
            refine .inl ⟨by simp [Region.wanted], ?_⟩
            have e13 : b'.tmps[22]?.getD undef = .bool false := by have := (show b'.tmps.getD 22 undef = .bool false from hd ⟨13, .data⟩ (by simp) rfl); simpa using this
            have e16 : b'.tmps[25]?.getD undef = undef := by have := (show b'.tmps.getD 25 undef = undef from hd ⟨16, .data⟩ (by simp) rfl); simpa using this
            clear hd hk
            go_step
            exact ⟨_, rfl, rfl, Upd.refl _ _⟩
          case inr.inr.inr.inr.inr.inr.inr.inr.inr.inr.inr.inr.inr.inr.inr.inr.inr.inr.inl =>
            refine .inl ⟨by simp [Region.wanted], ?_⟩
            have h4 := hd ⟨4, .data⟩ (by simp) rfl
            have h4 : NumRow [x.doc, x.n] (b'.tmps.getD 13 undef) w1' := h4
            have h4' := h4
            obtain ⟨a4, c4, q4, -, -, -⟩ := h4'
            have e4 : b'.tmps[13]?.getD undef = .slice a4 2 c4 := by simpa using q4
            rw [show b'.tmps.getD 13 undef = .slice a4 2 c4 from q4] at h4
            clear hd hk
            go_step
            exact ⟨_, rfl, h4, Upd.refl _ _⟩
          case inr.inr.inr.inr.inr.inr.inr.inr.inr.inr.inr.inr.inr.inr.inr.inr.inr.inr.inr =>
            refine .inl ⟨by simp [Region.wanted], ?_⟩
            have e17 : b'.tmps[26]?.getD undef = .bool false := by have := (show b'.tmps.getD 26 undef = .bool false from hd ⟨17, .data⟩ (by simp) rfl); simpa using this
            clear hd hk
            go_step
            exact ⟨_, rfl, rfl, Upd.refl _ _⟩
        · intro v w1' hx1' hp
          have hs := hp 18 (by decide)
          have hb : v 19 = .bool false := hp 19 (by decide)
          have hs : NumRow [x.doc, x.n] (v 18) w1' := hs
          have HS := Lib.hid hs
          have HX8 := Lib.hid (HX.out.trans hx1')
          clear hp hx1' hs
          simp only [List.size_toArray, List.length_cons, List.length_nil, Nat.reduceAdd, fillAll, rna0Dst]
          go_simp
          clear hb
          go_wp2
          go_ret2
          refine ⟨_, by rw [show mayF x = false by rw [HM.out, decide_eq_false HP.out]; simp]; rfl, fun _ => ?_, HX8.out⟩
          rw [show numsF x = [x.doc, x.n] from HN.out]
          exact HS.out
  · have k1 : ((x.kind : Int) == 1) = false := by simp; omega
    have k2 : ((x.kind : Int) == 2) = false := by simp; omega
    by_cases h3 : x.kind = 3
    · have hm := mayF_3 h3
      have hn : numsF x = [x.proc, x.inc, x.k] := by unfold numsF; rw [if_neg h12, if_pos h3]
      have k3 : ((x.kind : Int) == 3) = true := by simp; omega
      have HM := Lib.hid hm
      have HN := Lib.hid hn
      clear h12 h3 hm hn
      by_cases hp : x.doc = 0
      · have fp : ((x.doc : Int) == 0) = true := by simp; omega
        have HP := Lib.hid hp
        clear hp
        go_upto_region 6 with (fail)
        clear hc0
        refine wp_region_invH Nothing (fun _ => Ext) 1000 rnb1Dst (rnb1Phi x g) 58 (by kernel_rfl) (by decide) (by decide) rfl (fun i hi => .inl ((by decide : ∀ i, i < 17 → rnb1Dst i < 58) i hi)) (fun i w w' h => ⟨h, fun _ => h⟩) (fun i j v w w' _ _ _ _ h hu => h.ext hu) ?_ ?_
        · intro i o b' w1' ho hx1' hd hk hE hSZ
          have hi : i < 17 := (Array.getElem?_eq_some_iff.1 ho).1
          have his : i = 0 ∨ i = 1 ∨ i = 2 ∨ i = 3 ∨ i = 4 ∨ i = 5 ∨ i = 6 ∨ i = 7 ∨ i = 8 ∨ i = 9 ∨ i = 10 ∨ i = 11 ∨ i = 12 ∨ i = 13 ∨ i = 14 ∨ i = 15 ∨ i = 16 := by omega
          clear hE hSZ
          have HW1 := Lib.hid hx1'
          clear hx1'
          rcases his with rfl | rfl | rfl | rfl | rfl | rfl | rfl | rfl | rfl | rfl | rfl | rfl | rfl | rfl | rfl | rfl | rfl
          all_goals (simp at ho; subst ho)
          case inl =>
            refine .inl ⟨by simp [Region.wanted], ?_⟩
            have o1 : b'.tmps[1]?.getD undef = .pointer (some ⟨g, 0, none⟩) := by
              have := hk 1 (fun j oj _ e => (rnb1Dst_ne (by decide) e).elim)
              simpa using this
            clear hd hk
            go_step
            exact ⟨_, rfl, rfl, Upd.refl _ _⟩
          case inr.inl =>
            refine .inl ⟨by simp [Region.wanted], ?_⟩
            have e0 : b'.tmps[29]?.getD undef = .pointer (some ⟨g, 3, none⟩) := by have := (show b'.tmps.getD 29 undef = .pointer (some ⟨g, 3, none⟩) from hd ⟨0, .data⟩ (by simp) rfl); simpa using this
            clear hd hk
            have hc : w1'.cell? ⟨g, 3, none⟩ = some (u64 x.proc) := cellAt (HW1.out.at_ HB.out id) 3 _ rfl
            go_step
            exact ⟨_, rfl, rfl, Upd.refl _ _⟩
          case inr.inr.inl =>
            refine .inl ⟨by simp [Region.wanted], ?_⟩
            have o1 : b'.tmps[1]?.getD undef = .pointer (some ⟨g, 0, none⟩) := by
              have := hk 1 (fun j oj _ e => (rnb1Dst_ne (by decide) e).elim)
              simpa using this
            clear hd hk
            go_step
            exact ⟨_, rfl, rfl, Upd.refl _ _⟩
          case inr.inr.inr.inl =>
            refine .inl ⟨by simp [Region.wanted], ?_⟩
            have e2 : b'.tmps[31]?.getD undef = .pointer (some ⟨g, 4, none⟩) := by have := (show b'.tmps.getD 31 undef = .pointer (some ⟨g, 4, none⟩) from hd ⟨2, .data⟩ (by simp) rfl); simpa using this
            clear hd hk
            have hc : w1'.cell? ⟨g, 4, none⟩ = some (u64 x.inc) := cellAt (HW1.out.at_ HB.out id) 4 _ rfl
            go_step
            exact ⟨_, rfl, rfl, Upd.refl _ _⟩
          case inr.inr.inr.inr.inl =>
            refine .inl ⟨by simp [Region.wanted], ?_⟩
            have o1 : b'.tmps[1]?.getD undef = .pointer (some ⟨g, 0, none⟩) := by
              have := hk 1 (fun j oj _ e => (rnb1Dst_ne (by decide) e).elim)
              simpa using this
            clear hd hk
            go_step
            exact ⟨_, rfl, rfl, Upd.refl _ _⟩
          case inr.inr.inr.inr.inr.inl =>
            refine .inl ⟨by simp [Region.wanted], ?_⟩
            have e4 : b'.tmps[33]?.getD undef = .pointer (some ⟨g, 5, none⟩) := by have := (show b'.tmps.getD 33 undef = .pointer (some ⟨g, 5, none⟩) from hd ⟨4, .data⟩ (by simp) rfl); simpa using this
            clear hd hk
            have hc : w1'.cell? ⟨g, 5, none⟩ = some (u64 x.k) := cellAt (HW1.out.at_ HB.out id) 5 _ rfl
            go_step
            exact ⟨_, rfl, rfl, Upd.refl _ _⟩
          case inr.inr.inr.inr.inr.inr.inl =>
            refine .inl ⟨by simp [Region.wanted], ?_⟩
            have e1 : b'.tmps[30]?.getD undef = u64 x.proc := by have := (show b'.tmps.getD 30 undef = u64 x.proc from hd ⟨1, .data⟩ (by simp) rfl); simpa using this
            have e3 : b'.tmps[32]?.getD undef = u64 x.inc := by have := (show b'.tmps.getD 32 undef = u64 x.inc from hd ⟨3, .data⟩ (by simp) rfl); simpa using this
            have e5 : b'.tmps[34]?.getD undef = u64 x.k := by have := (show b'.tmps.getD 34 undef = u64 x.k from hd ⟨5, .data⟩ (by simp) rfl); simpa using this
            clear hd hk
            go_step
            exact ⟨_, rfl, (show NumRow [x.proc, x.inc, x.k] _ _ from (row_new w1' ([x.proc, x.inc, x.k].map u64).toArray 22 3 w1'.heap.size (by decide) rfl).mono (fun _ _ => trivial)), (Upd.refl _ _).alloc _⟩
          case inr.inr.inr.inr.inr.inr.inr.inl =>
            refine .inl ⟨by simp [Region.wanted], ?_⟩
            have o1 : b'.tmps[1]?.getD undef = .pointer (some ⟨g, 0, none⟩) := by
              have := hk 1 (fun j oj _ e => (rnb1Dst_ne (by decide) e).elim)
              simpa using this
            clear hd hk
            go_step
            exact ⟨_, rfl, rfl, Upd.refl _ _⟩
          case inr.inr.inr.inr.inr.inr.inr.inr.inl =>
            refine .inl ⟨by simp [Region.wanted], ?_⟩
            have e7 : b'.tmps[36]?.getD undef = .pointer (some ⟨g, 1, none⟩) := by have := (show b'.tmps.getD 36 undef = .pointer (some ⟨g, 1, none⟩) from hd ⟨7, .data⟩ (by simp) rfl); simpa using this
            clear hd hk
            have hc : w1'.cell? ⟨g, 1, none⟩ = some (u64 x.doc) := cellAt (HW1.out.at_ HB.out id) 1 _ rfl
            go_step
            exact ⟨_, rfl, rfl, Upd.refl _ _⟩
          case inr.inr.inr.inr.inr.inr.inr.inr.inr.inl =>
            refine .inl ⟨by simp [Region.wanted], ?_⟩
            have e8 : b'.tmps[37]?.getD undef = u64 x.doc := by have := (show b'.tmps.getD 37 undef = u64 x.doc from hd ⟨8, .data⟩ (by simp) rfl); simpa using this
            clear hd hk
            go_step
            exact ⟨_, rfl, rfl, Upd.refl _ _⟩
          case inr.inr.inr.inr.inr.inr.inr.inr.inr.inr.inl =>
            refine .inl ⟨by simp [Region.wanted], ?_⟩
            have e9 : b'.tmps[38]?.getD undef = .bool true := by have := (show b'.tmps.getD 38 undef = .bool true from hd ⟨9, .data⟩ (by simp) rfl); simpa using this
            clear hd hk
            go_step
            exact ⟨_, rfl, rfl, Upd.refl _ _⟩
          case inr.inr.inr.inr.inr.inr.inr.inr.inr.inr.inr.inl =>
            refine .inl ⟨by
              have := tmp_some (show b'.tmps.getD 39 undef = .bool true from hd ⟨10, .guard⟩ (by simp) rfl)
              simp [Region.wanted, yielded, this], ?_⟩
            have o1 : b'.tmps[1]?.getD undef = .pointer (some ⟨g, 0, none⟩) := by
              have := hk 1 (fun j oj _ e => (rnb1Dst_ne (by decide) e).elim)
              simpa using this
            clear hd hk
            go_step
            exact ⟨_, rfl, rfl, Upd.refl _ _⟩
          case inr.inr.inr.inr.inr.inr.inr.inr.inr.inr.inr.inr.inl =>
            refine .inl ⟨by
              have := tmp_some (show b'.tmps.getD 39 undef = .bool true from hd ⟨10, .guard⟩ (by simp) rfl)
              simp [Region.wanted, yielded, this], ?_⟩
            have e11 : b'.tmps[40]?.getD undef = .pointer (some ⟨g, 2, none⟩) := by have := (show b'.tmps.getD 40 undef = .pointer (some ⟨g, 2, none⟩) from hd ⟨11, .data⟩ (by simp) rfl); simpa using this
            clear hd hk
            have hc : w1'.cell? ⟨g, 2, none⟩ = some (u64 x.n) := cellAt (HW1.out.at_ HB.out id) 2 _ rfl
            go_step
            exact ⟨_, rfl, rfl, Upd.refl _ _⟩
          case inr.inr.inr.inr.inr.inr.inr.inr.inr.inr.inr.inr.inr.inl =>
            refine .inl ⟨by
              have := tmp_some (show b'.tmps.getD 39 undef = .bool true from hd ⟨10, .guard⟩ (by simp) rfl)
              simp [Region.wanted, yielded, this], ?_⟩
            have e12 : b'.tmps[41]?.getD undef = u64 x.n := by have := (show b'.tmps.getD 41 undef = u64 x.n from hd ⟨12, .data⟩ (by simp) rfl); simpa using this
            clear hd hk
            go_step
            exact ⟨_, rfl, rfl, Upd.refl _ _⟩
          case inr.inr.inr.inr.inr.inr.inr.inr.inr.inr.inr.inr.inr.inr.inl =>
            refine .inl ⟨by simp [Region.wanted], ?_⟩
            have e10 : b'.tmps[39]?.getD undef = .bool true := by have := (show b'.tmps.getD 39 undef = .bool true from hd ⟨10, .data⟩ (by simp) rfl); simpa using this
            have e13 : b'.tmps[42]?.getD undef = .bool ((x.n : Int) == 0) := by have := (show b'.tmps.getD 42 undef = .bool ((x.n : Int) == 0) from hd ⟨13, .data⟩ (by simp) rfl); simpa using this
            clear hd hk
            go_step
            exact ⟨_, rfl, rfl, Upd.refl _ _⟩
          case inr.inr.inr.inr.inr.inr.inr.inr.inr.inr.inr.inr.inr.inr.inr.inl =>
            refine .inl ⟨by simp [Region.wanted], ?_⟩
            have h6 := hd ⟨6, .data⟩ (by simp) rfl
            have h6 : NumRow [x.proc, x.inc, x.k] (b'.tmps.getD 35 undef) w1' := h6
            have h6' := h6
            obtain ⟨a6, c6, q6, -, -, -⟩ := h6'
            have e6 : b'.tmps[35]?.getD undef = .slice a6 3 c6 := by simpa using q6
            rw [show b'.tmps.getD 35 undef = .slice a6 3 c6 from q6] at h6
            clear hd hk
            go_step
            exact ⟨_, rfl, h6, Upd.refl _ _⟩
          case inr.inr.inr.inr.inr.inr.inr.inr.inr.inr.inr.inr.inr.inr.inr.inr =>
            refine .inl ⟨by simp [Region.wanted], ?_⟩
            have e14 : b'.tmps[43]?.getD undef = .bool ((x.n : Int) == 0) := by have := (show b'.tmps.getD 43 undef = .bool ((x.n : Int) == 0) from hd ⟨14, .data⟩ (by simp) rfl); simpa using this
            clear hd hk
            go_step
            exact ⟨_, rfl, rfl, Upd.refl _ _⟩
        · intro v w1' hx1' hp
          have hs := hp 15 (by decide)
          have hb : v 16 = .bool ((x.n : Int) == 0) := hp 16 (by decide)
          have hs : NumRow [x.proc, x.inc, x.k] (v 15) w1' := hs
          have HS := Lib.hid hs
          have HX8 := Lib.hid (HX.out.trans hx1')
          clear hp hx1' hs
          simp only [List.size_toArray, List.length_cons, List.length_nil, Nat.reduceAdd, fillAll, rnb1Dst]
          go_simp
          clear hb
          go_wp2
          go_ret2
          refine ⟨_, by rw [show mayF x = ((x.n : Int) == 0) by rw [HM.out, HP.out, dec_int0]; simp]; rfl, fun _ => ?_, HX8.out⟩
          rw [show numsF x = [x.proc, x.inc, x.k] from HN.out]
          exact HS.out
      · have fp : ((x.doc : Int) == 0) = false := by simp; omega
        have HP := Lib.hid hp
        clear hp
        go_upto_region 6 with (fail)
        clear hc0
        refine wp_region_invH Nothing (fun _ => Ext) 1000 rnb0Dst (rnb0Phi x g) 58 (by kernel_rfl) (by decide) (by decide) rfl (fun i hi => .inl ((by decide : ∀ i, i < 17 → rnb0Dst i < 58) i hi)) (fun i w w' h => ⟨h, fun _ => h⟩) (fun i j v w w' _ _ _ _ h hu => h.ext hu) ?_ ?_
        · intro i o b' w1' ho hx1' hd hk hE hSZ
          have hi : i < 17 := (Array.getElem?_eq_some_iff.1 ho).1
          have his : i = 0 ∨ i = 1 ∨ i = 2 ∨ i = 3 ∨ i = 4 ∨ i = 5 ∨ i = 6 ∨ i = 7 ∨ i = 8 ∨ i = 9 ∨ i = 10 ∨ i = 11 ∨ i = 12 ∨ i = 13 ∨ i = 14 ∨ i = 15 ∨ i = 16 := by omega
          clear hE hSZ
          have HW1 := Lib.hid hx1'
          clear hx1'
          rcases his with rfl | rfl | rfl | rfl | rfl | rfl | rfl | rfl | rfl | rfl | rfl | rfl | rfl | rfl | rfl | rfl | rfl
          all_goals (simp at ho; subst ho)
          case inl =>
            refine .inl ⟨by simp [Region.wanted], ?_⟩
            have o1 : b'.tmps[1]?.getD undef = .pointer (some ⟨g, 0, none⟩) := by
              have := hk 1 (fun j oj _ e => (rnb0Dst_ne (by decide) e).elim)
              simpa using this
            clear hd hk
            go_step
            exact ⟨_, rfl, rfl, Upd.refl _ _⟩
          case inr.inl =>
            refine .inl ⟨by simp [Region.wanted], ?_⟩
            have e0 : b'.tmps[29]?.getD undef = .pointer (some ⟨g, 3, none⟩) := by have := (show b'.tmps.getD 29 undef = .pointer (some ⟨g, 3, none⟩) from hd ⟨0, .data⟩ (by simp) rfl); simpa using this
            clear hd hk
            have hc : w1'.cell? ⟨g, 3, none⟩ = some (u64 x.proc) := cellAt (HW1.out.at_ HB.out id) 3 _ rfl
            go_step
            exact ⟨_, rfl, rfl, Upd.refl _ _⟩
          case inr.inr.inl =>
            refine .inl ⟨by simp [Region.wanted], ?_⟩
            have o1 : b'.tmps[1]?.getD undef = .pointer (some ⟨g, 0, none⟩) := by
              have := hk 1 (fun j oj _ e => (rnb0Dst_ne (by decide) e).elim)
              simpa using this
            clear hd hk
            go_step
            exact ⟨_, rfl, rfl, Upd.refl _ _⟩
          case inr.inr.inr.inl =>
            refine .inl ⟨by simp [Region.wanted], ?_⟩
            have e2 : b'.tmps[31]?.getD undef = .pointer (some ⟨g, 4, none⟩) := by have := (show b'.tmps.getD 31 undef = .pointer (some ⟨g, 4, none⟩) from hd ⟨2, .data⟩ (by simp) rfl); simpa using this
            clear hd hk
            have hc : w1'.cell? ⟨g, 4, none⟩ = some (u64 x.inc) := cellAt (HW1.out.at_ HB.out id) 4 _ rfl
            go_step
            exact ⟨_, rfl, rfl, Upd.refl _ _⟩
          case inr.inr.inr.inr.inl =>
            refine .inl ⟨by simp [Region.wanted], ?_⟩
            have o1 : b'.tmps[1]?.getD undef = .pointer (some ⟨g, 0, none⟩) := by
              have := hk 1 (fun j oj _ e => (rnb0Dst_ne (by decide) e).elim)
              simpa using this
            clear hd hk
            go_step
            exact ⟨_, rfl, rfl, Upd.refl _ _⟩
          case inr.inr.inr.inr.inr.inl =>
            refine .inl ⟨by simp [Region.wanted], ?_⟩
            have e4 : b'.tmps[33]?.getD undef = .pointer (some ⟨g, 5, none⟩) := by have := (show b'.tmps.getD 33 undef = .pointer (some ⟨g, 5, none⟩) from hd ⟨4, .data⟩ (by simp) rfl); simpa using this
            clear hd hk
            have hc : w1'.cell? ⟨g, 5, none⟩ = some (u64 x.k) := cellAt (HW1.out.at_ HB.out id) 5 _ rfl
            go_step
            exact ⟨_, rfl, rfl, Upd.refl _ _⟩
          case inr.inr.inr.inr.inr.inr.inl =>
            refine .inl ⟨by simp [Region.wanted], ?_⟩
            have e1 : b'.tmps[30]?.getD undef = u64 x.proc := by have := (show b'.tmps.getD 30 undef = u64 x.proc from hd ⟨1, .data⟩ (by simp) rfl); simpa using this
            have e3 : b'.tmps[32]?.getD undef = u64 x.inc := by have := (show b'.tmps.getD 32 undef = u64 x.inc from hd ⟨3, .data⟩ (by simp) rfl); simpa using this
            have e5 : b'.tmps[34]?.getD undef = u64 x.k := by have := (show b'.tmps.getD 34 undef = u64 x.k from hd ⟨5, .data⟩ (by simp) rfl); simpa using this
            clear hd hk
            go_step
            exact ⟨_, rfl, (show NumRow [x.proc, x.inc, x.k] _ _ from (row_new w1' ([x.proc, x.inc, x.k].map u64).toArray 22 3 w1'.heap.size (by decide) rfl).mono (fun _ _ => trivial)), (Upd.refl _ _).alloc _⟩
          case inr.inr.inr.inr.inr.inr.inr.inl =>
            refine .inl ⟨by simp [Region.wanted], ?_⟩
            have o1 : b'.tmps[1]?.getD undef = .pointer (some ⟨g, 0, none⟩) := by
              have := hk 1 (fun j oj _ e => (rnb0Dst_ne (by decide) e).elim)
              simpa using this
            clear hd hk
            go_step
            exact ⟨_, rfl, rfl, Upd.refl _ _⟩
          case inr.inr.inr.inr.inr.inr.inr.inr.inl =>
            refine .inl ⟨by simp [Region.wanted], ?_⟩
            have e7 : b'.tmps[36]?.getD undef = .pointer (some ⟨g, 1, none⟩) := by have := (show b'.tmps.getD 36 undef = .pointer (some ⟨g, 1, none⟩) from hd ⟨7, .data⟩ (by simp) rfl); simpa using this
            clear hd hk
            have hc : w1'.cell? ⟨g, 1, none⟩ = some (u64 x.doc) := cellAt (HW1.out.at_ HB.out id) 1 _ rfl
            go_step
            exact ⟨_, rfl, rfl, Upd.refl _ _⟩
          case inr.inr.inr.inr.inr.inr.inr.inr.inr.inl =>
            refine .inl ⟨by simp [Region.wanted], ?_⟩
            have e8 : b'.tmps[37]?.getD undef = u64 x.doc := by have := (show b'.tmps.getD 37 undef = u64 x.doc from hd ⟨8, .data⟩ (by simp) rfl); simpa using this
            clear hd hk
            go_step
            exact ⟨_, rfl, rfl, Upd.refl _ _⟩
          case inr.inr.inr.inr.inr.inr.inr.inr.inr.inr.inl =>
            refine .inl ⟨by simp [Region.wanted], ?_⟩
            have e9 : b'.tmps[38]?.getD undef = .bool false := by have := (show b'.tmps.getD 38 undef = .bool false from hd ⟨9, .data⟩ (by simp) rfl); simpa using this
            clear hd hk
            go_step
            exact ⟨_, rfl, rfl, Upd.refl _ _⟩
          case inr.inr.inr.inr.inr.inr.inr.inr.inr.inr.inr.inl =>
            refine .inr ⟨by
              have := tmp_some (show b'.tmps.getD 39 undef = .bool false from hd ⟨10, .guard⟩ (by simp) rfl)
              simp [Region.wanted, yielded, this], rfl, rfl, Upd.refl _ _⟩
          case inr.inr.inr.inr.inr.inr.inr.inr.inr.inr.inr.inr.inl =>
            refine .inr ⟨by
              have := tmp_some (show b'.tmps.getD 39 undef = .bool false from hd ⟨10, .guard⟩ (by simp) rfl)
              simp [Region.wanted, yielded, this], rfl, rfl, Upd.refl _ _⟩
          case inr.inr.inr.inr.inr.inr.inr.inr.inr.inr.inr.inr.inr.inl =>
            refine .inr ⟨by
              have := tmp_some (show b'.tmps.getD 39 undef = .bool false from hd ⟨10, .guard⟩ (by simp) rfl)
              simp [Region.wanted, yielded, this], rfl, rfl, Upd.refl _ _⟩
          case inr.inr.inr.inr.inr.inr.inr.inr.inr.inr.inr.inr.inr.inr.inl =>
            refine .inl ⟨by simp [Region.wanted], ?_⟩
            have e10 : b'.tmps[39]?.getD undef = .bool false := by have := (show b'.tmps.getD 39 undef = .bool false from hd ⟨10, .data⟩ (by simp) rfl); simpa using this
            have e13 : b'.tmps[42]?.getD undef = undef := by have := (show b'.tmps.getD 42 undef = undef from hd ⟨13, .data⟩ (by simp) rfl); simpa using this
            clear hd hk
            go_step
            exact ⟨_, rfl, rfl, Upd.refl _ _⟩
          case inr.inr.inr.inr.inr.inr.inr.inr.inr.inr.inr.inr.inr.inr.inr.inl =>
            refine .inl ⟨by simp [Region.wanted], ?_⟩
            have h6 := hd ⟨6, .data⟩ (by simp) rfl
            have h6 : NumRow [x.proc, x.inc, x.k] (b'.tmps.getD 35 undef) w1' := h6
            have h6' := h6
            obtain ⟨a6, c6, q6, -, -, -⟩ := h6'
            have e6 : b'.tmps[35]?.getD undef = .slice a6 3 c6 := by simpa using q6
            rw [show b'.tmps.getD 35 undef = .slice a6 3 c6 from q6] at h6
            clear hd hk
            go_step
            exact ⟨_, rfl, h6, Upd.refl _ _⟩
          case inr.inr.inr.inr.inr.inr.inr.inr.inr.inr.inr.inr.inr.inr.inr.inr =>
            refine .inl ⟨by simp [Region.wanted], ?_⟩
            have e14 : b'.tmps[43]?.getD undef = .bool false := by have := (show b'.tmps.getD 43 undef = .bool false from hd ⟨14, .data⟩ (by simp) rfl); simpa using this
            clear hd hk
            go_step
            exact ⟨_, rfl, rfl, Upd.refl _ _⟩
        · intro v w1' hx1' hp
          have hs := hp 15 (by decide)
          have hb : v 16 = .bool false := hp 16 (by decide)
          have hs : NumRow [x.proc, x.inc, x.k] (v 15) w1' := hs
          have HS := Lib.hid hs
          have HX8 := Lib.hid (HX.out.trans hx1')
          clear hp hx1' hs
          simp only [List.size_toArray, List.length_cons, List.length_nil, Nat.reduceAdd, fillAll, rnb0Dst]
          go_simp
          clear hb
          go_wp2
          go_ret2
          refine ⟨_, by rw [show mayF x = false by rw [HM.out, decide_eq_false HP.out]; simp]; rfl, fun _ => ?_, HX8.out⟩
          rw [show numsF x = [x.proc, x.inc, x.k] from HN.out]
          exact HS.out
    · have k3 : ((x.kind : Int) == 3) = false := by simp; omega
      by_cases h4 : x.kind = 4
      · have hm := mayF_4 h4
        have hn : numsF x = [x.doc, x.proc, x.inc, x.k] := by unfold numsF; rw [if_neg h12, if_neg h3]
        have k4 : ((x.kind : Int) == 4) = true := by simp; omega
        have HM := Lib.hid hm
        have HN := Lib.hid hn
        clear h12 h3 h4 hm hn
        go_upto_region 8 with (fail)
        clear hc0
        refine wp_region_invH Nothing (fun _ => Ext) 1000 rncDst (rncPhi x g) 58 (by kernel_rfl) (by decide) (by decide) rfl (fun i hi => .inl ((by decide : ∀ i, i < 14 → rncDst i < 58) i hi)) (fun i w w' h => ⟨h, fun _ => h⟩) (fun i j v w w' _ _ _ _ h hu => h.ext hu) ?_ ?_
        · intro i o b' w1' ho hx1' hd hk hE hSZ
          have hi : i < 14 := (Array.getElem?_eq_some_iff.1 ho).1
          have his : i = 0 ∨ i = 1 ∨ i = 2 ∨ i = 3 ∨ i = 4 ∨ i = 5 ∨ i = 6 ∨ i = 7 ∨ i = 8 ∨ i = 9 ∨ i = 10 ∨ i = 11 ∨ i = 12 ∨ i = 13 := by omega
          clear hE hSZ
          have HW1 := Lib.hid hx1'
          clear hx1'
          rcases his with rfl | rfl | rfl | rfl | rfl | rfl | rfl | rfl | rfl | rfl | rfl | rfl | rfl | rfl
          all_goals (simp at ho; subst ho)
          case inl =>
            refine .inl ⟨by simp [Region.wanted], ?_⟩
            have o1 : b'.tmps[1]?.getD undef = .pointer (some ⟨g, 0, none⟩) := by
              have := hk 1 (fun j oj _ e => (rncDst_ne (by decide) e).elim)
              simpa using this
            clear hd hk
            go_step
            exact ⟨_, rfl, rfl, Upd.refl _ _⟩
          case inr.inl =>
            refine .inl ⟨by simp [Region.wanted], ?_⟩
            have e0 : b'.tmps[46]?.getD undef = .pointer (some ⟨g, 1, none⟩) := by have := (show b'.tmps.getD 46 undef = .pointer (some ⟨g, 1, none⟩) from hd ⟨0, .data⟩ (by simp) rfl); simpa using this
            clear hd hk
            have hc : w1'.cell? ⟨g, 1, none⟩ = some (u64 x.doc) := cellAt (HW1.out.at_ HB.out id) 1 _ rfl
            go_step
            exact ⟨_, rfl, rfl, Upd.refl _ _⟩
          case inr.inr.inl =>
            refine .inl ⟨by simp [Region.wanted], ?_⟩
            have o1 : b'.tmps[1]?.getD undef = .pointer (some ⟨g, 0, none⟩) := by
              have := hk 1 (fun j oj _ e => (rncDst_ne (by decide) e).elim)
              simpa using this
            clear hd hk
            go_step
            exact ⟨_, rfl, rfl, Upd.refl _ _⟩
          case inr.inr.inr.inl =>
            refine .inl ⟨by simp [Region.wanted], ?_⟩
            have e2 : b'.tmps[48]?.getD undef = .pointer (some ⟨g, 3, none⟩) := by have := (show b'.tmps.getD 48 undef = .pointer (some ⟨g, 3, none⟩) from hd ⟨2, .data⟩ (by simp) rfl); simpa using this
            clear hd hk
            have hc : w1'.cell? ⟨g, 3, none⟩ = some (u64 x.proc) := cellAt (HW1.out.at_ HB.out id) 3 _ rfl
            go_step
            exact ⟨_, rfl, rfl, Upd.refl _ _⟩
          case inr.inr.inr.inr.inl =>
            refine .inl ⟨by simp [Region.wanted], ?_⟩
            have o1 : b'.tmps[1]?.getD undef = .pointer (some ⟨g, 0, none⟩) := by
              have := hk 1 (fun j oj _ e => (rncDst_ne (by decide) e).elim)
              simpa using this
            clear hd hk
            go_step
            exact ⟨_, rfl, rfl, Upd.refl _ _⟩
          case inr.inr.inr.inr.inr.inl =>
            refine .inl ⟨by simp [Region.wanted], ?_⟩
            have e4 : b'.tmps[50]?.getD undef = .pointer (some ⟨g, 4, none⟩) := by have := (show b'.tmps.getD 50 undef = .pointer (some ⟨g, 4, none⟩) from hd ⟨4, .data⟩ (by simp) rfl); simpa using this
            clear hd hk
            have hc : w1'.cell? ⟨g, 4, none⟩ = some (u64 x.inc) := cellAt (HW1.out.at_ HB.out id) 4 _ rfl
            go_step
            exact ⟨_, rfl, rfl, Upd.refl _ _⟩
          case inr.inr.inr.inr.inr.inr.inl =>
            refine .inl ⟨by simp [Region.wanted], ?_⟩
            have o1 : b'.tmps[1]?.getD undef = .pointer (some ⟨g, 0, none⟩) := by
              have := hk 1 (fun j oj _ e => (rncDst_ne (by decide) e).elim)
              simpa using this
            clear hd hk
            go_step
            exact ⟨_, rfl, rfl, Upd.refl _ _⟩
          case inr.inr.inr.inr.inr.inr.inr.inl =>
            refine .inl ⟨by simp [Region.wanted], ?_⟩
            have e6 : b'.tmps[52]?.getD undef = .pointer (some ⟨g, 5, none⟩) := by have := (show b'.tmps.getD 52 undef = .pointer (some ⟨g, 5, none⟩) from hd ⟨6, .data⟩ (by simp) rfl); simpa using this
            clear hd hk
            have hc : w1'.cell? ⟨g, 5, none⟩ = some (u64 x.k) := cellAt (HW1.out.at_ HB.out id) 5 _ rfl
            go_step
            exact ⟨_, rfl, rfl, Upd.refl _ _⟩
          case inr.inr.inr.inr.inr.inr.inr.inr.inl =>
            refine .inl ⟨by simp [Region.wanted], ?_⟩
            have e1 : b'.tmps[47]?.getD undef = u64 x.doc := by have := (show b'.tmps.getD 47 undef = u64 x.doc from hd ⟨1, .data⟩ (by simp) rfl); simpa using this
            have e3 : b'.tmps[49]?.getD undef = u64 x.proc := by have := (show b'.tmps.getD 49 undef = u64 x.proc from hd ⟨3, .data⟩ (by simp) rfl); simpa using this
            have e5 : b'.tmps[51]?.getD undef = u64 x.inc := by have := (show b'.tmps.getD 51 undef = u64 x.inc from hd ⟨5, .data⟩ (by simp) rfl); simpa using this
            have e7 : b'.tmps[53]?.getD undef = u64 x.k := by have := (show b'.tmps.getD 53 undef = u64 x.k from hd ⟨7, .data⟩ (by simp) rfl); simpa using this
            clear hd hk
            go_step
            exact ⟨_, rfl, (show NumRow [x.doc, x.proc, x.inc, x.k] _ _ from (row_new w1' ([x.doc, x.proc, x.inc, x.k].map u64).toArray 22 4 w1'.heap.size (by decide) rfl).mono (fun _ _ => trivial)), (Upd.refl _ _).alloc _⟩
          case inr.inr.inr.inr.inr.inr.inr.inr.inr.inl =>
            refine .inl ⟨by simp [Region.wanted], ?_⟩
            have o1 : b'.tmps[1]?.getD undef = .pointer (some ⟨g, 0, none⟩) := by
              have := hk 1 (fun j oj _ e => (rncDst_ne (by decide) e).elim)
              simpa using this
            clear hd hk
            go_step
            exact ⟨_, rfl, rfl, Upd.refl _ _⟩
          case inr.inr.inr.inr.inr.inr.inr.inr.inr.inr.inl =>
            refine .inl ⟨by simp [Region.wanted], ?_⟩
            have e9 : b'.tmps[55]?.getD undef = .pointer (some ⟨g, 2, none⟩) := by have := (show b'.tmps.getD 55 undef = .pointer (some ⟨g, 2, none⟩) from hd ⟨9, .data⟩ (by simp) rfl); simpa using this
            clear hd hk
            have hc : w1'.cell? ⟨g, 2, none⟩ = some (u64 x.n) := cellAt (HW1.out.at_ HB.out id) 2 _ rfl
            go_step
            exact ⟨_, rfl, rfl, Upd.refl _ _⟩
          case inr.inr.inr.inr.inr.inr.inr.inr.inr.inr.inr.inl =>
            refine .inl ⟨by simp [Region.wanted], ?_⟩
            have e10 : b'.tmps[56]?.getD undef = u64 x.n := by have := (show b'.tmps.getD 56 undef = u64 x.n from hd ⟨10, .data⟩ (by simp) rfl); simpa using this
            clear hd hk
            go_step
            exact ⟨_, rfl, rfl, Upd.refl _ _⟩
          case inr.inr.inr.inr.inr.inr.inr.inr.inr.inr.inr.inr.inl =>
            refine .inl ⟨by simp [Region.wanted], ?_⟩
            have h8 := hd ⟨8, .data⟩ (by simp) rfl
            have h8 : NumRow [x.doc, x.proc, x.inc, x.k] (b'.tmps.getD 54 undef) w1' := h8
            have h8' := h8
            obtain ⟨a8, c8, q8, -, -, -⟩ := h8'
            have e8 : b'.tmps[54]?.getD undef = .slice a8 4 c8 := by simpa using q8
            rw [show b'.tmps.getD 54 undef = .slice a8 4 c8 from q8] at h8
            clear hd hk
            go_step
            exact ⟨_, rfl, h8, Upd.refl _ _⟩
          case inr.inr.inr.inr.inr.inr.inr.inr.inr.inr.inr.inr.inr =>
            refine .inl ⟨by simp [Region.wanted], ?_⟩
            have e11 : b'.tmps[57]?.getD undef = .bool ((x.n : Int) == 0) := by have := (show b'.tmps.getD 57 undef = .bool ((x.n : Int) == 0) from hd ⟨11, .data⟩ (by simp) rfl); simpa using this
            clear hd hk
            go_step
            exact ⟨_, rfl, rfl, Upd.refl _ _⟩
        · intro v w1' hx1' hp
          have hs := hp 12 (by decide)
          have hb : v 13 = .bool ((x.n : Int) == 0) := hp 13 (by decide)
          have hs : NumRow [x.doc, x.proc, x.inc, x.k] (v 12) w1' := hs
          have HS := Lib.hid hs
          have HX8 := Lib.hid (HX.out.trans hx1')
          clear hp hx1' hs
          simp only [List.size_toArray, List.length_cons, List.length_nil, Nat.reduceAdd, fillAll, rncDst]
          go_simp
          clear hb
          go_wp2
          go_ret2
          refine ⟨_, by rw [show mayF x = ((x.n : Int) == 0) by rw [HM.out, dec_int0]]; rfl, fun _ => ?_, HX8.out⟩
          rw [show numsF x = [x.doc, x.proc, x.inc, x.k] from HN.out]
          exact HS.out
      · have k4 : ((x.kind : Int) == 4) = false := by simp; omega
        have hm : mayF x = false := by
          unfold mayF; simp only [Bool.and_eq_false_iff, decide_eq_false_iff_not]; omega
        have HM := Lib.hid hm
        clear h12 h3 h4 hm
        go_wp2
        go_ret2
        exact ⟨_, by rw [HM.out]; rfl, fun h => (by rw [HM.out] at h; cases h), HX.out⟩
theorem Tryz.rnmT (x : Nm) : StructT Tryz.prog 70 (nmCells x).size := ⟨_, Tryz.underlying70, rfl, by kernel_rfl⟩
end Go.Proofs.YtfpioijfocmfcaaGreatDoor
namespace Go.Proofs.YtfpioijfocmfcaaGreatDoor
open Go.RowKit

/-- A name with its first k numbers. -/
def accF (x : Nm) (k : Nat) : List UInt8 := headF x.kind :: (((numsF x).take k).map (fun u => 45 :: Lib.decDigits u)).flatten
theorem accF_snoc {x : Nm} {k : Nat} (hk : k < (numsF x).length) : accF x (k + 1) = accF x k ++ 45 :: Lib.decDigits ((numsF x)[k]) := by
  unfold accF
  rw [List.take_succ_eq_append_getElem hk, List.map_append, List.flatten_append]
  simp
theorem join_flat (h : List UInt8) : ∀ l : List (List UInt8), Lib.join (h :: l) [45] = h ++ (l.map (fun u => 45 :: u)).flatten
  | [] => by rw [join_one]; simp
  | v :: r => by
    rw [join_cons, join_flat v r]; simp
theorem accF_all {x : Nm} (hm : mayF x = true) : accF x (numsF x).length = putF x := by
  unfold putF
  rw [if_pos hm]
  unfold wordsF accF
  rw [join_flat, List.take_length, List.map_map]; rfl
theorem accF_len {x : Nm} (hw : WfNm x) {k : Nat} (hk : k ≤ 4) : (accF x k).length ≤ 1 + 21 * k := by
  unfold accF
  have h : ∀ l : List Nat, (∀ u ∈ l, u < 18446744073709551616) → ((l.map (fun u => 45 :: Lib.decDigits u)).flatten).length ≤ 21 * l.length := by
    intro l
    induction l with
    | nil => intro _; simp
    | cons u r ih =>
      intro h
      have h1 := ih (fun v hv => h v (by simp [hv]))
      have h2 := dec_len (h u (by simp))
      simp only [List.map_cons, List.flatten_cons, List.length_append, List.length_cons] at h1 ⊢
      omega
  have h1 := h ((numsF x).take k) (fun u hu => numsF_lt hw u (List.mem_of_mem_take hu))
  have h2 : ((numsF x).take k).length ≤ k := List.length_take_le _ _
  simp only [List.length_cons]
  omega
theorem five_heads (w : World) (n : Nat) (hn : n = w.heap.size) {k : Nat} (h1 : 1 ≤ k) (h2 : k ≤ 4) : (w.alloc (.cells #[.string ⟨#[]⟩, .string ⟨#[115]⟩, .string ⟨#[98]⟩, .string ⟨#[116]⟩, .string ⟨#[106]⟩] 9)).cell? ⟨n, k, none⟩ = some (str [headF k]) := by
  subst hn
  exact cellAt (newAt w _) k _ (headsV_at h1 h2)
set_option maxRecDepth 100000 in
set_option maxHeartbeats 2000000 in
theorem rput_any (w : World) (x : Nm) (hw : WfNm x) :
    Calls Tryz.prog 53 #[.agg (nmCells x)] w fun e w' => e = .returned (str (putF x)) ∧ Ext w w' := by
  have HB := Lib.hid (newAt w (.cells (nmCells x) 70))
  have HX := Lib.hid (show Ext w (w.alloc (.cells (nmCells x) 70)) from (Upd.refl _ _).alloc _)
  have HW := Lib.hid hw
  clear hw
  go_enter Tryz.func53, Tryz.ntmps53
  go_wp2_with (first | (refine wpList_load_blk rfl _ _ rfl rfl HB.out (Tryz.rnmT x) ?_) | (go_at_call 77; fail))
  refine (rnums_any _ x).mono ?_
  rintro e w1 ⟨v, rfl, hrow, hx1⟩
  have HX1 := Lib.hid (HX.out.trans hx1)
  have hb1 := hx1.at_ HB.out id
  have HB1 := Lib.hid hb1
  clear hx1
  cases hm : mayF x with
  | false =>
    have HM := Lib.hid hm
    clear hm hrow hb1
    go_wp2
    go_ret
    exact ⟨by unfold putF; rw [if_neg (by rw [HM.out]; decide)]; rfl, HX1.out⟩
  | true =>
    have hrow := hrow hm
    obtain ⟨k1, k2, -⟩ := mayF_iff.1 hm
    obtain ⟨a, c, rfl, -, hcm, -⟩ := id hrow
    have HM := Lib.hid hm
    have HROW := Lib.hid hrow
    have hnl := numsF_length (x := x)
    have hcl := countF_le x.kind
    have hc0 := fun w2 (h : Ext w1 w2) => cellAt (h.at_ hb1 id) 0 (.int .u8 x.kind) rfl
    have hc1 := hc0 _ ((Upd.refl Nothing w1).alloc (.cells #[.string ⟨#[]⟩, .string ⟨#[115]⟩, .string ⟨#[98]⟩, .string ⟨#[116]⟩, .string ⟨#[106]⟩] 9))
    have hh := five_heads w1 w1.heap.size rfl k1 k2
    obtain ⟨C, hC⟩ : ∃ C, C = (numsF x).length := ⟨_, rfl⟩
    rw [← hC] at hrow hnl ⊢
    have hC4 : C ≤ 4 := by omega
    have HC := Lib.hid hC
    have hk5 : (x.kind : Int) < 5 := by omega
    clear hm hrow hb1 hc0 hC hnl hcl
    unfold maxLen at hcm
    go_wp2
    obtain ⟨w2, hw2⟩ : ∃ u, u = w1.alloc (.cells #[.string ⟨#[]⟩, .string ⟨#[115]⟩, .string ⟨#[98]⟩, .string ⟨#[116]⟩, .string ⟨#[106]⟩] 9) := ⟨_, rfl⟩
    have hx2 : Ext w1 w2 := by rw [hw2]; exact (Upd.refl _ _).alloc _
    rw [← hw2]
    have HX2 := Lib.hid (HX1.out.trans hx2)
    have HROW2 := Lib.hid (HROW.out.ext hx2)
    clear hc1 hh hw2 hx2
    go_loopw [5, 6] (fun v i wr => ∃ k : Nat, k ≤ C ∧ i = .int .i64 k ∧ v = str (accF x k) ∧ Ext w2 wr) (fun _ i _ => C - (intOf i).toNat)
    case atStart => exact ⟨0, Nat.zero_le _, rfl, rfl, Upd.refl _ _⟩
    case round =>
      obtain ⟨k, hk, rfl, rfl, hx⟩ := hrel
      have HX3 := Lib.hid hx
      clear hx
      by_cases hlt : k < C
      · have hkn : k < (numsF x).length := by have := HC.out; omega
        have hsn := accF_snoc hkn
        have hu := numsF_lt HW.out _ (List.getElem_mem hkn)
        obtain ⟨b1, o1, c1, e1, -, -, -, hq1⟩ := (HROW2.out.ext HX3.out).addr (by omega)
        have hcell := hq1 k (u64 ((numsF x)[k])) (by simp [hkn])
        have HC' := HC.out
        rw [← HC'] at e1
        cases e1
        obtain ⟨u, hue⟩ : ∃ u, u = (numsF x)[k] := ⟨_, rfl⟩
        rw [← hue] at hcell hu hsn
        have hal := accF_len HW.out (k := k) (by omega)
        obtain ⟨A, hA⟩ : ∃ A, A = accF x k := ⟨_, rfl⟩
        rw [← hA] at hsn hal ⊢
        have HSN := Lib.hid hsn
        have hal' : A.length ≤ 85 := by omega
        clear hsn hq1 hue hkn hA hal HC'
        go_wp2_with (go_at_call 76; fail)
        refine (digits_any _ u hu).mono ?_
        rintro e w5 ⟨rfl, hx5⟩
        have HX5 := Lib.hid (HX3.out.trans hx5)
        have hdl := dec_len hu
        obtain ⟨D, hD⟩ : ∃ D, D = Lib.decDigits u := ⟨_, rfl⟩
        rw [← hD] at hdl ⊢
        have HD := Lib.hid hD
        clear hx5 hD hcell
        go_wp2
        go_roundw
        case rel =>
          refine ⟨k + 1, by omega, by go_num, ?_, HX5.out⟩
          rw [HSN.out, ← HD.out]
          show Value.string _ = _
          congr 1
          first | done | (apply ByteArray.ext; simp)
        case measure => simp [intOf]; omega
      · have hkC : k = C := by omega
        go_wp2
        go_ret
        exact ⟨by rw [hkC, HC.out, accF_all HM.out]; rfl, HX2.out.trans HX3.out⟩
end Go.Proofs.YtfpioijfocmfcaaGreatDoor
namespace Go.Proofs.YtfpioijfocmfcaaGreatDoor
open Go.RowKit

theorem wp_buildStructs {P : Program} {o : Oper} {a : Act} {w : World} {K : Act → World → Prop} {Q : Exit → Act → World → Prop} (t e : TypeId) (len s bytes : Nat) (parts : Array (Nat × Operand)) (ho : o.op = .buildSlice t len parts) (T : SliceT P t e s bytes)
    (vs : List Value) (hlen : vs.length = len) (hpos : 0 < len) (hsmall : len * s ≤ 2 ^ 24) (h1 : ∀ v ∈ vs, v.cells.size = s) (hparts : (parts.map fun (i, x) => (i, a.eval x)).toList = (vs.zipIdx 0).map fun x => (x.2, x.1))
    (h : K (a.put o.dst (.slice (some ⟨w.heap.size, 0, none⟩) len len)) (w.alloc (.cells (vs.flatMap fun v => v.cells.toList).toArray e))) : o.wp P a w K Q := by
  obtain ⟨hu, ⟨i, z, hi, hz, h2, h3, h4⟩, hp⟩ := T
  subst h2
  have hpp : 0 < len * i.size := Nat.mul_pos hpos hp
  refine wp_buildSlice t e len parts ho _ i z hu hi hz (by omega) (by omega) ?_ h
  rw [hparts]
  exact Great.fill_whole hp vs _ h1 (by simp [hlen])
theorem Tryz.rnamesT : SliceT Tryz.prog 99 70 6 48 := sliceT_of Tryz.underlying99 (by kernel_rfl) (by decide)
def allCells (l : List Nat) : List Value := (nmCells (ofF 1 l)).toList ++ ((nmCells (ofF 2 l)).toList ++ ((nmCells (ofF 3 l)).toList ++ (nmCells (ofF 4 l)).toList))
abbrev AllRow (l : List Nat) (v : Value) (w : World) : Prop := Row (fun _ => True) w v 4 (allCells l)
theorem AllRow.ext {l : List Nat} {v : Value} {w w' : World} (h : AllRow l v w) (hu : Ext w w') : AllRow l v w' := Row.ext h hu
theorem all_row (w : World) (l : List Nat) : AllRow l (.slice (some ⟨w.heap.size, 0, none⟩) 4 4) (w.alloc (.cells (allCells l).toArray 70)) := by
  have := (row_new w (allCells l).toArray 70 4 w.heap.size (by decide) rfl).mono (T := fun _ => True) (fun _ _ => trivial)
  simpa using this
theorem Tryz.numsT : SliceT Tryz.prog 49 22 1 8 := sliceT_of Tryz.underlying49 (by kernel_rfl) (by decide)
theorem getD_zeros (dn : List Nat) (i : Nat) : (dn ++ [0, 0]).getD i 0 = dn.getD i 0 := by
  simp only [List.getD_eq_getElem?_getD]
  by_cases h : i < dn.length
  · rw [List.getElem?_append_left h]
  · rw [List.getElem?_append_right (by omega), List.getElem?_eq_none (l := dn) (by omega)]
    have : i - dn.length = 0 ∨ i - dn.length = 1 ∨ 2 ≤ i - dn.length := by omega
    rcases this with e | e | e
    · rw [e]; rfl
    · rw [e]; rfl
    · rw [List.getElem?_eq_none (by simpa using e)]
theorem ofF_zeros (k : Nat) (dn : List Nat) : ofF k (dn ++ [0, 0]) = ofF k dn := by
  unfold ofF; simp only [getD_zeros]
theorem ofF_wf {k : Nat} (hk : k ≤ 4) {l : List Nat} (h : ∀ u ∈ l, u < 18446744073709551616) : WfNm (ofF k l) := by
  have hg : ∀ i, l.getD i 0 < 18446744073709551616 := fun i => by
    rw [List.getD_eq_getElem?_getD]
    by_cases hi : i < l.length
    · rw [List.getElem?_eq_getElem hi]; exact h _ (List.getElem_mem hi)
    · rw [List.getElem?_eq_none (by omega)]; decide
  have z : (0 : Nat) < 18446744073709551616 := by decide
  unfold ofF
  split
  · exact ⟨by show k < 256; omega, hg 0, hg 1, z, z, z⟩
  · split
    · exact ⟨by show k < 256; omega, z, z, hg 0, hg 1, hg 2⟩
    · exact ⟨by show k < 256; omega, hg 0, z, hg 1, hg 2, hg 3⟩
theorem parse_short {s : List UInt8} {w0 : List UInt8} {ws : List (List UInt8)} (h : splitF s = w0 :: ws) (hl : ws.length < 2 ∨ 4 < ws.length) : parseF s = (Nm.zero, false) := by
  unfold parseF; rw [h]
  rcases parseW_cases w0 ws with ⟨l, -, -, h2, -⟩ | hp
  · have := countF_le (kindF w0); omega
  · exact hp
theorem parse_nums {s : List UInt8} {w0 : List UInt8} {ws : List (List UInt8)} (h : splitF s = w0 :: ws) (hn : numsP ws = none) : parseF s = (Nm.zero, false) := by
  unfold parseF; rw [h]
  rcases parseW_cases w0 ws with ⟨l, h1, -⟩ | hp
  · rw [hn] at h1; cases h1
  · exact hp
theorem put_ne {x : Nm} {s : List UInt8} (h : putF x = s) (hs : s ≠ []) : mayF x = true := by
  cases hm : mayF x with
  | true => rfl
  | false => unfold putF at h; rw [hm] at h; exact absurd h.symm hs
theorem parse_try {s : List UInt8} {w0 : List UInt8} {ws : List (List UInt8)} (h : splitF s = w0 :: ws) {dn : List Nat} (hn : numsP ws = some dn) (hno : ∀ k, 1 ≤ k → k ≤ 4 → putF (ofF k dn) ≠ s) : parseF s = (Nm.zero, false) := by
  cases hp : (parseF s).2 with
  | false => exact Prod.ext (parse_bad hp) hp
  | true =>
    obtain ⟨h1, h2, h3⟩ := put_parse hp
    obtain ⟨k1, k2, k3⟩ := mayF_iff.1 h1
    have hw := split_put h1
    rw [h3, h] at hw
    unfold wordsF at hw
    injection hw with _ hw
    rw [hw, numsP_digits _ (numsF_lt h2)] at hn
    cases hn
    exact absurd (by rw [k3]; exact h3) (hno _ k1 k2)
theorem numsP_length : ∀ {ws : List (List UInt8)} {l : List Nat}, numsP ws = some l → l.length = ws.length := fun h => by
  have := (numsP_some h).1
  rw [← this]; simp
def npVal (l : List Nat) (gl m cap : Nat) : Nat → Value
  | 0 => .slice (some ⟨gl, 0, none⟩) m cap
  | 1 => .pointer (some ⟨gl, 0, none⟩)
  | 2 => u64 (l.getD 0 0)
  | 3 => .slice (some ⟨gl, 0, none⟩) m cap
  | 4 => .pointer (some ⟨gl, 1, none⟩)
  | 5 => u64 (l.getD 1 0)
  | 6 => .agg (nmCells (ofF 1 l))
  | 7 => .slice (some ⟨gl, 0, none⟩) m cap
  | 8 => .pointer (some ⟨gl, 0, none⟩)
  | 9 => u64 (l.getD 0 0)
  | 10 => .slice (some ⟨gl, 0, none⟩) m cap
  | 11 => .pointer (some ⟨gl, 1, none⟩)
  | 12 => u64 (l.getD 1 0)
  | 13 => .agg (nmCells (ofF 2 l))
  | 14 => .slice (some ⟨gl, 0, none⟩) m cap
  | 15 => .pointer (some ⟨gl, 0, none⟩)
  | 16 => u64 (l.getD 0 0)
  | 17 => .slice (some ⟨gl, 0, none⟩) m cap
  | 18 => .pointer (some ⟨gl, 1, none⟩)
  | 19 => u64 (l.getD 1 0)
  | 20 => .slice (some ⟨gl, 0, none⟩) m cap
  | 21 => .pointer (some ⟨gl, 2, none⟩)
  | 22 => u64 (l.getD 2 0)
  | 23 => .agg (nmCells (ofF 3 l))
  | 24 => .slice (some ⟨gl, 0, none⟩) m cap
  | 25 => .pointer (some ⟨gl, 0, none⟩)
  | 26 => u64 (l.getD 0 0)
  | 27 => .slice (some ⟨gl, 0, none⟩) m cap
  | 28 => .pointer (some ⟨gl, 1, none⟩)
  | 29 => u64 (l.getD 1 0)
  | 30 => .slice (some ⟨gl, 0, none⟩) m cap
  | 31 => .pointer (some ⟨gl, 2, none⟩)
  | 32 => u64 (l.getD 2 0)
  | 33 => .slice (some ⟨gl, 0, none⟩) m cap
  | 34 => .pointer (some ⟨gl, 3, none⟩)
  | 35 => u64 (l.getD 3 0)
  | 36 => .agg (nmCells (ofF 4 l))
  | _ => undef
def npDst (i : Nat) : Tmp := if i = 38 then 9 else 46 + i
theorem npDst_ne {j t : Nat} (ht : t = 5) (e : npDst j = t) : False := by
  unfold npDst at e
  have e : (if j = 38 then 9 else 46 + j : Nat) = t := e
  rcases ht with rfl <;> (repeat' (split at e)) <;> omega
def npPhi (l : List Nat) (gl m cap : Nat) (i : Nat) (v : Value) (w : World) : Prop := if i = 37 then AllRow l v w else if i = 38 then AllRow l v w else v = npVal l gl m cap i
theorem npPhi.ext {l : List Nat} {gl m cap : Nat} {i : Nat} {v : Value} {w w' : World} (h : npPhi l gl m cap i v w) (hu : Ext w w') : npPhi l gl m cap i v w' := by
  unfold npPhi at h ⊢
  by_cases c : i = 37
  · rw [if_pos c] at h ⊢; exact h.ext hu
  · rw [if_neg c] at h ⊢
    by_cases c : i = 38
    · rw [if_pos c] at h ⊢; exact h.ext hu
    · rw [if_neg c] at h ⊢
      exact h
theorem all_at {l : List Nat} {w : World} {v : Value} (h : AllRow l v w) {k : Nat} (hk : k < 4) : ∃ b o c, v = .slice (some ⟨b, o, none⟩) 4 c ∧ 4 ≤ c ∧ c ≤ maxLen ∧ w.rangeAt b (o + k * 6) (nmCells (ofF (k + 1) l)).toList := by
  obtain ⟨b, o, c, e, -, h1, h2, hq⟩ := h.addr (by decide)
  refine ⟨b, o, c, e, h1, h2, fun j u hj => ?_⟩
  have hj6 : j < 6 := by have := (List.getElem?_eq_some_iff.1 hj).1; simpa [nmCells] using this
  rw [Nat.add_assoc]
  apply hq
  have e : k = 0 ∨ k = 1 ∨ k = 2 ∨ k = 3 := by omega
  have e2 : j = 0 ∨ j = 1 ∨ j = 2 ∨ j = 3 ∨ j = 4 ∨ j = 5 := by omega
  rcases e with rfl | rfl | rfl | rfl <;> rcases e2 with rfl | rfl | rfl | rfl | rfl | rfl <;> exact hj
set_option maxRecDepth 100000 in
set_option maxHeartbeats 4000000 in
theorem rparse_any (w : World) (s : List UInt8) (hs : s.length ≤ 1000000) :
    Calls Tryz.prog 31 #[str s] w (ParsePost s w) := by
  obtain ⟨w0, ws, hsp⟩ := splitF_cons s
  have hlb : ws.length ≤ 1000000 := by have := splitF_len s; rw [hsp] at this; simp at this; omega
  have HSP := Lib.hid hsp
  have HLB := Lib.hid hlb
  have HS := Lib.hid hs
  have hx0 : Ext w (w.alloc (.cells (nmCells Nm.zero) 70)) := (Upd.refl _ _).alloc _
  have hb0 := newAt w (.cells (nmCells Nm.zero) 70)
  obtain ⟨wa, hwa⟩ : ∃ u, u = w.alloc (.cells (nmCells Nm.zero) 70) := ⟨_, rfl⟩
  obtain ⟨g2, hg2⟩ : ∃ u, u = w.heap.size := ⟨_, rfl⟩
  rw [← hwa] at hx0 hb0
  rw [← hg2] at hb0
  have HX0 := Lib.hid hx0
  have HR0 := Lib.hid hb0
  have HWA := Lib.hid hwa
  have HG2 := Lib.hid hg2
  clear hsp hlb hs hx0 hb0 hwa hg2
  go_enter Tryz.func31, Tryz.ntmps31
  go_upto_region 1 with (fail)
  rw [show w.alloc (.cells #[.int .u8 0, .int .u64 0, .int .u64 0, .int .u64 0, .int .u64 0, .int .u64 0] 70) = wa from HWA.out.symm, show w.heap.size = g2 from HG2.out.symm]
  go_wp2_with (go_at_call 51; fail)
  refine (rsplit_any wa s HS.out).mono ?_
  rintro e w1 ⟨v1, rfl, hown, hx1⟩
  rw [HSP.out] at hown
  have hrow := Row.of_owns hown
  obtain ⟨a4, n4, c4, rfl⟩ := ownsForm hown
  obtain ⟨b4, o4, c4', e4, -, -, hc4, -⟩ := hrow.addr (by simp)
  cases e4
  have HROW1 := Lib.hid hrow
  have HX1 := Lib.hid (HX0.out.trans hx1)
  have HR1 := Lib.hid (hx1.at_ HR0.out id)
  have hg21 : g2 < w1.heap.size := lt_of_heap HR1.out
  have HG21 := Lib.hid hg21
  obtain ⟨B, hB⟩ : ∃ B, B = w1.heap.size := ⟨_, rfl⟩
  have HB := Lib.hid hB
  have hlen : (w0 :: ws).length = ws.length + 1 := rfl
  rw [hlen]
  clear hown hrow hx1 hg21 hlen hB
  unfold maxLen at hc4
  go_wp2
  go_loopw [5, 6] (fun v t wr => ∃ (k : Nat) (dn : List Nat), k ≤ ws.length ∧ t = .int .i64 ((k : Int) + 1) ∧ dn.length = k ∧ numsP (ws.take k) = some dn ∧ wr.ownsRow B 22 1 v k (dn.map u64) ∧ Ext w1 wr) (fun _ t _ => ws.length + 1 - (intOf t).toNat)
  case atStart => exact ⟨0, [], Nat.zero_le _, rfl, rfl, rfl, World.ownsRow_nil _ _ _ _, Upd.refl _ _⟩
  case round =>
    obtain ⟨k, dn, hk, rfl, hdl, hnp, hown, hx⟩ := hrel
    have HX := Lib.hid hx
    have HDL := Lib.hid hdl
    have HNP := Lib.hid hnp
    have HOWN := Lib.hid hown
    have HRR := Lib.hid (hx.at_ HR1.out id)
    have HXW := Lib.hid (HX1.out.trans hx)
    have hlbb := HLB.out
    by_cases hlt : k < ws.length
    · obtain ⟨b1, o1, c1, e1, -, -, -, hq1⟩ := (HROW1.out.ext hx).addr (by simp)
      cases e1
      have hc := texts_cell (l := w0 :: ws) hq1 (k + 1) (by simp; omega)
      simp only [List.getElem_cons_succ] at hc
      have hxl : (ws[k]).length ≤ 1000000 := by
        have := split_len s (ws[k]) (by rw [HSP.out]; simp)
        have := HS.out; omega
      have hsn : ws.take (k + 1) = ws.take k ++ [ws[k]] := List.take_succ_eq_append_getElem hlt
      have hbad := numsP_bad (ws := ws) hlt
      obtain ⟨x, hxe⟩ : ∃ x, x = ws[k] := ⟨_, rfl⟩
      rw [← hxe] at hc hxl hsn hbad
      have HSN := Lib.hid hsn
      have HBAD := Lib.hid (show numF x = none → parseF s = (Nm.zero, false) from fun h => parse_nums HSP.out (hbad h))
      have hv := numF_val x
      obtain ⟨hv1, hv2⟩ := hv
      obtain ⟨u, hu⟩ : ∃ u, u = valF x := ⟨_, rfl⟩
      have hu64 : u < 18446744073709551616 := by rw [hu]; exact valF_lt x
      have hok : okF x = true → numF x = some u := fun h => by
        rw [hu]; apply hv1.1
        unfold okF eqB at h; simpa using h
      have hno : okF x = false → numF x = none := fun h => by
        cases hq : numF x with
        | none => rfl
        | some t =>
          have := hv1.2 (by rw [hv2 t hq]; exact hq)
          unfold okF eqB at h
          rw [this] at h; simp at h
      have HOK := Lib.hid hok
      have HNO := Lib.hid hno
      have HU := Lib.hid hu
      obtain ⟨a5, n5, c5, rfl⟩ := ownsForm hown
      clear hx hq1 hsn hbad hnp hown hdl hxe hv1 hv2 hok hno
      go_wp2_with (go_at_call 52; fail)
      refine (number_any _ x hxl).mono ?_
      rintro e w5 ⟨rfl, hx5⟩
      rw [← HU.out]
      have HX5 := Lib.hid (HX.out.trans hx5)
      have HXW5 := Lib.hid (HXW.out.trans hx5)
      have HR5 := Lib.hid (hx5.at_ HRR.out id)
      have hown5 := hx5.ownsRow HOWN.out (fun _ _ e => e)
      clear hx5 hc hxl hu
      cases hq : okF x with
      | false =>
        have HP := Lib.hid (HBAD.out (HNO.out hq))
        clear hq hown5
        go_wp2_with (refine wpList_store_blk rfl _ _ _ rfl rfl (cells := nmCells Nm.zero) rfl HR5.out (Tryz.rnmT _) rfl (nmCells_one _) ?_)
        go_wp2
        refine bodyPost_blk2 rfl rfl rfl (setRow_heap _ _ _ _ _ _ HR5.out) (Tryz.rnmT _) ?_
        exact ⟨by rw [HP.out]; rfl, ext_res HXW5.out HG2.out⟩
      | true =>
        have HNF := Lib.hid (HOK.out hq)
        clear hq
        go_wp2_with (at_builtin; go_must (refine wpList_append_row rfl _ _ _ rfl Tryz.numsT rfl (hown5.alloc _) rfl (row_new _ _ _ 1 _ (by decide) (by simp)) rfl (by intro u hu; simp at hu; subst hu; rfl) ?c3 ?c4 ?c5 ?_))
        case c3 => unfold maxLen; omega
        case c4 => omega
        case c5 => have := HX5.out.size; have := HB.out; first | omega | (simp; omega)
        intro v' w6 hown6 hg _
        have hx6 := (HX5.out.alloc _).grown hg (fun j hj h => by have := (hown5.lt j hj).1; have := HB.out; omega)
        have HX6 := Lib.hid hx6
        have HO6 := Lib.hid hown6
        clear hx6 hg hown6 hown5
        go_wp2
        go_roundw
        case rel =>
          refine ⟨k + 1, dn ++ [u], by omega, by push_cast; rfl, by rw [List.length_append, HDL.out]; rfl, by rw [HSN.out]; exact numsP_snoc HNP.out HNF.out, ?_, HX6.out⟩
          rw [List.map_append]
          exact HO6.out
        case measure => simp [intOf]; omega
    · have hkl : k = ws.length := by omega
      have hnp' : numsP ws = some dn := by rw [hkl, List.take_length] at hnp; exact hnp
      have HNW := Lib.hid hnp'
      have hdb := (numsP_some hnp').2
      have HDB := Lib.hid hdb
      obtain ⟨a5, n5, c5, rfl⟩ := ownsForm hown
      have hn5 : n5 = k := by
        obtain ⟨-, ⟨h2, h3⟩ | ⟨g', cap', cur, e1, -⟩⟩ := hown
        · cases h2; exact h3.symm
        · cases e1; rfl
      subst hn5
      have HKL := Lib.hid hkl
      clear hx hnp hown hdl hnp' hdb hkl
      by_cases h24 : n5 < 2 ∨ 4 < n5
      · have HP := Lib.hid (parse_short HSP.out (by rw [← HKL.out]; exact h24))
        rcases h24 with h2 | h4
        all_goals
          go_wp2_with (refine wpList_store_blk rfl _ _ _ rfl rfl (cells := nmCells Nm.zero) rfl HRR.out (Tryz.rnmT _) rfl (nmCells_one _) ?_)
          go_wp2
          refine bodyPost_blk2 rfl rfl rfl (setRow_heap _ _ _ _ _ _ HRR.out) (Tryz.rnmT _) ?_
          exact ⟨by rw [HP.out]; rfl, ext_res HXW.out HG2.out⟩
      · have h2 : 2 ≤ n5 := by omega
        have h4 : n5 ≤ 4 := by omega
        have hown := HOWN.out
        clear h24
        go_wp2_with (at_builtin; go_must (refine wpList_append_row rfl _ _ _ rfl Tryz.numsT rfl (hown.alloc _) rfl (row_new _ _ _ 2 _ (by decide) (by simp)) rfl (by intro u hu; simp at hu; subst hu; rfl) ?c3 ?c4 ?c5 ?_))
        case c3 => unfold maxLen; omega
        case c4 => omega
        case c5 => have := HX.out.size; have := HB.out; first | omega | (simp; omega)
        intro v' w6 hown6 hg _
        have hx6 := (HX.out.alloc _).grown hg (fun j hj h => by have := (hown.lt j hj).1; have := HB.out; omega)
        obtain ⟨l, hl⟩ : ∃ l, l = dn ++ [0, 0] := ⟨_, rfl⟩
        obtain ⟨m, hm⟩ : ∃ m, m = n5 + 2 := ⟨_, rfl⟩
        have hll : l.length = m := by rw [hl, List.length_append, HDL.out, hm]; rfl
        have hown7 : w6.ownsRow B 22 1 v' m (l.map u64) := by rw [hm, hl, List.map_append]; exact hown6
        obtain ⟨gl, cap, rfl⟩ : ∃ gl cap, v' = .slice (some ⟨gl, 0, none⟩) m cap := by
          obtain ⟨-, ⟨h2, h3⟩ | ⟨g', cap', cur, e1, -⟩⟩ := hown7
          · omega
          · exact ⟨g', cap', e1⟩
        obtain ⟨b7, o7, c7, e7, -, hm7, hc7, hq7⟩ := (Row.of_owns hown7).addr (by omega)
        cases e7
        have hcell : ∀ i, i < 4 → w6.cell? ⟨gl, i, none⟩ = some (u64 (l.getD i 0)) ∨ m ≤ i := fun i hi => by
          by_cases him : i < m
          · have hil : i < l.length := by omega
            left
            have := hq7 i (u64 (l[i])) (by rw [List.getElem?_map, List.getElem?_eq_getElem hil]; rfl)
            rw [Nat.zero_add] at this
            rw [this, List.getD_eq_getElem?_getD, List.getElem?_eq_getElem hil]; rfl
          · right; omega
        have HCELL := Lib.hid (fun i (hi : i < 4) => (hcell i hi).resolve_right (by omega))
        have HX6 := Lib.hid hx6
        have HXW6 := Lib.hid (HX1.out.trans hx6)
        have HR6 := Lib.hid (hx6.at_ HR1.out id)
        have HL := Lib.hid hl
        have hm4 : 4 ≤ m := by omega
        have hm0 : 0 < m := by omega
        have hm1 : (1 : Int) < (m : Int) := by omega
        have hm2 : (2 : Int) < (m : Int) := by omega
        have hm3 : (3 : Int) < (m : Int) := by omega
        unfold maxLen at hc7
        have hlb : ∀ u ∈ l, u < 18446744073709551616 := fun u hu => by
          rw [hl, List.mem_append] at hu
          rcases hu with hu | hu
          · exact HDB.out u hu
          · simp at hu; subst hu; decide
        have HLBD := Lib.hid hlb
        clear hx6 hg hown6 hown hown7 hcell hq7 hl hm hll hlb
        go_upto_region 13 with (fail)
        refine wp_region_invH Nothing (fun _ => Ext) 1000 npDst (npPhi l gl m cap) 100 (by kernel_rfl) (by decide) (by decide) rfl (fun i hi => .inl ((by decide : ∀ i, i < 39 → npDst i < 100) i hi)) (fun i w w' h => ⟨h, fun _ => h⟩) (fun i j v w w' _ _ _ _ h hu => h.ext hu) ?_ ?_
        · intro i o b' w1' ho hx1' hd hk hE hSZ
          have hi : i < 39 := (Array.getElem?_eq_some_iff.1 ho).1
          have his : i = 0 ∨ i = 1 ∨ i = 2 ∨ i = 3 ∨ i = 4 ∨ i = 5 ∨ i = 6 ∨ i = 7 ∨ i = 8 ∨ i = 9 ∨ i = 10 ∨ i = 11 ∨ i = 12 ∨ i = 13 ∨ i = 14 ∨ i = 15 ∨ i = 16 ∨ i = 17 ∨ i = 18 ∨ i = 19 ∨ i = 20 ∨ i = 21 ∨ i = 22 ∨ i = 23 ∨ i = 24 ∨ i = 25 ∨ i = 26 ∨ i = 27 ∨ i = 28 ∨ i = 29 ∨ i = 30 ∨ i = 31 ∨ i = 32 ∨ i = 33 ∨ i = 34 ∨ i = 35 ∨ i = 36 ∨ i = 37 ∨ i = 38 := by omega
          clear hE hSZ
          have HW1 := Lib.hid hx1'
          clear hx1'
          rcases his with rfl | rfl | rfl | rfl | rfl | rfl | rfl | rfl | rfl | rfl | rfl | rfl | rfl | rfl | rfl | rfl | rfl | rfl | rfl | rfl | rfl | rfl | rfl | rfl | rfl | rfl | rfl | rfl | rfl | rfl | rfl | rfl | rfl | rfl | rfl | rfl | rfl | rfl | rfl
          all_goals (simp at ho; subst ho)
          case inl =>
            refine .inl ⟨by simp [Region.wanted], ?_⟩
            have o5 : b'.tmps[5]?.getD undef = .slice (some ⟨gl, 0, none⟩) m cap := by
              have := hk 5 (fun j oj _ e => (npDst_ne (by decide) e).elim)
              simpa using this
            clear hd hk
            go_step
            exact ⟨_, rfl, rfl, Upd.refl _ _⟩
          case inr.inl =>
            refine .inl ⟨by simp [Region.wanted], ?_⟩
            have e0 : b'.tmps[46]?.getD undef = .slice (some ⟨gl, 0, none⟩) m cap := by have := (show b'.tmps.getD 46 undef = .slice (some ⟨gl, 0, none⟩) m cap from hd ⟨0, .data⟩ (by simp) rfl); simpa using this
            clear hd hk
            go_step
            exact ⟨_, rfl, rfl, Upd.refl _ _⟩
          case inr.inr.inl =>
            refine .inl ⟨by simp [Region.wanted], ?_⟩
            have e1 : b'.tmps[47]?.getD undef = .pointer (some ⟨gl, 0, none⟩) := by have := (show b'.tmps.getD 47 undef = .pointer (some ⟨gl, 0, none⟩) from hd ⟨1, .data⟩ (by simp) rfl); simpa using this
            clear hd hk
            have hc := HW1.out.cell (HCELL.out 0 (by decide)) id
            go_step
            exact ⟨_, rfl, rfl, Upd.refl _ _⟩
          case inr.inr.inr.inl =>
            refine .inl ⟨by simp [Region.wanted], ?_⟩
            have o5 : b'.tmps[5]?.getD undef = .slice (some ⟨gl, 0, none⟩) m cap := by
              have := hk 5 (fun j oj _ e => (npDst_ne (by decide) e).elim)
              simpa using this
            clear hd hk
            go_step
            exact ⟨_, rfl, rfl, Upd.refl _ _⟩
          case inr.inr.inr.inr.inl =>
            refine .inl ⟨by simp [Region.wanted], ?_⟩
            have e3 : b'.tmps[49]?.getD undef = .slice (some ⟨gl, 0, none⟩) m cap := by have := (show b'.tmps.getD 49 undef = .slice (some ⟨gl, 0, none⟩) m cap from hd ⟨3, .data⟩ (by simp) rfl); simpa using this
            clear hd hk
            go_step
            exact ⟨_, rfl, rfl, Upd.refl _ _⟩
          case inr.inr.inr.inr.inr.inl =>
            refine .inl ⟨by simp [Region.wanted], ?_⟩
            have e4 : b'.tmps[50]?.getD undef = .pointer (some ⟨gl, 1, none⟩) := by have := (show b'.tmps.getD 50 undef = .pointer (some ⟨gl, 1, none⟩) from hd ⟨4, .data⟩ (by simp) rfl); simpa using this
            clear hd hk
            have hc := HW1.out.cell (HCELL.out 1 (by decide)) id
            go_step
            exact ⟨_, rfl, rfl, Upd.refl _ _⟩
          case inr.inr.inr.inr.inr.inr.inl =>
            refine .inl ⟨by simp [Region.wanted], ?_⟩
            have e2 : b'.tmps[48]?.getD undef = u64 (l.getD 0 0) := by have := (show b'.tmps.getD 48 undef = u64 (l.getD 0 0) from hd ⟨2, .data⟩ (by simp) rfl); simpa using this
            have e5 : b'.tmps[51]?.getD undef = u64 (l.getD 1 0) := by have := (show b'.tmps.getD 51 undef = u64 (l.getD 1 0) from hd ⟨5, .data⟩ (by simp) rfl); simpa using this
            clear hd hk
            go_step
            exact ⟨_, rfl, (by unfold npPhi; simp [npVal, nmCells, ofF]), Upd.refl _ _⟩
          case inr.inr.inr.inr.inr.inr.inr.inl =>
            refine .inl ⟨by simp [Region.wanted], ?_⟩
            have o5 : b'.tmps[5]?.getD undef = .slice (some ⟨gl, 0, none⟩) m cap := by
              have := hk 5 (fun j oj _ e => (npDst_ne (by decide) e).elim)
              simpa using this
            clear hd hk
            go_step
            exact ⟨_, rfl, rfl, Upd.refl _ _⟩
          case inr.inr.inr.inr.inr.inr.inr.inr.inl =>
            refine .inl ⟨by simp [Region.wanted], ?_⟩
            have e7 : b'.tmps[53]?.getD undef = .slice (some ⟨gl, 0, none⟩) m cap := by have := (show b'.tmps.getD 53 undef = .slice (some ⟨gl, 0, none⟩) m cap from hd ⟨7, .data⟩ (by simp) rfl); simpa using this
            clear hd hk
            go_step
            exact ⟨_, rfl, rfl, Upd.refl _ _⟩
          case inr.inr.inr.inr.inr.inr.inr.inr.inr.inl =>
            refine .inl ⟨by simp [Region.wanted], ?_⟩
            have e8 : b'.tmps[54]?.getD undef = .pointer (some ⟨gl, 0, none⟩) := by have := (show b'.tmps.getD 54 undef = .pointer (some ⟨gl, 0, none⟩) from hd ⟨8, .data⟩ (by simp) rfl); simpa using this
            clear hd hk
            have hc := HW1.out.cell (HCELL.out 0 (by decide)) id
            go_step
            exact ⟨_, rfl, rfl, Upd.refl _ _⟩
          case inr.inr.inr.inr.inr.inr.inr.inr.inr.inr.inl =>
            refine .inl ⟨by simp [Region.wanted], ?_⟩
            have o5 : b'.tmps[5]?.getD undef = .slice (some ⟨gl, 0, none⟩) m cap := by
              have := hk 5 (fun j oj _ e => (npDst_ne (by decide) e).elim)
              simpa using this
            clear hd hk
            go_step
            exact ⟨_, rfl, rfl, Upd.refl _ _⟩
          case inr.inr.inr.inr.inr.inr.inr.inr.inr.inr.inr.inl =>
            refine .inl ⟨by simp [Region.wanted], ?_⟩
            have e10 : b'.tmps[56]?.getD undef = .slice (some ⟨gl, 0, none⟩) m cap := by have := (show b'.tmps.getD 56 undef = .slice (some ⟨gl, 0, none⟩) m cap from hd ⟨10, .data⟩ (by simp) rfl); simpa using this
            clear hd hk
            go_step
            exact ⟨_, rfl, rfl, Upd.refl _ _⟩
          case inr.inr.inr.inr.inr.inr.inr.inr.inr.inr.inr.inr.inl =>
            refine .inl ⟨by simp [Region.wanted], ?_⟩
            have e11 : b'.tmps[57]?.getD undef = .pointer (some ⟨gl, 1, none⟩) := by have := (show b'.tmps.getD 57 undef = .pointer (some ⟨gl, 1, none⟩) from hd ⟨11, .data⟩ (by simp) rfl); simpa using this
            clear hd hk
            have hc := HW1.out.cell (HCELL.out 1 (by decide)) id
            go_step
            exact ⟨_, rfl, rfl, Upd.refl _ _⟩
          case inr.inr.inr.inr.inr.inr.inr.inr.inr.inr.inr.inr.inr.inl =>
            refine .inl ⟨by simp [Region.wanted], ?_⟩
            have e9 : b'.tmps[55]?.getD undef = u64 (l.getD 0 0) := by have := (show b'.tmps.getD 55 undef = u64 (l.getD 0 0) from hd ⟨9, .data⟩ (by simp) rfl); simpa using this
            have e12 : b'.tmps[58]?.getD undef = u64 (l.getD 1 0) := by have := (show b'.tmps.getD 58 undef = u64 (l.getD 1 0) from hd ⟨12, .data⟩ (by simp) rfl); simpa using this
            clear hd hk
            go_step
            exact ⟨_, rfl, (by unfold npPhi; simp [npVal, nmCells, ofF]), Upd.refl _ _⟩
          case inr.inr.inr.inr.inr.inr.inr.inr.inr.inr.inr.inr.inr.inr.inl =>
            refine .inl ⟨by simp [Region.wanted], ?_⟩
            have o5 : b'.tmps[5]?.getD undef = .slice (some ⟨gl, 0, none⟩) m cap := by
              have := hk 5 (fun j oj _ e => (npDst_ne (by decide) e).elim)
              simpa using this
            clear hd hk
            go_step
            exact ⟨_, rfl, rfl, Upd.refl _ _⟩
          case inr.inr.inr.inr.inr.inr.inr.inr.inr.inr.inr.inr.inr.inr.inr.inl =>
            refine .inl ⟨by simp [Region.wanted], ?_⟩
            have e14 : b'.tmps[60]?.getD undef = .slice (some ⟨gl, 0, none⟩) m cap := by have := (show b'.tmps.getD 60 undef = .slice (some ⟨gl, 0, none⟩) m cap from hd ⟨14, .data⟩ (by simp) rfl); simpa using this
            clear hd hk
            go_step
            exact ⟨_, rfl, rfl, Upd.refl _ _⟩
          case inr.inr.inr.inr.inr.inr.inr.inr.inr.inr.inr.inr.inr.inr.inr.inr.inl =>
            refine .inl ⟨by simp [Region.wanted], ?_⟩
            have e15 : b'.tmps[61]?.getD undef = .pointer (some ⟨gl, 0, none⟩) := by have := (show b'.tmps.getD 61 undef = .pointer (some ⟨gl, 0, none⟩) from hd ⟨15, .data⟩ (by simp) rfl); simpa using this
            clear hd hk
            have hc := HW1.out.cell (HCELL.out 0 (by decide)) id
            go_step
            exact ⟨_, rfl, rfl, Upd.refl _ _⟩
          case inr.inr.inr.inr.inr.inr.inr.inr.inr.inr.inr.inr.inr.inr.inr.inr.inr.inl =>
            refine .inl ⟨by simp [Region.wanted], ?_⟩
            have o5 : b'.tmps[5]?.getD undef = .slice (some ⟨gl, 0, none⟩) m cap := by
              have := hk 5 (fun j oj _ e => (npDst_ne (by decide) e).elim)
              simpa using this
            clear hd hk
            go_step
            exact ⟨_, rfl, rfl, Upd.refl _ _⟩
          case inr.inr.inr.inr.inr.inr.inr.inr.inr.inr.inr.inr.inr.inr.inr.inr.inr.inr.inl =>
            refine .inl ⟨by simp [Region.wanted], ?_⟩
            have e17 : b'.tmps[63]?.getD undef = .slice (some ⟨gl, 0, none⟩) m cap := by have := (show b'.tmps.getD 63 undef = .slice (some ⟨gl, 0, none⟩) m cap from hd ⟨17, .data⟩ (by simp) rfl); simpa using this
            clear hd hk
            go_step
            exact ⟨_, rfl, rfl, Upd.refl _ _⟩
          case inr.inr.inr.inr.inr.inr.inr.inr.inr.inr.inr.inr.inr.inr.inr.inr.inr.inr.inr.inl =>
            refine .inl ⟨by simp [Region.wanted], ?_⟩
            have e18 : b'.tmps[64]?.getD undef = .pointer (some ⟨gl, 1, none⟩) := by have := (show b'.tmps.getD 64 undef = .pointer (some ⟨gl, 1, none⟩) from hd ⟨18, .data⟩ (by simp) rfl); simpa using this
            clear hd hk
            have hc := HW1.out.cell (HCELL.out 1 (by decide)) id
            go_step
            exact ⟨_, rfl, rfl, Upd.refl _ _⟩
          case inr.inr.inr.inr.inr.inr.inr.inr.inr.inr.inr.inr.inr.inr.inr.inr.inr.inr.inr.inr.inl =>
            refine .inl ⟨by simp [Region.wanted], ?_⟩
            have o5 : b'.tmps[5]?.getD undef = .slice (some ⟨gl, 0, none⟩) m cap := by
              have := hk 5 (fun j oj _ e => (npDst_ne (by decide) e).elim)
              simpa using this
            clear hd hk
            go_step
            exact ⟨_, rfl, rfl, Upd.refl _ _⟩
          case inr.inr.inr.inr.inr.inr.inr.inr.inr.inr.inr.inr.inr.inr.inr.inr.inr.inr.inr.inr.inr.inl =>
            refine .inl ⟨by simp [Region.wanted], ?_⟩
            have e20 : b'.tmps[66]?.getD undef = .slice (some ⟨gl, 0, none⟩) m cap := by have := (show b'.tmps.getD 66 undef = .slice (some ⟨gl, 0, none⟩) m cap from hd ⟨20, .data⟩ (by simp) rfl); simpa using this
            clear hd hk
            go_step
            exact ⟨_, rfl, rfl, Upd.refl _ _⟩
          case inr.inr.inr.inr.inr.inr.inr.inr.inr.inr.inr.inr.inr.inr.inr.inr.inr.inr.inr.inr.inr.inr.inl =>
            refine .inl ⟨by simp [Region.wanted], ?_⟩
            have e21 : b'.tmps[67]?.getD undef = .pointer (some ⟨gl, 2, none⟩) := by have := (show b'.tmps.getD 67 undef = .pointer (some ⟨gl, 2, none⟩) from hd ⟨21, .data⟩ (by simp) rfl); simpa using this
            clear hd hk
            have hc := HW1.out.cell (HCELL.out 2 (by decide)) id
            go_step
            exact ⟨_, rfl, rfl, Upd.refl _ _⟩
          case inr.inr.inr.inr.inr.inr.inr.inr.inr.inr.inr.inr.inr.inr.inr.inr.inr.inr.inr.inr.inr.inr.inr.inl =>
            refine .inl ⟨by simp [Region.wanted], ?_⟩
            have e16 : b'.tmps[62]?.getD undef = u64 (l.getD 0 0) := by have := (show b'.tmps.getD 62 undef = u64 (l.getD 0 0) from hd ⟨16, .data⟩ (by simp) rfl); simpa using this
            have e19 : b'.tmps[65]?.getD undef = u64 (l.getD 1 0) := by have := (show b'.tmps.getD 65 undef = u64 (l.getD 1 0) from hd ⟨19, .data⟩ (by simp) rfl); simpa using this
            have e22 : b'.tmps[68]?.getD undef = u64 (l.getD 2 0) := by have := (show b'.tmps.getD 68 undef = u64 (l.getD 2 0) from hd ⟨22, .data⟩ (by simp) rfl); simpa using this
            clear hd hk
            go_step
            exact ⟨_, rfl, (by unfold npPhi; simp [npVal, nmCells, ofF]), Upd.refl _ _⟩
          case inr.inr.inr.inr.inr.inr.inr.inr.inr.inr.inr.inr.inr.inr.inr.inr.inr.inr.inr.inr.inr.inr.inr.inr.inl =>
            refine .inl ⟨by simp [Region.wanted], ?_⟩
            have o5 : b'.tmps[5]?.getD undef = .slice (some ⟨gl, 0, none⟩) m cap := by
              have := hk 5 (fun j oj _ e => (npDst_ne (by decide) e).elim)
              simpa using this
            clear hd hk
            go_step
            exact ⟨_, rfl, rfl, Upd.refl _ _⟩
          case inr.inr.inr.inr.inr.inr.inr.inr.inr.inr.inr.inr.inr.inr.inr.inr.inr.inr.inr.inr.inr.inr.inr.inr.inr.inl =>
            refine .inl ⟨by simp [Region.wanted], ?_⟩
            have e24 : b'.tmps[70]?.getD undef = .slice (some ⟨gl, 0, none⟩) m cap := by have := (show b'.tmps.getD 70 undef = .slice (some ⟨gl, 0, none⟩) m cap from hd ⟨24, .data⟩ (by simp) rfl); simpa using this
            clear hd hk
            go_step
            exact ⟨_, rfl, rfl, Upd.refl _ _⟩
          case inr.inr.inr.inr.inr.inr.inr.inr.inr.inr.inr.inr.inr.inr.inr.inr.inr.inr.inr.inr.inr.inr.inr.inr.inr.inr.inl =>
            refine .inl ⟨by simp [Region.wanted], ?_⟩
            have e25 : b'.tmps[71]?.getD undef = .pointer (some ⟨gl, 0, none⟩) := by have := (show b'.tmps.getD 71 undef = .pointer (some ⟨gl, 0, none⟩) from hd ⟨25, .data⟩ (by simp) rfl); simpa using this
            clear hd hk
            have hc := HW1.out.cell (HCELL.out 0 (by decide)) id
            go_step
            exact ⟨_, rfl, rfl, Upd.refl _ _⟩
          case inr.inr.inr.inr.inr.inr.inr.inr.inr.inr.inr.inr.inr.inr.inr.inr.inr.inr.inr.inr.inr.inr.inr.inr.inr.inr.inr.inl =>
            refine .inl ⟨by simp [Region.wanted], ?_⟩
            have o5 : b'.tmps[5]?.getD undef = .slice (some ⟨gl, 0, none⟩) m cap := by
              have := hk 5 (fun j oj _ e => (npDst_ne (by decide) e).elim)
              simpa using this
            clear hd hk
            go_step
            exact ⟨_, rfl, rfl, Upd.refl _ _⟩
          case inr.inr.inr.inr.inr.inr.inr.inr.inr.inr.inr.inr.inr.inr.inr.inr.inr.inr.inr.inr.inr.inr.inr.inr.inr.inr.inr.inr.inl =>
            refine .inl ⟨by simp [Region.wanted], ?_⟩
            have e27 : b'.tmps[73]?.getD undef = .slice (some ⟨gl, 0, none⟩) m cap := by have := (show b'.tmps.getD 73 undef = .slice (some ⟨gl, 0, none⟩) m cap from hd ⟨27, .data⟩ (by simp) rfl); simpa using this
            clear hd hk
            go_step
            exact ⟨_, rfl, rfl, Upd.refl _ _⟩
          case inr.inr.inr.inr.inr.inr.inr.inr.inr.inr.inr.inr.inr.inr.inr.inr.inr.inr.inr.inr.inr.inr.inr.inr.inr.inr.inr.inr.inr.inl =>
            refine .inl ⟨by simp [Region.wanted], ?_⟩
            have e28 : b'.tmps[74]?.getD undef = .pointer (some ⟨gl, 1, none⟩) := by have := (show b'.tmps.getD 74 undef = .pointer (some ⟨gl, 1, none⟩) from hd ⟨28, .data⟩ (by simp) rfl); simpa using this
            clear hd hk
            have hc := HW1.out.cell (HCELL.out 1 (by decide)) id
            go_step
            exact ⟨_, rfl, rfl, Upd.refl _ _⟩
          case inr.inr.inr.inr.inr.inr.inr.inr.inr.inr.inr.inr.inr.inr.inr.inr.inr.inr.inr.inr.inr.inr.inr.inr.inr.inr.inr.inr.inr.inr.inl =>
            refine .inl ⟨by simp [Region.wanted], ?_⟩
            have o5 : b'.tmps[5]?.getD undef = .slice (some ⟨gl, 0, none⟩) m cap := by
              have := hk 5 (fun j oj _ e => (npDst_ne (by decide) e).elim)
              simpa using this
            clear hd hk
            go_step
            exact ⟨_, rfl, rfl, Upd.refl _ _⟩
          case inr.inr.inr.inr.inr.inr.inr.inr.inr.inr.inr.inr.inr.inr.inr.inr.inr.inr.inr.inr.inr.inr.inr.inr.inr.inr.inr.inr.inr.inr.inr.inl =>
            refine .inl ⟨by simp [Region.wanted], ?_⟩
            have e30 : b'.tmps[76]?.getD undef = .slice (some ⟨gl, 0, none⟩) m cap := by have := (show b'.tmps.getD 76 undef = .slice (some ⟨gl, 0, none⟩) m cap from hd ⟨30, .data⟩ (by simp) rfl); simpa using this
            clear hd hk
            go_step
            exact ⟨_, rfl, rfl, Upd.refl _ _⟩
          case inr.inr.inr.inr.inr.inr.inr.inr.inr.inr.inr.inr.inr.inr.inr.inr.inr.inr.inr.inr.inr.inr.inr.inr.inr.inr.inr.inr.inr.inr.inr.inr.inl =>
            refine .inl ⟨by simp [Region.wanted], ?_⟩
            have e31 : b'.tmps[77]?.getD undef = .pointer (some ⟨gl, 2, none⟩) := by have := (show b'.tmps.getD 77 undef = .pointer (some ⟨gl, 2, none⟩) from hd ⟨31, .data⟩ (by simp) rfl); simpa using this
            clear hd hk
            have hc := HW1.out.cell (HCELL.out 2 (by decide)) id
            go_step
            exact ⟨_, rfl, rfl, Upd.refl _ _⟩
          case inr.inr.inr.inr.inr.inr.inr.inr.inr.inr.inr.inr.inr.inr.inr.inr.inr.inr.inr.inr.inr.inr.inr.inr.inr.inr.inr.inr.inr.inr.inr.inr.inr.inl =>
            refine .inl ⟨by simp [Region.wanted], ?_⟩
            have o5 : b'.tmps[5]?.getD undef = .slice (some ⟨gl, 0, none⟩) m cap := by
              have := hk 5 (fun j oj _ e => (npDst_ne (by decide) e).elim)
              simpa using this
            clear hd hk
            go_step
            exact ⟨_, rfl, rfl, Upd.refl _ _⟩
          case inr.inr.inr.inr.inr.inr.inr.inr.inr.inr.inr.inr.inr.inr.inr.inr.inr.inr.inr.inr.inr.inr.inr.inr.inr.inr.inr.inr.inr.inr.inr.inr.inr.inr.inl =>
            refine .inl ⟨by simp [Region.wanted], ?_⟩
            have e33 : b'.tmps[79]?.getD undef = .slice (some ⟨gl, 0, none⟩) m cap := by have := (show b'.tmps.getD 79 undef = .slice (some ⟨gl, 0, none⟩) m cap from hd ⟨33, .data⟩ (by simp) rfl); simpa using this
            clear hd hk
            go_step
            exact ⟨_, rfl, rfl, Upd.refl _ _⟩
          case inr.inr.inr.inr.inr.inr.inr.inr.inr.inr.inr.inr.inr.inr.inr.inr.inr.inr.inr.inr.inr.inr.inr.inr.inr.inr.inr.inr.inr.inr.inr.inr.inr.inr.inr.inl =>
            refine .inl ⟨by simp [Region.wanted], ?_⟩
            have e34 : b'.tmps[80]?.getD undef = .pointer (some ⟨gl, 3, none⟩) := by have := (show b'.tmps.getD 80 undef = .pointer (some ⟨gl, 3, none⟩) from hd ⟨34, .data⟩ (by simp) rfl); simpa using this
            clear hd hk
            have hc := HW1.out.cell (HCELL.out 3 (by decide)) id
            go_step
            exact ⟨_, rfl, rfl, Upd.refl _ _⟩
          case inr.inr.inr.inr.inr.inr.inr.inr.inr.inr.inr.inr.inr.inr.inr.inr.inr.inr.inr.inr.inr.inr.inr.inr.inr.inr.inr.inr.inr.inr.inr.inr.inr.inr.inr.inr.inl =>
            refine .inl ⟨by simp [Region.wanted], ?_⟩
            have e26 : b'.tmps[72]?.getD undef = u64 (l.getD 0 0) := by have := (show b'.tmps.getD 72 undef = u64 (l.getD 0 0) from hd ⟨26, .data⟩ (by simp) rfl); simpa using this
            have e29 : b'.tmps[75]?.getD undef = u64 (l.getD 1 0) := by have := (show b'.tmps.getD 75 undef = u64 (l.getD 1 0) from hd ⟨29, .data⟩ (by simp) rfl); simpa using this
            have e32 : b'.tmps[78]?.getD undef = u64 (l.getD 2 0) := by have := (show b'.tmps.getD 78 undef = u64 (l.getD 2 0) from hd ⟨32, .data⟩ (by simp) rfl); simpa using this
            have e35 : b'.tmps[81]?.getD undef = u64 (l.getD 3 0) := by have := (show b'.tmps.getD 81 undef = u64 (l.getD 3 0) from hd ⟨35, .data⟩ (by simp) rfl); simpa using this
            clear hd hk
            go_step
            exact ⟨_, rfl, (by unfold npPhi; simp [npVal, nmCells, ofF]), Upd.refl _ _⟩
          case inr.inr.inr.inr.inr.inr.inr.inr.inr.inr.inr.inr.inr.inr.inr.inr.inr.inr.inr.inr.inr.inr.inr.inr.inr.inr.inr.inr.inr.inr.inr.inr.inr.inr.inr.inr.inr.inl =>
            refine .inl ⟨by simp [Region.wanted], ?_⟩
            have o52 : b'.eval (.tmp 52) = .agg (nmCells (ofF 1 l)) := by
              have := (show b'.tmps.getD 52 undef = .agg (nmCells (ofF 1 l)) from hd ⟨6, .data⟩ (by simp) rfl)
              simpa [Act.eval] using this
            have o59 : b'.eval (.tmp 59) = .agg (nmCells (ofF 2 l)) := by
              have := (show b'.tmps.getD 59 undef = .agg (nmCells (ofF 2 l)) from hd ⟨13, .data⟩ (by simp) rfl)
              simpa [Act.eval] using this
            have o69 : b'.eval (.tmp 69) = .agg (nmCells (ofF 3 l)) := by
              have := (show b'.tmps.getD 69 undef = .agg (nmCells (ofF 3 l)) from hd ⟨23, .data⟩ (by simp) rfl)
              simpa [Act.eval] using this
            have o82 : b'.eval (.tmp 82) = .agg (nmCells (ofF 4 l)) := by
              have := (show b'.tmps.getD 82 undef = .agg (nmCells (ofF 4 l)) from hd ⟨36, .data⟩ (by simp) rfl)
              simpa [Act.eval] using this
            refine wp_buildStructs 99 70 4 6 48 _ rfl Tryz.rnamesT [.agg (nmCells (ofF 1 l)), .agg (nmCells (ofF 2 l)), .agg (nmCells (ofF 3 l)), .agg (nmCells (ofF 4 l))] rfl (by decide) (by decide) ?_ ?_ ?_
            · intro v hv
              simp only [List.mem_cons, List.not_mem_nil, or_false] at hv
              rcases hv with rfl | rfl | rfl | rfl <;> rfl
            · simp [o52, o59, o69, o82]
            · exact ⟨_, rfl, all_row w1' l, (Upd.refl _ _).alloc _⟩
          case inr.inr.inr.inr.inr.inr.inr.inr.inr.inr.inr.inr.inr.inr.inr.inr.inr.inr.inr.inr.inr.inr.inr.inr.inr.inr.inr.inr.inr.inr.inr.inr.inr.inr.inr.inr.inr.inr =>
            refine .inl ⟨by simp [Region.wanted], ?_⟩
            have h37 := hd ⟨37, .data⟩ (by simp) rfl
            have h37 : AllRow l (b'.tmps.getD 83 undef) w1' := h37
            have h37' := h37
            obtain ⟨a37, c37, q37, -, -, -⟩ := h37'
            have e37 : b'.tmps[83]?.getD undef = .slice a37 4 c37 := by simpa using q37
            rw [show b'.tmps.getD 83 undef = .slice a37 4 c37 from q37] at h37
            clear hd hk
            go_step
            exact ⟨_, rfl, h37, Upd.refl _ _⟩
        · intro v w1' hx1' hp
          have hs : AllRow l (v 38) w1' := hp 38 (by decide)
          obtain ⟨v9, hv9⟩ : ∃ u, u = v 38 := ⟨_, rfl⟩
          rw [← hv9] at hs
          have HA := Lib.hid hs
          have HX7 := Lib.hid (HXW6.out.trans hx1')
          have HR7 := Lib.hid (hx1'.at_ HR6.out id)
          clear hp hx1' hs
          simp only [List.size_toArray, List.length_cons, List.length_nil, Nat.reduceAdd, fillAll, npDst]
          go_simp
          rw [← hv9]
          clear hv9
          obtain ⟨b9, o9, c9, rfl, h49, hc9, -⟩ := all_at HA.out (k := 0) (by decide)
          unfold maxLen at hc9
          go_wp2
          go_loopw [10] (fun t wr => ∃ k : Nat, k ≤ 4 ∧ t = .int .i64 k ∧ Ext w1' wr ∧ ∀ j, j < k → putF (ofF (j + 1) l) ≠ s) (fun t _ => 4 - (intOf t).toNat)
          case atStart => exact ⟨0, by decide, rfl, Upd.refl _ _, fun j hj => absurd hj (Nat.not_lt_zero _)⟩
          case round =>
            obtain ⟨k, hk, rfl, hx, hno⟩ := hrel
            have HXK := Lib.hid (HX7.out.trans hx)
            have HXS := Lib.hid hx
            have HNOK := Lib.hid hno
            have HRK := Lib.hid (hx.at_ HR7.out id)
            by_cases hlt : k < 4
            · obtain ⟨b1, o1, c1, e1, -, -, hr1⟩ := all_at (HA.out.ext hx) hlt
              cases e1
              have HRNG := Lib.hid hr1
              have hwf := ofF_wf (k := k + 1) (by omega) HLBD.out
              obtain ⟨y, hy⟩ : ∃ y, y = ofF (k + 1) l := ⟨_, rfl⟩
              rw [← hy] at hr1 hwf
              have HY := Lib.hid hy
              clear hx hno hy
              go_wp2_with (first | (refine wpList_load_mid rfl _ _ rfl _ _ rfl _ _ hr1 Tryz.underlying70 rfl (by kernel_rfl) ?_) | (go_at_call 53; fail))
              refine (rput_any _ y hwf).mono ?_
              rintro e w8 ⟨rfl, hx8⟩
              have HX8 := Lib.hid (HXK.out.trans hx8)
              have HXS8 := Lib.hid (HXS.out.trans hx8)
              have HR8 := Lib.hid (hx8.at_ HRK.out id)
              have hr8 : w8.rangeAt b9 (o9 + k * 6) (nmCells y).toList := fun j u hj => hx8.cell (hr1 j u hj) id
              obtain ⟨D, hD⟩ : ∃ D, D = putF y := ⟨_, rfl⟩
              rw [← hD]
              have HD := Lib.hid hD
              clear hx8 hD hr1
              by_cases hds : D = s
              · have hne : s ≠ [] := fun e => by
                  have h1 := HSP.out
                  rw [e] at h1
                  have h3 : 1 = ws.length + 1 := congrArg List.length h1
                  have h2 := HKL.out
                  omega
                have hpy : putF y = s := by rw [← HD.out]; exact hds
                have hp := parse_unique (put_ne hpy hne) hwf hpy
                have HP := Lib.hid hp
                subst hds
                clear hne hpy hp hwf
                go_wp2_with (first | (refine wpList_load_mid rfl _ _ rfl _ _ rfl _ _ hr8 Tryz.underlying70 rfl (by kernel_rfl) ?_) | (refine wpList_store_blk rfl _ _ _ rfl rfl (cells := nmCells y) rfl HR8.out (Tryz.rnmT _) rfl (nmCells_one _) ?_))
                go_wp2
                refine bodyPost_blk2 rfl rfl rfl (setRow_heap _ _ _ _ _ _ HR8.out) (Tryz.rnmT _) ?_
                exact ⟨by rw [HP.out]; rfl, ext_res HX8.out HG2.out⟩
              · have hb : ((⟨D.toArray⟩ : ByteArray).toList == (⟨s.toArray⟩ : ByteArray).toList) = false := by
                  rw [beq_eq_false_iff_ne, bytes_toList, bytes_toList]; exact hds
                have hb2 : (D == s) = false := by rw [beq_eq_false_iff_ne]; exact hds
                have HDS := Lib.hid hds
                clear hds hr8 hwf
                go_wp2
                go_roundw
                case rel =>
                  refine ⟨k + 1, by omega, by go_num, HXS8.out, fun j hj => ?_⟩
                  by_cases hjk : j = k
                  · subst hjk
                    rw [← HY.out, ← HD.out]; exact HDS.out
                  · exact HNOK.out j (by omega)
                case measure => simp [intOf]; omega
            · have hp := parse_try HSP.out HNW.out (fun q q1 q2 => by
                have := hno (q - 1) (by omega)
                rw [show q - 1 + 1 = q by omega, HL.out, ofF_zeros] at this
                exact this)
              have HP := Lib.hid hp
              clear hp hno hx
              go_wp2_with (refine wpList_store_blk rfl _ _ _ rfl rfl (cells := nmCells Nm.zero) rfl HRK.out (Tryz.rnmT _) rfl (nmCells_one _) ?_)
              go_wp2
              refine bodyPost_blk2 rfl rfl rfl (setRow_heap _ _ _ _ _ _ HRK.out) (Tryz.rnmT _) ?_
              exact ⟨by rw [HP.out]; rfl, ext_res HXK.out HG2.out⟩

end Go.Proofs.YtfpioijfocmfcaaGreatDoor
