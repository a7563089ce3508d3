/-
  PLAIN NAMES: how a Name is written, how a text is read as one, and that each undoes the other. No program in sight; no condition.
-/
import Derived.Lib.ItoaNum
import Derived.Lib.ParseIntBCases
import Derived.Lib.Split
import Derived.Lib.Join
namespace Go.Proofs.YtfpioijfocmfcaaGreatDoor
open Go

structure Nm where
  kind : Nat
  doc : Nat
  n : Nat
  proc : Nat
  inc : Nat
  k : Nat
deriving DecidableEq
def Nm.zero : Nm := ⟨0, 0, 0, 0, 0, 0⟩
structure WfNm (x : Nm) : Prop where
  kind : x.kind < 256
  doc : x.doc < 18446744073709551616
  n : x.n < 18446744073709551616
  proc : x.proc < 18446744073709551616
  inc : x.inc < 18446744073709551616
  k : x.k < 18446744073709551616
def numsF (x : Nm) : List Nat := if x.kind = 1 ∨ x.kind = 2 then [x.doc, x.n] else if x.kind = 3 then [x.proc, x.inc, x.k] else [x.doc, x.proc, x.inc, x.k]
def ofF (kind : Nat) (l : List Nat) : Nm :=
  if kind = 1 ∨ kind = 2 then ⟨kind, l.getD 0 0, l.getD 1 0, 0, 0, 0⟩ else if kind = 3 then ⟨kind, 0, 0, l.getD 0 0, l.getD 1 0, l.getD 2 0⟩ else ⟨kind, l.getD 0 0, 0, l.getD 1 0, l.getD 2 0, l.getD 3 0⟩
def mayF (x : Nm) : Bool := decide (1 ≤ x.kind) && decide (x.kind ≤ 4) && decide (ofF x.kind (numsF x) = x)
def headF (k : Nat) : UInt8 := if k = 1 then 115 else if k = 2 then 98 else if k = 3 then 116 else 106
def countF (k : Nat) : Nat := if k = 1 ∨ k = 2 then 2 else if k = 3 then 3 else 4
def wordsF (x : Nm) : List (List UInt8) := [headF x.kind] :: (numsF x).map Lib.decDigits
def putF (x : Nm) : List UInt8 := if mayF x then Lib.join (wordsF x) [45] else []
def splitF : List UInt8 → List (List UInt8)
  | [] => [[]]
  | c :: r => if c = 45 then [] :: splitF r else (c :: (splitF r).headD []) :: (splitF r).tail
def numF (w : List UInt8) : Option Nat := match Lib.parseUintB 64 w with | .ok u => if Lib.decDigits u = w then some u else none | _ => none
def numsP : List (List UInt8) → Option (List Nat)
  | [] => some []
  | w :: r => match numF w, numsP r with | some u, some l => some (u :: l) | _, _ => none
def kindF (w : List UInt8) : Nat := if w = [115] then 1 else if w = [98] then 2 else if w = [116] then 3 else if w = [106] then 4 else 0
def parseW : List (List UInt8) → Nm × Bool
  | [] => (Nm.zero, false)
  | w :: ws => if kindF w = 0 ∨ ws.length ≠ countF (kindF w) then (Nm.zero, false) else match numsP ws with | some l => (ofF (kindF w) l, true) | none => (Nm.zero, false)
def parseF (s : List UInt8) : Nm × Bool := parseW (splitF s)

/-! numbers -/
theorem parseUintM_append (M : Nat) : ∀ (l r : List UInt8) (acc a : Nat), Lib.parseUintM M acc l = .ok a → Lib.parseUintM M acc (l ++ r) = Lib.parseUintM M a r
  | [], r, acc, a, h => by simp only [Lib.parseUintM, Lib.NumEnd.ok.injEq] at h; subst h; rfl
  | c :: l, r, acc, a, h => by
    simp only [List.cons_append, Lib.parseUintM] at h ⊢
    split at h
    · rename_i h1
      rw [if_pos h1]
      split at h
      · cases h
      · rename_i h2
        rw [if_neg h2]
        split at h
        · cases h
        · rename_i h3
          rw [if_neg h3]
          exact parseUintM_append M l r _ a h
    · cases h
theorem digit_toNat {d : Nat} (h : d < 10) : (UInt8.ofNat (48 + d)).toNat = 48 + d := by rw [UInt8.toNat_ofNat', Nat.mod_eq_of_lt (by omega)]
theorem parse_digits : ∀ u : Nat, u < 18446744073709551616 → Lib.parseUintM 18446744073709551615 0 (Lib.decDigits u) = .ok u := by
  intro u
  induction u using Nat.strongRecOn with
  | ind u ih =>
    intro hu
    rw [Lib.decDigits]
    split
    · rename_i h
      have hd := digit_toNat h
      simp only [Lib.parseUintM, hd]
      rw [if_pos (by omega), if_neg (by omega), if_neg (by omega)]
      congr 1; omega
    · rename_i h
      have hd := digit_toNat (show u % 10 < 10 from Nat.mod_lt _ (by decide))
      rw [parseUintM_append _ _ _ _ _ (ih (u / 10) (by omega) (by omega))]
      simp only [Lib.parseUintM, hd]
      rw [if_pos (by omega), if_neg (by omega), if_neg (by omega)]
      congr 1; omega
theorem dec_ne (u : Nat) : Lib.decDigits u ≠ [] := by
  rw [Lib.decDigits]; split <;> simp
theorem numF_digits {u : Nat} (hu : u < 18446744073709551616) : numF (Lib.decDigits u) = some u := by
  unfold numF Lib.parseUintB
  rw [if_neg (dec_ne u), show (2 : Nat) ^ 64 - 1 = 18446744073709551615 from by decide, parse_digits u hu]
  simp
theorem numF_some {w : List UInt8} {u : Nat} (h : numF w = some u) : Lib.decDigits u = w ∧ u < 18446744073709551616 ∧ Lib.parseUintB 64 w = .ok u := by
  unfold numF at h
  split at h
  · rename_i v hv
    split at h
    · rename_i h1
      cases h
      refine ⟨h1, ?_, hv⟩
      unfold Lib.parseUintB at hv
      split at hv
      · cases hv
      · have := Lib.parseUintM_le _ _ _ _ (by omega) hv
        have h64 : (2 : Nat) ^ 64 - 1 = 18446744073709551615 := by decide
        omega
    · cases h
  · cases h
theorem dec_inj {u v : Nat} (hu : u < 18446744073709551616) (hv : v < 18446744073709551616) (h : Lib.decDigits u = Lib.decDigits v) : u = v := by
  have h1 := numF_digits hu
  rw [h, numF_digits hv] at h1
  cases h1; rfl
theorem dec_digit (u : Nat) : ∀ c ∈ Lib.decDigits u, 48 ≤ c.toNat ∧ c.toNat ≤ 57 := by
  induction u using Nat.strongRecOn with
  | ind u ih =>
    rw [Lib.decDigits]
    split
    · rename_i h
      intro c hc
      simp only [List.mem_singleton] at hc
      subst hc; rw [digit_toNat h]; omega
    · rename_i h
      intro c hc
      rw [List.mem_append] at hc
      rcases hc with hc | hc
      · exact ih (u / 10) (by omega) c hc
      · simp only [List.mem_singleton] at hc
        subst hc; rw [digit_toNat (Nat.mod_lt _ (by decide))]; omega
theorem dec_no45 (u : Nat) : (45 : UInt8) ∉ Lib.decDigits u := by
  intro h
  have := dec_digit u _ h
  revert this; decide

/-! words -/
theorem splitF_ne (s : List UInt8) : splitF s ≠ [] := by
  cases s with
  | nil => simp [splitF]
  | cons c r => unfold splitF; split <;> simp
theorem splitF_word {w : List UInt8} (h : (45 : UInt8) ∉ w) : splitF w = [w] := by
  induction w with
  | nil => rfl
  | cons c r ih =>
    simp only [List.mem_cons, not_or] at h
    rw [splitF, if_neg (fun e => h.1 e.symm), ih h.2]
    rfl
theorem splitF_cut {w r : List UInt8} (h : (45 : UInt8) ∉ w) : splitF (w ++ 45 :: r) = w :: splitF r := by
  induction w with
  | nil => simp [splitF]
  | cons c t ih =>
    simp only [List.mem_cons, not_or] at h
    rw [List.cons_append, splitF, if_neg (fun e => h.1 e.symm), ih h.2]
    rfl
theorem join_nil : Lib.join [] [45] = [] := by simp [Lib.join]
theorem join_one (w : List UInt8) : Lib.join [w] [45] = w := by simp [Lib.join]
theorem join_cons (w v : List UInt8) (r : List (List UInt8)) : Lib.join (w :: v :: r) [45] = w ++ 45 :: Lib.join (v :: r) [45] := by simp [Lib.join]
theorem split_join : ∀ ws : List (List UInt8), ws ≠ [] → (∀ w ∈ ws, (45 : UInt8) ∉ w) → splitF (Lib.join ws [45]) = ws
  | [], h, _ => absurd rfl h
  | [w], _, h => by rw [join_one, splitF_word (h w (by simp))]
  | w :: v :: r, _, h => by rw [join_cons, splitF_cut (h w (by simp)), split_join (v :: r) (by simp) (fun x hx => h x (by simp at hx ⊢; exact .inr hx))]
theorem join_split : ∀ s : List UInt8, Lib.join (splitF s) [45] = s
  | [] => by simp [splitF, Lib.join]
  | c :: r => by
    have ih := join_split r
    have hne := splitF_ne r
    unfold splitF
    obtain ⟨w, ws, e⟩ : ∃ w ws, splitF r = w :: ws := by
      cases h : splitF r with
      | nil => exact absurd h hne
      | cons w ws => exact ⟨w, ws, rfl⟩
    rw [e] at ih ⊢
    split
    · rename_i hc
      subst hc
      rw [join_cons, ih]; rfl
    · show Lib.join ((c :: w) :: ws) [45] = c :: r
      cases ws with
      | nil => rw [join_one] at ih ⊢; rw [ih]
      | cons v t => rw [join_cons] at ih ⊢; rw [List.cons_append, ih]
theorem split_no45 : ∀ s : List UInt8, ∀ w ∈ splitF s, (45 : UInt8) ∉ w
  | [] => by simp [splitF]
  | c :: r => by
    have ih := split_no45 r
    have hne := splitF_ne r
    unfold splitF
    obtain ⟨w, ws, e⟩ : ∃ w ws, splitF r = w :: ws := by
      cases h : splitF r with
      | nil => exact absurd h hne
      | cons w ws => exact ⟨w, ws, rfl⟩
    rw [e] at ih ⊢
    split
    · intro x hx
      simp only [List.mem_cons] at hx
      rcases hx with rfl | hx
      · simp
      · exact ih x (by simpa using hx)
    · rename_i hc
      intro x hx
      simp only [List.headD_cons, List.tail_cons, List.mem_cons] at hx
      rcases hx with rfl | hx
      · simp only [List.mem_cons, not_or]
        exact ⟨fun e => hc e.symm, ih w (by simp)⟩
      · exact ih x (by simp [hx])

/-! each undoes the other -/
theorem kindF_head {k : Nat} (h1 : 1 ≤ k) (h2 : k ≤ 4) : kindF [headF k] = k := by
  have : k = 1 ∨ k = 2 ∨ k = 3 ∨ k = 4 := by omega
  rcases this with rfl | rfl | rfl | rfl <;> decide
theorem headF_kind {w : List UInt8} (h : kindF w ≠ 0) : [headF (kindF w)] = w ∧ 1 ≤ kindF w ∧ kindF w ≤ 4 := by
  unfold kindF at h ⊢
  by_cases h1 : w = [115]
  · subst h1; decide
  · by_cases h2 : w = [98]
    · subst h2; decide
    · by_cases h3 : w = [116]
      · subst h3; decide
      · by_cases h4 : w = [106]
        · subst h4; decide
        · rw [if_neg h1, if_neg h2, if_neg h3, if_neg h4] at h; exact absurd rfl h
theorem mayF_iff {x : Nm} : mayF x = true ↔ 1 ≤ x.kind ∧ x.kind ≤ 4 ∧ ofF x.kind (numsF x) = x := by
  unfold mayF; simp [Bool.and_eq_true, and_assoc]
theorem numsF_length {x : Nm} : (numsF x).length = countF x.kind := by
  unfold numsF countF
  split
  · rfl
  · split <;> rfl
theorem numsF_lt {x : Nm} (hw : WfNm x) : ∀ u ∈ numsF x, u < 18446744073709551616 := by
  intro u hu
  unfold numsF at hu
  have h1 := hw.doc; have h2 := hw.n; have h3 := hw.proc; have h4 := hw.inc; have h5 := hw.k
  split at hu
  · simp at hu; rcases hu with rfl | rfl <;> assumption
  · split at hu <;> simp at hu <;> rcases hu with rfl | rfl | rfl | rfl <;> assumption
theorem numsP_digits : ∀ l : List Nat, (∀ u ∈ l, u < 18446744073709551616) → numsP (l.map Lib.decDigits) = some l
  | [], _ => rfl
  | u :: l, h => by
    rw [List.map_cons, numsP, numF_digits (h u (by simp)), numsP_digits l (fun v hv => h v (by simp [hv]))]
theorem numsP_some : ∀ {ws : List (List UInt8)} {l : List Nat}, numsP ws = some l → l.map Lib.decDigits = ws ∧ ∀ u ∈ l, u < 18446744073709551616
  | [], l, h => by simp only [numsP, Option.some.injEq] at h; subst h; simp
  | w :: r, l, h => by
    unfold numsP at h
    split at h
    · rename_i u l' hu hl'
      cases h
      obtain ⟨h1, h2, -⟩ := numF_some hu
      obtain ⟨h3, h4⟩ := numsP_some hl'
      refine ⟨by rw [List.map_cons, h1, h3], fun v hv => ?_⟩
      simp only [List.mem_cons] at hv
      rcases hv with rfl | hv
      · exact h2
      · exact h4 v hv
    · cases h
theorem wordsF_no45 (x : Nm) : ∀ w ∈ wordsF x, (45 : UInt8) ∉ w := by
  intro w hw
  unfold wordsF at hw
  simp only [List.mem_cons, List.mem_map] at hw
  rcases hw with rfl | ⟨u, -, rfl⟩
  · unfold headF; split
    · decide
    · split
      · decide
      · split <;> decide
  · exact dec_no45 u
theorem split_put {x : Nm} (hm : mayF x = true) : splitF (putF x) = wordsF x := by
  unfold putF
  rw [if_pos hm, split_join _ (by simp [wordsF]) (wordsF_no45 x)]
theorem parse_put {x : Nm} (hm : mayF x = true) (hw : WfNm x) : parseF (putF x) = (x, true) := by
  obtain ⟨h1, h2, h3⟩ := mayF_iff.1 hm
  have hk := kindF_head h1 h2
  unfold parseF
  rw [split_put hm]
  unfold wordsF
  show (if kindF [headF x.kind] = 0 ∨ ((numsF x).map Lib.decDigits).length ≠ countF (kindF [headF x.kind]) then (Nm.zero, false) else match numsP ((numsF x).map Lib.decDigits) with | some l => (ofF (kindF [headF x.kind]) l, true) | none => (Nm.zero, false)) = (x, true)
  rw [if_neg (by rw [hk, List.length_map, numsF_length]; simp; omega), numsP_digits _ (numsF_lt hw)]
  show (ofF (kindF [headF x.kind]) (numsF x), true) = (x, true)
  rw [hk, h3]
theorem ofF_may {kind : Nat} {l : List Nat} (h1 : 1 ≤ kind) (h2 : kind ≤ 4) (hl : l.length = countF kind) (hb : ∀ u ∈ l, u < 18446744073709551616) : mayF (ofF kind l) = true ∧ WfNm (ofF kind l) ∧ numsF (ofF kind l) = l ∧ (ofF kind l).kind = kind := by
  have hk : kind = 1 ∨ kind = 2 ∨ kind = 3 ∨ kind = 4 := by omega
  rcases hk with rfl | rfl | rfl | rfl
  · obtain ⟨a, b, rfl⟩ : ∃ a b, l = [a, b] := by
      match l, hl with
      | [a, b], _ => exact ⟨a, b, rfl⟩
    have ha := hb a (by simp); have hb' := hb b (by simp)
    exact ⟨by simp [mayF, ofF, numsF], ⟨by simp [ofF], by simpa [ofF] using ha, by simpa [ofF] using hb', by simp [ofF], by simp [ofF], by simp [ofF]⟩, by simp [ofF, numsF], by simp [ofF]⟩
  · obtain ⟨a, b, rfl⟩ : ∃ a b, l = [a, b] := by
      match l, hl with
      | [a, b], _ => exact ⟨a, b, rfl⟩
    have ha := hb a (by simp); have hb' := hb b (by simp)
    exact ⟨by simp [mayF, ofF, numsF], ⟨by simp [ofF], by simpa [ofF] using ha, by simpa [ofF] using hb', by simp [ofF], by simp [ofF], by simp [ofF]⟩, by simp [ofF, numsF], by simp [ofF]⟩
  · obtain ⟨a, b, c, rfl⟩ : ∃ a b c, l = [a, b, c] := by
      match l, hl with
      | [a, b, c], _ => exact ⟨a, b, c, rfl⟩
    have ha := hb a (by simp); have hb' := hb b (by simp); have hc := hb c (by simp)
    exact ⟨by simp [mayF, ofF, numsF], ⟨by simp [ofF], by simp [ofF], by simp [ofF], by simpa [ofF] using ha, by simpa [ofF] using hb', by simpa [ofF] using hc⟩, by simp [ofF, numsF], by simp [ofF]⟩
  · obtain ⟨a, b, c, d, rfl⟩ : ∃ a b c d, l = [a, b, c, d] := by
      match l, hl with
      | [a, b, c, d], _ => exact ⟨a, b, c, d, rfl⟩
    have ha := hb a (by simp); have hb' := hb b (by simp); have hc := hb c (by simp); have hd := hb d (by simp)
    exact ⟨by simp [mayF, ofF, numsF], ⟨by simp [ofF], by simpa [ofF] using ha, by simp [ofF], by simpa [ofF] using hb', by simpa [ofF] using hc, by simpa [ofF] using hd⟩, by simp [ofF, numsF], by simp [ofF]⟩
theorem parseW_cases (w : List UInt8) (ws : List (List UInt8)) : (∃ l, numsP ws = some l ∧ kindF w ≠ 0 ∧ ws.length = countF (kindF w) ∧ parseW (w :: ws) = (ofF (kindF w) l, true)) ∨ parseW (w :: ws) = (Nm.zero, false) := by
  have e : parseW (w :: ws) = (if kindF w = 0 ∨ ws.length ≠ countF (kindF w) then (Nm.zero, false) else match numsP ws with | some l => (ofF (kindF w) l, true) | none => (Nm.zero, false)) := rfl
  rw [e]
  by_cases hc : kindF w = 0 ∨ ws.length ≠ countF (kindF w)
  · rw [if_pos hc]; exact .inr rfl
  · rw [if_neg hc]
    simp only [not_or, ne_eq, Decidable.not_not] at hc
    cases hn : numsP ws with
    | none => exact .inr rfl
    | some l => exact .inl ⟨l, rfl, hc.1, hc.2, rfl⟩
theorem splitF_cons (s : List UInt8) : ∃ w ws, splitF s = w :: ws := by
  cases h : splitF s with
  | nil => exact absurd h (splitF_ne s)
  | cons w ws => exact ⟨w, ws, rfl⟩
theorem put_parse {s : List UInt8} (h : (parseF s).2 = true) : mayF (parseF s).1 = true ∧ WfNm (parseF s).1 ∧ putF (parseF s).1 = s := by
  have hs := join_split s
  obtain ⟨w, ws, e⟩ := splitF_cons s
  unfold parseF at h ⊢
  rw [e] at h hs ⊢
  rcases parseW_cases w ws with ⟨l, hn, hk, hl, hp⟩ | hp
  · rw [hp]
    obtain ⟨h1, h2, h3⟩ := headF_kind hk
    obtain ⟨h4, h5⟩ := numsP_some hn
    have hll : l.length = countF (kindF w) := by rw [← hl, ← h4]; simp
    obtain ⟨m1, m2, m3, m4⟩ := ofF_may h2 h3 hll h5
    refine ⟨m1, m2, ?_⟩
    show putF (ofF (kindF w) l) = s
    unfold putF
    rw [if_pos m1]
    unfold wordsF
    rw [m3, m4, h1, h4, hs]
  · rw [hp] at h; cases h
theorem parse_bad {s : List UInt8} (h : (parseF s).2 = false) : (parseF s).1 = Nm.zero := by
  obtain ⟨w, ws, e⟩ := splitF_cons s
  unfold parseF at h ⊢
  rw [e] at h ⊢
  rcases parseW_cases w ws with ⟨l, hn, hk, hl, hp⟩ | hp
  · rw [hp] at h; cases h
  · rw [hp]
theorem put_inj {x y : Nm} (hx : mayF x = true) (hy : mayF y = true) (wx : WfNm x) (wy : WfNm y) (h : putF x = putF y) : x = y := by
  have h1 := parse_put hx wx
  rw [h, parse_put hy wy] at h1
  cases h1; rfl
theorem parse_unique {s : List UInt8} {x : Nm} (hm : mayF x = true) (hw : WfNm x) (h : putF x = s) : parseF s = (x, true) := by rw [← h]; exact parse_put hm hw
theorem parse_none {s : List UInt8} (h : ∀ x, mayF x = true → WfNm x → putF x ≠ s) : parseF s = (Nm.zero, false) := by
  cases hp : (parseF s).2 with
  | true => obtain ⟨h1, h2, h3⟩ := put_parse hp; exact absurd h3 (h _ h1 h2)
  | false => have := parse_bad hp; exact Prod.ext this hp
theorem wf_zero : WfNm Nm.zero := ⟨by decide, by decide, by decide, by decide, by decide, by decide⟩
theorem parse_wf (s : List UInt8) : WfNm (parseF s).1 := by
  cases hp : (parseF s).2 with
  | true => exact (put_parse hp).2.1
  | false => rw [parse_bad hp]; exact wf_zero
end Go.Proofs.YtfpioijfocmfcaaGreatDoor
