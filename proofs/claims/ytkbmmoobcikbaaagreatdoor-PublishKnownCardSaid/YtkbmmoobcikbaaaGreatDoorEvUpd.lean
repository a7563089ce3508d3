/-
  A RECKONER OF CLOSED CALLS: the reference's Update by hand. Conditions: what is handed in is a row of bytes.
-/
import Derived.Test.YtkbmmoobcikbaaaGreatDoorEvCrc
import Derived.Test.YtkbmmoobcikbaaaGreatDoorGN
namespace Go.Proofs.YtkbmmoobcikbaaaGreatDoor.Ev
open Go Go.Proofs.YtkbmmoobcikbaaaGreatDoor Go.RowKit

theorem parity_xor (a b : Nat) : (a ^^^ b) % 2 = (a % 2 + b % 2) % 2 := by
  have h := Nat.testBit_xor (x := a) (y := b) (i := 0)
  simp only [Nat.testBit_zero] at h
  have ha := Nat.mod_two_eq_zero_or_one a
  have hb := Nat.mod_two_eq_zero_or_one b
  have hc := Nat.mod_two_eq_zero_or_one (a ^^^ b)
  rcases ha with ha | ha <;> rcases hb with hb | hb <;> rcases hc with hc | hc <;> simp [ha, hb, hc] at h ⊢
theorem xlc (a b c : Nat) : a ^^^ (b ^^^ c) = b ^^^ (a ^^^ c) := by rw [← Nat.xor_assoc, Nat.xor_comm a, Nat.xor_assoc]
theorem crcStep_xor (a b : Nat) : crcStep (a ^^^ b) = crcStep a ^^^ crcStep b := by
  unfold crcStep
  have e : ((a ^^^ b) >>> 1) = (a >>> 1) ^^^ (b >>> 1) := Nat.shiftRight_xor_distrib
  show Nat.xor ((a ^^^ b) >>> 1) _ = (Nat.xor _ _) ^^^ (Nat.xor _ _)
  rw [e, parity_xor]
  have ha := Nat.mod_two_eq_zero_or_one a
  have hb := Nat.mod_two_eq_zero_or_one b
  generalize a >>> 1 = x
  generalize b >>> 1 = y
  show (x ^^^ y) ^^^ _ = (x ^^^ _) ^^^ (y ^^^ _)
  rcases ha with ha | ha <;> rcases hb with hb | hb <;> simp only [ha, hb] <;> simp [Nat.xor_assoc, Nat.xor_comm, xlc]
theorem crcStep_even (y : Nat) : crcStep (2 * y) = y := by
  unfold crcStep
  rw [if_neg (by omega)]
  show ((2 * y) >>> 1) ^^^ 0 = y
  rw [Nat.xor_zero, Nat.shiftRight_eq_div_pow]; omega
theorem crcIter_xor : ∀ (k a b : Nat), crcIter k (a ^^^ b) = crcIter k a ^^^ crcIter k b
  | 0, _, _ => rfl
  | k + 1, a, b => by rw [crcIter, crcIter_xor k, crcStep_xor]; rfl
theorem crcIter_step : ∀ (k n : Nat), crcIter k (crcStep n) = crcStep (crcIter k n)
  | 0, _ => rfl
  | k + 1, n => by rw [crcIter, crcIter_step k]; rfl
theorem crcIter_shift : ∀ (k y : Nat), crcIter k (2 ^ k * y) = y
  | 0, y => by simp [crcIter]
  | k + 1, y => by
    rw [crcIter, ← crcIter_step, show 2 ^ (k + 1) * y = 2 * (2 ^ k * y) by rw [Nat.pow_succ]; ac_rfl, crcStep_even, crcIter_shift k]
theorem low_xor (x k : Nat) : (x % 2 ^ k) ^^^ (2 ^ k * (x / 2 ^ k % 2)) = x % 2 ^ (k + 1) := by
  have h1 : x % 2 ^ k < 2 ^ k := Nat.mod_lt _ (Nat.two_pow_pos k)
  have h := Nat.two_pow_add_eq_or_of_lt h1 (x / 2 ^ k % 2)
  rw [Nat.mod_pow_succ, Nat.add_comm, h]
  apply Nat.eq_of_testBit_eq
  intro i
  rw [Nat.testBit_xor, Nat.testBit_or, Nat.testBit_two_pow_mul]
  by_cases hi : k ≤ i
  · have : (x % 2 ^ k).testBit i = false := Nat.testBit_lt_two_pow (Nat.lt_of_lt_of_le h1 (Nat.pow_le_pow_right (by decide) hi))
    simp [this]
  · simp [hi]
/-- A digit of a byte falls in, and one falls out. -/
theorem crc_digit (c x k : Nat) : crcStep (crcIter k (c ^^^ (x % 2 ^ k)) ^^^ (x / 2 ^ k % 2)) = crcIter (k + 1) (c ^^^ (x % 2 ^ (k + 1))) := by
  rw [← low_xor, ← Nat.xor_assoc, crcIter, crcIter_xor k _ (2 ^ k * _), crcIter_shift]
def crcUp (c : Nat) (l : List UInt8) : Nat := l.foldl (fun c x => crcIter 8 (c ^^^ x.toNat)) c
theorem xor_lt32 {a b : Nat} (ha : a < 4294967296) (hb : b < 4294967296) : a ^^^ b < 4294967296 := Nat.xor_lt_two_pow (n := 32) ha hb
theorem crcUp_lt : ∀ (l : List UInt8) {c : Nat}, c < 4294967296 → crcUp c l < 4294967296
  | [], _, h => h
  | x :: l, c, h => crcUp_lt l (crcIter_lt 8 (xor_lt32 h (by have := x.toNat_lt; omega)))
theorem crcUp_snoc (c : Nat) (l : List UInt8) (x : UInt8) : crcUp c (l ++ [x]) = crcIter 8 (crcUp c l ^^^ x.toNat) := by simp [crcUp]
theorem rstep_any (w : World) (c : Nat) (hc : c < 4294967296) : Calls Tryz.prog 283 #[.int .u32 c] w fun r w' => r = .returned (.int .u32 ((crcStep c : Nat) : Int)) ∧ w' = w := by
  have e1 : bits BinOp.xor IntKind.u32 ((c : Int) / 2) (2197175160 : Int) = (((c / 2) ^^^ 2197175160 : Nat) : Int) := xor32 (c / 2) 2197175160 (by omega) (by decide)
  have hs : c >>> 1 = c / 2 := by rw [Nat.shiftRight_eq_div_pow]
  by_cases h : c % 2 = 1
  · have g : ((c : Int) % 2 == 1) = true := by simp; omega
    have HE := Lib.hid (show crcStep c = (c / 2) ^^^ 2197175160 by unfold crcStep; rw [if_pos h, hs]; rfl)
    clear h hs
    go_enter Tryz.func283, Tryz.ntmps283
    go_wp2
    go_ret
    exact ⟨by rw [HE.out]; rfl, rfl⟩
  · have g : ((c : Int) % 2 == 1) = false := by simp; omega
    have HE := Lib.hid (show crcStep c = c / 2 by unfold crcStep; rw [if_neg h, hs]; exact Nat.xor_zero _)
    clear h hs
    go_enter Tryz.func283, Tryz.ntmps283
    go_wp2
    go_ret
    exact ⟨by rw [HE.out]; rfl, rfl⟩
set_option maxHeartbeats 8000000 in
set_option maxRecDepth 100000 in
theorem rupdate_any (w : World) (c : Nat) (b1 o1 cp : Nat) (l : List UInt8) (hc : c < 4294967296) (hm : l.length ≤ 1000000000) (hr : ∀ (j : Nat) (h : j < l.length), w.cell? ⟨b1, o1 + j, none⟩ = some (.int .u8 ((l[j].toNat : Nat) : Int))) :
    Calls Tryz.prog 272 #[.int .u32 c, .slice (some ⟨b1, o1, none⟩) l.length cp] w fun r w' => r = .returned (.int .u32 ((crcUp (c ^^^ 4294967295) l ^^^ 4294967295 : Nat) : Int)) ∧ w' = w := by
  have G := Lib.hid hr
  clear hr
  have e1 : bits BinOp.xor IntKind.u32 (c : Int) (4294967295 : Int) = ((c ^^^ 4294967295 : Nat) : Int) := xor32 c 4294967295 hc (by decide)
  have HC := Lib.hid hc
  clear hc
  go_enter Tryz.func272, Tryz.ntmps272
  go_wp2
  go_loopw [0, 5] (fun t v w' => ∃ i : Nat, i ≤ l.length ∧ v = .int .i64 i ∧ t = .int .u32 ((crcUp (c ^^^ 4294967295) (l.take i) : Nat) : Int) ∧ w' = w) (fun _ v _ => l.length - (intOf v).toNat)
  case atStart => exact ⟨0, Nat.zero_le _, rfl, rfl, rfl⟩
  case round =>
    obtain ⟨i, hi, rfl, rfl, rfl⟩ := hrel
    have hlt := crcUp_lt (l.take i) (xor_lt32 HC.out (show 4294967295 < 4294967296 by decide))
    by_cases hil : i < l.length
    · have hcell := G.out i hil
      have hxl := l[i].toNat_lt
      have HS := Lib.hid (show crcUp (c ^^^ 4294967295) (l.take (i + 1)) = crcIter 8 (crcUp (c ^^^ 4294967295) (l.take i) ^^^ (l[i].toNat % 2 ^ 8)) by
        rw [List.take_succ_eq_append_getElem hil, crcUp_snoc, Nat.mod_eq_of_lt hxl])
      generalize l[i].toNat = x at hcell hxl HS
      generalize crcUp (c ^^^ 4294967295) (l.take i) = r at hlt HS ⊢
      have hxl : x < 256 := hxl
      go_wp2
      go_loopw [0, 6] (fun t v w' => ∃ k : Nat, k ≤ 8 ∧ v = .int .i64 k ∧ t = .int .u32 ((crcIter k (r ^^^ (x % 2 ^ k)) : Nat) : Int) ∧ w' = wr) (fun _ v _ => 8 - (intOf v).toNat)
      case atStart => exact ⟨0, Nat.zero_le _, rfl, by rw [show x % 2 ^ 0 = 0 from Nat.mod_one x, Nat.xor_zero]; rfl, rfl⟩
      case round =>
        obtain ⟨k, hk, rfl, rfl, rfl⟩ := hrel
        by_cases hk8 : k < 8
        · have hcl : crcIter k (r ^^^ (x % 2 ^ k)) < 4294967296 := crcIter_lt k (xor_lt32 hlt (Nat.lt_of_le_of_lt (Nat.mod_le _ _) (by omega)))
          have e2 : bits BinOp.xor IntKind.u32 ((crcIter k (r ^^^ (x % 2 ^ k)) : Nat) : Int) ((x : Int) / 2 ^ k % 2) = ((crcIter k (r ^^^ (x % 2 ^ k)) ^^^ (x / 2 ^ k % 2) : Nat) : Int) := by
            have := xor32 (crcIter k (r ^^^ (x % 2 ^ k))) (x / 2 ^ k % 2) hcl (by omega)
            rw [← this]; congr 1
          have hdl : crcIter k (r ^^^ (x % 2 ^ k)) ^^^ (x / 2 ^ k % 2) < 4294967296 := xor_lt32 hcl (by omega)
          have HD := Lib.hid (crc_digit r x k)
          generalize crcIter k (r ^^^ (x % 2 ^ k)) = cc at e2 hdl HD hcl ⊢
          generalize cc ^^^ (x / 2 ^ k % 2) = dd at e2 hdl HD
          go_wp2_with (go_at_call 283; fail)
          refine (rstep_any _ dd hdl).mono ?_
          rintro e w3 ⟨rfl, rfl⟩
          rw [HD.out]
          go_wp2
          go_roundw
          case rel => exact ⟨k + 1, by omega, by go_num, rfl, trivial⟩
          case measure => simp [intOf]; omega
        · have : k = 8 := by omega
          subst this
          rw [← HS.out]
          go_wp2
          go_roundw
          case rel => exact ⟨i + 1, by omega, by go_num, rfl, trivial⟩
          case measure => simp [intOf]; omega
    · have : i = l.length := by omega
      subst this
      rw [List.take_length] at hlt ⊢
      have e2 : bits BinOp.xor IntKind.u32 ((crcUp (c ^^^ 4294967295) l : Nat) : Int) (4294967295 : Int) = ((crcUp (c ^^^ 4294967295) l ^^^ 4294967295 : Nat) : Int) := xor32 _ 4294967295 hlt (by decide)
      go_wp2
      go_ret
      exact ⟨by rw [← e2]; rfl, rfl⟩
/-- No bytes. -/
theorem rupdate_nil (w : World) (c : Nat) (cp : Nat) (p : Option Addr) (hc : c < 4294967296) :
    Calls Tryz.prog 272 #[.int .u32 c, .slice p 0 cp] w fun r w' => r = .returned (.int .u32 ((crcUp (c ^^^ 4294967295) [] ^^^ 4294967295 : Nat) : Int)) ∧ w' = w := by
  have e1 : bits BinOp.xor IntKind.u32 (c : Int) (4294967295 : Int) = ((c ^^^ 4294967295 : Nat) : Int) := xor32 c 4294967295 hc (by decide)
  have hlt := xor_lt32 hc (show 4294967295 < 4294967296 by decide)
  have e2 : bits BinOp.xor IntKind.u32 ((c ^^^ 4294967295 : Nat) : Int) (4294967295 : Int) = ((c ^^^ 4294967295 ^^^ 4294967295 : Nat) : Int) := xor32 _ 4294967295 hlt (by decide)
  have HE := Lib.hid e2
  generalize c ^^^ 4294967295 = d at *
  clear hc
  go_enter Tryz.func272, Tryz.ntmps272
  go_wp2
  refine wp_loop_rounds 1 ?_
  rw [rounds_succ]
  go_wp2
  go_ret
  exact ⟨by rw [show crcUp d [] = d from rfl, ← HE.out]; rfl, rfl⟩
/-- Bytes, as numbers. -/
noncomputable def bytesN : List AV → Option (List Nat)
  | [] => some []
  | .int .u8 (.ofNat x) :: r => match Nat.blt x 256, bytesN r with
    | true, some l => some (x :: l)
    | _, _ => none
  | _ => none
theorem bytesN_ok {l : Env} : ∀ {vs : List AV} {ns : List Nat} {xs : List Value}, bytesN vs = some ns → VRs l vs xs → xs = ns.map (fun n => .int .u8 ((n : Nat) : Int)) ∧ ∀ n ∈ ns, n < 256
  | [], _, _, h, .nil => by cases h; exact ⟨rfl, fun _ h => by cases h⟩
  | v :: r, ns, _, h, .cons h1 h2 => by
    unfold bytesN at h
    split at h
    · rename_i e; cases e
    · rename_i x r' e
      cases e
      split at h
      · rename_i l' q1 q2
        cases h
        obtain ⟨rfl, g2⟩ := bytesN_ok q2 h2
        cases h1
        rw [Nat.blt_eq] at q1
        exact ⟨rfl, fun n hn => (List.mem_cons.1 hn).elim (fun e => e ▸ q1) (g2 n)⟩
      · cases h
    · cases h
noncomputable def upN : List Nat → Nat → Nat
  | [], c => c
  | x :: r, c => upN r (crcIter 8 (Nat.xor c x))
theorem upN_eq : ∀ (ns : List Nat) (c : Nat), (∀ n ∈ ns, n < 256) → upN ns c = crcUp c (ns.map UInt8.ofNat)
  | [], _, _ => rfl
  | x :: r, c, h => by
    have hx : (UInt8.ofNat x).toNat = x := by simp [Nat.mod_eq_of_lt (h x (by simp))]
    have := upN_eq r (crcIter 8 (Nat.xor c x)) fun n hn => h n (by simp [hn])
    unfold upN
    rw [this]
    unfold crcUp
    rw [List.map_cons, List.foldl_cons, hx]
    rfl
noncomputable def updL (c : Nat) (vs : Option (List AV)) (H : Hp) : Option (AV × Hp) := match vs with
  | some vs => match bytesN vs, Nat.blt c 4294967296 with
    | some ns, true => match Nat.ble ns.length 1000000000 with
      | true => some (.int .u32 (.ofNat (Nat.xor (upN ns (Nat.xor c 4294967295)) 4294967295)), H)
      | false => none
    | _, _ => none
  | none => none
/-- The reference's Update by hand. -/
noncomputable def updH : HookF
  | [.int .u32 (.ofNat c), .sl b o n _], H => updL c (loadL H b o n) H
  | [.int .u32 (.ofNat c), .slo b o n _], H => updL c (loadL H b o n) H
  | [.int .u32 (.ofNat c), .nils], H => updL c (some []) H
  | _, _ => none
theorem upd_row {sz : TypeId → Nat} {lo : Nat} {l : Env} {H H' : Hp} {w : World} {c b o n : Nat} {v : AV} (hr : HR sz l H w) (e : updL c (loadL H b o n) H = some (v, H')) {k κ cp : Nat} (hl : l b = some (k, κ)) :
    Calls Tryz.prog 272 #[.int .u32 (c : Int), .slice (some ⟨k, o, none⟩) n cp] w fun r w' => ∃ x, r = .returned x ∧ ∃ l', VR l' v x ∧ Kp sz lo l H w l' H' w' := by
  unfold updL at e
  split at e
  · rename_i vs hv
    split at e
    · rename_i ns q1 q2
      split at e
      · rename_i q3
        cases e
        rw [Nat.blt_eq] at q2
        rw [Nat.ble_eq] at q3
        obtain ⟨k', κ', xs, h1, h2, h3, h4⟩ := loadL_ok hr hv
        rw [hl] at h1
        cases h1
        obtain ⟨rfl, g2⟩ := bytesN_ok q1 h3
        rw [List.length_map] at h4
        subst h4
        have hL : (ns.map UInt8.ofNat).length = ns.length := List.length_map _
        have hw := rupdate_any w c k o cp (ns.map UInt8.ofNat) q2 (by rw [hL]; exact q3) fun j hj => by
          have hj' : j < ns.length := by rwa [hL] at hj
          have := h2 j (.int .u8 ((ns[j] : Nat) : Int)) (by simp [hj'])
          rw [this]
          simp [Nat.mod_eq_of_lt (g2 ns[j] (List.getElem_mem hj'))]
        rw [hL] at hw
        refine Calls.mono hw fun r w' => ?_
        rintro ⟨rfl, rfl⟩
        refine ⟨_, rfl, l, ?_, .refl hr⟩
        rw [← upN_eq ns _ g2]
        exact .int _ _
      · cases e
    · cases e
  · cases e
theorem upd_ok {sz : TypeId → Nat} {lo : Nat} (hc : ∀ args w, (callFunc 272 args).run Tryz.prog w = .ok (.enter 272 args) w) : HookOk Tryz.prog sz lo 272 updH := by
  intro us H v H' e l w xs hr hx
  unfold updH at e
  split at e
  · cases hx with | cons h1 hx => ?_
    cases hx with | cons h2 hx => ?_
    cases hx
    cases h1
    cases h2 with | sl _ _ _ hl => ?_
    exact .inr ⟨hc _ _, upd_row hr e hl⟩
  · cases hx with | cons h1 hx => ?_
    cases hx with | cons h2 hx => ?_
    cases hx
    cases h1
    cases h2 with | slo _ _ _ hl hd => ?_
    exact .inr ⟨hc _ _, upd_row hr e hl⟩
  · cases hx with | cons h1 hx => ?_
    cases hx with | cons h2 hx => ?_
    cases hx
    cases h1
    cases h2
    rename_i H0 c
    unfold updL at e
    split at e
    · rename_i vs hv
      cases hv
      split at e
      · rename_i ns q1 q2
        cases q1
        split at e
        · cases e
          rw [Nat.blt_eq] at q2
          refine .inr ⟨hc _ _, Calls.mono (rupdate_nil w c 0 none q2) fun r w' => ?_⟩
          rintro ⟨rfl, rfl⟩
          exact ⟨_, rfl, l, .int _ _, .refl hr⟩
        · cases e
      · cases e
    · cases e
  · cases e
end Go.Proofs.YtkbmmoobcikbaaaGreatDoor.Ev
