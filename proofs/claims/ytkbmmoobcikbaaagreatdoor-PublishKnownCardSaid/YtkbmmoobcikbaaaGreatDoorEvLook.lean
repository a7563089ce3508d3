/-
  A RECKONER OF CLOSED CALLS: (*inode.Table).Fail's look for a file's names in a row of which the order is not known, by hand. Conditions: numbers apart; at most a million.
-/
import Derived.Test.YtkbmmoobcikbaaaGreatDoorEvBag
namespace Go.Proofs.YtkbmmoobcikbaaaGreatDoor.Ev
open Go Go.Proofs.YtkbmmoobcikbaaaGreatDoor Go.RowKit

noncomputable def lookP (ino : Int) : List (Int × Int) → Option Int
  | [] => none
  | x :: r => match decide (x.1 = ino) with
    | true => some x.2
    | false => lookP ino r
noncomputable def noInt (a : Int) : List (Int × Int) → Bool
  | [] => true
  | x :: r => match decide (x.1 = a) with
    | true => false
    | false => noInt a r
noncomputable def apartP : List (Int × Int) → Bool
  | [] => true
  | x :: r => match noInt x.1 r with
    | true => apartP r
    | false => false
theorem noInt_ok {a : Int} : ∀ {l : List (Int × Int)}, noInt a l = true → ∀ x ∈ l, x.1 ≠ a
  | [], _, _, hx => by cases hx
  | y :: r, h, x, hx => by
    unfold noInt at h
    split at h
    · cases h
    · rename_i hy
      rcases List.mem_cons.1 hx with rfl | hx'
      · simpa using hy
      · exact noInt_ok h x hx'
theorem lookP_none {a : Int} : ∀ {l : List (Int × Int)}, (∀ x ∈ l, x.1 ≠ a) → lookP a l = none
  | [], _ => rfl
  | y :: r, h => by
    unfold lookP
    rw [decide_eq_false (h y (by simp))]
    exact lookP_none fun x hx => h x (by simp [hx])
theorem lookP_some {a m : Int} : ∀ {l : List (Int × Int)}, apartP l = true → (a, m) ∈ l → lookP a l = some m
  | [], _, h => by cases h
  | y :: r, h, hm => by
    unfold apartP at h
    split at h
    · rename_i hn
      unfold lookP
      rcases List.mem_cons.1 hm with rfl | hm'
      · simp
      · rw [decide_eq_false fun e => noInt_ok hn (a, m) hm' e.symm]
        exact lookP_some h hm'
    · cases h
theorem flatP_get : ∀ (l : List (Int × Int)) {k : Nat} (h : k < l.length), (flatP l)[k * 2]? = some (.int .i64 l[k].1) ∧ (flatP l)[k * 2 + 1]? = some (.int .i64 l[k].2)
  | [], k, h => by cases h
  | x :: r, 0, _ => ⟨rfl, rfl⟩
  | x :: r, k + 1, h => by
    have := flatP_get r (k := k) (by simpa using h)
    have e : flatP (x :: r) = .int .i64 x.1 :: .int .i64 x.2 :: flatP r := rfl
    rw [e, show (k + 1) * 2 = k * 2 + 1 + 1 by omega]
    simpa using this
theorem lt_of_cell {w : World} {b o : Nat} {v : Value} (h : w.cell? ⟨b, o, none⟩ = some v) : b < w.heap.size := World.block_lt_of_cell? w ⟨b, o, none⟩ h
theorem Same.cell {w w' : World} (h : Same w w') {b o : Nat} {v : Value} (hc : w.cell? ⟨b, o, none⟩ = some v) : w'.cell? ⟨b, o, none⟩ = some v := by
  have := h.block b (lt_of_cell hc)
  rw [← hc]
  unfold World.cell?
  simp only [this]
theorem Same.alloc {w w' : World} (h : Same w w') (o : Obj) : Same w (w'.alloc o) := ⟨h.os, h.tape, h.output, by have := h.size; simp; omega, fun k hk => (heap_alloc_old _ _ (Nat.lt_of_lt_of_le hk h.size)).trans (h.block k hk)⟩
set_option maxHeartbeats 1000000 in
theorem inoIs_any (w : World) (ib : Nat) (a b ino : Int) (h : w.cell? ⟨ib, 0, none⟩ = some (.int .i64 ino)) :
    Calls Tryz.prog 105 #[.agg #[.int .i64 a, .int .i64 b], .pointer (some ⟨ib, 0, none⟩)] w fun e w' => e = .returned (.bool (decide (a = ino))) ∧ Same w w' := by
  have hS : Same w (w.alloc (.cells #[.int .i64 a, .int .i64 b] 156)) := (Same.refl w).alloc _
  have h2 := hS.cell h
  have HS := Lib.hid hS
  clear hS h
  have hE : (a == ino) = decide (a = ino) := rfl
  have HE := Lib.hid hE
  clear hE
  go_enter Tryz.func105, Tryz.ntmps105
  go_wp2
  go_ret
  exact ⟨by first | rfl | (rw [HE.out]), HS.out⟩
set_option maxRecDepth 100000 in
set_option maxHeartbeats 2000000 in
theorem index_any (w : World) (g cap ib : Nat) (ino : Int) (l : List (Int × Int)) (hrow : w.rangeAt g 0 (flatP l)) (hib : w.cell? ⟨ib, 0, none⟩ = some (.int .i64 ino)) (hb : l.length ≤ 1000000) :
    Calls Tryz.prog 104 #[.slice (some ⟨g, 0, none⟩) l.length cap, .func (.func 105) #[] #[.pointer (some ⟨ib, 0, none⟩)]] w fun e w' => Same w w' ∧ ((e = .returned (.int .i64 (-1)) ∧ ∀ x ∈ l, x.1 ≠ ino) ∨ ∃ (k : Nat) (h : k < l.length), e = .returned (.int .i64 (k : Int)) ∧ l[k].1 = ino) := by
  have HR := Lib.hid hrow
  have HI := Lib.hid hib
  clear hrow hib
  go_enter Tryz.func104, Tryz.ntmps104
  go_wp2
  go_loopw [8] (fun i wr => ∃ k : Nat, k ≤ l.length ∧ i = .int .i64 k ∧ (∀ x ∈ l.take k, x.1 ≠ ino) ∧ Same w wr) (fun i _ => l.length - (intOf i).toNat)
  case atStart => exact ⟨0, Nat.zero_le _, rfl, by simp, Same.refl _⟩
  case round =>
    obtain ⟨k, hk, rfl, hd, hx⟩ := hrel
    have HD := Lib.hid hd
    have HX := Lib.hid hx
    clear hd hx
    by_cases hlt : k < l.length
    · have p1 := HX.out.cell (HR.out (k * 2) _ (flatP_get l hlt).1)
      have p2 := HX.out.cell (HR.out (k * 2 + 1) _ (flatP_get l hlt).2)
      rw [Nat.zero_add] at p1 p2
      have hi := HX.out.cell HI.out
      obtain ⟨x, hxx⟩ : ∃ x, x = l[k] := ⟨_, rfl⟩
      rw [← hxx] at p1 p2
      have HXX := Lib.hid hxx
      clear hxx
      have hcl := inoIs_any wr ib x.1 x.2 ino hi
      have HCL := Lib.hid hcl
      clear hcl hi
      go_wp2_with (go_at_call 105; fail)
      refine HCL.out.mono ?_
      rintro e w2 ⟨rfl, hu⟩
      have HU := Lib.hid (HX.out.trans hu)
      clear hu p1 p2
      by_cases hr : x.1 = ino
      · have hq : decide (x.1 = ino) = true := by simpa using hr
        have HRR := Lib.hid hr
        clear hr
        go_wp2
        go_ret
        exact ⟨HU.out, .inr ⟨k, hlt, rfl, by rw [← HXX.out]; exact HRR.out⟩⟩
      · have hq : decide (x.1 = ino) = false := by simpa using hr
        have HRR := Lib.hid hr
        clear hr
        go_wp2
        go_roundw
        case rel =>
          refine ⟨k + 1, by omega, by go_num, fun y hy => ?_, HU.out⟩
          rw [List.take_succ_eq_append_getElem hlt] at hy
          rcases List.mem_append.1 hy with hy | hy
          · exact HD.out y hy
          · rw [List.mem_singleton] at hy
            rw [hy, ← HXX.out]
            exact HRR.out
        case measure => simp [intOf]; omega
    · have hkl : k = l.length := by omega
      go_wp2
      go_ret
      rw [hkl, List.take_length] at HD
      exact ⟨HX.out, .inl ⟨rfl, HD.out⟩⟩
theorem index_nil (w : World) (f : Value) : Calls Tryz.prog 104 #[.slice none 0 0, f] w fun e w' => e = .returned (.int .i64 (-1)) ∧ w' = w := by
  go_enter Tryz.func104, Tryz.ntmps104
  go_wp2
  refine wp_loop_rounds 1 ?_
  rw [rounds_succ]
  go_wp2
  go_ret
  exact ⟨rfl, rfl⟩
/-- What is left where a number of names was found. -/
def putMany (w : World) (k o : Nat) : Option Int → World
  | none => w
  | some m => w.setCell ⟨k, o, none⟩ (.int .i64 m)
set_option maxHeartbeats 8000000 in
set_option maxRecDepth 1000000 in
theorem look_walk {Q : Exit → Act → World → Prop} (W0 : World) (Ds : List Deferred) (x0 x2 x3 x4 x5 x6 x9 x10 x11 x12 x13 x14 x15 x16 x17 x18 x19 x20 x21 x22 x23 x24 x25 x26 x27 x28 x29 x30 x31 x32 x33 x34 x35 x36 x37 x38 x39 x40 x41 x42 x43 x44 x45 x46 x47 x48 x49 x50 x51 x52 x53 x54 x55 x56 x57 x58 x59 x60 x61 x62 x63 x64 x65 x66 x67 x68 x69 x70 : Value) (v1 : Value) (kf fo ib : Nat) (r : Option Int)
    (hidx : Calls Tryz.prog 104 #[v1, .func (.func 105) #[] #[.pointer (some ⟨ib, 0, none⟩)]] W0 fun e w' => Same W0 w' ∧ ((e = .returned (.int .i64 (-1)) ∧ r = none) ∨ ∃ g cap n k m : Nat, ∃ z : Int, v1 = .slice (some ⟨g, 0, none⟩) n cap ∧ k < n ∧ n ≤ 1000000 ∧ m = 0 ∧ e = .returned (.int .i64 (k : Int)) ∧ r = some z ∧ W0.cell? ⟨g, k * 2 + 1, none⟩ = some (.int .i64 z)))
    (hst : ∀ z, r = some z → ∃ old, W0.cell? ⟨kf, fo + 1, none⟩ = some old ∧ ∀ w', Same W0 w' → w'.frozen? ⟨kf, fo + 1, none⟩ = false)
    (hQ : ∀ (y10 y47 y48 y49 y50 y51 y52 y53 y54 y55 y56 y57 y58 y59 : Value) (w' : World), Same W0 w' → Q .normal { tmps := #[x0, v1, x2, x3, x4, x5, x6, .pointer (some ⟨ib, 0, none⟩), .pointer (some ⟨kf, fo, none⟩), x9, y10, x11, x12, x13, x14, x15, x16, x17, x18, x19, x20, x21, x22, x23, x24, x25, x26, x27, x28, x29, x30, x31, x32, x33, x34, x35, x36, x37, x38, x39, x40, x41, x42, x43, x44, x45, x46, y47, y48, y49, y50, y51, y52, y53, y54, y55, y56, y57, y58, y59, x60, x61, x62, x63, x64, x65, x66, x67, x68, x69, x70], defers := Ds } (putMany w' kf (fo + 1) r)) :
    (cAt [.r, .r, .l, .l, .r, .r, .l, .l, .r, .r, .r, .r, .r, .r, .l] (Tryz.f68.body.getD .skip)).wp Tryz.prog Q { tmps := #[x0, v1, x2, x3, x4, x5, x6, .pointer (some ⟨ib, 0, none⟩), .pointer (some ⟨kf, fo, none⟩), x9, x10, x11, x12, x13, x14, x15, x16, x17, x18, x19, x20, x21, x22, x23, x24, x25, x26, x27, x28, x29, x30, x31, x32, x33, x34, x35, x36, x37, x38, x39, x40, x41, x42, x43, x44, x45, x46, x47, x48, x49, x50, x51, x52, x53, x54, x55, x56, x57, x58, x59, x60, x61, x62, x63, x64, x65, x66, x67, x68, x69, x70], defers := Ds } W0 := by
  have HIDX := Lib.hid hidx
  have HST := Lib.hid hst
  have HQ := Lib.hid hQ
  clear hidx hst hQ
  unfold Tryz.f68
  dsimp only [cAt, Option.getD_some]
  go_wp2_with (go_at_call 104; fail)
  refine HIDX.out.mono ?_
  rintro e w1 ⟨hS, ⟨rfl, rfl⟩ | ⟨g, cap, n, k, m, z, rfl, hk, hn, -, rfl, rfl, hcell⟩⟩
  · have HS := Lib.hid hS
    clear hS
    go_wp2
    exact HQ.out _ _ _ _ _ _ _ _ _ _ _ _ _ _ w1 HS.out
  · have hc1 := hS.cell hcell
    obtain ⟨old, ho, hfz⟩ := HST.out z rfl
    have hc2 := hS.cell ho
    have hf2 := hfz w1 hS
    have HS := Lib.hid hS
    clear hS hcell ho hfz
    go_wp2
    exact HQ.out _ _ _ _ _ _ _ _ _ _ _ _ _ _ w1 HS.out
/-! as a piece of the reckoner's -/
noncomputable def inoAt (H : Hp) (b : Nat) : Option Int := match H.get b with
  | some (.cells _ (.int .i64 n :: _) _) => some n
  | _ => none
noncomputable def bagAt (H : Hp) (v : AV) : Option (List (Int × Int)) := match v with
  | .nils => some []
  | .slo b 0 n 0 => match H.get b with
    | some (.bag _ cs) => match Nat.beq n cs.length, Nat.ble n 1000000 with
      | true, true => some cs
      | _, _ => none
    | _ => none
  | _ => none
noncomputable def rfC (lo : Nat) : RF := fun _ F H => match getI F 8, getI F 7, getI F 1 with
  | some (.ptr fb fo), some (.ptr ib 0), some nm => match inoAt H ib, bagAt H nm with
    | some ino, some cs => match apartP cs, lookP ino cs with
      | true, some m => match storeH H lo fb (fo + 1) [.int .i64 m] with
        | some H' => .ok .normal (keepF F [0, 1, 2, 7, 8, 14, 15, 16] fr0) H'
        | none => .bad
      | true, none => .ok .normal (keepF F [0, 1, 2, 7, 8, 14, 15, 16] fr0) H
      | false, _ => .bad
    | _, _ => .bad
  | _, _, _ => .bad
theorem Same.frozen {w w' : World} (h : Same w w') {b o : Nat} {v : Value} (hc : w.cell? ⟨b, o, none⟩ = some v) (hf : w.frozen? ⟨b, o, none⟩ = false) : w'.frozen? ⟨b, o, none⟩ = false := by
  have := h.block b (lt_of_cell hc)
  rw [← hf]
  unfold World.frozen?
  simp only [this]
theorem bag_row {sz : TypeId → Nat} {l : Env} {H : Hp} {w : World} (hr : HR sz l H w) {b : Nat} {t : TypeId} {cs : List (Int × Int)} (hb : H.get b = some (.bag t cs)) : ∃ k κ xs, l b = some (k, κ) ∧ List.Perm xs cs ∧ w.rangeAt k 0 (flatP xs) := by
  obtain ⟨k, κ, x, h1, h2, h3⟩ := hr.obj b _ hb
  cases h3 with | bag hp hs hf => ?_
  refine ⟨k, κ, _, h1, hp, fun j v hj => ?_⟩
  rw [Nat.zero_add]
  refine cell_get h2 j v ?_
  rw [List.getElem?_append_left (List.getElem?_eq_some_iff.1 hj).1]
  exact hj
theorem rfC_ok {T : Tb} {call : CallF} : EvOkF Tryz.prog T 71 (cAt [.r, .r, .l, .l, .r, .r, .l, .l, .r, .r, .r, .r, .r, .r, .l] (Tryz.f68.body.getD .skip)) (rfC T.lo call) := by
  intro F H ex F' H' h B Ds l a w Q hf hr hm hQ
  unfold rfC at h
  split at h
  case h_2 => cases h
  rename_i fb fo ib nm h8 h7 h1
  split at h
  case h_2 => cases h
  rename_i ino cs hino hcs
  obtain ⟨u8, g8, v8⟩ := hf.get 8 _ h8
  cases v8 with | ptr _ hlf => ?_
  rename_i kf κf
  obtain ⟨u7, g7, v7⟩ := hf.get 7 _ h7
  cases v7 with | ptr _ hli => ?_
  rename_i ki κi
  obtain ⟨u1, g1, v1⟩ := hf.get 1 _ h1
  have hap : apartP cs = true := by
    split at h
    · assumption
    · assumption
    · cases h
  have hcell : w.cell? ⟨ki, 0, none⟩ = some (.int .i64 ino) := by
    unfold inoAt at hino
    split at hino
    · rename_i hb
      cases hino
      obtain ⟨k, κ, ys, rest, fr, q1, q2, q3, -, -, -⟩ := hr.at_ hb
      rw [hli] at q1
      cases q1
      cases q3 with | cons q4 q5 => ?_
      cases q4
      exact cell_get (xs := _ :: _) q2 0 _ rfl
    · cases hino
  have hidx : Calls Tryz.prog 104 #[u1, .func (.func 105) #[] #[.pointer (some ⟨ki, 0, none⟩)]] w fun e w' => Same w w' ∧ ((e = .returned (.int .i64 (-1)) ∧ lookP ino cs = none) ∨ ∃ g cap n k m : Nat, ∃ z : Int, u1 = .slice (some ⟨g, 0, none⟩) n cap ∧ k < n ∧ n ≤ 1000000 ∧ m = 0 ∧ e = .returned (.int .i64 (k : Int)) ∧ lookP ino cs = some z ∧ w.cell? ⟨g, k * 2 + 1, none⟩ = some (.int .i64 z)) := by
    unfold bagAt at hcs
    split at hcs
    · cases hcs
      cases v1
      refine (index_nil w _).mono fun e w' => ?_
      rintro ⟨rfl, rfl⟩
      exact ⟨Same.refl _, .inl ⟨rfl, rfl⟩⟩
    · rename_i b n
      split at hcs
      · rename_i t0 cs0 hb
        split at hcs
        · rename_i hn hle
          cases hcs
          have hn := Nat.eq_of_beq_eq_true hn
          have hle := Nat.le_of_ble_eq_true hle
          cases v1 with | slo _ _ _ hlb hd => ?_
          obtain ⟨k, κ, xs, q1, q2, q3⟩ := bag_row hr hb
          rw [hlb] at q1
          cases q1
          have hxl : xs.length = n := by rw [q2.length_eq, hn]
          subst hxl
          refine (index_any w _ _ ki ino xs q3 hcell hle).mono fun e w' => ?_
          rintro ⟨hS, ⟨rfl, hno⟩ | ⟨k1, hk1, rfl, he⟩⟩
          · exact ⟨hS, .inl ⟨rfl, lookP_none fun x hx => hno x (q2.mem_iff.2 hx)⟩⟩
          · refine ⟨hS, .inr ⟨_, _, _, k1, 0, xs[k1].2, rfl, hk1, hle, rfl, rfl, lookP_some hap ?_, ?_⟩⟩
            · rw [← he]
              exact q2.mem_iff.1 (List.getElem_mem hk1)
            · have := q3 (k1 * 2 + 1) _ (flatP_get xs hk1).2
              rw [Nat.zero_add] at this
              exact this
        · cases hcs
      · cases hcs
    · cases hcs
  obtain ⟨tm, ds⟩ := a
  obtain ⟨X⟩ := tm
  have hz0 : X.length = 71 := by simpa using hf.size
  obtain rfl : ds = Ds := hf.defers
  obtain ⟨x0, L1, rfl, hz1⟩ := consOf hz0
  obtain ⟨x1, L2, rfl, hz2⟩ := consOf hz1
  obtain ⟨x2, L3, rfl, hz3⟩ := consOf hz2
  obtain ⟨x3, L4, rfl, hz4⟩ := consOf hz3
  obtain ⟨x4, L5, rfl, hz5⟩ := consOf hz4
  obtain ⟨x5, L6, rfl, hz6⟩ := consOf hz5
  obtain ⟨x6, L7, rfl, hz7⟩ := consOf hz6
  obtain ⟨x7, L8, rfl, hz8⟩ := consOf hz7
  obtain ⟨x8, L9, rfl, hz9⟩ := consOf hz8
  obtain ⟨x9, L10, rfl, hz10⟩ := consOf hz9
  obtain ⟨x10, L11, rfl, hz11⟩ := consOf hz10
  obtain ⟨x11, L12, rfl, hz12⟩ := consOf hz11
  obtain ⟨x12, L13, rfl, hz13⟩ := consOf hz12
  obtain ⟨x13, L14, rfl, hz14⟩ := consOf hz13
  obtain ⟨x14, L15, rfl, hz15⟩ := consOf hz14
  obtain ⟨x15, L16, rfl, hz16⟩ := consOf hz15
  obtain ⟨x16, L17, rfl, hz17⟩ := consOf hz16
  obtain ⟨x17, L18, rfl, hz18⟩ := consOf hz17
  obtain ⟨x18, L19, rfl, hz19⟩ := consOf hz18
  obtain ⟨x19, L20, rfl, hz20⟩ := consOf hz19
  obtain ⟨x20, L21, rfl, hz21⟩ := consOf hz20
  obtain ⟨x21, L22, rfl, hz22⟩ := consOf hz21
  obtain ⟨x22, L23, rfl, hz23⟩ := consOf hz22
  obtain ⟨x23, L24, rfl, hz24⟩ := consOf hz23
  obtain ⟨x24, L25, rfl, hz25⟩ := consOf hz24
  obtain ⟨x25, L26, rfl, hz26⟩ := consOf hz25
  obtain ⟨x26, L27, rfl, hz27⟩ := consOf hz26
  obtain ⟨x27, L28, rfl, hz28⟩ := consOf hz27
  obtain ⟨x28, L29, rfl, hz29⟩ := consOf hz28
  obtain ⟨x29, L30, rfl, hz30⟩ := consOf hz29
  obtain ⟨x30, L31, rfl, hz31⟩ := consOf hz30
  obtain ⟨x31, L32, rfl, hz32⟩ := consOf hz31
  obtain ⟨x32, L33, rfl, hz33⟩ := consOf hz32
  obtain ⟨x33, L34, rfl, hz34⟩ := consOf hz33
  obtain ⟨x34, L35, rfl, hz35⟩ := consOf hz34
  obtain ⟨x35, L36, rfl, hz36⟩ := consOf hz35
  obtain ⟨x36, L37, rfl, hz37⟩ := consOf hz36
  obtain ⟨x37, L38, rfl, hz38⟩ := consOf hz37
  obtain ⟨x38, L39, rfl, hz39⟩ := consOf hz38
  obtain ⟨x39, L40, rfl, hz40⟩ := consOf hz39
  obtain ⟨x40, L41, rfl, hz41⟩ := consOf hz40
  obtain ⟨x41, L42, rfl, hz42⟩ := consOf hz41
  obtain ⟨x42, L43, rfl, hz43⟩ := consOf hz42
  obtain ⟨x43, L44, rfl, hz44⟩ := consOf hz43
  obtain ⟨x44, L45, rfl, hz45⟩ := consOf hz44
  obtain ⟨x45, L46, rfl, hz46⟩ := consOf hz45
  obtain ⟨x46, L47, rfl, hz47⟩ := consOf hz46
  obtain ⟨x47, L48, rfl, hz48⟩ := consOf hz47
  obtain ⟨x48, L49, rfl, hz49⟩ := consOf hz48
  obtain ⟨x49, L50, rfl, hz50⟩ := consOf hz49
  obtain ⟨x50, L51, rfl, hz51⟩ := consOf hz50
  obtain ⟨x51, L52, rfl, hz52⟩ := consOf hz51
  obtain ⟨x52, L53, rfl, hz53⟩ := consOf hz52
  obtain ⟨x53, L54, rfl, hz54⟩ := consOf hz53
  obtain ⟨x54, L55, rfl, hz55⟩ := consOf hz54
  obtain ⟨x55, L56, rfl, hz56⟩ := consOf hz55
  obtain ⟨x56, L57, rfl, hz57⟩ := consOf hz56
  obtain ⟨x57, L58, rfl, hz58⟩ := consOf hz57
  obtain ⟨x58, L59, rfl, hz59⟩ := consOf hz58
  obtain ⟨x59, L60, rfl, hz60⟩ := consOf hz59
  obtain ⟨x60, L61, rfl, hz61⟩ := consOf hz60
  obtain ⟨x61, L62, rfl, hz62⟩ := consOf hz61
  obtain ⟨x62, L63, rfl, hz63⟩ := consOf hz62
  obtain ⟨x63, L64, rfl, hz64⟩ := consOf hz63
  obtain ⟨x64, L65, rfl, hz65⟩ := consOf hz64
  obtain ⟨x65, L66, rfl, hz66⟩ := consOf hz65
  obtain ⟨x66, L67, rfl, hz67⟩ := consOf hz66
  obtain ⟨x67, L68, rfl, hz68⟩ := consOf hz67
  obtain ⟨x68, L69, rfl, hz69⟩ := consOf hz68
  obtain ⟨x69, L70, rfl, hz70⟩ := consOf hz69
  obtain ⟨x70, L71, rfl, hz71⟩ := consOf hz70
  obtain rfl : L71 = [] := List.eq_nil_of_length_eq_zero hz71
  have fr : ∀ (y10 y47 y48 y49 y50 y51 y52 y53 y54 y55 y56 y57 y58 y59 : Value), FRF 71 ds l (keepF F [0, 1, 2, 7, 8, 14, 15, 16] fr0) { tmps := #[x0, x1, x2, x3, x4, x5, x6, x7, x8, x9, y10, x11, x12, x13, x14, x15, x16, x17, x18, x19, x20, x21, x22, x23, x24, x25, x26, x27, x28, x29, x30, x31, x32, x33, x34, x35, x36, x37, x38, x39, x40, x41, x42, x43, x44, x45, x46, y47, y48, y49, y50, y51, y52, y53, y54, y55, y56, y57, y58, y59, x60, x61, x62, x63, x64, x65, x66, x67, x68, x69, x70], defers := ds } := fun y10 y47 y48 y49 y50 y51 y52 y53 y54 y55 y56 y57 y58 y59 => ⟨by simp, fun i x e => by
    rcases keepF_in e with h | h
    · simp only [List.mem_cons, List.not_mem_nil, or_false] at h
      obtain ⟨y, q1, q2⟩ := hf.get i x (keepF_get fr0_no e)
      rcases h with rfl | rfl | rfl | rfl | rfl | rfl | rfl | rfl <;> exact ⟨y, by simpa using q1, q2⟩
    · exact fr0_get h, rfl, hf.glob⟩
  obtain rfl : x8 = _ := by simpa using g8
  obtain rfl : x7 = _ := by simpa using g7
  obtain rfl : x1 = _ := by simpa using g1
  split at h
  · rename_i m hq1 hm1
    split at h
    · rename_i H2 hst
      cases h
      have key := fun (w' : World) (hS : Same w w') => storeH_ok (hr.same hS) hst (.cons (.int .i64 m) .nil)
      refine CSem.of_wp (look_walk w ds x0 x2 x3 x4 x5 x6 x9 x10 x11 x12 x13 x14 x15 x16 x17 x18 x19 x20 x21 x22 x23 x24 x25 x26 x27 x28 x29 x30 x31 x32 x33 x34 x35 x36 x37 x38 x39 x40 x41 x42 x43 x44 x45 x46 x47 x48 x49 x50 x51 x52 x53 x54 x55 x56 x57 x58 x59 x60 x61 x62 x63 x64 x65 x66 x67 x68 x69 x70 _ kf fo ki (lookP ino cs) hidx (fun z hzz => ?_) fun y10 y47 y48 y49 y50 y51 y52 y53 y54 y55 y56 y57 y58 y59 w' hS => ?_)
      · obtain ⟨k, κ, q1, q2, -, -⟩ := key w (Same.refl w)
        rw [hlf] at q1
        cases q1
        obtain ⟨q3, q4⟩ := q2 0 (by simp)
        obtain ⟨old, ho⟩ := Option.isSome_iff_exists.1 q3
        exact ⟨old, ho, fun w' hS => hS.frozen ho q4⟩
      · obtain ⟨k, κ, q1, q2, -, q4⟩ := key w' hS
        rw [hlf] at q1
        cases q1
        rw [hm1]
        have hk : Kp T.sz T.lo l H w l _ (w'.setCell ⟨kf, fo + 1, none⟩ (.int .i64 m)) := (Kp.same hr hS).trans hr q4
        exact hQ _ _ _ _ (fr y10 y47 y48 y49 y50 y51 y52 y53 y54 y55 y56 y57 y58 y59) hk (hm.kp hr hk)
    · cases h
  · rename_i hm1
    cases h
    refine CSem.of_wp (look_walk w ds x0 x2 x3 x4 x5 x6 x9 x10 x11 x12 x13 x14 x15 x16 x17 x18 x19 x20 x21 x22 x23 x24 x25 x26 x27 x28 x29 x30 x31 x32 x33 x34 x35 x36 x37 x38 x39 x40 x41 x42 x43 x44 x45 x46 x47 x48 x49 x50 x51 x52 x53 x54 x55 x56 x57 x58 x59 x60 x61 x62 x63 x64 x65 x66 x67 x68 x69 x70 _ kf fo ki (lookP ino cs) hidx (fun z hzz => by rw [hm1] at hzz; cases hzz) fun y10 y47 y48 y49 y50 y51 y52 y53 y54 y55 y56 y57 y58 y59 w' hS => ?_)
    rw [hm1]
    have hk : Kp T.sz T.lo l H w l H w' := Kp.same hr hS
    exact hQ _ _ _ _ (fr y10 y47 y48 y49 y50 y51 y52 y53 y54 y55 y56 y57 y58 y59) hk (hm.kp hr hk)
  · cases h
end Go.Proofs.YtkbmmoobcikbaaaGreatDoor.Ev
