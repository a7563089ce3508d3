/-
  CONTRACT of the law ViewTells. Conditions: numbers of 64 bits; the library's variables lie as they are laid.
-/
import Derived.Test.YtfpioijfocmfcaaGreatDoorVLive
import Derived.Test.YtfpioijfocmfcaaGreatDoorGVA
import Derived.Test.YtfpioijfocmfcaaGreatDoorGVB
import Derived.Test.YtfpioijfocmfcaaGreatDoorYOf
import Derived.Test.YtfpioijfocmfcaaGreatDoorYLeft
import Derived.Test.YtfpioijfocmfcaaGreatDoorYOdd
import Derived.Laws.OwnMore
namespace Go.Proofs.YtfpioijfocmfcaaGreatDoor
open Go.RowKit

theorem rgD {b : Act} {t : Nat} {v : Value} (h : b.tmps.getD t undef = v) : b.tmps[t]?.getD undef = v := by simpa using h
theorem sub_len : ∀ (a b : List Nat), a.Nodup → (∀ x ∈ a, x ∈ b) → a.length ≤ b.length
  | [], _, _, _ => Nat.zero_le _
  | x :: a, b, hd, hs => by
    obtain ⟨h1, h2⟩ := List.nodup_cons.1 hd
    have hx : x ∈ b := hs x (by simp)
    have h := sub_len a (b.erase x) h2 (fun y hy => (List.mem_erase_of_ne (fun e => h1 (by rw [← e]; exact hy))).2 (hs y (by simp [hy])))
    rw [List.length_erase_of_mem hx] at h
    have := List.length_pos_of_mem hx
    simp only [List.length_cons]
    omega
/-- No more slots live than the listing has names. -/
theorem tail_len {l : List (List UInt8)} {chain f t : Nat} (h : IsTail (hasF l 1 chain) f t) : t - f ≤ l.length := by
  have h1 := sub_len (List.range' (f + 1) (t - f)) (l.map fun s => (parseF s).1.n) (List.nodup_range' ..) (fun j hj => by
    obtain ⟨g1, g2⟩ := List.mem_range'_1.1 hj
    obtain ⟨s, hs, -, -, -, e⟩ := has_iff.1 (h.all j (by omega) (by omega))
    exact List.mem_map.2 ⟨s, hs, e⟩)
  simpa using h1
def NumAny (l : List Nat) (v : Value) (w : World) : Prop := Nums Any1 w v l
theorem NumAny.ext {l : List Nat} {v : Value} {w w' : World} (h : NumAny l v w) (hu : Ext w w') : NumAny l v w' := by
  unfold NumAny at h ⊢
  exact Row.ext h hu
def vttVal (V : Vw) (n nx gr : Nat) : Nat → Value
  | 0 => .agg #[.int .u64 V.chain, .int .u64 V.floor, .int .u64 V.tail]
  | 1 => .agg #[.int .u64 V.chain, .int .u64 V.floor, .int .u64 V.tail]
  | 2 => .agg #[.int .u64 V.chain, .int .u64 V.floor, .int .u64 V.tail]
  | 3 => .bool false
  | 4 => .bool false
  | 5 => .agg #[.int .u64 V.chain, .int .u64 V.floor, .int .u64 V.tail]
  | 7 => .agg #[.int .u64 V.chain, .int .u64 V.floor, .int .u64 V.tail]
  | 9 => .bool true
  | 10 => .bool false
  | 11 => .bool false
  | 12 => .bool false
  | 13 => .bool true
  | 14 => .pointer (some ⟨gr, 2, none⟩)
  | 15 => .int .u64 V.tail
  | 16 => .bool true
  | 17 => .bool false
  | 18 => .bool false
  | 19 => .bool false
  | 20 => .bool true
  | 21 => .bool true
  | 22 => .int .u64 nx
  | 23 => .pointer (some ⟨gr, 2, none⟩)
  | 24 => .int .u64 V.tail
  | 25 => .int .u64 nx
  | 26 => .bool false
  | 27 => .bool false
  | 28 => .bool false
  | 29 => .bool false
  | 30 => .bool true
  | 31 => .bool false
  | 32 => .bool false
  | 35 => .bool false
  | 36 => .bool false
  | 37 => .bool false
  | 38 => .agg #[.int .u64 V.chain, .int .u64 V.floor, .int .u64 V.tail]
  | 39 => .int .u64 n
  | 40 => .bool (decide (n ≤ V.floor))
  | 41 => .int .u64 n
  | 42 => .pointer (some ⟨gr, 1, none⟩)
  | 43 => .int .u64 V.floor
  | 44 => .bool (decide (n ≤ V.floor))
  | 45 => .bool false
  | 46 => .bool false
  | _ => undef
def vttDst (i : Nat) : Tmp := 38 + i
theorem vttDst_ne {j t : Nat} (ht : t = 1 ∨ t = 10 ∨ t = 11 ∨ t = 12 ∨ t = 13) (e : vttDst j = t) : False := by
  unfold vttDst at e
  have e : (38 + j : Nat) = t := e
  rcases ht with rfl | rfl | rfl | rfl | rfl <;> (repeat' (split at e)) <;> omega
def vttPhi (V : Vw) (n nx gr : Nat) (ix : Nat) (v : Value) (w : World) : Prop := if ix = 6 then NumAny (liveN V) v w else if ix = 8 then NumAny (liveN V) v w else v = vttVal V n nx gr ix
theorem vttPhi.ext {V : Vw} {n nx gr : Nat} {ix : Nat} {v : Value} {w w' : World} (h : vttPhi V n nx gr ix v w) (hu : Ext w w') : vttPhi V n nx gr ix v w' := by
  unfold vttPhi at h ⊢
  by_cases c : ix = 6
  · rw [if_pos c] at h ⊢; exact h.ext hu
  · rw [if_neg c] at h ⊢
    by_cases c : ix = 8
    · rw [if_pos c] at h ⊢; exact h.ext hu
    · rw [if_neg c] at h ⊢
      exact h
def vtfVal (V : Vw) (n nx gr : Nat) : Nat → Value
  | 0 => .agg #[.int .u64 V.chain, .int .u64 V.floor, .int .u64 V.tail]
  | 1 => .agg #[.int .u64 V.chain, .int .u64 V.floor, .int .u64 V.tail]
  | 2 => .agg #[.int .u64 V.chain, .int .u64 V.floor, .int .u64 V.tail]
  | 3 => .bool false
  | 4 => .bool false
  | 5 => .agg #[.int .u64 V.chain, .int .u64 V.floor, .int .u64 V.tail]
  | 7 => .agg #[.int .u64 V.chain, .int .u64 V.floor, .int .u64 V.tail]
  | 9 => .bool true
  | 10 => .bool false
  | 11 => .bool false
  | 12 => .bool false
  | 13 => .bool false
  | 14 => .pointer (some ⟨gr, 2, none⟩)
  | 15 => .int .u64 V.tail
  | 16 => .bool false
  | 17 => .bool false
  | 18 => .bool false
  | 19 => .bool false
  | 20 => .bool false
  | 21 => .bool false
  | 27 => .bool false
  | 28 => .bool false
  | 29 => .bool false
  | 30 => .bool false
  | 31 => .bool true
  | 32 => .bool true
  | 33 => .int .u64 0
  | 34 => .bool false
  | 35 => .bool false
  | 36 => .bool false
  | 37 => .bool false
  | 38 => .agg #[.int .u64 V.chain, .int .u64 V.floor, .int .u64 V.tail]
  | 39 => .int .u64 n
  | 40 => .bool (decide (n ≤ V.floor))
  | 41 => .int .u64 n
  | 42 => .pointer (some ⟨gr, 1, none⟩)
  | 43 => .int .u64 V.floor
  | 44 => .bool (decide (n ≤ V.floor))
  | 45 => .bool false
  | 46 => .bool false
  | _ => undef
def vtfDst (i : Nat) : Tmp := 38 + i
theorem vtfDst_ne {j t : Nat} (ht : t = 1 ∨ t = 10 ∨ t = 11 ∨ t = 12 ∨ t = 13) (e : vtfDst j = t) : False := by
  unfold vtfDst at e
  have e : (38 + j : Nat) = t := e
  rcases ht with rfl | rfl | rfl | rfl | rfl <;> (repeat' (split at e)) <;> omega
def vtfPhi (V : Vw) (n nx gr : Nat) (ix : Nat) (v : Value) (w : World) : Prop := if ix = 6 then NumAny (liveN V) v w else if ix = 8 then NumAny (liveN V) v w else v = vtfVal V n nx gr ix
theorem vtfPhi.ext {V : Vw} {n nx gr : Nat} {ix : Nat} {v : Value} {w w' : World} (h : vtfPhi V n nx gr ix v w) (hu : Ext w w') : vtfPhi V n nx gr ix v w' := by
  unfold vtfPhi at h ⊢
  by_cases c : ix = 6
  · rw [if_pos c] at h ⊢; exact h.ext hu
  · rw [if_neg c] at h ⊢
    by_cases c : ix = 8
    · rw [if_pos c] at h ⊢; exact h.ext hu
    · rw [if_neg c] at h ⊢
      exact h
def vuVal (V : Vw) (a b c nw rw lv : Value) (k : Kp) (l : TL) : Nat → Value
  | 0 => nw
  | 2 => rw
  | 4 => .bool true
  | 5 => .bool true
  | 6 => lv
  | 7 => .agg #[.int .u64 V.chain, .int .u64 V.floor, .int .u64 V.tail]
  | 8 => .agg #[a, b, c]
  | 10 => rw
  | 12 => .bool true
  | 13 => .bool true
  | 14 => .bool true
  | 15 => nw
  | 16 => rw
  | 17 => .bool true
  | 18 => .bool true
  | 19 => .bool true
  | 20 => .bool true
  | 21 => .bool true
  | 22 => .bool true
  | _ => undef
def vuDst (i : Nat) : Tmp := if i = 22 then 8 else 85 + i
theorem vuDst_ne {j t : Nat} (ht : t = 3 ∨ t = 6 ∨ t = 9 ∨ t = 11 ∨ t = 14) (e : vuDst j = t) : False := by
  unfold vuDst at e
  have e : (if j = 22 then 8 else 85 + j : Nat) = t := e
  rcases ht with rfl | rfl | rfl | rfl | rfl <;> (repeat' (split at e)) <;> omega
def vuPhi (V : Vw) (a b c nw rw lv : Value) (k : Kp) (l : TL) (ix : Nat) (v : Value) (w : World) : Prop := if ix = 1 then NumAny (chainsF l) v w else if ix = 3 then NumAny (chainsF l) v w else if ix = 9 then KpAny k v w else if ix = 11 then TxAny (leftF V k l) v w else v = vuVal V a b c nw rw lv k l ix
theorem vuPhi.ext {V : Vw} {a b c nw rw lv : Value} {k : Kp} {l : TL} {ix : Nat} {v : Value} {w w' : World} (h : vuPhi V a b c nw rw lv k l ix v w) (hu : Ext w w') : vuPhi V a b c nw rw lv k l ix v w' := by
  unfold vuPhi at h ⊢
  by_cases c : ix = 1
  · rw [if_pos c] at h ⊢; exact h.ext hu
  · rw [if_neg c] at h ⊢
    by_cases c : ix = 3
    · rw [if_pos c] at h ⊢; exact h.ext hu
    · rw [if_neg c] at h ⊢
      by_cases c : ix = 9
      · rw [if_pos c] at h ⊢; exact h.ext hu
      · rw [if_neg c] at h ⊢
        by_cases c : ix = 11
        · rw [if_pos c] at h ⊢; exact h.ext hu
        · rw [if_neg c] at h ⊢
          exact h
set_option maxRecDepth 100000 in
set_option maxHeartbeats 16000000 in
theorem viewTells_any {S' : Nat → Prop} (w : World) (chain n : Nat) (a b c nw : Value) (k : Kp) (l : List (List UInt8)) (hk : KeepIs (Till w.heap.size) w a b c k) (hr : Texts S' w nw l) (hE : Env w) :
    Calls Tryz.prog 4 #[.int .u64 chain, .int .u64 n, .agg #[a, b, c], nw] w fun e w' => e = .returned (.bool true) ∧ Ext w w' := by
  obtain ⟨w2, hw2⟩ : ∃ u, u = w.alloc (.cells #[a, b, c] 28) := ⟨_, rfl⟩
  have hx2 : Ext w w2 := by rw [hw2]; exact (Upd.refl _ _).alloc _
  obtain ⟨gk, hgk⟩ : ∃ g, g = w.heap.size := ⟨_, rfl⟩
  have hK : w2.heap[gk]? = some (.cells #[a, b, c] 28 (0, 0)) := by rw [hw2, hgk]; exact newAt _ _
  have HKI := Lib.hid (hk.ext hx2)
  have HTX := Lib.hid (hr.ext hx2)
  have HEE := Lib.hid (hE.ext hx2)
  have HX2 := Lib.hid hx2
  have HGK := Lib.hid hK
  have HW2 := Lib.hid hw2
  have HGQ := Lib.hid hgk
  clear hk hr hE hx2 hK hw2 hgk
  go_enter Tryz.func4, Tryz.ntmps4
  go_wp2_with (go_at_call 7; fail)
  rw [show w.alloc (.cells #[a, b, c] 28) = w2 from HW2.out.symm, show w.heap.size = gk from HGQ.out.symm]
  refine (few_any w2 nw a b c k l HTX.out HKI.out).mono ?_
  rintro e w3 ⟨o, rfl, ho, hx3⟩
  cases o with
  | false =>
    have HX3 := Lib.hid (HX2.out.trans hx3)
    clear hx3
    go_wp2_with (go_at_call 8; fail)
    refine (works_any _).mono ?_
    rintro e w4 ⟨rfl, hx4⟩
    go_wp2
    go_ret
    exact ⟨rfl, HX3.out.trans hx4⟩
  | true =>
    obtain ⟨f1, f2, f3, f4⟩ := ho rfl
    have HLC := Lib.hid (show l.length ≤ 100000 by omega)
    have HLN := Lib.hid (show l.length ≤ 1000000 by omega)
    have HLS := Lib.hid (show ∀ s ∈ l, s.length ≤ 1000000 from fun s hs => Nat.le_trans (f2 s hs) (by decide))
    have HN1 := Lib.hid (show k.need.length ≤ 1000000 by omega)
    have HN2 := Lib.hid (show k.last.length ≤ 1000000 by omega)
    replace HKI := Lib.hid ((HKI.out.mono (T := Till w3.heap.size) (fun j hj => Nat.lt_of_lt_of_le hj (Nat.le_trans HX2.out.size hx3.size))).ext hx3)
    replace HTX := Lib.hid ((HTX.out.mono (T := Any1) (fun _ _ => trivial)).ext hx3)
    replace HEE := Lib.hid (HEE.out.ext hx3)
    replace HGK := Lib.hid (hx3.at_ HGK.out id)
    have HX3 := Lib.hid (HX2.out.trans hx3)
    have HXA := Lib.hid (Upd.refl Nothing w3)
    obtain ⟨B, hB⟩ : ∃ B, B = w3.heap.size := ⟨_, rfl⟩
    have HB := Lib.hid hB
    clear ho f1 f2 f3 f4 hx3 HW2 HX2 HGQ hB
    have hsl : (strs l).length = l.length * 1 := by simp [strs]
    go_wp2_with (at_builtin; go_must (refine wpList_append_row rfl _ _ _ rfl Tryz.textsT rfl (World.ownsRow_nil w3 B _ _) rfl HTX.out hsl (strs_one l) ?c3 ?c4 ?c5 ?_))
    case c3 => have := HLC.out; unfold maxLen; omega
    case c4 => have := HLC.out; omega
    case c5 => have := HB.out; omega
    intro v4 w4 hown4 hg4 _
    have hx4 : Ext w3 w4 := (Upd.refl _ _).grown hg4 (fun j hj h => by simp [Value.ownBlock] at hj)
    obtain ⟨a4, n4, c4, rfl⟩ := ownsForm hown4
    obtain ⟨ow, how⟩ : ∃ ow, ow = Value.slice a4 n4 c4 := ⟨_, rfl⟩
    have HRX := Lib.hid (show Texts Any1 w4 (.slice a4 n4 c4) l from by
      have h := (Row.of_owns hown4).mono (T := Any1) (fun _ _ => trivial)
      unfold Texts
      simpa [strs] using h)
    have HOW := Lib.hid how
    replace HKI := Lib.hid (HKI.out.ext hx4)
    replace HTX := Lib.hid (HTX.out.ext hx4)
    replace HEE := Lib.hid (HEE.out.ext hx4)
    replace HGK := Lib.hid (hx4.at_ HGK.out id)
    replace HX3 := Lib.hid (HX3.out.trans hx4)
    replace HXA := Lib.hid (HXA.out.trans hx4)
    clear hx4 hown4 hg4 how HB hsl
    go_wp2_with (go_at_call 14; fail)
    refine (viewOf_any w4 chain nw l HTX.out HLN.out HLS.out HEE.out).mono ?_
    rintro e w5 ⟨t, rfl, ht, hx5⟩
    obtain ⟨V, hV⟩ : ∃ V : Vw, V = ⟨chain, floorF chain l, t⟩ := ⟨_, rfl⟩
    rw [← hV]
    have HT := Lib.hid ht
    have HV := Lib.hid hV
    have HFT := Lib.hid (show V.floor ≤ V.tail by rw [hV]; exact ht.le)
    have HTF := Lib.hid (show V.tail - V.floor ≤ 1000000 by rw [hV]; exact Nat.le_trans (tail_len ht) HLN.out)
    have HTL := Lib.hid (show V.tail < 18446744073709551616 by rw [hV]; exact ht.lt)
    obtain ⟨w6, hw6⟩ : ∃ u, u = w5.alloc (.cells (vwCells V) 24) := ⟨_, rfl⟩
    have hx6 : Ext w4 w6 := hx5.trans (by rw [hw6]; exact (Upd.refl _ _).alloc _)
    obtain ⟨gv, hgv⟩ : ∃ g, g = w5.heap.size := ⟨_, rfl⟩
    have HGV := Lib.hid (show w6.heap[gv]? = some (.cells (vwCells V) 24 (0, 0)) by rw [hw6, hgv]; exact newAt _ _)
    replace HKI := Lib.hid (HKI.out.ext hx6)
    replace HTX := Lib.hid (HTX.out.ext hx6)
    replace HRX := Lib.hid (HRX.out.ext hx6)
    replace HEE := Lib.hid (HEE.out.ext hx6)
    replace HGK := Lib.hid (hx6.at_ HGK.out id)
    replace HX3 := Lib.hid (HX3.out.trans hx6)
    replace HXA := Lib.hid (HXA.out.trans hx6)
    have HW6 := Lib.hid hw6
    have HGVE := Lib.hid hgv
    clear hx5 hx6 hw6 hgv ht hV
    rw [show vwCells V = #[.int .u64 V.chain, .int .u64 V.floor, .int .u64 V.tail] from rfl] at *
    go_wp2_with (go_at_call 15; fail)
    rw [← HW6.out]
    refine (rof_any w6 chain _ l HRX.out HLS.out).mono ?_
    rintro e w7 ⟨t', rfl, ht', hx7⟩
    obtain rfl : t' = t := ht'.unique HT.out
    rw [← HV.out, ← HGVE.out, show vwCells V = #[.int .u64 V.chain, .int .u64 V.floor, .int .u64 V.tail] from rfl]
    obtain ⟨w8, hw8⟩ : ∃ u, u = w7.alloc (.cells #[.int .u64 V.chain, .int .u64 V.floor, .int .u64 V.tail] 35) := ⟨_, rfl⟩
    have hx8 : Ext w6 w8 := hx7.trans (by rw [hw8]; exact (Upd.refl _ _).alloc _)
    obtain ⟨gr, hgr⟩ : ∃ g, g = w7.heap.size := ⟨_, rfl⟩
    have HGR := Lib.hid (show w8.heap[gr]? = some (.cells #[.int .u64 V.chain, .int .u64 V.floor, .int .u64 V.tail] 35 (0, 0)) by rw [hw8, hgr]; exact newAt _ _)
    have HV7 := Lib.hid (hx7.at_ HGV.out id)
    replace HKI := Lib.hid (HKI.out.ext hx8)
    replace HTX := Lib.hid (HTX.out.ext hx8)
    replace HRX := Lib.hid (HRX.out.ext hx8)
    replace HEE := Lib.hid (HEE.out.ext hx8)
    replace HGK := Lib.hid (hx8.at_ HGK.out id)
    replace HGV := Lib.hid (hx8.at_ HGV.out id)
    replace HX3 := Lib.hid (HX3.out.trans hx8)
    replace HXA := Lib.hid (HXA.out.trans hx8)
    have HW8 := Lib.hid hw8
    have HGRE := Lib.hid hgr
    have b0 := cellAt HV7.out 0 _ rfl
    have b1 := cellAt HV7.out 1 _ rfl
    have b2 := cellAt HV7.out 2 _ rfl
    have bl := lt_of_heap HV7.out
    clear hx7 hx8 hw8 hgr ht' HT HW6 HGVE
    go_wp2_with (go_at_call 16; fail)
    rw [← HW8.out]
    refine (next_any w8 V HTL.out).mono ?_
    rintro e w9 ⟨rfl, hx9⟩
    rw [← HGRE.out]
    replace HKI := Lib.hid (HKI.out.ext hx9)
    replace HTX := Lib.hid (HTX.out.ext hx9)
    replace HRX := Lib.hid (HRX.out.ext hx9)
    replace HEE := Lib.hid (HEE.out.ext hx9)
    replace HGK := Lib.hid (hx9.at_ HGK.out id)
    replace HGV := Lib.hid (hx9.at_ HGV.out id)
    replace HGR := Lib.hid (hx9.at_ HGR.out id)
    replace HX3 := Lib.hid (HX3.out.trans hx9)
    replace HXA := Lib.hid (HXA.out.trans hx9)
    obtain ⟨nx, hnx⟩ : ∃ m, m = (if V.tail = 18446744073709551615 then 0 else V.tail + 1) := ⟨_, rfl⟩
    obtain ⟨ok, hok⟩ : ∃ o, o = decide (V.tail ≠ 18446744073709551615) := ⟨_, rfl⟩
    rw [← hnx, ← hok, show u64 nx = .int .u64 nx from rfl]
    have HNX := Lib.hid hnx
    have HOK := Lib.hid hok
    have b0 := cellAt HGV.out 0 _ rfl
    have b1 := cellAt HGV.out 1 _ rfl
    have b2 := cellAt HGV.out 2 _ rfl
    have k0 := cellAt HGK.out 0 _ rfl
    have k1 := cellAt HGK.out 1 _ rfl
    have k2 := cellAt HGK.out 2 _ rfl
    have bl := lt_of_heap HGV.out
    have kl := lt_of_heap HGK.out
    clear hx9 hnx hok HW8 HGRE HV7
    go_wp2_with (go_at_call 10; fail)
    refine (left_any w9 a b c nw k V l HKI.out HTX.out HLN.out HLS.out HEE.out).mono ?_
    rintro e w10 ⟨lv, rfl, hlv, hx10⟩
    obtain ⟨la, ln, lc, rfl⟩ := ownsForm hlv
    have HLV := Lib.hid (show Texts Any1 w10 (.slice la ln lc) (leftF V k l) from (Row.of_owns hlv).mono (fun _ _ => trivial))
    replace HKI := Lib.hid (HKI.out.ext hx10)
    replace HTX := Lib.hid (HTX.out.ext hx10)
    replace HRX := Lib.hid (HRX.out.ext hx10)
    replace HEE := Lib.hid (HEE.out.ext hx10)
    replace HGK := Lib.hid (hx10.at_ HGK.out id)
    replace HGV := Lib.hid (show w10.heap[gv]? = some (.cells (vwCells V) 24 (0, 0)) from hx10.at_ HGV.out id)
    replace HGR := Lib.hid (show w10.heap[gr]? = some (.cells (vwCells V) 35 (0, 0)) from hx10.at_ HGR.out id)
    replace HX3 := Lib.hid (HX3.out.trans hx10)
    replace HXA := Lib.hid (HXA.out.trans hx10)
    clear hx10 hlv b0 b1 b2 k0 k1 k2 bl kl
    go_upto_region 9 with (fail)
    go_cut [84] from 38 to 84 (fun s84 wx => s84 = .bool false ∧ Ext w10 wx)
    case first =>
      as_aux_lemma =>
        cases ok with
        | false =>
          have htm : V.tail = 18446744073709551615 := by have := HOK.out; simpa using this
          have HMX := Lib.hid (show decide ((V.tail : Int) < 18446744073709551615) = false by rw [htm]; rfl)
          obtain rfl : nx = 0 := by rw [HNX.out, if_pos htm]
          clear htm
          refine wp_region_invH Nothing (fun _ => Ext) 1000 vtfDst (vtfPhi V n 0 gr) 107 (by kernel_rfl) (by decide) (by decide) rfl (fun i hi => .inl ((by decide : ∀ i, i < 47 → vtfDst i < 107) i hi)) (fun i w w' h => ⟨h, fun _ => h⟩) (fun i j v w w' _ _ _ _ h hu => h.ext hu) ?_ ?_
          · intro i o b' w1' ho hx1' hd hk hE hSZ
            have hi : i < 47 := (Array.getElem?_eq_some_iff.1 ho).1
            have his : i = 0 ∨ i = 1 ∨ i = 2 ∨ i = 3 ∨ i = 4 ∨ i = 5 ∨ i = 6 ∨ i = 7 ∨ i = 8 ∨ i = 9 ∨ i = 10 ∨ i = 11 ∨ i = 12 ∨ i = 13 ∨ i = 14 ∨ i = 15 ∨ i = 16 ∨ i = 17 ∨ i = 18 ∨ i = 19 ∨ i = 20 ∨ i = 21 ∨ i = 22 ∨ i = 23 ∨ i = 24 ∨ i = 25 ∨ i = 26 ∨ i = 27 ∨ i = 28 ∨ i = 29 ∨ i = 30 ∨ i = 31 ∨ i = 32 ∨ i = 33 ∨ i = 34 ∨ i = 35 ∨ i = 36 ∨ i = 37 ∨ i = 38 ∨ i = 39 ∨ i = 40 ∨ i = 41 ∨ i = 42 ∨ i = 43 ∨ i = 44 ∨ i = 45 ∨ i = 46 := by omega
            clear hE hSZ
            have HW1 := Lib.hid hx1'
            clear hx1'
            rcases his with rfl | rfl | rfl | rfl | rfl | rfl | rfl | rfl | rfl | rfl | rfl | rfl | rfl | rfl | rfl | rfl | rfl | rfl | rfl | rfl | rfl | rfl | rfl | rfl | rfl | rfl | rfl | rfl | rfl | rfl | rfl | rfl | rfl | rfl | rfl | rfl | rfl | rfl | rfl | rfl | rfl | rfl | rfl | rfl | rfl | rfl | rfl
            all_goals (simp at ho; subst ho)
            ·
              refine .inl ⟨by simp [Region.wanted], ?_⟩
              have o10 : b'.eval (.tmp 10) = .pointer (some ⟨gv, 0, none⟩) := by
                have := hk 10 (fun j oj _ e => (vtfDst_ne (by decide) e).elim)
                simpa [Act.eval] using this
              have hg := HW1.out.at_ HGV.out id
              exact wp_load_mid (w := w1') 24 (.tmp 10) rfl gv 0 o10 (vwCells V).toList _ (fun j u hj => by have := cellAt hg j u (by simpa using hj); simpa using this) Tryz.underlying24 rfl (by kernel_rfl) ⟨_, rfl, rfl, Upd.refl _ _⟩
            ·
              refine .inl ⟨by simp [Region.wanted], ?_⟩
              have e0 : b'.tmps[38]?.getD undef = .agg #[.int .u64 V.chain, .int .u64 V.floor, .int .u64 V.tail] := rgD (show b'.tmps.getD 38 undef = .agg #[.int .u64 V.chain, .int .u64 V.floor, .int .u64 V.tail] from hd ⟨0, .data⟩ (by simp) rfl)
              clear hd hk
              go_step
              refine (ref_any w1' V).mono ?_
              rintro e w2 ⟨rfl, hu⟩
              exact ⟨_, rfl, rfl, hu⟩
            ·
              refine .inl ⟨by simp [Region.wanted], ?_⟩
              have o11 : b'.eval (.tmp 11) = .pointer (some ⟨gr, 0, none⟩) := by
                have := hk 11 (fun j oj _ e => (vtfDst_ne (by decide) e).elim)
                simpa [Act.eval] using this
              have hg := HW1.out.at_ HGR.out id
              exact wp_load_mid (w := w1') 35 (.tmp 11) rfl gr 0 o11 (vwCells V).toList _ (fun j u hj => by have := cellAt hg j u (by simpa using hj); simpa using this) Tryz.underlying35 rfl (by kernel_rfl) ⟨_, rfl, rfl, Upd.refl _ _⟩
            ·
              refine .inl ⟨by simp [Region.wanted], ?_⟩
              have e1 : b'.tmps[39]?.getD undef = .agg #[.int .u64 V.chain, .int .u64 V.floor, .int .u64 V.tail] := rgD (show b'.tmps.getD 39 undef = .agg #[.int .u64 V.chain, .int .u64 V.floor, .int .u64 V.tail] from hd ⟨1, .data⟩ (by simp) rfl)
              have e2 : b'.tmps[40]?.getD undef = .agg #[.int .u64 V.chain, .int .u64 V.floor, .int .u64 V.tail] := rgD (show b'.tmps.getD 40 undef = .agg #[.int .u64 V.chain, .int .u64 V.floor, .int .u64 V.tail] from hd ⟨2, .data⟩ (by simp) rfl)
              clear hd hk
              go_step
              exact ⟨_, rfl, rfl, Upd.refl _ _⟩
            ·
              refine .inl ⟨by simp [Region.wanted], ?_⟩
              have e3 : b'.tmps[41]?.getD undef = .bool false := rgD (show b'.tmps.getD 41 undef = .bool false from hd ⟨3, .data⟩ (by simp) rfl)
              clear hd hk
              go_step
              exact ⟨_, rfl, rfl, Upd.refl _ _⟩
            ·
              refine .inl ⟨by
                have := tmp_some (show b'.tmps.getD 42 undef = .bool false from hd ⟨4, .guard⟩ (by simp) rfl)
                simp [Region.wanted, yielded, this], ?_⟩
              have o10 : b'.eval (.tmp 10) = .pointer (some ⟨gv, 0, none⟩) := by
                have := hk 10 (fun j oj _ e => (vtfDst_ne (by decide) e).elim)
                simpa [Act.eval] using this
              have hg := HW1.out.at_ HGV.out id
              exact wp_load_mid (w := w1') 24 (.tmp 10) rfl gv 0 o10 (vwCells V).toList _ (fun j u hj => by have := cellAt hg j u (by simpa using hj); simpa using this) Tryz.underlying24 rfl (by kernel_rfl) ⟨_, rfl, rfl, Upd.refl _ _⟩
            ·
              refine .inl ⟨by
                have := tmp_some (show b'.tmps.getD 42 undef = .bool false from hd ⟨4, .guard⟩ (by simp) rfl)
                simp [Region.wanted, yielded, this], ?_⟩
              have e5 : b'.tmps[43]?.getD undef = .agg #[.int .u64 V.chain, .int .u64 V.floor, .int .u64 V.tail] := rgD (show b'.tmps.getD 43 undef = .agg #[.int .u64 V.chain, .int .u64 V.floor, .int .u64 V.tail] from hd ⟨5, .data⟩ (by simp) rfl)
              clear hd hk
              go_step
              refine (live_any w1' V HFT.out HTF.out HTL.out).mono ?_
              rintro e w2 ⟨v', rfl, ho, hu⟩
              exact ⟨_, rfl, (Row.of_owns ho).mono (fun _ _ => trivial), hu⟩
            ·
              refine .inl ⟨by
                have := tmp_some (show b'.tmps.getD 42 undef = .bool false from hd ⟨4, .guard⟩ (by simp) rfl)
                simp [Region.wanted, yielded, this], ?_⟩
              have o11 : b'.eval (.tmp 11) = .pointer (some ⟨gr, 0, none⟩) := by
                have := hk 11 (fun j oj _ e => (vtfDst_ne (by decide) e).elim)
                simpa [Act.eval] using this
              have hg := HW1.out.at_ HGR.out id
              exact wp_load_mid (w := w1') 35 (.tmp 11) rfl gr 0 o11 (vwCells V).toList _ (fun j u hj => by have := cellAt hg j u (by simpa using hj); simpa using this) Tryz.underlying35 rfl (by kernel_rfl) ⟨_, rfl, rfl, Upd.refl _ _⟩
            ·
              refine .inl ⟨by
                have := tmp_some (show b'.tmps.getD 42 undef = .bool false from hd ⟨4, .guard⟩ (by simp) rfl)
                simp [Region.wanted, yielded, this], ?_⟩
              have e7 : b'.tmps[45]?.getD undef = .agg #[.int .u64 V.chain, .int .u64 V.floor, .int .u64 V.tail] := rgD (show b'.tmps.getD 45 undef = .agg #[.int .u64 V.chain, .int .u64 V.floor, .int .u64 V.tail] from hd ⟨7, .data⟩ (by simp) rfl)
              clear hd hk
              go_step
              refine (rlive_any w1' V HFT.out HTF.out HTL.out).mono ?_
              rintro e w2 ⟨v', rfl, ho, hu⟩
              exact ⟨_, rfl, (Row.of_owns ho).mono (fun _ _ => trivial), hu⟩
            ·
              refine .inl ⟨by
                have := tmp_some (show b'.tmps.getD 42 undef = .bool false from hd ⟨4, .guard⟩ (by simp) rfl)
                simp [Region.wanted, yielded, this], ?_⟩
              have h6 := hd ⟨6, .data⟩ (by simp) rfl
              have h6 : NumAny (liveN V) (b'.tmps.getD 44 undef) w1' := h6
              obtain ⟨u44, hu44⟩ : ∃ u, u = b'.tmps[44]?.getD undef := ⟨_, rfl⟩
              rw [show b'.tmps.getD 44 undef = u44 by rw [hu44]; simp] at h6
              have e44 : b'.tmps[44]?.getD undef = u44 := hu44.symm
              clear hu44
              have h8 := hd ⟨8, .data⟩ (by simp) rfl
              have h8 : NumAny (liveN V) (b'.tmps.getD 46 undef) w1' := h8
              obtain ⟨u46, hu46⟩ : ∃ u, u = b'.tmps[46]?.getD undef := ⟨_, rfl⟩
              rw [show b'.tmps.getD 46 undef = u46 by rw [hu46]; simp] at h8
              have e46 : b'.tmps[46]?.getD undef = u46 := hu46.symm
              clear hu46
              clear hd hk
              go_step
              refine (same_any (S := Any1) (T := Any1) w1' u44 u46 (liveN V) (liveN V) h6 h8).mono ?_
              rintro e w2 ⟨rfl, hu⟩
              exact ⟨_, rfl, (by show Value.bool _ = .bool true; simp), hu⟩
            ·
              refine .inl ⟨by
                have := tmp_some (show b'.tmps.getD 42 undef = .bool false from hd ⟨4, .guard⟩ (by simp) rfl)
                simp [Region.wanted, yielded, this], ?_⟩
              have e9 : b'.tmps[47]?.getD undef = .bool true := rgD (show b'.tmps.getD 47 undef = .bool true from hd ⟨9, .data⟩ (by simp) rfl)
              clear hd hk
              go_step
              exact ⟨_, rfl, rfl, Upd.refl _ _⟩
            ·
              refine .inl ⟨by simp [Region.wanted], ?_⟩
              have e4 : b'.tmps[42]?.getD undef = .bool false := rgD (show b'.tmps.getD 42 undef = .bool false from hd ⟨4, .data⟩ (by simp) rfl)
              have e10 : b'.tmps[48]?.getD undef = .bool false := rgD (show b'.tmps.getD 48 undef = .bool false from hd ⟨10, .data⟩ (by simp) rfl)
              clear hd hk
              go_step
              exact ⟨_, rfl, rfl, Upd.refl _ _⟩
            ·
              refine .inl ⟨by simp [Region.wanted], ?_⟩
              have e11 : b'.tmps[49]?.getD undef = .bool false := rgD (show b'.tmps.getD 49 undef = .bool false from hd ⟨11, .data⟩ (by simp) rfl)
              clear hd hk
              go_step
              exact ⟨_, rfl, rfl, Upd.refl _ _⟩
            ·
              refine .inl ⟨by
                have := tmp_some (show b'.tmps.getD 50 undef = .bool false from hd ⟨12, .guard⟩ (by simp) rfl)
                simp [Region.wanted, yielded, this], ?_⟩
              have o13 : b'.tmps[13]?.getD undef = .bool false := by
                have := hk 13 (fun j oj _ e => (vtfDst_ne (by decide) e).elim)
                simpa using this
              clear hd hk
              go_step
              exact ⟨_, rfl, rfl, Upd.refl _ _⟩
            ·
              refine .inl ⟨by
                have := tmp_some (show b'.tmps.getD 50 undef = .bool false from hd ⟨12, .guard⟩ (by simp) rfl)
                simp [Region.wanted, yielded, this], ?_⟩
              have o11 : b'.tmps[11]?.getD undef = .pointer (some ⟨gr, 0, none⟩) := by
                have := hk 11 (fun j oj _ e => (vtfDst_ne (by decide) e).elim)
                simpa using this
              have q := lt_of_heap (HW1.out.at_ HGR.out id)
              clear hd hk
              go_step
              exact ⟨_, rfl, rfl, Upd.refl _ _⟩
            ·
              refine .inl ⟨by
                have := tmp_some (show b'.tmps.getD 50 undef = .bool false from hd ⟨12, .guard⟩ (by simp) rfl)
                simp [Region.wanted, yielded, this], ?_⟩
              have e14 : b'.tmps[52]?.getD undef = .pointer (some ⟨gr, 2, none⟩) := rgD (show b'.tmps.getD 52 undef = .pointer (some ⟨gr, 2, none⟩) from hd ⟨14, .data⟩ (by simp) rfl)
              have q := cellAt (HW1.out.at_ HGR.out id) 2 _ rfl
              clear hd hk
              go_step
              exact ⟨_, rfl, rfl, Upd.refl _ _⟩
            ·
              refine .inl ⟨by
                have := tmp_some (show b'.tmps.getD 50 undef = .bool false from hd ⟨12, .guard⟩ (by simp) rfl)
                simp [Region.wanted, yielded, this], ?_⟩
              have e15 : b'.tmps[53]?.getD undef = .int .u64 V.tail := rgD (show b'.tmps.getD 53 undef = .int .u64 V.tail from hd ⟨15, .data⟩ (by simp) rfl)
              have q := HMX.out
              clear hd hk
              go_step
              exact ⟨_, rfl, rfl, Upd.refl _ _⟩
            ·
              refine .inl ⟨by
                have := tmp_some (show b'.tmps.getD 50 undef = .bool false from hd ⟨12, .guard⟩ (by simp) rfl)
                simp [Region.wanted, yielded, this], ?_⟩
              have e13 : b'.tmps[51]?.getD undef = .bool false := rgD (show b'.tmps.getD 51 undef = .bool false from hd ⟨13, .data⟩ (by simp) rfl)
              have e16 : b'.tmps[54]?.getD undef = .bool false := rgD (show b'.tmps.getD 54 undef = .bool false from hd ⟨16, .data⟩ (by simp) rfl)
              clear hd hk
              go_step
              exact ⟨_, rfl, rfl, Upd.refl _ _⟩
            ·
              refine .inl ⟨by simp [Region.wanted], ?_⟩
              have e12 : b'.tmps[50]?.getD undef = .bool false := rgD (show b'.tmps.getD 50 undef = .bool false from hd ⟨12, .data⟩ (by simp) rfl)
              have e17 : b'.tmps[55]?.getD undef = .bool false := rgD (show b'.tmps.getD 55 undef = .bool false from hd ⟨17, .data⟩ (by simp) rfl)
              clear hd hk
              go_step
              exact ⟨_, rfl, rfl, Upd.refl _ _⟩
            ·
              refine .inl ⟨by simp [Region.wanted], ?_⟩
              have e18 : b'.tmps[56]?.getD undef = .bool false := rgD (show b'.tmps.getD 56 undef = .bool false from hd ⟨18, .data⟩ (by simp) rfl)
              clear hd hk
              go_step
              exact ⟨_, rfl, rfl, Upd.refl _ _⟩
            ·
              refine .inl ⟨by
                have := tmp_some (show b'.tmps.getD 57 undef = .bool false from hd ⟨19, .guard⟩ (by simp) rfl)
                simp [Region.wanted, yielded, this], ?_⟩
              have o13 : b'.tmps[13]?.getD undef = .bool false := by
                have := hk 13 (fun j oj _ e => (vtfDst_ne (by decide) e).elim)
                simpa using this
              clear hd hk
              go_step
              exact ⟨_, rfl, rfl, Upd.refl _ _⟩
            ·
              refine .inl ⟨by
                have := tmp_some (show b'.tmps.getD 57 undef = .bool false from hd ⟨19, .guard⟩ (by simp) rfl)
                simp [Region.wanted, yielded, this], ?_⟩
              have e20 : b'.tmps[58]?.getD undef = .bool false := rgD (show b'.tmps.getD 58 undef = .bool false from hd ⟨20, .data⟩ (by simp) rfl)
              clear hd hk
              go_step
              exact ⟨_, rfl, rfl, Upd.refl _ _⟩
            ·
              refine .inr ⟨by
                have := tmp_some (show b'.tmps.getD 59 undef = .bool false from hd ⟨21, .guard⟩ (by simp) rfl)
                simp [Region.wanted, yielded, this], rfl, rfl, Upd.refl _ _⟩
            ·
              refine .inr ⟨by
                have := tmp_some (show b'.tmps.getD 59 undef = .bool false from hd ⟨21, .guard⟩ (by simp) rfl)
                simp [Region.wanted, yielded, this], rfl, rfl, Upd.refl _ _⟩
            ·
              refine .inr ⟨by
                have := tmp_some (show b'.tmps.getD 59 undef = .bool false from hd ⟨21, .guard⟩ (by simp) rfl)
                simp [Region.wanted, yielded, this], rfl, rfl, Upd.refl _ _⟩
            ·
              refine .inr ⟨by
                have := tmp_some (show b'.tmps.getD 59 undef = .bool false from hd ⟨21, .guard⟩ (by simp) rfl)
                simp [Region.wanted, yielded, this], rfl, rfl, Upd.refl _ _⟩
            ·
              refine .inr ⟨by
                have := tmp_some (show b'.tmps.getD 59 undef = .bool false from hd ⟨21, .guard⟩ (by simp) rfl)
                simp [Region.wanted, yielded, this], rfl, rfl, Upd.refl _ _⟩
            ·
              refine .inl ⟨by
                have := tmp_some (show b'.tmps.getD 57 undef = .bool false from hd ⟨19, .guard⟩ (by simp) rfl)
                simp [Region.wanted, yielded, this], ?_⟩
              have e21 : b'.tmps[59]?.getD undef = .bool false := rgD (show b'.tmps.getD 59 undef = .bool false from hd ⟨21, .data⟩ (by simp) rfl)
              have e26 : b'.tmps[64]?.getD undef = undef := rgD (show b'.tmps.getD 64 undef = undef from hd ⟨26, .data⟩ (by simp) rfl)
              clear hd hk
              go_step
              exact ⟨_, rfl, rfl, Upd.refl _ _⟩
            ·
              refine .inl ⟨by simp [Region.wanted], ?_⟩
              have e19 : b'.tmps[57]?.getD undef = .bool false := rgD (show b'.tmps.getD 57 undef = .bool false from hd ⟨19, .data⟩ (by simp) rfl)
              have e27 : b'.tmps[65]?.getD undef = .bool false := rgD (show b'.tmps.getD 65 undef = .bool false from hd ⟨27, .data⟩ (by simp) rfl)
              clear hd hk
              go_step
              exact ⟨_, rfl, rfl, Upd.refl _ _⟩
            ·
              refine .inl ⟨by simp [Region.wanted], ?_⟩
              have e28 : b'.tmps[66]?.getD undef = .bool false := rgD (show b'.tmps.getD 66 undef = .bool false from hd ⟨28, .data⟩ (by simp) rfl)
              clear hd hk
              go_step
              exact ⟨_, rfl, rfl, Upd.refl _ _⟩
            ·
              refine .inl ⟨by
                have := tmp_some (show b'.tmps.getD 67 undef = .bool false from hd ⟨29, .guard⟩ (by simp) rfl)
                simp [Region.wanted, yielded, this], ?_⟩
              have o13 : b'.tmps[13]?.getD undef = .bool false := by
                have := hk 13 (fun j oj _ e => (vtfDst_ne (by decide) e).elim)
                simpa using this
              clear hd hk
              go_step
              exact ⟨_, rfl, rfl, Upd.refl _ _⟩
            ·
              refine .inl ⟨by
                have := tmp_some (show b'.tmps.getD 67 undef = .bool false from hd ⟨29, .guard⟩ (by simp) rfl)
                simp [Region.wanted, yielded, this], ?_⟩
              have e30 : b'.tmps[68]?.getD undef = .bool false := rgD (show b'.tmps.getD 68 undef = .bool false from hd ⟨30, .data⟩ (by simp) rfl)
              clear hd hk
              go_step
              exact ⟨_, rfl, rfl, Upd.refl _ _⟩
            ·
              refine .inl ⟨by
                have := tmp_some (show b'.tmps.getD 67 undef = .bool false from hd ⟨29, .guard⟩ (by simp) rfl)
                simp [Region.wanted, yielded, this], ?_⟩
              have e31 : b'.tmps[69]?.getD undef = .bool true := rgD (show b'.tmps.getD 69 undef = .bool true from hd ⟨31, .data⟩ (by simp) rfl)
              clear hd hk
              go_step
              exact ⟨_, rfl, rfl, Upd.refl _ _⟩
            ·
              refine .inl ⟨by
                have := tmp_some (show b'.tmps.getD 70 undef = .bool true from hd ⟨32, .guard⟩ (by simp) rfl)
                simp [Region.wanted, yielded, this], ?_⟩
              have o12 : b'.tmps[12]?.getD undef = .int .u64 0 := by
                have := hk 12 (fun j oj _ e => (vtfDst_ne (by decide) e).elim)
                simpa using this
              clear hd hk
              go_step
              exact ⟨_, rfl, rfl, Upd.refl _ _⟩
            ·
              refine .inl ⟨by
                have := tmp_some (show b'.tmps.getD 70 undef = .bool true from hd ⟨32, .guard⟩ (by simp) rfl)
                simp [Region.wanted, yielded, this], ?_⟩
              have e33 : b'.tmps[71]?.getD undef = .int .u64 0 := rgD (show b'.tmps.getD 71 undef = .int .u64 0 from hd ⟨33, .data⟩ (by simp) rfl)
              clear hd hk
              go_step
              exact ⟨_, rfl, rfl, Upd.refl _ _⟩
            ·
              refine .inl ⟨by
                have := tmp_some (show b'.tmps.getD 67 undef = .bool false from hd ⟨29, .guard⟩ (by simp) rfl)
                simp [Region.wanted, yielded, this], ?_⟩
              have e32 : b'.tmps[70]?.getD undef = .bool true := rgD (show b'.tmps.getD 70 undef = .bool true from hd ⟨32, .data⟩ (by simp) rfl)
              have e34 : b'.tmps[72]?.getD undef = .bool false := rgD (show b'.tmps.getD 72 undef = .bool false from hd ⟨34, .data⟩ (by simp) rfl)
              clear hd hk
              go_step
              exact ⟨_, rfl, rfl, Upd.refl _ _⟩
            ·
              refine .inl ⟨by simp [Region.wanted], ?_⟩
              have e29 : b'.tmps[67]?.getD undef = .bool false := rgD (show b'.tmps.getD 67 undef = .bool false from hd ⟨29, .data⟩ (by simp) rfl)
              have e35 : b'.tmps[73]?.getD undef = .bool false := rgD (show b'.tmps.getD 73 undef = .bool false from hd ⟨35, .data⟩ (by simp) rfl)
              clear hd hk
              go_step
              exact ⟨_, rfl, rfl, Upd.refl _ _⟩
            ·
              refine .inl ⟨by simp [Region.wanted], ?_⟩
              have e36 : b'.tmps[74]?.getD undef = .bool false := rgD (show b'.tmps.getD 74 undef = .bool false from hd ⟨36, .data⟩ (by simp) rfl)
              clear hd hk
              go_step
              exact ⟨_, rfl, rfl, Upd.refl _ _⟩
            ·
              refine .inl ⟨by
                have := tmp_some (show b'.tmps.getD 75 undef = .bool false from hd ⟨37, .guard⟩ (by simp) rfl)
                simp [Region.wanted, yielded, this], ?_⟩
              have o10 : b'.eval (.tmp 10) = .pointer (some ⟨gv, 0, none⟩) := by
                have := hk 10 (fun j oj _ e => (vtfDst_ne (by decide) e).elim)
                simpa [Act.eval] using this
              have hg := HW1.out.at_ HGV.out id
              exact wp_load_mid (w := w1') 24 (.tmp 10) rfl gv 0 o10 (vwCells V).toList _ (fun j u hj => by have := cellAt hg j u (by simpa using hj); simpa using this) Tryz.underlying24 rfl (by kernel_rfl) ⟨_, rfl, rfl, Upd.refl _ _⟩
            ·
              refine .inl ⟨by
                have := tmp_some (show b'.tmps.getD 75 undef = .bool false from hd ⟨37, .guard⟩ (by simp) rfl)
                simp [Region.wanted, yielded, this], ?_⟩
              have o1 : b'.tmps[1]?.getD undef = .int .u64 n := by
                have := hk 1 (fun j oj _ e => (vtfDst_ne (by decide) e).elim)
                simpa using this
              clear hd hk
              go_step
              exact ⟨_, rfl, rfl, Upd.refl _ _⟩
            ·
              refine .inl ⟨by
                have := tmp_some (show b'.tmps.getD 75 undef = .bool false from hd ⟨37, .guard⟩ (by simp) rfl)
                simp [Region.wanted, yielded, this], ?_⟩
              have e38 : b'.tmps[76]?.getD undef = .agg #[.int .u64 V.chain, .int .u64 V.floor, .int .u64 V.tail] := rgD (show b'.tmps.getD 76 undef = .agg #[.int .u64 V.chain, .int .u64 V.floor, .int .u64 V.tail] from hd ⟨38, .data⟩ (by simp) rfl)
              have e39 : b'.tmps[77]?.getD undef = .int .u64 n := rgD (show b'.tmps.getD 77 undef = .int .u64 n from hd ⟨39, .data⟩ (by simp) rfl)
              clear hd hk
              go_step
              refine (void_any w1' V n).mono ?_
              rintro e w2 ⟨rfl, hu⟩
              exact ⟨_, rfl, rfl, hu⟩
            ·
              refine .inl ⟨by
                have := tmp_some (show b'.tmps.getD 75 undef = .bool false from hd ⟨37, .guard⟩ (by simp) rfl)
                simp [Region.wanted, yielded, this], ?_⟩
              have o1 : b'.tmps[1]?.getD undef = .int .u64 n := by
                have := hk 1 (fun j oj _ e => (vtfDst_ne (by decide) e).elim)
                simpa using this
              clear hd hk
              go_step
              exact ⟨_, rfl, rfl, Upd.refl _ _⟩
            ·
              refine .inl ⟨by
                have := tmp_some (show b'.tmps.getD 75 undef = .bool false from hd ⟨37, .guard⟩ (by simp) rfl)
                simp [Region.wanted, yielded, this], ?_⟩
              have o11 : b'.tmps[11]?.getD undef = .pointer (some ⟨gr, 0, none⟩) := by
                have := hk 11 (fun j oj _ e => (vtfDst_ne (by decide) e).elim)
                simpa using this
              have q := lt_of_heap (HW1.out.at_ HGR.out id)
              clear hd hk
              go_step
              exact ⟨_, rfl, rfl, Upd.refl _ _⟩
            ·
              refine .inl ⟨by
                have := tmp_some (show b'.tmps.getD 75 undef = .bool false from hd ⟨37, .guard⟩ (by simp) rfl)
                simp [Region.wanted, yielded, this], ?_⟩
              have e42 : b'.tmps[80]?.getD undef = .pointer (some ⟨gr, 1, none⟩) := rgD (show b'.tmps.getD 80 undef = .pointer (some ⟨gr, 1, none⟩) from hd ⟨42, .data⟩ (by simp) rfl)
              have q := cellAt (HW1.out.at_ HGR.out id) 1 _ rfl
              clear hd hk
              go_step
              exact ⟨_, rfl, rfl, Upd.refl _ _⟩
            ·
              refine .inl ⟨by
                have := tmp_some (show b'.tmps.getD 75 undef = .bool false from hd ⟨37, .guard⟩ (by simp) rfl)
                simp [Region.wanted, yielded, this], ?_⟩
              have e41 : b'.tmps[79]?.getD undef = .int .u64 n := rgD (show b'.tmps.getD 79 undef = .int .u64 n from hd ⟨41, .data⟩ (by simp) rfl)
              have e43 : b'.tmps[81]?.getD undef = .int .u64 V.floor := rgD (show b'.tmps.getD 81 undef = .int .u64 V.floor from hd ⟨43, .data⟩ (by simp) rfl)
              clear hd hk
              go_step
              exact ⟨_, rfl, (by show Value.bool _ = Value.bool _; first | (congr 1; done) | (congr 1; simp)), Upd.refl _ _⟩
            ·
              refine .inl ⟨by
                have := tmp_some (show b'.tmps.getD 75 undef = .bool false from hd ⟨37, .guard⟩ (by simp) rfl)
                simp [Region.wanted, yielded, this], ?_⟩
              have e40 : b'.tmps[78]?.getD undef = .bool (decide (n ≤ V.floor)) := rgD (show b'.tmps.getD 78 undef = .bool (decide (n ≤ V.floor)) from hd ⟨40, .data⟩ (by simp) rfl)
              have e44 : b'.tmps[82]?.getD undef = .bool (decide (n ≤ V.floor)) := rgD (show b'.tmps.getD 82 undef = .bool (decide (n ≤ V.floor)) from hd ⟨44, .data⟩ (by simp) rfl)
              clear hd hk
              go_step
              exact ⟨_, rfl, (by show Value.bool _ = Value.bool _; simp), Upd.refl _ _⟩
            ·
              refine .inl ⟨by simp [Region.wanted], ?_⟩
              have e37 : b'.tmps[75]?.getD undef = .bool false := rgD (show b'.tmps.getD 75 undef = .bool false from hd ⟨37, .data⟩ (by simp) rfl)
              have e45 : b'.tmps[83]?.getD undef = .bool false := rgD (show b'.tmps.getD 83 undef = .bool false from hd ⟨45, .data⟩ (by simp) rfl)
              clear hd hk
              go_step
              exact ⟨_, rfl, rfl, Upd.refl _ _⟩
          · intro v w1' hx1' hp
            have h46 : v 46 = .bool false := hp 46 (by decide)
            have HX8 := Lib.hid hx1'
            clear hp hx1'
            simp only [List.size_toArray, List.length_cons, List.length_nil, Nat.reduceAdd, fillAll, vtfDst]
            go_simp
            go_wp2_with fail
            go_meet
            case rel => exact ⟨rfl, HX8.out⟩
        | true =>
          have htm : V.tail ≠ 18446744073709551615 := by have := HOK.out; simpa using this
          have HMX := Lib.hid (show (V.tail : Int) < 18446744073709551615 by have := HTL.out; omega)
          have HNXT := Lib.hid (show (nx : Int) = (V.tail : Int) + 1 by rw [HNX.out, if_neg htm]; omega)
          clear htm
          refine wp_region_invH Nothing (fun _ => Ext) 1000 vttDst (vttPhi V n nx gr) 107 (by kernel_rfl) (by decide) (by decide) rfl (fun i hi => .inl ((by decide : ∀ i, i < 47 → vttDst i < 107) i hi)) (fun i w w' h => ⟨h, fun _ => h⟩) (fun i j v w w' _ _ _ _ h hu => h.ext hu) ?_ ?_
          · intro i o b' w1' ho hx1' hd hk hE hSZ
            have hi : i < 47 := (Array.getElem?_eq_some_iff.1 ho).1
            have his : i = 0 ∨ i = 1 ∨ i = 2 ∨ i = 3 ∨ i = 4 ∨ i = 5 ∨ i = 6 ∨ i = 7 ∨ i = 8 ∨ i = 9 ∨ i = 10 ∨ i = 11 ∨ i = 12 ∨ i = 13 ∨ i = 14 ∨ i = 15 ∨ i = 16 ∨ i = 17 ∨ i = 18 ∨ i = 19 ∨ i = 20 ∨ i = 21 ∨ i = 22 ∨ i = 23 ∨ i = 24 ∨ i = 25 ∨ i = 26 ∨ i = 27 ∨ i = 28 ∨ i = 29 ∨ i = 30 ∨ i = 31 ∨ i = 32 ∨ i = 33 ∨ i = 34 ∨ i = 35 ∨ i = 36 ∨ i = 37 ∨ i = 38 ∨ i = 39 ∨ i = 40 ∨ i = 41 ∨ i = 42 ∨ i = 43 ∨ i = 44 ∨ i = 45 ∨ i = 46 := by omega
            clear hE hSZ
            have HW1 := Lib.hid hx1'
            clear hx1'
            rcases his with rfl | rfl | rfl | rfl | rfl | rfl | rfl | rfl | rfl | rfl | rfl | rfl | rfl | rfl | rfl | rfl | rfl | rfl | rfl | rfl | rfl | rfl | rfl | rfl | rfl | rfl | rfl | rfl | rfl | rfl | rfl | rfl | rfl | rfl | rfl | rfl | rfl | rfl | rfl | rfl | rfl | rfl | rfl | rfl | rfl | rfl | rfl
            all_goals (simp at ho; subst ho)
            ·
              refine .inl ⟨by simp [Region.wanted], ?_⟩
              have o10 : b'.eval (.tmp 10) = .pointer (some ⟨gv, 0, none⟩) := by
                have := hk 10 (fun j oj _ e => (vttDst_ne (by decide) e).elim)
                simpa [Act.eval] using this
              have hg := HW1.out.at_ HGV.out id
              exact wp_load_mid (w := w1') 24 (.tmp 10) rfl gv 0 o10 (vwCells V).toList _ (fun j u hj => by have := cellAt hg j u (by simpa using hj); simpa using this) Tryz.underlying24 rfl (by kernel_rfl) ⟨_, rfl, rfl, Upd.refl _ _⟩
            ·
              refine .inl ⟨by simp [Region.wanted], ?_⟩
              have e0 : b'.tmps[38]?.getD undef = .agg #[.int .u64 V.chain, .int .u64 V.floor, .int .u64 V.tail] := rgD (show b'.tmps.getD 38 undef = .agg #[.int .u64 V.chain, .int .u64 V.floor, .int .u64 V.tail] from hd ⟨0, .data⟩ (by simp) rfl)
              clear hd hk
              go_step
              refine (ref_any w1' V).mono ?_
              rintro e w2 ⟨rfl, hu⟩
              exact ⟨_, rfl, rfl, hu⟩
            ·
              refine .inl ⟨by simp [Region.wanted], ?_⟩
              have o11 : b'.eval (.tmp 11) = .pointer (some ⟨gr, 0, none⟩) := by
                have := hk 11 (fun j oj _ e => (vttDst_ne (by decide) e).elim)
                simpa [Act.eval] using this
              have hg := HW1.out.at_ HGR.out id
              exact wp_load_mid (w := w1') 35 (.tmp 11) rfl gr 0 o11 (vwCells V).toList _ (fun j u hj => by have := cellAt hg j u (by simpa using hj); simpa using this) Tryz.underlying35 rfl (by kernel_rfl) ⟨_, rfl, rfl, Upd.refl _ _⟩
            ·
              refine .inl ⟨by simp [Region.wanted], ?_⟩
              have e1 : b'.tmps[39]?.getD undef = .agg #[.int .u64 V.chain, .int .u64 V.floor, .int .u64 V.tail] := rgD (show b'.tmps.getD 39 undef = .agg #[.int .u64 V.chain, .int .u64 V.floor, .int .u64 V.tail] from hd ⟨1, .data⟩ (by simp) rfl)
              have e2 : b'.tmps[40]?.getD undef = .agg #[.int .u64 V.chain, .int .u64 V.floor, .int .u64 V.tail] := rgD (show b'.tmps.getD 40 undef = .agg #[.int .u64 V.chain, .int .u64 V.floor, .int .u64 V.tail] from hd ⟨2, .data⟩ (by simp) rfl)
              clear hd hk
              go_step
              exact ⟨_, rfl, rfl, Upd.refl _ _⟩
            ·
              refine .inl ⟨by simp [Region.wanted], ?_⟩
              have e3 : b'.tmps[41]?.getD undef = .bool false := rgD (show b'.tmps.getD 41 undef = .bool false from hd ⟨3, .data⟩ (by simp) rfl)
              clear hd hk
              go_step
              exact ⟨_, rfl, rfl, Upd.refl _ _⟩
            ·
              refine .inl ⟨by
                have := tmp_some (show b'.tmps.getD 42 undef = .bool false from hd ⟨4, .guard⟩ (by simp) rfl)
                simp [Region.wanted, yielded, this], ?_⟩
              have o10 : b'.eval (.tmp 10) = .pointer (some ⟨gv, 0, none⟩) := by
                have := hk 10 (fun j oj _ e => (vttDst_ne (by decide) e).elim)
                simpa [Act.eval] using this
              have hg := HW1.out.at_ HGV.out id
              exact wp_load_mid (w := w1') 24 (.tmp 10) rfl gv 0 o10 (vwCells V).toList _ (fun j u hj => by have := cellAt hg j u (by simpa using hj); simpa using this) Tryz.underlying24 rfl (by kernel_rfl) ⟨_, rfl, rfl, Upd.refl _ _⟩
            ·
              refine .inl ⟨by
                have := tmp_some (show b'.tmps.getD 42 undef = .bool false from hd ⟨4, .guard⟩ (by simp) rfl)
                simp [Region.wanted, yielded, this], ?_⟩
              have e5 : b'.tmps[43]?.getD undef = .agg #[.int .u64 V.chain, .int .u64 V.floor, .int .u64 V.tail] := rgD (show b'.tmps.getD 43 undef = .agg #[.int .u64 V.chain, .int .u64 V.floor, .int .u64 V.tail] from hd ⟨5, .data⟩ (by simp) rfl)
              clear hd hk
              go_step
              refine (live_any w1' V HFT.out HTF.out HTL.out).mono ?_
              rintro e w2 ⟨v', rfl, ho, hu⟩
              exact ⟨_, rfl, (Row.of_owns ho).mono (fun _ _ => trivial), hu⟩
            ·
              refine .inl ⟨by
                have := tmp_some (show b'.tmps.getD 42 undef = .bool false from hd ⟨4, .guard⟩ (by simp) rfl)
                simp [Region.wanted, yielded, this], ?_⟩
              have o11 : b'.eval (.tmp 11) = .pointer (some ⟨gr, 0, none⟩) := by
                have := hk 11 (fun j oj _ e => (vttDst_ne (by decide) e).elim)
                simpa [Act.eval] using this
              have hg := HW1.out.at_ HGR.out id
              exact wp_load_mid (w := w1') 35 (.tmp 11) rfl gr 0 o11 (vwCells V).toList _ (fun j u hj => by have := cellAt hg j u (by simpa using hj); simpa using this) Tryz.underlying35 rfl (by kernel_rfl) ⟨_, rfl, rfl, Upd.refl _ _⟩
            ·
              refine .inl ⟨by
                have := tmp_some (show b'.tmps.getD 42 undef = .bool false from hd ⟨4, .guard⟩ (by simp) rfl)
                simp [Region.wanted, yielded, this], ?_⟩
              have e7 : b'.tmps[45]?.getD undef = .agg #[.int .u64 V.chain, .int .u64 V.floor, .int .u64 V.tail] := rgD (show b'.tmps.getD 45 undef = .agg #[.int .u64 V.chain, .int .u64 V.floor, .int .u64 V.tail] from hd ⟨7, .data⟩ (by simp) rfl)
              clear hd hk
              go_step
              refine (rlive_any w1' V HFT.out HTF.out HTL.out).mono ?_
              rintro e w2 ⟨v', rfl, ho, hu⟩
              exact ⟨_, rfl, (Row.of_owns ho).mono (fun _ _ => trivial), hu⟩
            ·
              refine .inl ⟨by
                have := tmp_some (show b'.tmps.getD 42 undef = .bool false from hd ⟨4, .guard⟩ (by simp) rfl)
                simp [Region.wanted, yielded, this], ?_⟩
              have h6 := hd ⟨6, .data⟩ (by simp) rfl
              have h6 : NumAny (liveN V) (b'.tmps.getD 44 undef) w1' := h6
              obtain ⟨u44, hu44⟩ : ∃ u, u = b'.tmps[44]?.getD undef := ⟨_, rfl⟩
              rw [show b'.tmps.getD 44 undef = u44 by rw [hu44]; simp] at h6
              have e44 : b'.tmps[44]?.getD undef = u44 := hu44.symm
              clear hu44
              have h8 := hd ⟨8, .data⟩ (by simp) rfl
              have h8 : NumAny (liveN V) (b'.tmps.getD 46 undef) w1' := h8
              obtain ⟨u46, hu46⟩ : ∃ u, u = b'.tmps[46]?.getD undef := ⟨_, rfl⟩
              rw [show b'.tmps.getD 46 undef = u46 by rw [hu46]; simp] at h8
              have e46 : b'.tmps[46]?.getD undef = u46 := hu46.symm
              clear hu46
              clear hd hk
              go_step
              refine (same_any (S := Any1) (T := Any1) w1' u44 u46 (liveN V) (liveN V) h6 h8).mono ?_
              rintro e w2 ⟨rfl, hu⟩
              exact ⟨_, rfl, (by show Value.bool _ = .bool true; simp), hu⟩
            ·
              refine .inl ⟨by
                have := tmp_some (show b'.tmps.getD 42 undef = .bool false from hd ⟨4, .guard⟩ (by simp) rfl)
                simp [Region.wanted, yielded, this], ?_⟩
              have e9 : b'.tmps[47]?.getD undef = .bool true := rgD (show b'.tmps.getD 47 undef = .bool true from hd ⟨9, .data⟩ (by simp) rfl)
              clear hd hk
              go_step
              exact ⟨_, rfl, rfl, Upd.refl _ _⟩
            ·
              refine .inl ⟨by simp [Region.wanted], ?_⟩
              have e4 : b'.tmps[42]?.getD undef = .bool false := rgD (show b'.tmps.getD 42 undef = .bool false from hd ⟨4, .data⟩ (by simp) rfl)
              have e10 : b'.tmps[48]?.getD undef = .bool false := rgD (show b'.tmps.getD 48 undef = .bool false from hd ⟨10, .data⟩ (by simp) rfl)
              clear hd hk
              go_step
              exact ⟨_, rfl, rfl, Upd.refl _ _⟩
            ·
              refine .inl ⟨by simp [Region.wanted], ?_⟩
              have e11 : b'.tmps[49]?.getD undef = .bool false := rgD (show b'.tmps.getD 49 undef = .bool false from hd ⟨11, .data⟩ (by simp) rfl)
              clear hd hk
              go_step
              exact ⟨_, rfl, rfl, Upd.refl _ _⟩
            ·
              refine .inl ⟨by
                have := tmp_some (show b'.tmps.getD 50 undef = .bool false from hd ⟨12, .guard⟩ (by simp) rfl)
                simp [Region.wanted, yielded, this], ?_⟩
              have o13 : b'.tmps[13]?.getD undef = .bool true := by
                have := hk 13 (fun j oj _ e => (vttDst_ne (by decide) e).elim)
                simpa using this
              clear hd hk
              go_step
              exact ⟨_, rfl, rfl, Upd.refl _ _⟩
            ·
              refine .inl ⟨by
                have := tmp_some (show b'.tmps.getD 50 undef = .bool false from hd ⟨12, .guard⟩ (by simp) rfl)
                simp [Region.wanted, yielded, this], ?_⟩
              have o11 : b'.tmps[11]?.getD undef = .pointer (some ⟨gr, 0, none⟩) := by
                have := hk 11 (fun j oj _ e => (vttDst_ne (by decide) e).elim)
                simpa using this
              have q := lt_of_heap (HW1.out.at_ HGR.out id)
              clear hd hk
              go_step
              exact ⟨_, rfl, rfl, Upd.refl _ _⟩
            ·
              refine .inl ⟨by
                have := tmp_some (show b'.tmps.getD 50 undef = .bool false from hd ⟨12, .guard⟩ (by simp) rfl)
                simp [Region.wanted, yielded, this], ?_⟩
              have e14 : b'.tmps[52]?.getD undef = .pointer (some ⟨gr, 2, none⟩) := rgD (show b'.tmps.getD 52 undef = .pointer (some ⟨gr, 2, none⟩) from hd ⟨14, .data⟩ (by simp) rfl)
              have q := cellAt (HW1.out.at_ HGR.out id) 2 _ rfl
              clear hd hk
              go_step
              exact ⟨_, rfl, rfl, Upd.refl _ _⟩
            ·
              refine .inl ⟨by
                have := tmp_some (show b'.tmps.getD 50 undef = .bool false from hd ⟨12, .guard⟩ (by simp) rfl)
                simp [Region.wanted, yielded, this], ?_⟩
              have e15 : b'.tmps[53]?.getD undef = .int .u64 V.tail := rgD (show b'.tmps.getD 53 undef = .int .u64 V.tail from hd ⟨15, .data⟩ (by simp) rfl)
              have q := HMX.out
              clear hd hk
              go_step
              exact ⟨_, rfl, rfl, Upd.refl _ _⟩
            ·
              refine .inl ⟨by
                have := tmp_some (show b'.tmps.getD 50 undef = .bool false from hd ⟨12, .guard⟩ (by simp) rfl)
                simp [Region.wanted, yielded, this], ?_⟩
              have e13 : b'.tmps[51]?.getD undef = .bool true := rgD (show b'.tmps.getD 51 undef = .bool true from hd ⟨13, .data⟩ (by simp) rfl)
              have e16 : b'.tmps[54]?.getD undef = .bool true := rgD (show b'.tmps.getD 54 undef = .bool true from hd ⟨16, .data⟩ (by simp) rfl)
              clear hd hk
              go_step
              exact ⟨_, rfl, rfl, Upd.refl _ _⟩
            ·
              refine .inl ⟨by simp [Region.wanted], ?_⟩
              have e12 : b'.tmps[50]?.getD undef = .bool false := rgD (show b'.tmps.getD 50 undef = .bool false from hd ⟨12, .data⟩ (by simp) rfl)
              have e17 : b'.tmps[55]?.getD undef = .bool false := rgD (show b'.tmps.getD 55 undef = .bool false from hd ⟨17, .data⟩ (by simp) rfl)
              clear hd hk
              go_step
              exact ⟨_, rfl, rfl, Upd.refl _ _⟩
            ·
              refine .inl ⟨by simp [Region.wanted], ?_⟩
              have e18 : b'.tmps[56]?.getD undef = .bool false := rgD (show b'.tmps.getD 56 undef = .bool false from hd ⟨18, .data⟩ (by simp) rfl)
              clear hd hk
              go_step
              exact ⟨_, rfl, rfl, Upd.refl _ _⟩
            ·
              refine .inl ⟨by
                have := tmp_some (show b'.tmps.getD 57 undef = .bool false from hd ⟨19, .guard⟩ (by simp) rfl)
                simp [Region.wanted, yielded, this], ?_⟩
              have o13 : b'.tmps[13]?.getD undef = .bool true := by
                have := hk 13 (fun j oj _ e => (vttDst_ne (by decide) e).elim)
                simpa using this
              clear hd hk
              go_step
              exact ⟨_, rfl, rfl, Upd.refl _ _⟩
            ·
              refine .inl ⟨by
                have := tmp_some (show b'.tmps.getD 57 undef = .bool false from hd ⟨19, .guard⟩ (by simp) rfl)
                simp [Region.wanted, yielded, this], ?_⟩
              have e20 : b'.tmps[58]?.getD undef = .bool true := rgD (show b'.tmps.getD 58 undef = .bool true from hd ⟨20, .data⟩ (by simp) rfl)
              clear hd hk
              go_step
              exact ⟨_, rfl, rfl, Upd.refl _ _⟩
            ·
              refine .inl ⟨by
                have := tmp_some (show b'.tmps.getD 59 undef = .bool true from hd ⟨21, .guard⟩ (by simp) rfl)
                simp [Region.wanted, yielded, this], ?_⟩
              have o12 : b'.tmps[12]?.getD undef = .int .u64 nx := by
                have := hk 12 (fun j oj _ e => (vttDst_ne (by decide) e).elim)
                simpa using this
              clear hd hk
              go_step
              exact ⟨_, rfl, rfl, Upd.refl _ _⟩
            ·
              refine .inl ⟨by
                have := tmp_some (show b'.tmps.getD 59 undef = .bool true from hd ⟨21, .guard⟩ (by simp) rfl)
                simp [Region.wanted, yielded, this], ?_⟩
              have o11 : b'.tmps[11]?.getD undef = .pointer (some ⟨gr, 0, none⟩) := by
                have := hk 11 (fun j oj _ e => (vttDst_ne (by decide) e).elim)
                simpa using this
              have q := lt_of_heap (HW1.out.at_ HGR.out id)
              clear hd hk
              go_step
              exact ⟨_, rfl, rfl, Upd.refl _ _⟩
            ·
              refine .inl ⟨by
                have := tmp_some (show b'.tmps.getD 59 undef = .bool true from hd ⟨21, .guard⟩ (by simp) rfl)
                simp [Region.wanted, yielded, this], ?_⟩
              have e23 : b'.tmps[61]?.getD undef = .pointer (some ⟨gr, 2, none⟩) := rgD (show b'.tmps.getD 61 undef = .pointer (some ⟨gr, 2, none⟩) from hd ⟨23, .data⟩ (by simp) rfl)
              have q := cellAt (HW1.out.at_ HGR.out id) 2 _ rfl
              clear hd hk
              go_step
              exact ⟨_, rfl, rfl, Upd.refl _ _⟩
            ·
              refine .inl ⟨by
                have := tmp_some (show b'.tmps.getD 59 undef = .bool true from hd ⟨21, .guard⟩ (by simp) rfl)
                simp [Region.wanted, yielded, this], ?_⟩
              have e24 : b'.tmps[62]?.getD undef = .int .u64 V.tail := rgD (show b'.tmps.getD 62 undef = .int .u64 V.tail from hd ⟨24, .data⟩ (by simp) rfl)
              have q := HMX.out
              clear hd hk
              go_step
              exact ⟨_, rfl, (by show Value.int .u64 _ = .int .u64 (nx : Int); rw [HNXT.out]), Upd.refl _ _⟩
            ·
              refine .inl ⟨by
                have := tmp_some (show b'.tmps.getD 59 undef = .bool true from hd ⟨21, .guard⟩ (by simp) rfl)
                simp [Region.wanted, yielded, this], ?_⟩
              have e22 : b'.tmps[60]?.getD undef = .int .u64 nx := rgD (show b'.tmps.getD 60 undef = .int .u64 nx from hd ⟨22, .data⟩ (by simp) rfl)
              have e25 : b'.tmps[63]?.getD undef = .int .u64 nx := rgD (show b'.tmps.getD 63 undef = .int .u64 nx from hd ⟨25, .data⟩ (by simp) rfl)
              clear hd hk
              go_step
              exact ⟨_, rfl, rfl, Upd.refl _ _⟩
            ·
              refine .inl ⟨by
                have := tmp_some (show b'.tmps.getD 57 undef = .bool false from hd ⟨19, .guard⟩ (by simp) rfl)
                simp [Region.wanted, yielded, this], ?_⟩
              have e21 : b'.tmps[59]?.getD undef = .bool true := rgD (show b'.tmps.getD 59 undef = .bool true from hd ⟨21, .data⟩ (by simp) rfl)
              have e26 : b'.tmps[64]?.getD undef = .bool false := rgD (show b'.tmps.getD 64 undef = .bool false from hd ⟨26, .data⟩ (by simp) rfl)
              clear hd hk
              go_step
              exact ⟨_, rfl, rfl, Upd.refl _ _⟩
            ·
              refine .inl ⟨by simp [Region.wanted], ?_⟩
              have e19 : b'.tmps[57]?.getD undef = .bool false := rgD (show b'.tmps.getD 57 undef = .bool false from hd ⟨19, .data⟩ (by simp) rfl)
              have e27 : b'.tmps[65]?.getD undef = .bool false := rgD (show b'.tmps.getD 65 undef = .bool false from hd ⟨27, .data⟩ (by simp) rfl)
              clear hd hk
              go_step
              exact ⟨_, rfl, rfl, Upd.refl _ _⟩
            ·
              refine .inl ⟨by simp [Region.wanted], ?_⟩
              have e28 : b'.tmps[66]?.getD undef = .bool false := rgD (show b'.tmps.getD 66 undef = .bool false from hd ⟨28, .data⟩ (by simp) rfl)
              clear hd hk
              go_step
              exact ⟨_, rfl, rfl, Upd.refl _ _⟩
            ·
              refine .inl ⟨by
                have := tmp_some (show b'.tmps.getD 67 undef = .bool false from hd ⟨29, .guard⟩ (by simp) rfl)
                simp [Region.wanted, yielded, this], ?_⟩
              have o13 : b'.tmps[13]?.getD undef = .bool true := by
                have := hk 13 (fun j oj _ e => (vttDst_ne (by decide) e).elim)
                simpa using this
              clear hd hk
              go_step
              exact ⟨_, rfl, rfl, Upd.refl _ _⟩
            ·
              refine .inl ⟨by
                have := tmp_some (show b'.tmps.getD 67 undef = .bool false from hd ⟨29, .guard⟩ (by simp) rfl)
                simp [Region.wanted, yielded, this], ?_⟩
              have e30 : b'.tmps[68]?.getD undef = .bool true := rgD (show b'.tmps.getD 68 undef = .bool true from hd ⟨30, .data⟩ (by simp) rfl)
              clear hd hk
              go_step
              exact ⟨_, rfl, rfl, Upd.refl _ _⟩
            ·
              refine .inl ⟨by
                have := tmp_some (show b'.tmps.getD 67 undef = .bool false from hd ⟨29, .guard⟩ (by simp) rfl)
                simp [Region.wanted, yielded, this], ?_⟩
              have e31 : b'.tmps[69]?.getD undef = .bool false := rgD (show b'.tmps.getD 69 undef = .bool false from hd ⟨31, .data⟩ (by simp) rfl)
              clear hd hk
              go_step
              exact ⟨_, rfl, rfl, Upd.refl _ _⟩
            ·
              refine .inr ⟨by
                have := tmp_some (show b'.tmps.getD 70 undef = .bool false from hd ⟨32, .guard⟩ (by simp) rfl)
                simp [Region.wanted, yielded, this], rfl, rfl, Upd.refl _ _⟩
            ·
              refine .inr ⟨by
                have := tmp_some (show b'.tmps.getD 70 undef = .bool false from hd ⟨32, .guard⟩ (by simp) rfl)
                simp [Region.wanted, yielded, this], rfl, rfl, Upd.refl _ _⟩
            ·
              refine .inl ⟨by
                have := tmp_some (show b'.tmps.getD 67 undef = .bool false from hd ⟨29, .guard⟩ (by simp) rfl)
                simp [Region.wanted, yielded, this], ?_⟩
              have e32 : b'.tmps[70]?.getD undef = .bool false := rgD (show b'.tmps.getD 70 undef = .bool false from hd ⟨32, .data⟩ (by simp) rfl)
              have e34 : b'.tmps[72]?.getD undef = undef := rgD (show b'.tmps.getD 72 undef = undef from hd ⟨34, .data⟩ (by simp) rfl)
              clear hd hk
              go_step
              exact ⟨_, rfl, rfl, Upd.refl _ _⟩
            ·
              refine .inl ⟨by simp [Region.wanted], ?_⟩
              have e29 : b'.tmps[67]?.getD undef = .bool false := rgD (show b'.tmps.getD 67 undef = .bool false from hd ⟨29, .data⟩ (by simp) rfl)
              have e35 : b'.tmps[73]?.getD undef = .bool false := rgD (show b'.tmps.getD 73 undef = .bool false from hd ⟨35, .data⟩ (by simp) rfl)
              clear hd hk
              go_step
              exact ⟨_, rfl, rfl, Upd.refl _ _⟩
            ·
              refine .inl ⟨by simp [Region.wanted], ?_⟩
              have e36 : b'.tmps[74]?.getD undef = .bool false := rgD (show b'.tmps.getD 74 undef = .bool false from hd ⟨36, .data⟩ (by simp) rfl)
              clear hd hk
              go_step
              exact ⟨_, rfl, rfl, Upd.refl _ _⟩
            ·
              refine .inl ⟨by
                have := tmp_some (show b'.tmps.getD 75 undef = .bool false from hd ⟨37, .guard⟩ (by simp) rfl)
                simp [Region.wanted, yielded, this], ?_⟩
              have o10 : b'.eval (.tmp 10) = .pointer (some ⟨gv, 0, none⟩) := by
                have := hk 10 (fun j oj _ e => (vttDst_ne (by decide) e).elim)
                simpa [Act.eval] using this
              have hg := HW1.out.at_ HGV.out id
              exact wp_load_mid (w := w1') 24 (.tmp 10) rfl gv 0 o10 (vwCells V).toList _ (fun j u hj => by have := cellAt hg j u (by simpa using hj); simpa using this) Tryz.underlying24 rfl (by kernel_rfl) ⟨_, rfl, rfl, Upd.refl _ _⟩
            ·
              refine .inl ⟨by
                have := tmp_some (show b'.tmps.getD 75 undef = .bool false from hd ⟨37, .guard⟩ (by simp) rfl)
                simp [Region.wanted, yielded, this], ?_⟩
              have o1 : b'.tmps[1]?.getD undef = .int .u64 n := by
                have := hk 1 (fun j oj _ e => (vttDst_ne (by decide) e).elim)
                simpa using this
              clear hd hk
              go_step
              exact ⟨_, rfl, rfl, Upd.refl _ _⟩
            ·
              refine .inl ⟨by
                have := tmp_some (show b'.tmps.getD 75 undef = .bool false from hd ⟨37, .guard⟩ (by simp) rfl)
                simp [Region.wanted, yielded, this], ?_⟩
              have e38 : b'.tmps[76]?.getD undef = .agg #[.int .u64 V.chain, .int .u64 V.floor, .int .u64 V.tail] := rgD (show b'.tmps.getD 76 undef = .agg #[.int .u64 V.chain, .int .u64 V.floor, .int .u64 V.tail] from hd ⟨38, .data⟩ (by simp) rfl)
              have e39 : b'.tmps[77]?.getD undef = .int .u64 n := rgD (show b'.tmps.getD 77 undef = .int .u64 n from hd ⟨39, .data⟩ (by simp) rfl)
              clear hd hk
              go_step
              refine (void_any w1' V n).mono ?_
              rintro e w2 ⟨rfl, hu⟩
              exact ⟨_, rfl, rfl, hu⟩
            ·
              refine .inl ⟨by
                have := tmp_some (show b'.tmps.getD 75 undef = .bool false from hd ⟨37, .guard⟩ (by simp) rfl)
                simp [Region.wanted, yielded, this], ?_⟩
              have o1 : b'.tmps[1]?.getD undef = .int .u64 n := by
                have := hk 1 (fun j oj _ e => (vttDst_ne (by decide) e).elim)
                simpa using this
              clear hd hk
              go_step
              exact ⟨_, rfl, rfl, Upd.refl _ _⟩
            ·
              refine .inl ⟨by
                have := tmp_some (show b'.tmps.getD 75 undef = .bool false from hd ⟨37, .guard⟩ (by simp) rfl)
                simp [Region.wanted, yielded, this], ?_⟩
              have o11 : b'.tmps[11]?.getD undef = .pointer (some ⟨gr, 0, none⟩) := by
                have := hk 11 (fun j oj _ e => (vttDst_ne (by decide) e).elim)
                simpa using this
              have q := lt_of_heap (HW1.out.at_ HGR.out id)
              clear hd hk
              go_step
              exact ⟨_, rfl, rfl, Upd.refl _ _⟩
            ·
              refine .inl ⟨by
                have := tmp_some (show b'.tmps.getD 75 undef = .bool false from hd ⟨37, .guard⟩ (by simp) rfl)
                simp [Region.wanted, yielded, this], ?_⟩
              have e42 : b'.tmps[80]?.getD undef = .pointer (some ⟨gr, 1, none⟩) := rgD (show b'.tmps.getD 80 undef = .pointer (some ⟨gr, 1, none⟩) from hd ⟨42, .data⟩ (by simp) rfl)
              have q := cellAt (HW1.out.at_ HGR.out id) 1 _ rfl
              clear hd hk
              go_step
              exact ⟨_, rfl, rfl, Upd.refl _ _⟩
            ·
              refine .inl ⟨by
                have := tmp_some (show b'.tmps.getD 75 undef = .bool false from hd ⟨37, .guard⟩ (by simp) rfl)
                simp [Region.wanted, yielded, this], ?_⟩
              have e41 : b'.tmps[79]?.getD undef = .int .u64 n := rgD (show b'.tmps.getD 79 undef = .int .u64 n from hd ⟨41, .data⟩ (by simp) rfl)
              have e43 : b'.tmps[81]?.getD undef = .int .u64 V.floor := rgD (show b'.tmps.getD 81 undef = .int .u64 V.floor from hd ⟨43, .data⟩ (by simp) rfl)
              clear hd hk
              go_step
              exact ⟨_, rfl, (by show Value.bool _ = Value.bool _; first | (congr 1; done) | (congr 1; simp)), Upd.refl _ _⟩
            ·
              refine .inl ⟨by
                have := tmp_some (show b'.tmps.getD 75 undef = .bool false from hd ⟨37, .guard⟩ (by simp) rfl)
                simp [Region.wanted, yielded, this], ?_⟩
              have e40 : b'.tmps[78]?.getD undef = .bool (decide (n ≤ V.floor)) := rgD (show b'.tmps.getD 78 undef = .bool (decide (n ≤ V.floor)) from hd ⟨40, .data⟩ (by simp) rfl)
              have e44 : b'.tmps[82]?.getD undef = .bool (decide (n ≤ V.floor)) := rgD (show b'.tmps.getD 82 undef = .bool (decide (n ≤ V.floor)) from hd ⟨44, .data⟩ (by simp) rfl)
              clear hd hk
              go_step
              exact ⟨_, rfl, (by show Value.bool _ = Value.bool _; simp), Upd.refl _ _⟩
            ·
              refine .inl ⟨by simp [Region.wanted], ?_⟩
              have e37 : b'.tmps[75]?.getD undef = .bool false := rgD (show b'.tmps.getD 75 undef = .bool false from hd ⟨37, .data⟩ (by simp) rfl)
              have e45 : b'.tmps[83]?.getD undef = .bool false := rgD (show b'.tmps.getD 83 undef = .bool false from hd ⟨45, .data⟩ (by simp) rfl)
              clear hd hk
              go_step
              exact ⟨_, rfl, rfl, Upd.refl _ _⟩
          · intro v w1' hx1' hp
            have h46 : v 46 = .bool false := hp 46 (by decide)
            have HX8 := Lib.hid hx1'
            clear hp hx1'
            simp only [List.size_toArray, List.length_cons, List.length_nil, Nat.reduceAdd, fillAll, vttDst]
            go_simp
            go_wp2_with fail
            go_meet
            case rel => exact ⟨rfl, HX8.out⟩
    case rest =>
      obtain ⟨rfl, hcut⟩ := hcut
      replace HKI := Lib.hid ((HKI.out.ext hcut).mono (T := Till wc.heap.size) (fun j hj => by
        have h1 := HXA.out.size
        have h2 := hcut.size
        exact Nat.lt_of_lt_of_le hj (Nat.le_trans h1 h2)))
      replace HTX := Lib.hid (HTX.out.ext hcut)
      replace HRX := Lib.hid (HRX.out.ext hcut)
      replace HLV := Lib.hid (HLV.out.ext hcut)
      replace HEE := Lib.hid (HEE.out.ext hcut)
      replace HGK := Lib.hid (hcut.at_ HGK.out id)
      replace HGR := Lib.hid (hcut.at_ HGR.out id)
      replace HX3 := Lib.hid (HX3.out.trans hcut)
      clear hcut
      go_upto_region 11 with (fail)
      refine wp_region_invH Nothing (fun _ => Ext) 1000 vuDst (vuPhi V a b c nw (.slice a4 n4 c4) (.slice la ln lc) k l) 107 (by kernel_rfl) (by decide) (by decide) rfl (fun i hi => .inl ((by decide : ∀ i, i < 23 → vuDst i < 107) i hi)) (fun i w w' h => ⟨h, fun _ => h⟩) (fun i j v w w' _ _ _ _ h hu => h.ext hu) ?_ ?_
      · intro i o b' w1' ho hx1' hd hk hE hSZ
        have hi : i < 23 := (Array.getElem?_eq_some_iff.1 ho).1
        have his : i = 0 ∨ i = 1 ∨ i = 2 ∨ i = 3 ∨ i = 4 ∨ i = 5 ∨ i = 6 ∨ i = 7 ∨ i = 8 ∨ i = 9 ∨ i = 10 ∨ i = 11 ∨ i = 12 ∨ i = 13 ∨ i = 14 ∨ i = 15 ∨ i = 16 ∨ i = 17 ∨ i = 18 ∨ i = 19 ∨ i = 20 ∨ i = 21 ∨ i = 22 := by omega
        clear hE hSZ
        have HW1 := Lib.hid hx1'
        clear hx1'
        rcases his with rfl | rfl | rfl | rfl | rfl | rfl | rfl | rfl | rfl | rfl | rfl | rfl | rfl | rfl | rfl | rfl | rfl | rfl | rfl | rfl | rfl | rfl | rfl
        all_goals (simp at ho; subst ho)
        ·
          refine .inl ⟨by simp [Region.wanted], ?_⟩
          have o3 : b'.tmps[3]?.getD undef = nw := by
            have := hk 3 (fun j oj _ e => (vuDst_ne (by decide) e).elim)
            simpa using this
          clear hd hk
          go_step
          exact ⟨_, rfl, rfl, Upd.refl _ _⟩
        ·
          refine .inl ⟨by simp [Region.wanted], ?_⟩
          have e0 : b'.tmps[85]?.getD undef = nw := rgD (show b'.tmps.getD 85 undef = nw from hd ⟨0, .data⟩ (by simp) rfl)
          clear hd hk
          go_step
          refine (chains_any w1' nw l ((HTX.out.ext HW1.out).mono (fun _ _ => trivial)) HLC.out HLS.out (HEE.out.ext HW1.out)).mono ?_
          rintro e w2 ⟨v', rfl, ho, hu⟩
          exact ⟨_, rfl, (Row.of_owns ho).mono (fun _ _ => trivial), hu⟩
        ·
          refine .inl ⟨by simp [Region.wanted], ?_⟩
          have o9 : b'.tmps[9]?.getD undef = .slice a4 n4 c4 := by
            have := hk 9 (fun j oj _ e => (vuDst_ne (by decide) e).elim)
            simpa using this
          clear hd hk
          go_step
          exact ⟨_, rfl, rfl, Upd.refl _ _⟩
        ·
          refine .inl ⟨by simp [Region.wanted], ?_⟩
          have e2 : b'.tmps[87]?.getD undef = .slice a4 n4 c4 := rgD (show b'.tmps.getD 87 undef = .slice a4 n4 c4 from hd ⟨2, .data⟩ (by simp) rfl)
          clear hd hk
          go_step
          refine (rchains_any w1' _ l (HRX.out.ext HW1.out) HLC.out HLS.out).mono ?_
          rintro e w2 ⟨v', rfl, ho, hu⟩
          exact ⟨_, rfl, ho, hu⟩
        ·
          refine .inl ⟨by simp [Region.wanted], ?_⟩
          have h1 := hd ⟨1, .data⟩ (by simp) rfl
          have h1 : NumAny (chainsF l) (b'.tmps.getD 86 undef) w1' := h1
          obtain ⟨u86, hu86⟩ : ∃ u, u = b'.tmps[86]?.getD undef := ⟨_, rfl⟩
          rw [show b'.tmps.getD 86 undef = u86 by rw [hu86]; simp] at h1
          have e86 : b'.tmps[86]?.getD undef = u86 := hu86.symm
          clear hu86
          have h3 := hd ⟨3, .data⟩ (by simp) rfl
          have h3 : NumAny (chainsF l) (b'.tmps.getD 88 undef) w1' := h3
          obtain ⟨u88, hu88⟩ : ∃ u, u = b'.tmps[88]?.getD undef := ⟨_, rfl⟩
          rw [show b'.tmps.getD 88 undef = u88 by rw [hu88]; simp] at h3
          have e88 : b'.tmps[88]?.getD undef = u88 := hu88.symm
          clear hu88
          clear hd hk
          go_step
          refine (same_any (S := Any1) (T := Any1) w1' u86 u88 (chainsF l) (chainsF l) h1 h3).mono ?_
          rintro e w2 ⟨rfl, hu⟩
          exact ⟨_, rfl, (by show Value.bool _ = .bool true; simp), hu⟩
        ·
          refine .inl ⟨by simp [Region.wanted], ?_⟩
          have e4 : b'.tmps[89]?.getD undef = .bool true := rgD (show b'.tmps.getD 89 undef = .bool true from hd ⟨4, .data⟩ (by simp) rfl)
          clear hd hk
          go_step
          exact ⟨_, rfl, rfl, Upd.refl _ _⟩
        ·
          refine .inl ⟨by
            have := tmp_some (show b'.tmps.getD 90 undef = .bool true from hd ⟨5, .guard⟩ (by simp) rfl)
            simp [Region.wanted, yielded, this], ?_⟩
          have o14 : b'.tmps[14]?.getD undef = .slice la ln lc := by
            have := hk 14 (fun j oj _ e => (vuDst_ne (by decide) e).elim)
            simpa using this
          clear hd hk
          go_step
          exact ⟨_, rfl, rfl, Upd.refl _ _⟩
        ·
          refine .inl ⟨by
            have := tmp_some (show b'.tmps.getD 90 undef = .bool true from hd ⟨5, .guard⟩ (by simp) rfl)
            simp [Region.wanted, yielded, this], ?_⟩
          have o11 : b'.eval (.tmp 11) = .pointer (some ⟨gr, 0, none⟩) := by
            have := hk 11 (fun j oj _ e => (vuDst_ne (by decide) e).elim)
            simpa [Act.eval] using this
          have hg := HW1.out.at_ HGR.out id
          exact wp_load_mid (w := w1') 35 (.tmp 11) rfl gr 0 o11 (vwCells V).toList _ (fun j u hj => by have := cellAt hg j u (by simpa using hj); simpa using this) Tryz.underlying35 rfl (by kernel_rfl) ⟨_, rfl, rfl, Upd.refl _ _⟩
        ·
          refine .inl ⟨by
            have := tmp_some (show b'.tmps.getD 90 undef = .bool true from hd ⟨5, .guard⟩ (by simp) rfl)
            simp [Region.wanted, yielded, this], ?_⟩
          have o6 : b'.eval (.tmp 6) = .pointer (some ⟨gk, 0, none⟩) := by
            have := hk 6 (fun j oj _ e => (vuDst_ne (by decide) e).elim)
            simpa [Act.eval] using this
          have hg := HW1.out.at_ HGK.out id
          exact wp_load_mid (w := w1') 28 (.tmp 6) rfl gk 0 o6 [a, b, c] _ (fun j u hj => by have := cellAt hg j u (by simpa using hj); simpa using this) Tryz.underlying28 rfl (by kernel_rfl) ⟨_, rfl, rfl, Upd.refl _ _⟩
        ·
          refine .inl ⟨by
            have := tmp_some (show b'.tmps.getD 90 undef = .bool true from hd ⟨5, .guard⟩ (by simp) rfl)
            simp [Region.wanted, yielded, this], ?_⟩
          have e8 : b'.tmps[93]?.getD undef = .agg #[a, b, c] := rgD (show b'.tmps.getD 93 undef = .agg #[a, b, c] from hd ⟨8, .data⟩ (by simp) rfl)
          clear hd hk
          go_step
          refine (keep_any w1' a b c k ((HKI.out.ext HW1.out).mono (fun j hj => Nat.lt_of_lt_of_le hj HW1.out.size)) HN1.out HN2.out).mono ?_
          rintro e w2 ⟨x, y, qp, qi, told, rfl, h1, h2, h3, hu⟩
          exact ⟨_, rfl, ⟨x, y, qp, qi, told, rfl, h1.mono (fun _ _ => trivial), h2.mono (fun _ _ => trivial), h3⟩, hu⟩
        ·
          refine .inl ⟨by
            have := tmp_some (show b'.tmps.getD 90 undef = .bool true from hd ⟨5, .guard⟩ (by simp) rfl)
            simp [Region.wanted, yielded, this], ?_⟩
          have o9 : b'.tmps[9]?.getD undef = .slice a4 n4 c4 := by
            have := hk 9 (fun j oj _ e => (vuDst_ne (by decide) e).elim)
            simpa using this
          clear hd hk
          go_step
          exact ⟨_, rfl, rfl, Upd.refl _ _⟩
        ·
          refine .inl ⟨by
            have := tmp_some (show b'.tmps.getD 90 undef = .bool true from hd ⟨5, .guard⟩ (by simp) rfl)
            simp [Region.wanted, yielded, this], ?_⟩
          have e7 : b'.tmps[92]?.getD undef = .agg #[.int .u64 V.chain, .int .u64 V.floor, .int .u64 V.tail] := rgD (show b'.tmps.getD 92 undef = .agg #[.int .u64 V.chain, .int .u64 V.floor, .int .u64 V.tail] from hd ⟨7, .data⟩ (by simp) rfl)
          have h9 := hd ⟨9, .data⟩ (by simp) rfl
          have h9 : KpAny k (b'.tmps.getD 94 undef) w1' := h9
          obtain ⟨u94, hu94⟩ : ∃ u, u = b'.tmps[94]?.getD undef := ⟨_, rfl⟩
          rw [show b'.tmps.getD 94 undef = u94 by rw [hu94]; simp] at h9
          have e94 : b'.tmps[94]?.getD undef = u94 := hu94.symm
          clear hu94
          have e10 : b'.tmps[95]?.getD undef = .slice a4 n4 c4 := rgD (show b'.tmps.getD 95 undef = .slice a4 n4 c4 from hd ⟨10, .data⟩ (by simp) rfl)
          clear hd hk
          go_step
          obtain ⟨x, y, qp, qi, told, rfl, k1, k2, k3⟩ := h9
          refine (rleft_any w1' x y _ qp qi told k V l k1 k2 k3 (HRX.out.ext HW1.out) HLN.out HLS.out).mono ?_
          rintro e w2 ⟨v', rfl, ho, hu⟩
          exact ⟨_, rfl, (Row.of_owns ho).mono (fun _ _ => trivial), hu⟩
        ·
          refine .inl ⟨by
            have := tmp_some (show b'.tmps.getD 90 undef = .bool true from hd ⟨5, .guard⟩ (by simp) rfl)
            simp [Region.wanted, yielded, this], ?_⟩
          have e6 : b'.tmps[91]?.getD undef = .slice la ln lc := rgD (show b'.tmps.getD 91 undef = .slice la ln lc from hd ⟨6, .data⟩ (by simp) rfl)
          have h11 := hd ⟨11, .data⟩ (by simp) rfl
          have h11 : TxAny (leftF V k l) (b'.tmps.getD 96 undef) w1' := h11
          obtain ⟨u96, hu96⟩ : ∃ u, u = b'.tmps[96]?.getD undef := ⟨_, rfl⟩
          rw [show b'.tmps.getD 96 undef = u96 by rw [hu96]; simp] at h11
          have e96 : b'.tmps[96]?.getD undef = u96 := hu96.symm
          clear hu96
          clear hd hk
          go_step
          refine (sameT_any (S := Any1) (T := Any1) w1' _ u96 (leftF V k l) (leftF V k l) (HLV.out.ext HW1.out) h11).mono ?_
          rintro e w2 ⟨rfl, hu⟩
          exact ⟨_, rfl, (by show Value.bool _ = .bool true; simp), hu⟩
        ·
          refine .inl ⟨by simp [Region.wanted], ?_⟩
          have e5 : b'.tmps[90]?.getD undef = .bool true := rgD (show b'.tmps.getD 90 undef = .bool true from hd ⟨5, .data⟩ (by simp) rfl)
          have e12 : b'.tmps[97]?.getD undef = .bool true := rgD (show b'.tmps.getD 97 undef = .bool true from hd ⟨12, .data⟩ (by simp) rfl)
          clear hd hk
          go_step
          exact ⟨_, rfl, rfl, Upd.refl _ _⟩
        ·
          refine .inl ⟨by simp [Region.wanted], ?_⟩
          have e13 : b'.tmps[98]?.getD undef = .bool true := rgD (show b'.tmps.getD 98 undef = .bool true from hd ⟨13, .data⟩ (by simp) rfl)
          clear hd hk
          go_step
          exact ⟨_, rfl, rfl, Upd.refl _ _⟩
        ·
          refine .inl ⟨by
            have := tmp_some (show b'.tmps.getD 99 undef = .bool true from hd ⟨14, .guard⟩ (by simp) rfl)
            simp [Region.wanted, yielded, this], ?_⟩
          have o3 : b'.tmps[3]?.getD undef = nw := by
            have := hk 3 (fun j oj _ e => (vuDst_ne (by decide) e).elim)
            simpa using this
          clear hd hk
          go_step
          exact ⟨_, rfl, rfl, Upd.refl _ _⟩
        ·
          refine .inl ⟨by
            have := tmp_some (show b'.tmps.getD 99 undef = .bool true from hd ⟨14, .guard⟩ (by simp) rfl)
            simp [Region.wanted, yielded, this], ?_⟩
          have o9 : b'.tmps[9]?.getD undef = .slice a4 n4 c4 := by
            have := hk 9 (fun j oj _ e => (vuDst_ne (by decide) e).elim)
            simpa using this
          clear hd hk
          go_step
          exact ⟨_, rfl, rfl, Upd.refl _ _⟩
        ·
          refine .inl ⟨by
            have := tmp_some (show b'.tmps.getD 99 undef = .bool true from hd ⟨14, .guard⟩ (by simp) rfl)
            simp [Region.wanted, yielded, this], ?_⟩
          have e15 : b'.tmps[100]?.getD undef = nw := rgD (show b'.tmps.getD 100 undef = nw from hd ⟨15, .data⟩ (by simp) rfl)
          have e16 : b'.tmps[101]?.getD undef = .slice a4 n4 c4 := rgD (show b'.tmps.getD 101 undef = .slice a4 n4 c4 from hd ⟨16, .data⟩ (by simp) rfl)
          clear hd hk
          go_step
          refine (sameT_any (S := Any1) (T := Any1) w1' nw _ l l ((HTX.out.ext HW1.out).mono (fun _ _ => trivial)) (HRX.out.ext HW1.out)).mono ?_
          rintro e w2 ⟨rfl, hu⟩
          exact ⟨_, rfl, (by show Value.bool _ = .bool true; simp), hu⟩
        ·
          refine .inl ⟨by simp [Region.wanted], ?_⟩
          have e14 : b'.tmps[99]?.getD undef = .bool true := rgD (show b'.tmps.getD 99 undef = .bool true from hd ⟨14, .data⟩ (by simp) rfl)
          have e17 : b'.tmps[102]?.getD undef = .bool true := rgD (show b'.tmps.getD 102 undef = .bool true from hd ⟨17, .data⟩ (by simp) rfl)
          clear hd hk
          go_step
          exact ⟨_, rfl, rfl, Upd.refl _ _⟩
        ·
          refine .inl ⟨by simp [Region.wanted], ?_⟩
          have e18 : b'.tmps[103]?.getD undef = .bool true := rgD (show b'.tmps.getD 103 undef = .bool true from hd ⟨18, .data⟩ (by simp) rfl)
          clear hd hk
          go_step
          exact ⟨_, rfl, rfl, Upd.refl _ _⟩
        ·
          refine .inl ⟨by
            have := tmp_some (show b'.tmps.getD 104 undef = .bool true from hd ⟨19, .guard⟩ (by simp) rfl)
            simp [Region.wanted, yielded, this], ?_⟩
          clear hd hk
          go_step
          refine (works_any w1').mono ?_
          rintro e w2 ⟨rfl, hu⟩
          exact ⟨_, rfl, rfl, hu⟩
        ·
          refine .inl ⟨by simp [Region.wanted], ?_⟩
          have e19 : b'.tmps[104]?.getD undef = .bool true := rgD (show b'.tmps.getD 104 undef = .bool true from hd ⟨19, .data⟩ (by simp) rfl)
          have e20 : b'.tmps[105]?.getD undef = .bool true := rgD (show b'.tmps.getD 105 undef = .bool true from hd ⟨20, .data⟩ (by simp) rfl)
          clear hd hk
          go_step
          exact ⟨_, rfl, rfl, Upd.refl _ _⟩
        ·
          refine .inl ⟨by simp [Region.wanted], ?_⟩
          have e21 : b'.tmps[106]?.getD undef = .bool true := rgD (show b'.tmps.getD 106 undef = .bool true from hd ⟨21, .data⟩ (by simp) rfl)
          clear hd hk
          go_step
          exact ⟨_, rfl, rfl, Upd.refl _ _⟩
      · intro v w1' hx1' hp
        have h22 : v 22 = .bool true := hp 22 (by decide)
        have HX8 := Lib.hid (HX3.out.trans hx1')
        clear hp hx1'
        simp only [List.size_toArray, List.length_cons, List.length_nil, Nat.reduceAdd, fillAll, vuDst]
        go_simp
        go_wp2
        go_ret
        exact ⟨rfl, HX8.out⟩
end Go.Proofs.YtfpioijfocmfcaaGreatDoor
