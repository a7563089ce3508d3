/-
  CONTRACTS of a publication's won, of what it leads to, of what its last unlink of a slot leads to. Condition: it is there.
  FRAMES, plain: written, read, many.
-/
import Derived.Test.YtnkmpoplibnflaaGreatDoorGAJ
import Derived.Test.YtnkmpoplibnflaaGreatDoorGAI
set_option maxRecDepth 100000
set_option maxHeartbeats 16000000
namespace Go.Proofs.YtnkmpoplibnflaaGreatDoor.Wk
open Go Go.Proofs.YtnkmpoplibnflaaGreatDoor Go.RowKit
def BoxM (w : World) (B bm : Nat) : Prop := B < bm /\ w.heap[bm]? = some (.cells #[.pointer (some ⟨B, 0, none⟩)] 31 (0, 0))
theorem BoxM.upd {w w' : World} {B bm : Nat} (h : BoxM w B bm) (hu : Upd (At B) w w') : BoxM w' B bm := ⟨h.1, hu.at_ h.2 (fun e => by have e : bm = B := e; have := h.1; omega)⟩
theorem BoxM.ext {w w' : World} {B bm : Nat} (h : BoxM w B bm) (hu : Ext w w') : BoxM w' B bm := ⟨h.1, hu.at_ h.2 id⟩
theorem mwon_ok {w : World} {B c n p i s k : Nat} {tx sx nm tt : List UInt8} {bv cb fn : Value} {done linked : Bool} {err : Int} (h : PM w B (macC c n p i s tx sx bv k nm tt cb fn done err linked)) (na ba : Option Addr) (nn nc bn bc : Nat) :
  Calls Tryz.prog 86 #[.pointer (some ⟨B, 0, none⟩), .agg #[.int .i64 0, .slice na nn nc, .slice ba bn bc]] w fun r w' => r = .returned (.tuple #[]) /\ Upd (At B) w w' /\ ∃ bm, BoxM w' B bm /\ PM w' B (macC c n p i s tx sx bv 4 [] [] (.slice none 0 0) (.func (.func 108) #[] #[.pointer (some ⟨bm, 0, none⟩)]) done err linked) := by
 obtain ⟨w1, hw1⟩ : ∃ u, u = (w.alloc (.cells #[.pointer (some ⟨B, 0, none⟩)] 31)).alloc (.cells #[.int .i64 0, .slice na nn nc, .slice ba bn bc] 47) := ⟨_, rfl⟩
 have hx1 : Ext w w1 := by rw [hw1]; exact (uZ.alloc _).alloc _
 have hA : w1.heap[w.heap.size]? = some (.cells #[.pointer (some ⟨B, 0, none⟩)] 31 (0, 0)) := by rw [hw1]; exact (Upd.refl Nothing _).alloc _ |>.at_ (newAt _ _) id
 have hC : w1.heap[w.heap.size + 1]? = some (.cells #[.int .i64 0, .slice na nn nc, .slice ba bn bc] 47 (0, 0)) := by
  rw [hw1]
  have := newAt (w.alloc (.cells #[.pointer (some ⟨B, 0, none⟩)] 31)) (.cells #[.int .i64 0, .slice na nn nc, .slice ba bn bc] 47)
  rw [show (w.alloc (.cells #[.pointer (some ⟨B, 0, none⟩)] 31)).heap.size = w.heap.size + 1 by simp] at this
  exact this
 have HX1 := zq hx1
 have HBL := zq (lZ h)
 have hm1 := hx1.at_ h id
 have HM := zq hm1
 have HA := zq hA
 have HW1 := zq hw1
 have a0 := cZ hA 0 _ rfl
 have la := lZ hA
 have c0 := cZ hC 0 _ rfl
 have c1 := cZ hC 1 _ rfl
 have c2 := cZ hC 2 _ rfl
 have lc := lZ hC
 clear hx1 hA hC hw1 h hm1
 go_enter Tryz.func86, Tryz.ntmps86
 go_upto_region 1 with fail
 rw [show (w.alloc (.cells #[.pointer (some ⟨B, 0, none⟩)] 31)).alloc (.cells #[.int .i64 0, .slice na nn nc, .slice ba bn bc] 47) = w1 from HW1.out.symm]
 go_wp2_with (go_at_call 32; fail)
 refine (mgoes_ok HM.out na ba none nn nc bn bc 0 0 4 [] [] _ _ _).mono ?_
 rintro r w2 ⟨rfl, hu, hp⟩
 have HU := zq hu
 have HP := zq hp
 clear hu hp
 go_wp2
 go_end0
 exact ⟨rfl, (HX1.out.mono (fun _ _ e => e.elim)).trans HU.out, w.heap.size, ⟨HBL.out, HU.out.at_ HA.out (fun e => by have e : w.heap.size = B := e; have := HBL.out; omega)⟩, HP.out⟩
theorem mwon_bad {w : World} {B c n p i s k : Nat} {tx sx nm tt : List UInt8} {bv cb fn : Value} {done linked : Bool} {err : Int} (h : PM w B (macC c n p i s tx sx bv k nm tt cb fn done err linked)) (e : Int) (he : e ≠ 0) (na ba : Option Addr) (nn nc bn bc : Nat) :
  Calls Tryz.prog 86 #[.pointer (some ⟨B, 0, none⟩), .agg #[.int .i64 e, .slice na nn nc, .slice ba bn bc]] w fun r w' => r = .returned (.tuple #[]) /\ Upd (At B) w w' /\ ∃ fn', ThenEnds w' B fn' e /\ PM w' B (macC c n p i s tx sx bv 6 tx [] (.slice none 0 0) fn' done err linked) := by
 obtain ⟨w1, hw1⟩ : ∃ u, u = (w.alloc (.cells #[.pointer (some ⟨B, 0, none⟩)] 31)).alloc (.cells #[.int .i64 e, .slice na nn nc, .slice ba bn bc] 47) := ⟨_, rfl⟩
 have hx1 : Ext w w1 := by rw [hw1]; exact (uZ.alloc _).alloc _
 have hA : w1.heap[w.heap.size]? = some (.cells #[.pointer (some ⟨B, 0, none⟩)] 31 (0, 0)) := by rw [hw1]; exact (Upd.refl Nothing _).alloc _ |>.at_ (newAt _ _) id
 have hC : w1.heap[w.heap.size + 1]? = some (.cells #[.int .i64 e, .slice na nn nc, .slice ba bn bc] 47 (0, 0)) := by
  rw [hw1]
  have := newAt (w.alloc (.cells #[.pointer (some ⟨B, 0, none⟩)] 31)) (.cells #[.int .i64 e, .slice na nn nc, .slice ba bn bc] 47)
  rw [show (w.alloc (.cells #[.pointer (some ⟨B, 0, none⟩)] 31)).heap.size = w.heap.size + 1 by simp] at this
  exact this
 have HX1 := zq hx1
 have HBL := zq (lZ h)
 have hm1 := hx1.at_ h id
 have HM := zq hm1
 have HA := zq hA
 have HW1 := zq hw1
 have a0 := cZ hA 0 _ rfl
 have la := lZ hA
 have c0 := cZ hC 0 _ rfl
 have c1 := cZ hC 1 _ rfl
 have c2 := cZ hC 2 _ rfl
 have lc := lZ hC
 clear hx1 hA hC hw1 h hm1
 go_enter Tryz.func86, Tryz.ntmps86
 go_upto_region 1 with fail
 rw [show (w.alloc (.cells #[.pointer (some ⟨B, 0, none⟩)] 31)).alloc (.cells #[.int .i64 e, .slice na nn nc, .slice ba bn bc] 47) = w1 from HW1.out.symm]
 go_wp2_with (go_at_call 32; fail)
 refine (mgoes_bad HM.out e he na ba none nn nc bn bc 0 0 4 [] [] _ _ _).mono ?_
 rintro r w2 ⟨rfl, hu, hp⟩
 have HU := zq hu
 have HP := zq hp
 clear hu hp
 go_wp2
 go_end0
 exact ⟨rfl, (HX1.out.mono (fun _ _ e => e.elim)).trans HU.out, HP.out⟩
theorem mwon1_any {w : World} {B c n p i s k : Nat} {tx sx nm tt : List UInt8} {bv cb fn : Value} {done linked : Bool} {err : Int} (h : PM w B (macC c n p i s tx sx bv k nm tt cb fn done err linked)) (e : Int) (na ba : Option Addr) (nn nc bn bc : Nat) (bm : Nat) (hbm : BoxM w B bm) :
  Calls Tryz.prog 108 #[.agg #[.int .i64 e, .slice na nn nc, .slice ba bn bc], .pointer (some ⟨bm, 0, none⟩)] w fun r w' => r = .returned (.tuple #[]) /\ Upd (At B) w w' /\ ∃ fn', ThenEnds w' B fn' e /\ PM w' B (macC c n p i s tx sx bv 6 tx [] (.slice none 0 0) fn' done err linked) := by
 obtain ⟨w1, hw1⟩ : ∃ u, u = w.alloc (.cells #[.int .i64 e, .slice na nn nc, .slice ba bn bc] 47) := ⟨_, rfl⟩
 have hx1 : Ext w w1 := by rw [hw1]; exact uZ.alloc _
 have hA : w1.heap[w.heap.size]? = some (.cells #[.int .i64 e, .slice na nn nc, .slice ba bn bc] 47 (0, 0)) := by rw [hw1]; exact newAt _ _
 have HX1 := zq hx1
 have HBL := zq (lZ h)
 have hm1 := hx1.at_ h id
 have HM := zq hm1
 have HW1 := zq hw1
 have a0 := cZ hA 0 _ rfl
 have a1 := cZ hA 1 _ rfl
 have a2 := cZ hA 2 _ rfl
 have la := lZ hA
 have p0 := cZ (hbm.ext hx1).2 0 _ rfl
 have p1 := lZ (hbm.ext hx1).2
 clear hbm hx1 hA hw1 h hm1
 go_enter Tryz.func108, Tryz.ntmps108
 go_upto_region 1 with fail
 rw [show w.alloc (.cells #[.int .i64 e, .slice na nn nc, .slice ba bn bc] 47) = w1 from HW1.out.symm]
 go_wp2_with (go_at_call 46; fail)
 refine (mends_any HM.out e).mono ?_
 rintro r w2 ⟨rfl, hu, hp⟩
 have HU := zq hu
 have HP := zq hp
 clear hu hp
 go_wp2
 go_end0
 exact ⟨rfl, (HX1.out.mono (fun _ _ e => e.elim)).trans HU.out, HP.out⟩
theorem mbased1_any {w : World} {B c n p i s k : Nat} {tx sx nm tt : List UInt8} {bv cb fn : Value} {done linked : Bool} {err : Int} (h : PM w B (macC c n p i s tx sx bv k nm tt cb fn done err linked)) (er : Int) (na ba : Option Addr) (nn nc bn bc : Nat) (bm : Nat) (hbm : BoxM w B bm) :
  Calls Tryz.prog 111 #[.agg #[.int .i64 er, .slice na nn nc, .slice ba bn bc], .pointer (some ⟨bm, 0, none⟩)] w fun r w' => r = .returned (.tuple #[]) /\ Upd (At B) w w' /\ ∃ fn', ThenEnds w' B fn' 81 /\ PM w' B (macC c n p i s tx sx bv 6 tx [] (.slice none 0 0) fn' done err linked) := by
 obtain ⟨w1, hw1⟩ : ∃ u, u = w.alloc (.cells #[.int .i64 er, .slice na nn nc, .slice ba bn bc] 47) := ⟨_, rfl⟩
 have hx1 : Ext w w1 := by rw [hw1]; exact uZ.alloc _
 have hA : w1.heap[w.heap.size]? = some (.cells #[.int .i64 er, .slice na nn nc, .slice ba bn bc] 47 (0, 0)) := by rw [hw1]; exact newAt _ _
 have HX1 := zq hx1
 have HBL := zq (lZ h)
 have hm1 := hx1.at_ h id
 have HM := zq hm1
 have HW1 := zq hw1
 have a0 := cZ hA 0 _ rfl
 have a1 := cZ hA 1 _ rfl
 have a2 := cZ hA 2 _ rfl
 have la := lZ hA
 have p0 := cZ (hbm.ext hx1).2 0 _ rfl
 have p1 := lZ (hbm.ext hx1).2
 clear hbm hx1 hA hw1 h hm1
 go_enter Tryz.func111, Tryz.ntmps111
 go_upto_region 1 with fail
 rw [show w.alloc (.cells #[.int .i64 er, .slice na nn nc, .slice ba bn bc] 47) = w1 from HW1.out.symm]
 go_wp2_with (go_at_call 46; fail)
 refine (mends_any HM.out 81).mono ?_
 rintro r w2 ⟨rfl, hu, hp⟩
 have HU := zq hu
 have HP := zq hp
 clear hu hp
 go_wp2
 go_end0
 exact ⟨rfl, (HX1.out.mono (fun _ _ e => e.elim)).trans HU.out, HP.out⟩
end Go.Proofs.YtnkmpoplibnflaaGreatDoor.Wk
set_option maxRecDepth 100000
set_option maxHeartbeats 16000000
namespace Go.Proofs.YtnkmpoplibnflaaGreatDoor.Wk
open Go Go.Proofs.YtnkmpoplibnflaaGreatDoor Go.RowKit
def frHead (k : UInt8) (body : List UInt8) : List UInt8 := k :: (vput body.length ++ body)
def frameF (k : UInt8) (body : List UInt8) : List UInt8 := frHead k body ++ le4 (crcF (frHead k body))
def takeFr : List UInt8 -> Option (UInt8 × List UInt8 × Nat)
 | [] => none
 | k :: r =>
  if (numF r).1 ≠ 0 then none
  else if 65535 < (numF r).2.1 then none
  else if r.length < (numF r).2.2 + (numF r).2.1 + 4 then none
  else if ((k :: r).drop (1 + (numF r).2.2 + (numF r).2.1)).take 4 = le4 (crcF ((k :: r).take (1 + (numF r).2.2 + (numF r).2.1))) then some (k, (r.drop (numF r).2.2).take (numF r).2.1, 1 + (numF r).2.2 + (numF r).2.1 + 4)
  else none
theorem le4_len (n : Nat) : (le4 n).length = 4 := rfl
theorem frHead_len (k : UInt8) (b : List UInt8) : (frHead k b).length = 1 + (vput b.length).length + b.length := by simp [frHead]; omega
theorem frameF_len (k : UInt8) (b : List UInt8) : (frameF k b).length = 1 + (vput b.length).length + b.length + 4 := by
 rw [frameF, List.length_append, frHead_len, le4_len]
theorem takeFr_put (k : UInt8) (b r : List UInt8) (hb : b.length <= 65535) : takeFr (frameF k b ++ r) = some (k, b, (frameF k b).length) := by
 have e : frameF k b ++ r = k :: (vput b.length ++ (b ++ (le4 (crcF (frHead k b)) ++ r))) := by simp [frameF, frHead]
 have hn := numF_put b.length (by omega) (b ++ (le4 (crcF (frHead k b)) ++ r))
 have hd : (frameF k b ++ r).drop (1 + (vput b.length).length + b.length) = le4 (crcF (frHead k b)) ++ r := by
  rw [<- frHead_len, frameF, List.append_assoc, List.drop_left]
 have ht : (frameF k b ++ r).take (1 + (vput b.length).length + b.length) = frHead k b := by
  rw [<- frHead_len, frameF, List.append_assoc, List.take_left]
 rw [e] at hd ht ⊢
 rw [takeFr, hn]
 dsimp only
 rw [if_neg (by simp), if_neg (by omega), if_neg (by simp only [List.length_append, le4_len]; omega)]
 rw [hd, ht, if_pos (show List.take 4 (le4 (crcF (frHead k b)) ++ r) = le4 (crcF (frHead k b)) from List.take_left' rfl), List.drop_left, show List.take b.length (b ++ (le4 (crcF (frHead k b)) ++ r)) = b from List.take_left' rfl, frameF_len]
theorem takeFr_ok {l : List UInt8} {k : UInt8} {b : List UInt8} {n : Nat} (h : takeFr l = some (k, b, n)) : l = frameF k b ++ l.drop n /\ n = (frameF k b).length /\ b.length <= 65535 /\ n <= l.length := by
 cases l with
 | nil => cases h
 | cons c r =>
  rw [takeFr] at h
  split at h
  ·cases h
  ·rename_i h0
   split at h
   ·cases h
   ·rename_i h1
    split at h
    ·cases h
    ·rename_i h2
     split at h
     ·rename_i h3
      simp only [Option.some.injEq, Prod.mk.injEq] at h
      obtain ⟨rfl, rfl, rfl⟩ := h
      obtain ⟨-, n2, n3, n4⟩ := numF_ok (Decidable.not_not.1 h0)
      generalize (numF r).2.1 = N at h1 h2 h3 n2 n3
      generalize (numF r).2.2 = q at h2 h3 n2 n3 n4
      have hbl : ((r.drop q).take N).length = N := by simp; omega
      have hh : (c :: r).take (1 + q + N) = frHead c ((r.drop q).take N) := by
       rw [show 1 + q + N = (q + N) + 1 by omega, List.take_succ_cons, frHead, hbl]
       congr 1
       conv => lhs; rw [n3]
       rw [n2, List.take_append, List.take_of_length_le (by omega)]
       congr 2; omega
      have hf : (c :: r).take (1 + q + N + 4) = frameF c ((r.drop q).take N) := by
       rw [frameF, <- hh, <- h3]
       exact List.take_add ..
      have hlen : (frameF c ((r.drop q).take N)).length = 1 + q + N + 4 := by rw [<- hf]; simp; omega
      refine ⟨?_, hlen.symm, by omega, by simp; omega⟩
      conv => lhs; rw [<- List.take_append_drop (1 + q + N + 4) (c :: r)]
      rw [hf]
     ·cases h
inductive Pre (l : List UInt8) : List (UInt8 × List UInt8) -> Nat -> Prop
 | nil : Pre l [] 0
 | snoc {fs : List (UInt8 × List UInt8)} {p : Nat} {k : UInt8} {b : List UInt8} {n : Nat} : Pre l fs p -> takeFr (l.drop p) = some (k, b, n) -> Pre l (fs ++ [(k, b)]) (p + n)
theorem Pre.le {l : List UInt8} {fs : List (UInt8 × List UInt8)} {p : Nat} (h : Pre l fs p) : p <= l.length /\ fs.length <= p /\ (fs.map (·.2)).flatten.length <= p := by
 induction h with
 | nil => simp
 | @snoc fs p k b n h1 h2 ih =>
  obtain ⟨h3, h4, h5, h6⟩ := takeFr_ok h2
  rw [List.length_drop] at h6
  rw [frameF_len] at h4
  simp only [List.length_append, List.map_append, List.flatten_append, List.length_singleton, List.map_cons, List.map_nil, List.flatten_cons, List.flatten_nil, List.append_nil]
  omega
theorem Pre.one {k : UInt8} {b : List UInt8} (hb : b.length <= 65535) {fs : List (UInt8 × List UInt8)} {p : Nat} (h : Pre (frameF k b) fs p) : (fs = [] /\ p = 0) \/ (fs = [(k, b)] /\ p = (frameF k b).length) := by
 have h0 := takeFr_put k b [] hb
 rw [List.append_nil] at h0
 induction h with
 | nil => exact .inl ⟨rfl, rfl⟩
 | snoc h1 h2 ih =>
  rcases ih with ⟨rfl, rfl⟩ | ⟨rfl, rfl⟩
  ·rw [List.drop_zero, h0] at h2
   simp only [Option.some.injEq, Prod.mk.injEq] at h2
   obtain ⟨rfl, rfl, rfl⟩ := h2
   exact .inr ⟨rfl, by omega⟩
  ·rw [List.drop_length] at h2; cases h2
theorem Pre.all {k : UInt8} {b : List UInt8} (hb : b.length <= 65535) {fs : List (UInt8 × List UInt8)} {p : Nat} (h : Pre (frameF k b) fs p) (hn : takeFr ((frameF k b).drop p) = none) : fs = [(k, b)] /\ p = (frameF k b).length := by
 rcases h.one hb with ⟨-, rfl⟩ | h
 ·have h0 := takeFr_put k b [] hb
  rw [List.append_nil] at h0
  rw [List.drop_zero, h0] at hn; cases hn
 ·exact h
theorem Pre.single {l : List UInt8} {k : UInt8} {b : List UInt8} {p : Nat} (h : Pre l [(k, b)] p) (hp : p = l.length) : l = frameF k b := by
 obtain ⟨fs, e⟩ : ∃ fs, fs = [(k, b)] := ⟨_, rfl⟩
 rw [<- e] at h
 cases h with
 | nil => cases e
 | @snoc fs q k' b' n h1 h2 =>
  obtain ⟨e1, e2⟩ := List.append_inj' (s₂ := ([] : List (UInt8 × List UInt8))) e rfl
  simp only [List.cons.injEq, Prod.mk.injEq, and_true] at e2
  obtain ⟨rfl, rfl⟩ := e2
  cases h1 with
  | nil =>
   rw [List.drop_zero] at h2
   obtain ⟨h3, h4, -, -⟩ := takeFr_ok h2
   rw [h3, List.drop_of_length_le (by omega), List.append_nil]
  | snoc h3 h4 => simp at e1
end Go.Proofs.YtnkmpoplibnflaaGreatDoor.Wk
