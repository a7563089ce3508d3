/-
  CONTRACT of the reference's Walk. Conditions: sizes.
  CONTRACT of a publication's Feed, whatever the step. Conditions: it is there; sizes.
  CONTRACTS of a publication's Next. Condition: it is there.
-/
import Derived.Test.YtnkmpoplibnflaaGreatDoorWRThen
import Derived.Test.YtnkmpoplibnflaaGreatDoorWDocs
import Derived.Test.YtnkmpoplibnflaaGreatDoorWBased
import Derived.Test.YtnkmpoplibnflaaGreatDoorGAZ
import Derived.Test.YtnkmpoplibnflaaGreatDoorGAJ
import Derived.Test.YtnkmpoplibnflaaGreatDoorGAI
set_option maxRecDepth 100000
set_option maxHeartbeats 16000000
namespace Go.Proofs.YtnkmpoplibnflaaGreatDoor.Wk
open Go Go.Proofs.YtnkmpoplibnflaaGreatDoor Go.RowKit
noncomputable def goP (c : Cfg) (s : Spot × Bool) (r : Res) : Spot × Bool := if s.1.step < 10 then (thenP c s.1 r, s.2 || (decide (s.1.step = 4) && decide (r.err = 0))) else s
noncomputable def runP (c : Cfg) (l : List Res) : Spot × Bool := l.foldl (goP c) (startP c, false)
theorem run_snoc (c : Cfg) (l : List Res) (r : Res) : runP c (l ++ [r]) = goP c (runP c l) r := by simp [runP]
structure Spot.Ok (c : Cfg) (x : Spot) : Prop where
 lo : 1 <= x.step
 hi : x.step <= 10
 six : x.step = 6 -> c.n <= x.floor /\ x.floor < 18446744073709551616
theorem baseP_okS (c : Cfg) (f : Nat) (r : Res) : (baseP c f r).Ok c := by
 unfold baseP
 split
 ·exact ⟨by simp, by simp, fun h => absurd h (by simp)⟩
 ·split
  ·exact ⟨by simp, by simp, fun h => absurd h (by simp)⟩
  ·split
   ·split
    ·split
     ·exact ⟨by simp, by simp, fun h => absurd h (by simp)⟩
     ·exact ⟨by simp, by simp, fun h => absurd h (by simp)⟩
    ·exact ⟨by simp, by simp, fun h => absurd h (by simp)⟩
   ·exact ⟨by simp, by simp, fun h => absurd h (by simp)⟩
theorem thenP_ok (c : Cfg) (x : Spot) (r : Res) : (thenP c x r).Ok c := by
 unfold thenP
 split
 all_goals first
  | exact baseP_okS _ _ _
  | (split
     ·first
      | exact ⟨by simp, by simp, fun h => absurd h (by simp)⟩
      | (split; exact ⟨by simp, by simp, fun h => absurd h (by simp)⟩; rename_i h; exact ⟨by simp, by simp, fun _ => ⟨by simpa using h, floor_lt _ _⟩⟩)
     ·exact ⟨by simp, by simp, fun h => absurd h (by simp)⟩)
  | exact ⟨by simp, by simp, fun h => absurd h (by simp)⟩
theorem goP_ok {c : Cfg} {s : Spot × Bool} (h : s.1.Ok c) (r : Res) : (goP c s r).1.Ok c := by
 unfold goP
 split
 ·exact thenP_ok _ _ _
 ·exact h
theorem runP_ok (c : Cfg) (l : List Res) : (runP c l).1.Ok c := by
 unfold runP
 have : ∀ (l : List Res) (s : Spot × Bool), s.1.Ok c -> (l.foldl (goP c) s).1.Ok c := by
  intro l
  induction l with
  | nil => exact fun s h => h
  | cons r l ih => exact fun s h => ih _ (goP_ok h r)
 refine this l _ ?_
 show (startP c).Ok c
 unfold startP
 split
 ·exact ⟨by simp, by simp, fun h => absurd h (by simp)⟩
 ·exact ⟨by simp, by simp, fun h => absurd h (by simp)⟩
theorem foldl_done (c : Cfg) : ∀ (l : List Res) (s : Spot × Bool), ¬ s.1.step < 10 -> l.foldl (goP c) s = s
 | [], _, _ => rfl
 | r :: l, s, h => by
  have : goP c s r = s := by unfold goP; rw [if_neg h]
  rw [List.foldl_cons, this]
  exact foldl_done c l s h
theorem run_done {c : Cfg} {l : List Res} {m : Nat} (h : ¬ (runP c (l.take m)).1.step < 10) : runP c l = runP c (l.take m) := by
 have e : runP c l = (l.drop m).foldl (goP c) (runP c (l.take m)) := by
  unfold runP
  rw [<- List.foldl_append, List.take_append_drop]
 rw [e, foldl_done _ _ _ h]
abbrev ResV := Res × Value × Value
abbrev resC (x : ResV) : List Value := [.int .i64 x.1.err, x.2.1, x.2.2]
def flatR (xs : List ResV) : List Value := (xs.map resC).flatten
theorem flat_at3 {m : Nat} {css : List (List Value)} (hm : ∀ cs ∈ css, cs.length = m) {i j : Nat} (hi : i < css.length) (hj : j < m) : css.flatten[i * m + j]? = (css[i])[j]? := by
 induction css generalizing i with
 | nil => simp at hi
 | cons c css ih =>
  have hc : c.length = m := hm c (by simp)
  cases i with
  | zero => simp only [List.flatten_cons, Nat.zero_mul, Nat.zero_add, List.getElem_cons_zero]; exact List.getElem?_append_left (by omega)
  | succ i =>
   simp only [List.flatten_cons, List.getElem_cons_succ]
   rw [List.getElem?_append_right (by rw [hc, Nat.succ_mul]; omega), hc, show (i + 1) * m + j - m = i * m + j from by rw [Nat.succ_mul]; omega]
   exact ih (fun cs h => hm cs (by simp [h])) (by simpa using hi)
theorem flatR_at {xs : List ResV} {k : Nat} (hk : k < xs.length) {j : Nat} (hj : j < 3) : (flatR xs)[k * 3 + j]? = (resC xs[k])[j]? := by
 have := flat_at3 (css := xs.map resC) (fun cs h => by obtain ⟨x, _, rfl⟩ := List.mem_map.1 h; rfl) (i := k) (j := j) (by simpa using hk) hj
 simpa [flatR] using this
def ResIs (S : Nat -> Prop) (w : World) (v : Value) (l : List Res) : Prop := ∃ xs : List ResV, xs.map (·.1) = l /\ Row S w v xs.length (flatR xs) /\ ∀ x ∈ xs, Texts S w x.2.1 x.1.names /\ Bytes S w x.2.2 x.1.bytes
theorem ResIs.upd {S T : Nat -> Prop} {w w' : World} {v : Value} {l : List Res} (h : ResIs S w v l) (hu : Upd T w w') (hs : ∀ k, S k -> ¬ T k) : ResIs S w' v l := by
 obtain ⟨xs, h1, h2, h3⟩ := h
 exact ⟨xs, h1, h2.upd hu hs, fun x hx => ⟨(h3 x hx).1.upd hu hs, (h3 x hx).2.upd hu hs⟩⟩
theorem ResIs.ext {S : Nat -> Prop} {w w' : World} {v : Value} {l : List Res} (h : ResIs S w v l) (hu : Ext w w') : ResIs S w' v l := h.upd hu fun _ _ e => e
theorem rthen_all {S : Nat -> Prop} (w : World) (c : Cfg) (x : Spot) (r : Res) (hx : x.Ok c) (h10 : x.step < 10) (hn : 0 < c.n) (hr : r.Ok) (va : Option Addr) (vn vc : Nat) (nv bv : Value) (h1 : Texts S w nv r.names) (h2 : Bytes S w bv r.bytes) :
  Calls Tryz.prog 22 #[.agg (cfgC c (.slice va vn vc)), .agg (spotC x), .agg #[.int .i64 r.err, nv, bv]] w fun r' w' => r' = .returned (.agg (spotC (thenP c x r))) /\ Ext w w' := by
 have H1 := h1
 have H2 := h2
 obtain ⟨na, nc, rfl, -⟩ := h1
 obtain ⟨ba, bc, rfl, -⟩ := h2
 obtain ⟨st, xe, f⟩ := x
 obtain ⟨lo, hi, six⟩ := hx
 simp only at lo hi six h10
 by_cases he : r.err = 0
 ·match st, lo, h10, six with
  | 1, _, _, _ =>
   have := rthen_1_ok w c xe f va vn vc na ba r.names.length nc r.bytes.length bc
   rw [show thenP c ⟨1, xe, f⟩ r = ⟨2, 0, 0⟩ from if_pos he, he]; exact this
  | 2, _, _, _ =>
   have := rthen_2_ok w c xe f va vn vc na ba r.names.length nc r.bytes.length bc
   rw [show thenP c ⟨2, xe, f⟩ r = ⟨3, 0, 0⟩ from if_pos he, he]; exact this
  | 3, _, _, _ =>
   have := rthen_3_ok w c xe f va vn vc na ba r.names.length nc r.bytes.length bc
   rw [show thenP c ⟨3, xe, f⟩ r = ⟨4, 0, 0⟩ from if_pos he, he]; exact this
  | 4, _, _, _ =>
   have := rthen_4_ok w c xe f va vn vc na ba r.names.length nc r.bytes.length bc
   rw [show thenP c ⟨4, xe, f⟩ r = ⟨5, 0, 0⟩ from if_pos he, he]; exact this
  | 5, _, _, _ =>
   have hs : ∀ s ∈ r.names, s.length <= 1000000 := fun s h => Nat.le_trans (hr.each s h) (by decide)
   by_cases hlt : floorF c.chain r.names < c.n
   ·have := rthen_5_lt w c xe f r.names hlt va vn vc na ba nc r.bytes.length bc H1 hs
    rw [show thenP c ⟨5, xe, f⟩ r = ⟨7, 0, 0⟩ from by show (if _ then _ else _) = _; rw [if_pos he, if_pos hlt], he]; exact this
   ·have := rthen_5_ge w c xe f r.names hlt va vn vc na ba nc r.bytes.length bc H1 hs
    rw [show thenP c ⟨5, xe, f⟩ r = ⟨6, 0, floorF c.chain r.names⟩ from by show (if _ then _ else _) = _; rw [if_pos he, if_neg hlt], he]; exact this
  | 6, _, _, six => exact rthen_6 w c xe f (by have := (six rfl).1; omega) r va vn vc na ba r.names.length nc bc H2 (by have := hr.bytes; omega)
  | 7, _, _, _ => exact rthen_7 w c xe f r.err va vn vc na ba r.names.length nc r.bytes.length bc
  | 8, _, _, _ => exact rthen_8 w c xe f r.err va vn vc na ba r.names.length nc r.bytes.length bc
  | 9, _, _, _ => exact rthen_9 w c xe f r.err va vn vc na ba r.names.length nc r.bytes.length bc
 ·match st, lo, h10, six with
  | 1, _, _, _ =>
   have := rthen_1_bad w c xe f r.err he va vn vc na ba r.names.length nc r.bytes.length bc
   rw [show thenP c ⟨1, xe, f⟩ r = ⟨10, r.err, 0⟩ from if_neg he]; exact this
  | 2, _, _, _ =>
   have := rthen_2_bad w c xe f r.err he va vn vc na ba r.names.length nc r.bytes.length bc
   rw [show thenP c ⟨2, xe, f⟩ r = ⟨9, r.err, 0⟩ from if_neg he]; exact this
  | 3, _, _, _ =>
   have := rthen_3_bad w c xe f r.err he va vn vc na ba r.names.length nc r.bytes.length bc
   rw [show thenP c ⟨3, xe, f⟩ r = ⟨9, r.err, 0⟩ from if_neg he]; exact this
  | 4, _, _, _ =>
   have := rthen_4_bad w c xe f r.err he va vn vc na ba r.names.length nc r.bytes.length bc
   rw [show thenP c ⟨4, xe, f⟩ r = ⟨9, r.err, 0⟩ from if_neg he]; exact this
  | 5, _, _, _ =>
   have := rthen_5_bad w c xe f r.err he va vn vc na ba r.names.length nc r.bytes.length bc
   rw [show thenP c ⟨5, xe, f⟩ r = ⟨9, r.err, 0⟩ from if_neg he]; exact this
  | 6, _, _, six => exact rthen_6 w c xe f (by have := (six rfl).1; omega) r va vn vc na ba r.names.length nc bc H2 (by have := hr.bytes; omega)
  | 7, _, _, _ => exact rthen_7 w c xe f r.err va vn vc na ba r.names.length nc r.bytes.length bc
  | 8, _, _, _ => exact rthen_8 w c xe f r.err va vn vc na ba r.names.length nc r.bytes.length bc
  | 9, _, _, _ => exact rthen_9 w c xe f r.err va vn vc na ba r.names.length nc r.bytes.length bc
theorem rcall_all (w : World) (c : Cfg) (hc : c.Ok) (x : Spot) (hx : x.Ok c) (h10 : x.step < 10) (va : Option Addr) (vc : Nat) :
  Calls Tryz.prog 21 #[.agg (cfgC c (.slice va c.bytes.length vc)), .agg (spotC x)] w fun r w' => (∃ v', r = .returned (.agg #[.int .u8 (kP x : Int), str (nmP c x), str (ttP c x), v']) /\ (v' = .slice va c.bytes.length vc /\ byP c x = c.bytes \/ v' = .slice none 0 0 /\ byP c x = [])) /\ Ext w w' := by
 obtain ⟨st, xe, f⟩ := x
 obtain ⟨lo, hi, six⟩ := hx
 simp only at lo hi six h10
 match st, lo, h10, six with
 | 1, _, _, _ => exact (rcall_1 w c hc xe f va c.bytes.length vc).mono fun r w' ⟨h1, h2⟩ => ⟨⟨_, h1, .inr ⟨rfl, rfl⟩⟩, h2⟩
 | 2, _, _, _ => exact (rcall_2 w c hc xe f va c.bytes.length vc).mono fun r w' ⟨h1, h2⟩ => ⟨⟨_, h1, .inl ⟨rfl, rfl⟩⟩, h2⟩
 | 3, _, _, _ => exact (rcall_3 w c hc xe f va c.bytes.length vc).mono fun r w' ⟨h1, h2⟩ => ⟨⟨_, h1, .inr ⟨rfl, rfl⟩⟩, h2⟩
 | 4, _, _, _ => exact (rcall_4 w c hc xe f va c.bytes.length vc).mono fun r w' ⟨h1, h2⟩ => ⟨⟨_, h1, .inr ⟨rfl, rfl⟩⟩, h2⟩
 | 5, _, _, _ => exact (rcall_5 w c hc xe f va c.bytes.length vc).mono fun r w' ⟨h1, h2⟩ => ⟨⟨_, h1, .inr ⟨rfl, rfl⟩⟩, h2⟩
 | 6, _, _, six => exact (rcall_6 w c hc xe f (six rfl).2 va c.bytes.length vc).mono fun r w' ⟨h1, h2⟩ => ⟨⟨_, h1, .inr ⟨rfl, rfl⟩⟩, h2⟩
 | 7, _, _, _ => exact (rcall_7 w c hc xe f va c.bytes.length vc).mono fun r w' ⟨h1, h2⟩ => ⟨⟨_, h1, .inr ⟨rfl, rfl⟩⟩, h2⟩
 | 8, _, _, _ => exact (rcall_8 w c hc xe f va c.bytes.length vc).mono fun r w' ⟨h1, h2⟩ => ⟨⟨_, h1, .inr ⟨rfl, rfl⟩⟩, h2⟩
 | 9, _, _, _ => exact (rcall_9 w c hc xe f va c.bytes.length vc).mono fun r w' ⟨h1, h2⟩ => ⟨⟨_, h1, .inr ⟨rfl, rfl⟩⟩, h2⟩
end Go.Proofs.YtnkmpoplibnflaaGreatDoor.Wk
set_option maxRecDepth 100000
set_option maxHeartbeats 16000000
namespace Go.Proofs.YtnkmpoplibnflaaGreatDoor.Wk
open Go Go.Proofs.YtnkmpoplibnflaaGreatDoor Go.RowKit
theorem mbased_all {S : Nat -> Prop} {w : World} {B k : Nat} {c : Cfg} {nm tt : List UInt8} {bv cb fn : Value} {ln : Bool} (h : PM w B (macC c.chain c.n c.proc c.inc c.seq (txF c) (sxF c) bv k nm tt cb fn false 0 ln)) (hok : c.Ok) (hn : 0 < c.n) (hb : Bytes (Till B) w bv c.bytes) (f : Nat) (hf : c.n <= f) (r : Res) (na ba : Option Addr) (nn nc bc : Nat) (hr : Bytes S w (.slice ba r.bytes.length bc) r.bytes) (hl : r.bytes.length <= 60000) :
  Calls Tryz.prog 89 #[.pointer (some ⟨B, 0, none⟩), .int .u64 f, .agg #[.int .i64 r.err, .slice na nn nc, .slice ba r.bytes.length bc]] w fun r' w' => r' = .returned (.tuple #[]) /\ Upd (At B) w w' /\ IsMac w' B c (baseP c f r) ln := by
 by_cases h80 : r.err = 80
 ·exact mbased_80 (S := S) h hok hn hb f hf r na ba nn nc bc h80
 ·by_cases h0 : r.err = 0
  ·exact mbased_ok h hok hn hb f hf r na ba nn nc bc h0 hr hl
  ·exact mbased_bad (S := S) h hok hn hb f hf r na ba nn nc bc h80 h0
theorem mlisted1_any {S : Nat -> Prop} {w : World} {B k : Nat} {c : Cfg} {nm tt : List UInt8} {bv cb fn : Value} {ln : Bool} (h : PM w B (macC c.chain c.n c.proc c.inc c.seq (txF c) (sxF c) bv k nm tt cb fn false 0 ln)) (hok : c.Ok) (hn : 0 < c.n) (hb : Bytes (Till B) w bv c.bytes) (f : Nat) (hf : c.n <= f) (r : Res) (na ba : Option Addr) (nc bc : Nat) (hr : Bytes S w (.slice ba r.bytes.length bc) r.bytes) (hl : r.bytes.length <= 60000)
  (bm bf : Nat) (hbm : BoxM w B bm) (hbf : w.heap[bf]? = some (.cells #[.int .u64 (f : Int)] 22 (0, 0))) :
  Calls Tryz.prog 88 #[.agg #[.int .i64 r.err, .slice na r.names.length nc, .slice ba r.bytes.length bc], .pointer (some ⟨bm, 0, none⟩), .pointer (some ⟨bf, 0, none⟩)] w fun r' w' => r' = .returned (.tuple #[]) /\ Upd (At B) w w' /\ IsMac w' B c (baseP c f r) ln := by
 have hcon : ∀ wq, Ext w wq -> Calls Tryz.prog 89 #[.pointer (some ⟨B, 0, none⟩), .int .u64 f, .agg #[.int .i64 r.err, .slice na r.names.length nc, .slice ba r.bytes.length bc]] wq fun r' w' => r' = .returned (.tuple #[]) /\ Upd (At B) wq w' /\ IsMac w' B c (baseP c f r) ln := fun wq hq => mbased_all (hq.at_ h id) hok hn (hb.ext hq) f hf r na ba r.names.length nc bc (hr.ext hq) hl
 obtain ⟨y, hy⟩ : ∃ y, y = baseP c f r := ⟨_, rfl⟩
 rw [<- hy] at hcon ⊢
 obtain ⟨e, he⟩ : ∃ e, e = r.err := ⟨_, rfl⟩
 obtain ⟨nl, hnl⟩ : ∃ e, e = r.names.length := ⟨_, rfl⟩
 obtain ⟨bl, hbl⟩ : ∃ e, e = r.bytes.length := ⟨_, rfl⟩
 rw [<- he, <- hnl, <- hbl] at hcon ⊢
 obtain ⟨w1, hw1⟩ : ∃ u, u = w.alloc (.cells #[.int .i64 e, .slice na nl nc, .slice ba bl bc] 47) := ⟨_, rfl⟩
 have hx1 : Ext w w1 := by rw [hw1]; exact uZ.alloc _
 have hA : w1.heap[w.heap.size]? = some (.cells #[.int .i64 e, .slice na nl nc, .slice ba bl bc] 47 (0, 0)) := by rw [hw1]; exact newAt _ _
 have HX1 := zq hx1
 have HW1 := zq hw1
 have HCON := zq hcon
 have a0 := cZ hA 0 _ rfl
 have a1 := cZ hA 1 _ rfl
 have a2 := cZ hA 2 _ rfl
 have la := lZ hA
 have p0 := cZ (hbm.ext hx1).2 0 _ rfl
 have p1 := lZ (hbm.ext hx1).2
 have f0 := cZ (hx1.at_ hbf id) 0 _ rfl
 have f1 := lZ (hx1.at_ hbf id)
 clear hx1 hA hw1 h hok hn hb hf hr hl hbm hbf hcon hy he hnl hbl
 go_enter Tryz.func88, Tryz.ntmps88
 go_upto_region 1 with fail
 rw [show w.alloc (.cells #[.int .i64 e, .slice na nl nc, .slice ba bl bc] 47) = w1 from HW1.out.symm]
 go_wp2_with (go_at_call 89; fail)
 refine (HCON.out w1 HX1.out).mono ?_
 rintro r' w2 ⟨rfl, hu, hp⟩
 have HU := zq hu
 have HP := zq hp
 clear hu hp
 go_wp2
 go_end0
 exact ⟨rfl, (HX1.out.mono (fun _ _ e => e.elim)).trans HU.out, HP.out⟩
theorem mstep_any {S : Nat -> Prop} (w : World) (B : Nat) (c : Cfg) (hok : c.Ok) (x : Spot) (h10 : x.step < 10) (ln : Bool) (h : IsMac w B c x ln) (r : Res) (hr : r.Ok) (na ba : Option Addr) (nc bc : Nat)
  (h1 : Texts S w (.slice na r.names.length nc) r.names) (h2 : Bytes S w (.slice ba r.bytes.length bc) r.bytes) (hE : Env w) :
  Calls Tryz.prog 15 #[.pointer (some ⟨B, 0, none⟩), .agg #[.int .i64 r.err, .slice na r.names.length nc, .slice ba r.bytes.length bc]] w fun e w' => e = .returned (.tuple #[]) /\ Upd (At B) w w' /\ IsMac w' B c (thenP c x r) (ln || (decide (x.step = 4) && decide (r.err = 0))) := by
 obtain ⟨st, xe, f⟩ := x
 obtain ⟨bv, k, nm, tt, cb, fn, hm, hb, hln, hsix, hall⟩ := h
 simp only at h10
 obtain ⟨hn, rfl, rfl, rfl, hcb, hfn⟩ := hall (by show ¬ st = 10; omega)
 have hm : PM w B (macC c.chain c.n c.proc c.inc c.seq (txF c) (sxF c) bv (kP ⟨st, xe, f⟩) (nmP c ⟨st, xe, f⟩) (ttP c ⟨st, xe, f⟩) cb fn false 0 ln) := by
  have h' := hm
  rw [show decide ((⟨st, xe, f⟩ : Spot).step = 10) = false from decide_eq_false (by show ¬ st = 10; omega), if_neg (by show ¬ st = 10; omega)] at h'
  exact h'
 have hM : ∀ w1, Ext w w1 -> PM w1 B (macC c.chain c.n c.proc c.inc c.seq (txF c) (sxF c) bv (kP ⟨st, xe, f⟩) (nmP c ⟨st, xe, f⟩) (ttP c ⟨st, xe, f⟩) cb fn false 0 ln)   := fun _ hx => hx.at_ hm id
 have hU : ∀ {w1 w2}, Ext w w1 -> Upd (At B) w1 w2 -> Upd (At B) w w2 := fun hx hu => (hx.mono (fun _ _ e => e.elim) : Upd (At B) w _).trans hu
 have hBv : ∀ {w2}, Upd (At B) w w2 -> Bytes (Till B) w2 bv c.bytes := fun hu => hb.upd hu (fun k hk e => by have hk : k < B := hk; have e : k = B := e; omega)
 obtain ⟨va, vc, hbvf, -⟩ := id hb
 have hs : ∀ s ∈ r.names, s.length <= 1000000 := fun s h => Nat.le_trans (hr.each s h) (by decide)
 have hl6 : r.bytes.length <= 60000 := by have := hr.bytes; omega
 have hl1 : r.names.length <= 1000000 := by have := hr.names; omega
 have base : ∀ (R : World -> Prop) (y : Spot) (ln' : Bool), (∀ w', R w' -> Upd (At B) w w' /\ IsMac w' B c y ln') -> Calls Tryz.prog 15 #[.pointer (some ⟨B, 0, none⟩), .agg #[.int .i64 r.err, .slice na r.names.length nc, .slice ba r.bytes.length bc]] w (fun e w' => e = .returned (.tuple #[]) /\ R w') -> Calls Tryz.prog 15 #[.pointer (some ⟨B, 0, none⟩), .agg #[.int .i64 r.err, .slice na r.names.length nc, .slice ba r.bytes.length bc]] w (fun e w' => e = .returned (.tuple #[]) /\ Upd (At B) w w' /\ IsMac w' B c y ln') := fun R y ln' hR hc => hc.mono fun e w' ⟨he, h⟩ => ⟨he, (hR w' h).1, (hR w' h).2⟩
 match st, h10, hM, hfn, hln, hsix with
 | 0, _, _, hfn, _, _ => exact absurd hfn (by simp [FnIs])
 | 1, _, hM, hfn, hln, _ =>
  have hln := hln (by simp)
  subst hln
  by_cases he : r.err = 0
  ·rw [show thenP c ⟨1, xe, f⟩ r = ⟨2, 0, 0⟩ from if_pos he, show (false || (decide (1 = 4) && decide (r.err = 0))) = false by simp]
   refine base (fun w' => Upd (At B) w w' /\ IsMac w' B c ⟨2, 0, 0⟩ false) _ _ (fun _ h => h) (mfeed_bound hm r.err na ba r.names.length nc r.bytes.length bc 27 hfn (enters_of Tryz.func27 (by kernel_rfl) rfl) _ fun w1 hx => ?_)
   rw [he]
   subst hbvf
   refine (mcreated_ok (hM _ hx) na ba r.names.length nc r.bytes.length bc).mono ?_
   rintro e w2 ⟨rfl, hu, hp⟩
   exact ⟨rfl, hU hx hu, isMac_2 (ln := false) hn (hBv (hU hx hu)) hp⟩
  ·rw [show thenP c ⟨1, xe, f⟩ r = ⟨10, r.err, 0⟩ from if_neg he, show (false || (decide (1 = 4) && decide (r.err = 0))) = false by simp [he]]
   refine base (fun w' => Upd (At B) w w' /\ IsMac w' B c ⟨10, r.err, 0⟩ false) _ _ (fun _ h => h) (mfeed_bound hm r.err na ba r.names.length nc r.bytes.length bc 27 hfn (enters_of Tryz.func27 (by kernel_rfl) rfl) _ fun w1 hx => ?_)
   refine (mcreated_bad (hM _ hx) r.err he na ba r.names.length nc r.bytes.length bc).mono ?_
   rintro e w2 ⟨rfl, hu, hp⟩
   exact ⟨rfl, hU hx hu, isMac_10 (hBv (hU hx hu)) hp⟩
 | 2, _, hM, hfn, hln, _ =>
  have hln := hln (by simp)
  subst hln
  by_cases he : r.err = 0
  ·rw [show thenP c ⟨2, xe, f⟩ r = ⟨3, 0, 0⟩ from if_pos he, show (false || (decide (2 = 4) && decide (r.err = 0))) = false by simp]
   refine base (fun w' => Upd (At B) w w' /\ IsMac w' B c ⟨3, 0, 0⟩ false) _ _ (fun _ h => h) (mfeed_bound hm r.err na ba r.names.length nc r.bytes.length bc 33 hfn (enters_of Tryz.func33 (by kernel_rfl) rfl) _ fun w1 hx => ?_)
   rw [he]
   refine (mwritten_ok (hM _ hx) na ba r.names.length nc r.bytes.length bc).mono ?_
   rintro e w2 ⟨rfl, hu, hp⟩
   exact ⟨rfl, hU hx hu, isMac_3 (ln := false) hn (hBv (hU hx hu)) hp⟩
  ·rw [show thenP c ⟨2, xe, f⟩ r = ⟨9, r.err, 0⟩ from if_neg he, show (false || (decide (2 = 4) && decide (r.err = 0))) = false by simp [he]]
   refine base (fun w' => Upd (At B) w w' /\ IsMac w' B c ⟨9, r.err, 0⟩ false) _ _ (fun _ h => h) (mfeed_bound hm r.err na ba r.names.length nc r.bytes.length bc 33 hfn (enters_of Tryz.func33 (by kernel_rfl) rfl) _ fun w1 hx => ?_)
   refine (mwritten_bad (hM _ hx) r.err he na ba r.names.length nc r.bytes.length bc).mono ?_
   rintro e w2 ⟨rfl, hu, hp⟩
   exact ⟨rfl, hU hx hu, isMac_9 hn (hBv (hU hx hu)) hp⟩
 | 3, _, hM, hfn, hln, _ =>
  have hln := hln (by simp)
  subst hln
  by_cases he : r.err = 0
  ·rw [show thenP c ⟨3, xe, f⟩ r = ⟨4, 0, 0⟩ from if_pos he, show (false || (decide (3 = 4) && decide (r.err = 0))) = false by simp]
   refine base (fun w' => Upd (At B) w w' /\ IsMac w' B c ⟨4, 0, 0⟩ false) _ _ (fun _ h => h) (mfeed_bound hm r.err na ba r.names.length nc r.bytes.length bc 47 hfn (enters_of Tryz.func47 (by kernel_rfl) rfl) _ fun w1 hx => ?_)
   rw [he]
   refine (msynced_ok (hM _ hx) na ba r.names.length nc r.bytes.length bc).mono ?_
   rintro e w2 ⟨rfl, hu, hp⟩
   exact ⟨rfl, hU hx hu, isMac_4 (ln := false) hn (hBv (hU hx hu)) hp⟩
  ·rw [show thenP c ⟨3, xe, f⟩ r = ⟨9, r.err, 0⟩ from if_neg he, show (false || (decide (3 = 4) && decide (r.err = 0))) = false by simp [he]]
   refine base (fun w' => Upd (At B) w w' /\ IsMac w' B c ⟨9, r.err, 0⟩ false) _ _ (fun _ h => h) (mfeed_bound hm r.err na ba r.names.length nc r.bytes.length bc 47 hfn (enters_of Tryz.func47 (by kernel_rfl) rfl) _ fun w1 hx => ?_)
   refine (msynced_bad (hM _ hx) r.err he na ba r.names.length nc r.bytes.length bc).mono ?_
   rintro e w2 ⟨rfl, hu, hp⟩
   exact ⟨rfl, hU hx hu, isMac_9 hn (hBv (hU hx hu)) hp⟩
 | 4, _, hM, hfn, hln, _ =>
  have hln := hln (by simp)
  subst hln
  by_cases he : r.err = 0
  ·rw [show thenP c ⟨4, xe, f⟩ r = ⟨5, 0, 0⟩ from if_pos he, show (false || (decide (4 = 4) && decide (r.err = 0))) = true by simp [he]]
   refine base (fun w' => Upd (At B) w w' /\ IsMac w' B c ⟨5, 0, 0⟩ true) _ _ (fun _ h => h) (mfeed_bound hm r.err na ba r.names.length nc r.bytes.length bc 57 hfn (enters_of Tryz.func57 (by kernel_rfl) rfl) _ fun w1 hx => ?_)
   rw [he]
   refine (mtied_ok (hM _ hx) na ba r.names.length nc r.bytes.length bc).mono ?_
   rintro e w2 ⟨rfl, hu, hp⟩
   exact ⟨rfl, hU hx hu, isMac_5 hn (hBv (hU hx hu)) hp⟩
  ·rw [show thenP c ⟨4, xe, f⟩ r = ⟨9, r.err, 0⟩ from if_neg he, show (false || (decide (4 = 4) && decide (r.err = 0))) = false by simp [he]]
   refine base (fun w' => Upd (At B) w w' /\ IsMac w' B c ⟨9, r.err, 0⟩ false) _ _ (fun _ h => h) (mfeed_bound hm r.err na ba r.names.length nc r.bytes.length bc 57 hfn (enters_of Tryz.func57 (by kernel_rfl) rfl) _ fun w1 hx => ?_)
   refine (mtied_bad (hM _ hx) r.err he na ba r.names.length nc r.bytes.length bc).mono ?_
   rintro e w2 ⟨rfl, hu, hp⟩
   exact ⟨rfl, hU hx hu, isMac_9 hn (hBv (hU hx hu)) hp⟩
 | 5, _, hM, hfn, _, _ =>
  rw [show (ln || (decide (5 = 4) && decide (r.err = 0))) = ln by simp]
  by_cases he : r.err = 0
  ·by_cases hlt : floorF c.chain r.names < c.n
   ·rw [show thenP c ⟨5, xe, f⟩ r = ⟨7, 0, 0⟩ from by show (if _ then _ else _) = _; rw [if_pos he, if_pos hlt]]
    refine base (fun w' => Upd (At B) w w' /\ IsMac w' B c ⟨7, 0, 0⟩ ln) _ _ (fun _ h => h) (mfeed_bound hm r.err na ba r.names.length nc r.bytes.length bc 67 hfn (enters_of Tryz.func67 (by kernel_rfl) rfl) _ fun w1 hx => ?_)
    rw [he]
    refine (mlisted_ok (hM _ hx) na ba nc r.bytes.length bc r.names (h1.ext hx) hl1 hs (hE.ext hx) hok.chain).mono ?_
    rintro e w2 ⟨rfl, hu, ⟨-, hp⟩ | ⟨hge, -⟩⟩
    ·exact ⟨rfl, hU hx hu, isMac_7 hn (hBv (hU hx hu)) hp⟩
    ·omega
   ·rw [show thenP c ⟨5, xe, f⟩ r = ⟨6, 0, floorF c.chain r.names⟩ from by show (if _ then _ else _) = _; rw [if_pos he, if_neg hlt]]
    refine base (fun w' => Upd (At B) w w' /\ IsMac w' B c ⟨6, 0, floorF c.chain r.names⟩ ln) _ _ (fun _ h => h) (mfeed_bound hm r.err na ba r.names.length nc r.bytes.length bc 67 hfn (enters_of Tryz.func67 (by kernel_rfl) rfl) _ fun w1 hx => ?_)
    rw [he]
    refine (mlisted_ok (hM _ hx) na ba nc r.bytes.length bc r.names (h1.ext hx) hl1 hs (hE.ext hx) hok.chain).mono ?_
    rintro e w2 ⟨rfl, hu, ⟨hlt2, -⟩ | ⟨hge, hp⟩⟩
    ·omega
    ·exact ⟨rfl, hU hx hu, isMac_6 hn (hBv (hU hx hu)) hge (floor_lt _ _) hp⟩
  ·rw [show thenP c ⟨5, xe, f⟩ r = ⟨9, r.err, 0⟩ from if_neg he]
   refine base (fun w' => Upd (At B) w w' /\ IsMac w' B c ⟨9, r.err, 0⟩ ln) _ _ (fun _ h => h) (mfeed_bound hm r.err na ba r.names.length nc r.bytes.length bc 67 hfn (enters_of Tryz.func67 (by kernel_rfl) rfl) _ fun w1 hx => ?_)
   refine (mlisted_bad (hM _ hx) r.err he na ba nc r.bytes.length bc r.names (h1.ext hx) hl1 hs (hE.ext hx) hok.chain).mono ?_
   rintro e w2 ⟨rfl, hu, hp⟩
   exact ⟨rfl, hU hx hu, isMac_9 hn (hBv (hU hx hu)) hp⟩
 | 6, _, hM, hfn, _, hsix =>
  rw [show (ln || (decide (6 = 4) && decide (r.err = 0))) = ln by simp]
  obtain ⟨hf1, hf2⟩ := hsix rfl
  obtain ⟨bm, bf, hfn, hbm, hbf, hbc⟩ := hfn
  refine base (fun w' => Upd (At B) w w' /\ IsMac w' B c (baseP c f r) ln) _ _ (fun _ h => h) (mfeed_lit2 hm r.err na ba r.names.length nc r.bytes.length bc 88 bm bf hfn (enters_of Tryz.func88 (by kernel_rfl) rfl) _ fun w1 hx => ?_)
  refine (mlisted1_any (hM _ hx) hok hn (hb.ext hx) f hf1 r na ba nc bc (h2.ext hx) hl6 bm bf (hbm.ext hx) (hx.at_ hbc id)).mono ?_
  rintro e w2 ⟨rfl, hu, hp⟩
  exact ⟨rfl, hU hx hu, hp⟩
 | 7, _, hM, hfn, _, _ =>
  rw [show (ln || (decide (7 = 4) && decide (r.err = 0))) = ln by simp]
  obtain ⟨bm, hfn, hbm⟩ := hfn
  refine base (fun w' => Upd (At B) w w' /\ IsMac w' B c ⟨9, r.err, 0⟩ ln) _ _ (fun _ h => h) (mfeed_lit1 hm r.err na ba r.names.length nc r.bytes.length bc 108 bm hfn (enters_of Tryz.func108 (by kernel_rfl) rfl) _ fun w1 hx => ?_)
  refine (mwon1_any (hM _ hx) r.err na ba r.names.length nc r.bytes.length bc bm (hbm.ext hx)).mono ?_
  rintro e w2 ⟨rfl, hu, hp⟩
  exact ⟨rfl, hU hx hu, isMac_9 hn (hBv (hU hx hu)) hp⟩
 | 8, _, hM, hfn, _, _ =>
  rw [show (ln || (decide (8 = 4) && decide (r.err = 0))) = ln by simp]
  obtain ⟨bm, hfn, hbm⟩ := hfn
  refine base (fun w' => Upd (At B) w w' /\ IsMac w' B c ⟨9, 81, 0⟩ ln) _ _ (fun _ h => h) (mfeed_lit1 hm r.err na ba r.names.length nc r.bytes.length bc 111 bm hfn (enters_of Tryz.func111 (by kernel_rfl) rfl) _ fun w1 hx => ?_)
  refine (mbased1_any (hM _ hx) r.err na ba r.names.length nc r.bytes.length bc bm (hbm.ext hx)).mono ?_
  rintro e w2 ⟨rfl, hu, hp⟩
  exact ⟨rfl, hU hx hu, isMac_9 hn (hBv (hU hx hu)) hp⟩
 | 9, _, hM, hfn, _, _ =>
  rw [show (ln || (decide (9 = 4) && decide (r.err = 0))) = ln by simp]
  obtain ⟨be, bm, hfn, hbe, hbm, he1, he2⟩ := hfn
  refine base (fun w' => Upd (At B) w w' /\ IsMac w' B c ⟨10, xe, 0⟩ ln) _ _ (fun _ h => h) (mfeed_lit2 hm r.err na ba r.names.length nc r.bytes.length bc 56 be bm hfn (enters_of Tryz.func56 (by kernel_rfl) rfl) _ fun w1 hx => ?_)
  refine (mends1_any (hM _ hx) r.err xe na ba r.names.length nc r.bytes.length bc be bm hbe hbm (hx.at_ he1 id) (hx.at_ he2 id)).mono ?_
  rintro e w2 ⟨rfl, hu, hp⟩
  exact ⟨rfl, hU hx hu, isMac_10 (hBv (hU hx hu)) hp⟩
end Go.Proofs.YtnkmpoplibnflaaGreatDoor.Wk
set_option maxRecDepth 100000
set_option maxHeartbeats 16000000
namespace Go.Proofs.YtnkmpoplibnflaaGreatDoor.Wk
open Go Go.Proofs.YtnkmpoplibnflaaGreatDoor Go.RowKit
theorem Tryz.callT : StructT Tryz.prog 40 4 := ⟨_, Tryz.underlying40, rfl, by kernel_rfl⟩
abbrev callZ : Array Value := #[.int .u8 0, .string ⟨#[]⟩, .string ⟨#[]⟩, .slice none 0 0]
theorem mnext_done {w : World} {B c n p i s k : Nat} {tx sx nm tt : List UInt8} {bv cb fn : Value} {linked : Bool} {err : Int} (h : PM w B (macC c n p i s tx sx bv k nm tt cb fn true err linked)) :
  Calls Tryz.prog 9 #[.pointer (some ⟨B, 0, none⟩)] w fun e w' => e = .returned (.tuple #[.agg callZ, .bool false]) /\ Ext w w' := by
 obtain ⟨w1, hw1⟩ : ∃ u, u = w.alloc (.cells callZ 40) := ⟨_, rfl⟩
 have hx1 : Ext w w1 := by rw [hw1]; exact uZ.alloc _
 have HG := zq (show w1.heap[w.heap.size]? = some (.cells callZ 40 (0, 0)) by rw [hw1]; exact newAt _ _)
 have HX1 := zq hx1
 have HM := zq (hx1.at_ h id)
 have HW1 := zq hw1
 clear hx1 hw1 h
 go_enter Tryz.func9, Tryz.ntmps9
 go_wp2_with (go_at_call 10; fail)
 rw [show w.alloc (.cells #[.int .u8 0, .string ⟨#[]⟩, .string ⟨#[]⟩, .slice none 0 0] 40) = w1 from HW1.out.symm]
 refine (mdone_any HM.out).mono ?_
 rintro e w2 ⟨rfl, hx2⟩
 have HX2 := zq (HX1.out.trans hx2)
 have HG2 := zq (hx2.at_ HG.out id)
 clear hx2
 go_wp2_with (refine wpList_store_blk rfl _ _ _ rfl rfl (cells := callZ) rfl (g := w.heap.size) HG2.out Tryz.callT rfl (by simp [AllOne, Value.oneCell']) ?_)
 refine bodyPost_blk2 rfl rfl rfl (setRow_heap _ _ _ _ _ _ HG2.out) Tryz.callT ?_
 exact ⟨rfl, HX2.out.step (T := At w.heap.size) (Upd.row _ _ _) (fun k hk e => by have e : k = w.heap.size := e; omega)⟩
theorem mnext_go {S : Nat -> Prop} {w : World} {B c n p i s k : Nat} {tx sx nm tt : List UInt8} {bv cb fn : Value} {linked : Bool} {err : Int} (h : PM w B (macC c n p i s tx sx bv k nm tt cb fn false err linked)) {l : List UInt8} (hb : Bytes S w cb l) (hl : l.length <= 300) :
  Calls Tryz.prog 9 #[.pointer (some ⟨B, 0, none⟩)] w fun e w' => ∃ v', e = .returned (.tuple #[.agg #[.int .u8 (k : Int), str nm, str tt, v'], .bool true]) /\ w'.ownsRow w.heap.size 5 1 v' l.length (l.map u8) /\ Ext w w' := by
 have HB := zq hb
 obtain ⟨ca, cc, rfl, -⟩ := hb
 obtain ⟨w1, hw1⟩ : ∃ u, u = w.alloc (.cells callZ 40) := ⟨_, rfl⟩
 have hx1 : Ext w w1 := by rw [hw1]; exact uZ.alloc _
 have HG := zq (show w1.heap[w.heap.size]? = some (.cells callZ 40 (0, 0)) by rw [hw1]; exact newAt _ _)
 have HX1 := zq hx1
 have HM := zq (hx1.at_ h id)
 have HW1 := zq hw1
 clear hx1 hw1 h
 go_enter Tryz.func9, Tryz.ntmps9
 go_wp2_with (go_at_call 10; fail)
 rw [show w.alloc (.cells #[.int .u8 0, .string ⟨#[]⟩, .string ⟨#[]⟩, .slice none 0 0] 40) = w1 from HW1.out.symm]
 refine (mdone_any HM.out).mono ?_
 rintro e w2 ⟨rfl, hx2⟩
 have HX2 := zq (HX1.out.trans hx2)
 have HG2 := zq (hx2.at_ HG.out id)
 have HM2 := zq (hx2.at_ HM.out id)
 clear hx2
 have q8 := cZ HM2.out 8 (.int .u8 (k : Int)) rfl
 have q9 := cZ HM2.out 9 (str nm) rfl
 have q10 := cZ HM2.out 10 (str tt) rfl
 have q11 := cZ HM2.out 11 (.slice ca l.length cc) rfl
 have lb := lZ HM2.out
 go_upto_region 4 with fail
 obtain ⟨w3, hw3⟩ : ∃ u, u = w2.alloc (.cells #[.int .u8 (k : Int), str nm, str tt, .slice ca l.length cc] 40) := ⟨_, rfl⟩
 have hx3 : Ext w2 w3 := by rw [hw3]; exact uZ.alloc _
 have HN3 := zq (show w3.heap[w2.heap.size]? = some (.cells #[.int .u8 (k : Int), str nm, str tt, .slice ca l.length cc] 40 (0, 0)) by rw [hw3]; exact newAt _ _)
 have HX3 := zq (HX2.out.trans hx3)
 have HG3 := zq (hx3.at_ HG2.out id)
 rw [show w2.alloc (.cells #[.int .u8 (k : Int), .string ⟨nm.toArray⟩, .string ⟨tt.toArray⟩, .slice ca l.length cc] 40) = w3 from hw3.symm]
 obtain ⟨g, hg⟩ : ∃ g, g = w2.heap.size := ⟨_, rfl⟩
 rw [<- hg] at HN3 ⊢
 have HGS := zq (show w.heap.size < g by have := lZ HG2.out; omega)
 clear hw3 hx3 hg q8 q9 q10 q11 lb
 have d3 := cZ HN3.out 3 _ rfl
 have dl := lZ HN3.out
 go_wp2_with (go_at_call 23; fail)
 refine (cloneO_any w3 _ l (HB.out.ext HX3.out) (by omega)).mono ?_
 rintro e w4 ⟨v4, rfl, hown4, hx4⟩
 have HX4 := zq (HX3.out.trans hx4)
 have HG4 := zq (hx4.at_ HG3.out id)
 have HN4 := zq (hx4.at_ HN3.out id)
 have HO4 := zq (hown4.mono_base HX3.out.size)
 have HF4 := zq (show ∀ j, v4.ownBlock = some j -> g < j from fun j hj => by have h1 := (hown4.lt j hj).1; have h2 := lZ HN3.out; omega)
 obtain ⟨a4, m4, c4, rfl⟩ := ownsForm hown4
 clear hx4 hown4 d3 dl
 have d3 := cZ HN4.out 3 _ rfl
 have f3 := freeAt HN4.out 3
 have dl := lZ HN4.out
 go_upto_region 5 with fail
 obtain ⟨w5, hw5⟩ : ∃ u, u = w4.setCell ⟨g, 3, none⟩ (.slice a4 m4 c4) := ⟨_, rfl⟩
 rw [<- hw5]
 have hu5 : Upd (At g) w4 w5 := by rw [hw5]; exact Upd.own _ _ _ _
 have HN5 := zq (show w5.heap[g]? = some (.cells #[.int .u8 (k : Int), str nm, str tt, .slice a4 m4 c4] 40 (0, 0)) by rw [hw5]; exact setAt HN4.out)
 have HG5 := zq (hu5.at_ HG4.out (fun e => by have e : w.heap.size = g := e; have := HGS.out; omega))
 have HX5 := zq (HX4.out.step hu5 (fun i hi e => by have e : i = g := e; have := HGS.out; omega))
 have HO5 := zq (hu5.ownsRow HO4.out (fun j hj e => by have e : j = g := e; have := HF4.out j hj; omega))
 clear hw5 hu5 d3 f3 dl
 have d0 := cZ HN5.out 0 _ rfl
 have d1 := cZ HN5.out 1 _ rfl
 have d2 := cZ HN5.out 2 _ rfl
 have d3 := cZ HN5.out 3 _ rfl
 have dl := lZ HN5.out
 go_wp2_with (refine wpList_store_blk rfl _ _ _ rfl rfl (cells := #[.int .u8 (k : Int), str nm, str tt, .slice a4 m4 c4]) rfl (g := w.heap.size) HG5.out Tryz.callT rfl (by simp [AllOne, Value.oneCell']) ?_)
 refine bodyPost_blk2 rfl rfl rfl (setRow_heap _ _ _ _ _ _ HG5.out) Tryz.callT ?_
 refine ⟨_, rfl, (Upd.row w5 w.heap.size _).ownsRow HO5.out (fun j hj e => ?_), HX5.out.step (T := At w.heap.size) (Upd.row _ _ _) (fun k hk e => by have e : k = w.heap.size := e; omega)⟩
 have e : j = w.heap.size := e
 have := HF4.out j hj
 have := HGS.out
 omega
end Go.Proofs.YtnkmpoplibnflaaGreatDoor.Wk
