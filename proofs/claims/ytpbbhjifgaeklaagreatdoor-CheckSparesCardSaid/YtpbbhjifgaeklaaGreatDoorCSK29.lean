/- check.Needs: plain words of what it tells, and the state of its walk. · Plain: what CheckSpares counts and asks is as it says. · A map of numbers in memory, as what it counts. · A map of texts in memory: a look-up without 'ok'; ranging over it. · CheckSpares' closure: does one work. · CheckSpares: what its loops count. -/
import Derived.Test.YtpbbhjifgaeklaaGreatDoorCSK18
import Derived.Test.YtpbbhjifgaeklaaGreatDoorCSK28
import Derived.Test.YtpbbhjifgaeklaaGreatDoorCSK19
import Derived.Test.YtpbbhjifgaeklaaGreatDoorCSK15
import Derived.Maps.Views
import Derived.Maps.Keyed
import Derived.Test.YtpbbhjifgaeklaaGreatDoorCSK16
import Derived.Maps.RangeWalk
import Derived.Maps.OwnOps
import Derived.Sort.KeysCollected
namespace Go.Proofs.YtpbbhjifgaeklaaGreatDoor
open Go Go.RowKit
open TJ (leftN missN nextN goneN goneAll needsN GoneOk Grows hasN srt)

def linesK (k : Kv) : List (List Tv) := k.p.dep ++ k.p.ahead
def metI (ks : List Kv) (sel : Nat → Bool) (i : Nat) : Bool := match ks[i]? with
  | some k => metB (linesK k) (offersT ks sel ks.length)
  | none => false
def askK (ks : List Kv) : TJ.Ask := ⟨ks.length, worksI ks, metI ks⟩
def needsK (ks : List Kv) (which : Nat) : List Nat := needsN (askK ks) which

theorem offers_mono {ks : List Kv} {p q : Nat → Bool} (h : ∀ j, p j = true → q j = true) (n : Nat) : ∀ o ∈ offersT ks p n, o ∈ offersT ks q n := by
  intro o ho
  unfold offersT at ho ⊢
  obtain ⟨i, hi, h1⟩ := List.mem_filterMap.1 ho
  refine List.mem_filterMap.2 ⟨i, hi, ?_⟩
  split at h1
  · rename_i hp
    rw [if_pos (h i hp)]
    exact h1
  · cases h1
theorem ask_grows (ks : List Kv) : Grows (askK ks) := by
  intro p q i h hm
  show metI ks q i = true
  have hm' : metI ks p i = true := hm
  unfold metI at hm' ⊢
  split at hm'
  · exact met_mono (offers_mono h _) hm'
  · cases hm'
theorem left_eq {ks : List Kv} {gone : List Nat} {i : Nat} {k : Kv} (hk : ks[i]? = some k) : leftN (askK ks) gone i = (!(hasN gone i) && worksB k.st) := by
  unfold leftN askK worksI
  simp only [hk]
theorem miss_eq {ks : List Kv} {gone : List Nat} {i : Nat} {k : Kv} (hk : ks[i]? = some k) : missN (askK ks) gone i = (leftN (askK ks) gone i && (metB (linesK k) (offersT ks (worksI ks) ks.length) && !(metB (linesK k) (offersT ks (leftN (askK ks) gone) ks.length)))) := by
  unfold missN
  show (_ && (metI ks (worksI ks) i && !(metI ks (leftN (askK ks) gone) i))) = _
  unfold metI
  simp only [hk]
theorem next_some {A : TJ.Ask} {gone : List Nat} {i : Nat} (hi : i < A.n) (hm : missN A gone i = true) (hp : ∀ j, j < i → missN A gone j = false) : nextN A gone = some i := by
  unfold nextN
  rw [List.find?_range_eq_some]
  exact ⟨hm, List.mem_range.2 hi, fun j hj => by rw [hp j hj]; rfl⟩
theorem next_none {A : TJ.Ask} {gone : List Nat} (hp : ∀ j, j < A.n → missN A gone j = false) : nextN A gone = none := by
  unfold nextN
  rw [List.find?_eq_none]
  intro j hj
  rw [hp j (List.mem_range.1 hj)]
  simp

/-- the boxes of the list and of who is gone -/
structure GoneSt (x5 n0 : Nat) (lv : Value) (gone : List Nat) (gl : Nat) (A : Option Addr) (c : Nat) (W : World) : Prop where
  bx : Blk 40 W x5 #[.slice A gl c]
  lx : Blk 73 W n0 #[lv]
  row : W.ownsRow (n0 + 1) 3 1 (.slice A gl c) gl (gone.flatMap natC)
  ne : ∀ g, Value.ownBlock (.slice A gl c) = some g → g ≠ x5
  ord : n0 < x5
theorem GoneSt.keep {x5 n0 : Nat} {lv : Value} {gone : List Nat} {gl : Nat} {A : Option Addr} {c : Nat} {W W' : World} (h : GoneSt x5 n0 lv gone gl A c W) (hb : Below W.heap.size W W') : GoneSt x5 n0 lv gone gl A c W' :=
  ⟨h.bx.keep hb, h.lx.keep hb, row_keep h.row fun g e => hb.block g (row_lt h.row e).2, h.ne, h.ord⟩
theorem GoneSt.nats {x5 n0 : Nat} {lv : Value} {gone : List Nat} {gl : Nat} {A : Option Addr} {c : Nat} {W : World} (h : GoneSt x5 n0 lv gone gl A c W) (hl : gone.length = gl) (hm : gl ≤ 1000) : NatsAt W (.slice A gl c) gone := row_nats h.row hl.symm (by omega)
theorem gone_first {n0 which : Nat} {lv : Value} {W : World} (h0 : Blk 73 W n0 #[lv]) (h1 : Blk 3 W (n0 + 1) #[.int .i64 which]) (h2 : Blk 40 W (n0 + 2) #[.slice (some ⟨n0 + 1, 0, none⟩) 1 1]) : GoneSt (n0 + 2) n0 lv [which] 1 (some ⟨n0 + 1, 0, none⟩) 1 W :=
  ⟨h2, h0, ⟨rfl, .inr ⟨n0 + 1, 1, _, rfl, Nat.le_refl _, h1, Nat.le_refl _, by decide, rfl, rfl⟩⟩, fun g e => by injection e with e; show g ≠ n0 + 2; have : n0 + 1 = g := e; omega, by omega⟩
/-- one more is gone: behind the append and the store -/
theorem GoneSt.more {x5 n0 gl c c2 i : Nat} {lv : Value} {gone : List Nat} {A A2 : Option Addr} {W W1 W2 : World} (h : GoneSt x5 n0 lv gone gl A c W) (hb : Below W.heap.size W W1) (hn0 : n0 < W.heap.size)
    (ho : W2.ownsRow (n0 + 1) 3 1 (.slice A2 (gl + 1) c2) (gl + 1) (gone.flatMap natC ++ [.int .i64 i])) (hg : W1.grownBy W2 (Value.ownBlock (.slice A gl c)))
    (hl : Value.ownBlock (.slice A2 (gl + 1) c2) = Value.ownBlock (.slice A gl c) ∨ Value.ownBlock (.slice A2 (gl + 1) c2) = some W1.heap.size) :
    Blk 40 W2 x5 #[.slice A gl c] ∧ GoneSt x5 n0 lv (gone ++ [i]) (gl + 1) A2 c2 (W2.setCell ⟨x5, 0, none⟩ (.slice A2 (gl + 1) c2)) := by
  have hx := h.bx.lt
  have hs := hb.size
  have hbx : Blk 40 W2 x5 #[.slice A gl c] := (hg.block x5 (by omega) (fun e => h.ne x5 e.symm rfl)).trans (h.bx.keep hb)
  have hlx : Blk 73 W2 n0 #[lv] := (hg.block n0 (by omega) (fun e => by have := (row_lt h.row e.symm).1; omega)).trans (h.lx.keep hb)
  have hne : ∀ g, Value.ownBlock (.slice A2 (gl + 1) c2) = some g → g ≠ x5 := by
    intro g e
    rcases hl with hl | hl
    · exact h.ne g (hl.symm.trans e)
    · rw [hl] at e
      injection e with e
      omega
  refine ⟨hbx, hbx.set 0 _, hlx.other (by have := h.ord; omega) 0 _, ?_, hne, h.ord⟩
  rw [List.flatMap_append]
  exact row_keep ho fun g e => by
    unfold World.setCell
    rw [Array.getElem?_modify, if_neg (fun k => hne g e k.symm)]
end Go.Proofs.YtpbbhjifgaeklaaGreatDoor

namespace Go.Proofs.YtpbbhjifgaeklaaGreatDoor
open Go Go.RowKit
open TJ (leftN missN nextN goneN goneAll needsN GoneOk Grows hasN srt lineT)

theorem count_one {l : List Nat} {x : Nat} (h : l.Nodup) (hm : x ∈ l) : l.count x = 1 := by
  have h1 := List.nodup_iff_count.1 h x
  have h2 := List.count_pos_iff.2 hm
  omega
theorem which_nodup (ks : List Kv) : (whichK ks).Nodup := List.Pairwise.filter _ List.nodup_range
theorem map_getD_range (l : List Nat) : (List.range l.length).map (fun j => l.getD j 0) = l := by
  apply List.ext_getElem (by simp)
  intro i h1 h2
  rw [List.getElem_map, List.getElem_range]
  simp [h2]
theorem lineK_perm (ks : List Kv) : (lineK ks).Perm (whichK ks) := by
  have h := TJ.line_perm (n := (whichK ks).length) (edgesK_lt ks (whichK ks) depK) (edgesK_lt ks (whichK ks) ahK)
  have h2 := h.map (fun j => (whichK ks).getD j 0)
  rw [map_getD_range] at h2
  exact h2
/-- the line has each that is about to once -/
theorem line_count (ks : List Kv) {i : Nat} (hi : i < ks.length) : (lineK ks).count i = if startsI ks i then 1 else 0 := by
  rw [(lineK_perm ks).count_eq]
  by_cases h : startsI ks i = true
  · rw [if_pos h]
    have hm : i ∈ whichK ks := List.mem_filter.2 ⟨List.mem_range.2 hi, h⟩
    exact count_one (which_nodup ks) hm
  · rw [if_neg h]
    exact List.count_eq_zero_of_not_mem fun hm => h (List.mem_filter.1 hm).2

def goneC (ks : List Kv) (which i : Nat) : Nat := (goneAll (askK ks) which).count i
theorem gone_all_ok {ks : List Kv} {which : Nat} (hw : which < ks.length) : GoneOk (askK ks) which (goneAll (askK ks) which) ∧ nextN (askK ks) (goneAll (askK ks) which) = none := TJ.goneAll_ok (ask_grows ks) hw
theorem needs_count {ks : List Kv} {which : Nat} (hw : which < ks.length) (i : Nat) : (if i = which then 1 else 0) + (needsK ks which).count i = goneC ks which i := by
  obtain ⟨r, hr⟩ := (gone_all_ok hw).1.hd
  unfold needsK needsN goneC
  rw [hr, (TJ.perm_srt _).count_eq]
  show _ + r.count i = _
  rw [List.count_cons, Nat.add_comm]
  congr 1
  by_cases h : i = which
  · subst h; simp
  · rw [if_neg h, if_neg (by simpa using fun e => h e.symm)]
theorem gone_le {ks : List Kv} {which : Nat} (hw : which < ks.length) (i : Nat) : goneC ks which i ≤ 1 := List.nodup_iff_count.1 (gone_all_ok hw).1.nd i
theorem gone_which {ks : List Kv} {which : Nat} (hw : which < ks.length) : goneC ks which which = 1 := by
  obtain ⟨r, hr⟩ := (gone_all_ok hw).1.hd
  exact count_one (gone_all_ok hw).1.nd (by rw [hr]; exact List.mem_cons_self)
theorem gone_has {ks : List Kv} {which i : Nat} : (goneC ks which i = 0) ↔ hasN (goneAll (askK ks) which) i = false := by
  unfold goneC
  rw [List.count_eq_zero]
  cases h : hasN (goneAll (askK ks) which) i with
  | true => simp [TJ.hasN_mem.1 h]
  | false =>
    refine ⟨fun _ => rfl, fun _ hm => ?_⟩
    rw [TJ.hasN_mem.2 hm] at h
    cases h
/-- who works and is not gone -/
def leftC (ks : List Kv) (which i : Nat) : Bool := worksI ks i && decide (goneC ks which i = 0)
theorem left_gone (ks : List Kv) (which : Nat) : leftC ks which = leftN (askK ks) (goneAll (askK ks) which) := by
  funext i
  unfold leftC leftN
  rw [Bool.and_comm]
  congr 1
  cases h : hasN (goneAll (askK ks) which) i with
  | true =>
    rw [decide_eq_false fun e => by rw [gone_has.1 e] at h; cases h]
    rfl
  | false =>
    rw [decide_eq_true (gone_has.2 h)]
    rfl
/-- who is left misses nothing -/
theorem left_met {ks : List Kv} {which i : Nat} {k : Kv} (hw : which < ks.length) (hk : ks[i]? = some k) (hg : goneC ks which i = 0) (hs : worksB k.st = true)
    (hx : metB (linesK k) (offersT ks (worksI ks) ks.length) = true) : metB (linesK k) (offersT ks (leftC ks which) ks.length) = true := by
  have hi := (List.getElem?_eq_some_iff.1 hk).1
  have hwi : worksI ks i = true := by unfold worksI; rw [hk]; exact hs
  have h1 : (askK ks).met (askK ks).works i = true := by
    show metI ks (worksI ks) i = true
    unfold metI
    rw [hk]
    exact hx
  have h2 := TJ.none_left (gone_all_ok hw).2 (show i < (askK ks).n from hi) (by rw [← left_gone]; unfold leftC; rw [hwi, decide_eq_true hg]; rfl) h1
  have h3 : metI ks (leftN (askK ks) (goneAll (askK ks) which)) i = true := h2
  unfold metI at h3
  rw [hk] at h3
  rw [left_gone]
  exact h3
/-- nobody goes that would not miss it -/
theorem gone_miss {ks : List Kv} {which i : Nat} {k : Kv} (hw : which < ks.length) (hk : ks[i]? = some k) (hg : 0 < goneC ks which i) (hne : i ≠ which) :
    worksB k.st = true ∧ metB (linesK k) (offersT ks (worksI ks) ks.length) = true ∧ metB (linesK k) (offersT ks (leftC ks which) ks.length) = false := by
  have hm : i ∈ goneAll (askK ks) which := List.count_pos_iff.1 hg
  rcases (gone_all_ok hw).1.ok i hm with h | ⟨h1, h2, h3⟩
  · exact absurd h hne
  · have g1 : worksI ks i = true := h1
    have g2 : metI ks (worksI ks) i = true := h2
    have g3 : metI ks (leftN (askK ks) (goneAll (askK ks) which)) i = false := h3
    unfold worksI at g1
    unfold metI at g2 g3
    rw [hk] at g1 g2 g3
    rw [left_gone]
    exact ⟨g1, g2, g3⟩
end Go.Proofs.YtpbbhjifgaeklaaGreatDoor

namespace Go.Proofs.YtpbbhjifgaeklaaGreatDoor
open Go Go.RowKit Go.Maps Go.ChangeMaps Go.WideShapes Go.WideMaps

/-- the map in block b counts f (up to a thousand) -/
def CntAt (W : World) (b n : Nat) (f : Nat → Nat) : Prop := ∃ D : DataW Unit, W.ownsMap Tryz.prog 3 (plainElem Tryz.prog 3) b n D ∧ IsMap D ∧ ∀ i : Nat, i ≤ 1000 → D.atKey (.int .i64 (i : Int)) (.lit (.int .i64 0)) = .lit (.int .i64 (f i : Int))

theorem int_key : Keyed Tryz.prog 3 := int_keyed Tryz.underlying3
theorem zero_int1 (w : World) : (zeroValue 3).run Tryz.prog w = .ok (.int .i64 0) w := by kernel_rfl
theorem wf_small {i : Nat} (h : i ≤ 1000) : (Lit.int .i64 (i : Int)).wf = true := by
  have h1 : IntKind.i64.min = -9223372036854775808 := by decide
  have h2 : IntKind.i64.max = 9223372036854775807 := by decide
  show (decide (IntKind.i64.min ≤ (i : Int)) && decide ((i : Int) ≤ IntKind.i64.max)) = true
  rw [h1, h2, decide_eq_true (by omega), decide_eq_true (by omega)]
  rfl
theorem keyOf_nat {i : Nat} (h : i ≤ 1000) : keyOf Tryz.prog 3 (.int .i64 (i : Int)) = some (.int .i64 (i : Int)) := keyOf_int_mk (P := Tryz.prog) (k := 3) Tryz.underlying3 (wf_small h)
theorem lit_nat {a b : Int} (h : (DataW.lit (.int .i64 a) : DataW Unit) = .lit (.int .i64 b)) : a = b := by
  cases h; rfl
theorem cntAt_new (w : World) : CntAt (w.alloc (.map #[] 0)) w.heap.size 0 (fun _ => 0) := ⟨_, World.ownsMap_made w _ _ _, ⟨_, rfl⟩, fun _ _ => rfl⟩
theorem CntAt.lt {W : World} {b n : Nat} {f : Nat → Nat} (h : CntAt W b n f) : b < W.heap.size := by
  obtain ⟨D, h1, _⟩ := h
  exact h1.lt
theorem CntAt.keep {W W' : World} {b n : Nat} {f : Nat → Nat} (h : CntAt W b n f) (hb : W'.heap[b]? = W.heap[b]?) : CntAt W' b n f := by
  obtain ⟨D, ⟨es, clock, hm, r⟩, hr⟩ := h
  exact ⟨D, ⟨es, clock, hb.trans hm, r⟩, hr⟩
/-- 'm[i]' -/
theorem CntAt.look {W : World} {b n : Nat} {f : Nat → Nat} (h : CntAt W b n f) (i : Nat) (hi : i ≤ 1000) : (Instr.lookup 76 (.map (some b)) (.int .i64 (i : Int)) false).run Tryz.prog W = .ok (.int .i64 (f i : Int)) W := by
  obtain ⟨D, ⟨es, clock, hb, F, hn, rfl⟩, hm, hf⟩ := h
  have h1 := hf i hi
  rcases Maps.fit_look false int_key Tryz.underlying76 (zero_int1 W) hb F (keyOf_nat hi) with ⟨hrun, _, hat⟩ | ⟨e0, y, _, _, hrun, hRv, hat, _⟩
  · rw [hat] at h1
    rw [← lit_nat h1]
    exact hrun
  · rw [hat] at h1
    obtain ⟨a, hv, hy, _⟩ := plainElem_int_inv Tryz.underlying3 hRv
    rw [hy] at h1
    rw [← lit_nat h1, ← hv]
    exact hrun
/-- 'm[i] = x' -/
theorem CntAt.store {W : World} {b n : Nat} {f : Nat → Nat} (h : CntAt W b n f) (i x : Nat) (hi : i ≤ 1000) (hx : x ≤ 1000) (hn : n < maxLen) : ∃ W', (Instr.mapUpdate 76 (.map (some b)) (.int .i64 (i : Int)) (.int .i64 (x : Int))).run Tryz.prog W = .ok () W' ∧ CntAt W' b (n + 1) (fun j => if j = i then x else f j) ∧ W.mapTurned W' b := by
  obtain ⟨D, ho, hm, hf⟩ := h
  obtain ⟨W', hrun, ho', ht⟩ := ho.store int_key Tryz.underlying76 hn (keyOf_nat hi) (plainElem_int Tryz.underlying3 (wf_small hx))
  refine ⟨W', hrun, ⟨_, ho', ?_, fun j hj => ?_⟩, ht⟩
  · obtain ⟨es, rfl⟩ := hm
    exact ⟨_, rfl⟩
  · by_cases e : j = i
    · subst e
      rw [atKey_put_same hm (by trivial)]
      show _ = DataW.lit (Lit.int .i64 ((if j = j then x else f j : Nat) : Int))
      rw [if_pos rfl]
    · have hne : (Lit.int .i64 (j : Int)) ≠ Lit.int .i64 (i : Int) := fun h => e (Int.ofNat.inj (Lit.int.inj h).2)
      rw [atKey_put_other hne]
      show _ = DataW.lit (Lit.int .i64 ((if j = i then x else f j : Nat) : Int))
      rw [if_neg e]
      exact hf j hj
end Go.Proofs.YtpbbhjifgaeklaaGreatDoor

namespace Go.Proofs.YtpbbhjifgaeklaaGreatDoor
open Go Go.RowKit Go.Maps

theorem below_turned {n b : Nat} {w0 W W' : World} (h : Below n w0 W) (hn : n ≤ b) (hW : n ≤ W.heap.size) (ht : W.mapTurned W' b) : Below n w0 W' :=
  h.grown ht.grown hW fun g e => by injection e with e; omega

/-- ranging over a map of texts under way: what is still to come -/
def RangesF (W : World) (b r : Nat) (M : Fm) (left : Lit → Bool) (cnt : Nat) : Prop := W.ranges Tryz.prog 9 (plainElem Tryz.prog 9) b r M.length (datF M) left cnt ∧ RisF M
theorem RangesF.map {W : World} {b r : Nat} {M : Fm} {left : Lit → Bool} {cnt : Nat} (h : RangesF W b r M left cnt) : MapAt W b M := ⟨h.1.owns, h.2⟩
theorem RangesF.kept {W W' : World} {b r : Nat} {M : Fm} {left : Lit → Bool} {cnt : Nat} {row : Option Nat} (h : RangesF W b r M left cnt) (hg : W.grownBy W' row) (hb : some b ≠ row) (hr : some r ≠ row) : RangesF W' b r M left cnt := ⟨h.1.kept hg hb hr, h.2⟩
section
variable {ops : Array Oper} {rest : List Oper} {o : Oper} {a : Act} {Q : Exit → Act → World → Prop}
end
end Go.Proofs.YtpbbhjifgaeklaaGreatDoor

namespace Go.Proofs.YtpbbhjifgaeklaaGreatDoor
open Go Go.RowKit

set_option maxHeartbeats 4000000 in
set_option maxRecDepth 100000 in
theorem spares1_calls (x2 i b off len cl : Nat) (k : Kv) (w : World) (h2 : w.cell? ⟨x2, 0, none⟩ = some (.slice (some ⟨b, off, none⟩) len cl)) (hi : i < len) (hk : KnownAt w b (off + i * 20) k) :
    Calls Tryz.prog 37 #[.int .i64 i, .pointer (some ⟨x2, 0, none⟩)] w fun E w' => E = .returned (.bool (worksB k.st)) ∧ w = w' := by
  obtain ⟨Aw, At, A1, A2, A3, A4, A5, A6, A7, A8, A9, nw, nt, cw, ct, c1, c2, c3, c4, c5, c6, c7, c8, c9, hcs, _⟩ := hk.cells
  have hst : w.cell? ⟨b, off + i * 20, none⟩ = some (.int .i64 k.st) := by have := hcs 0 _ rfl; rwa [Nat.add_zero] at this
  have i1 : (i : Int) < len := by omega
  have i2 : (0 : Int) ≤ i := by omega
  obtain ⟨s, hs⟩ : ∃ s, k.st = s := ⟨_, rfl⟩
  rw [hs] at hst ⊢
  clear hi hk hcs hs
  by_cases h7 : s = 7
  · subst h7
    go_enter Tryz.func37, Tryz.ntmps37
    go_wp2_with fail
    go_ret
    exact ⟨rfl, rfl⟩
  · have t7 : (s == 7) = false := by simp [h7]
    by_cases h6 : s = 6
    · subst h6
      go_enter Tryz.func37, Tryz.ntmps37
      go_wp2_with fail
      go_ret
      exact ⟨rfl, rfl⟩
    · have t6 : (s == 6) = false := by simp [h6]
      have F := Lib.hid (show worksB s = (s == 5) from by unfold worksB; rw [t7, t6]; rfl)
      clear h7 h6
      go_enter Tryz.func37, Tryz.ntmps37
      go_wp2_with fail
      go_ret
      exact ⟨by rw [F.out]; rfl, rfl⟩
end Go.Proofs.YtpbbhjifgaeklaaGreatDoor

namespace Go.Proofs.YtpbbhjifgaeklaaGreatDoor
open Go Go.RowKit Go.Maps Go.ChangeMaps Go.WideShapes Go.WideMaps
open TJ (goneAll needsN srt)

/-- how often j is among the first k, and n0 j besides -/
def cntT (n0 : Nat → Nat) (l : List Nat) (k j : Nat) : Nat := n0 j + (l.take k).count j
theorem cntT_succ {n0 : Nat → Nat} {l : List Nat} {k x : Nat} (h : l[k]? = some x) : (fun j => if j = x then cntT n0 l k x + 1 else cntT n0 l k j) = cntT n0 l (k + 1) := by
  funext j
  unfold cntT
  rw [List.take_add_one, h]
  show _ = _ + ((l.take k) ++ [x]).count j
  rw [List.count_append, List.count_singleton]
  by_cases e : j = x
  · subst e
    rw [if_pos rfl, if_pos (by simp)]
    omega
  · rw [if_neg e, if_neg (by simpa using fun h => e h.symm), Nat.add_zero]
theorem cntT_all {n0 : Nat → Nat} {l : List Nat} {k : Nat} (h : l.length ≤ k) (j : Nat) : cntT n0 l k j = n0 j + l.count j := by unfold cntT; rw [List.take_of_length_le h]
theorem cntT_le {n0 : Nat → Nat} {l : List Nat} {k j : Nat} (h : n0 j ≤ 1) : cntT n0 l k j ≤ k + 1 := by
  unfold cntT
  have h1 := List.count_le_length (a := j) (l := l.take k)
  rw [List.length_take] at h1
  omega
def zeroT (_ : Nat) : Nat := 0
def oneT (w j : Nat) : Nat := if j = w then 1 else 0
theorem oneT_le (w j : Nat) : oneT w j ≤ 1 := by unfold oneT; split <;> omega
theorem cnt_line {ks : List Kv} {i : Nat} (hi : i < ks.length) {k : Nat} (hk : (lineK ks).length ≤ k) : cntT zeroT (lineK ks) k i = if startsI ks i then 1 else 0 := by
  rw [cntT_all hk, line_count ks hi]
  exact Nat.zero_add _
theorem cnt_gone {ks : List Kv} {which : Nat} (hw : which < ks.length) (i : Nat) {k : Nat} (hk : (needsK ks which).length ≤ k) : cntT (oneT which) (needsK ks which) k i = goneC ks which i := by
  rw [cntT_all hk]
  exact needs_count hw i
theorem line_lt {ks : List Kv} {x : Nat} (h : x ∈ lineK ks) : x < ks.length := which_lt ((lineK_perm ks).mem_iff.1 h)
theorem line_len (ks : List Kv) : (lineK ks).length ≤ ks.length := by rw [(lineK_perm ks).length_eq]; exact which_len ks _
theorem needs_gone {ks : List Kv} {which : Nat} (hw : which < ks.length) : ∃ r, goneAll (askK ks) which = which :: r ∧ needsK ks which = srt r := by
  obtain ⟨r, hr⟩ := (gone_all_ok hw).1.hd
  exact ⟨r, hr, by unfold needsK needsN; rw [hr]; rfl⟩
theorem needs_lt {ks : List Kv} {which x : Nat} (hw : which < ks.length) (h : x ∈ needsK ks which) : x < ks.length := by
  obtain ⟨r, hr, hn⟩ := needs_gone hw
  rw [hn] at h
  have hm : x ∈ goneAll (askK ks) which := by rw [hr]; exact List.mem_cons_of_mem _ ((TJ.perm_srt r).mem_iff.1 h)
  exact (gone_all_ok hw).1.lt x hm
theorem needs_len {ks : List Kv} {which : Nat} (hw : which < ks.length) : (needsK ks which).length ≤ ks.length := by
  obtain ⟨r, hr, hn⟩ := needs_gone hw
  have h1 := TJ.nodup_le (gone_all_ok hw).1.nd (gone_all_ok hw).1.lt
  have h2 : (askK ks).n = ks.length := rfl
  rw [hr, List.length_cons, h2] at h1
  rw [hn, (TJ.perm_srt r).length_eq]
  omega
/-- one more is counted -/
theorem CntAt.more {W : World} {b k x y : Nat} {n0 : Nat → Nat} {l : List Nat} {n : Nat} (h : CntAt W b n (cntT n0 l k)) (hx : l[k]? = some x) (hlt : x ≤ 1000) (hn : n < maxLen) (hy : cntT n0 l k x + 1 = y) (hy1 : y ≤ 1000) :
    ∃ W', (Instr.mapUpdate 76 (.map (some b)) (.int .i64 (x : Int)) (.int .i64 (y : Int))).run Tryz.prog W = .ok () W' ∧ CntAt W' b (n + 1) (cntT n0 l (k + 1)) ∧ W.mapTurned W' b := by
  obtain ⟨W', hrun, hc, ht⟩ := h.store x y hlt hy1 hn
  refine ⟨W', hrun, ?_, ht⟩
  rw [← cntT_succ hx, hy]
  exact hc
theorem CntAt.below {W W' : World} {b n : Nat} {f : Nat → Nat} (h : CntAt W b n f) (hb : Below W.heap.size W W') : CntAt W' b n f := h.keep (hb.block b h.lt)
theorem cntAt_one {W : World} {b n which : Nat} {f : Nat → Nat} (h : CntAt W b n f) (l : List Nat) (hf : f = fun j => if j = which then 1 else zeroT j) : CntAt W b n (cntT (oneT which) l 0) := by
  have e : f = cntT (oneT which) l 0 := by
    rw [hf]
    funext j
    unfold cntT oneT zeroT
    simp
  rw [← e]
  exact h
theorem cntAt_zero {W : World} {b n : Nat} (h : CntAt W b n (fun _ => 0)) (l : List Nat) : CntAt W b n (cntT zeroT l 0) := by
  have e : cntT zeroT l 0 = fun _ => 0 := by
    funext j
    unfold cntT zeroT
    simp
  rw [e]
  exact h
/-- what a map's turn leaves alone -/
theorem cnt_cell {W W' : World} {b n : Nat} {f : Nat → Nat} (h : CntAt W b n f) (ht : W.mapTurned W' b) {a : Addr} {v : Value} (hc : W.cell? a = some v) : W'.cell? a = some v := by
  by_cases e : a.block = b
  · obtain ⟨D, ⟨es, clock, hm, _⟩, _⟩ := h
    unfold World.cell? at hc
    rw [e, hm] at hc
    simp at hc
  · unfold World.cell? at hc ⊢
    rw [turned_block ht e]
    exact hc
theorem nats_cells {W W' : World} {v : Value} {l : List Nat} (h : NatsAt W v l) (hc : ∀ (a : Addr) (u : Value), W.cell? a = some u → W'.cell? a = some u) : NatsAt W' v l := by
  obtain ⟨A, c, hv, h1, h2, h3⟩ := h
  refine ⟨A, c, hv, h1, h2, fun hn => ?_⟩
  obtain ⟨b, off, hA, hi⟩ := h3 hn
  exact ⟨b, off, hA, fun j u hj => hc _ _ (hi j u hj)⟩

/-- offers that are gathered, under way -/
structure OffSt (ks : List Kv) (sel : Nat → Bool) (w : World) (base : Nat) (W : World) (k n c : Nat) (B : Option Addr) (xs : List Value) : Prop where
  len : (offersT ks sel k).length = n
  row : W.ownsRow base 84 5 (.slice B n c) n xs
  ox : OffersRow w (offersT ks sel k) xs
theorem OffSt.start (ks : List Kv) (sel : Nat → Bool) (w : World) (base : Nat) (W : World) : OffSt ks sel w base W 0 0 0 none [] :=
  ⟨rfl, World.ownsRow_nil _ _ _ _, rfl, fun i o ho => by simp [offersT] at ho⟩
theorem OffSt.keep {ks : List Kv} {sel : Nat → Bool} {w W W' : World} {base k n c : Nat} {B : Option Addr} {xs : List Value} (h : OffSt ks sel w base W k n c B xs) (hb : Below W.heap.size W W') : OffSt ks sel w base W' k n c B xs :=
  ⟨h.len, row_keep h.row fun g e => hb.block g (row_lt h.row e).2, h.ox⟩
/-- the other row grew -/
theorem OffSt.other {ks : List Kv} {sel : Nat → Bool} {w W W' : World} {base k n c : Nat} {B : Option Addr} {xs : List Value} {o : Option Nat} (h : OffSt ks sel w base W k n c B xs) (hg : W.grownBy W' o) (hne : ∀ g, Value.ownBlock (.slice B n c) = some g → o ≠ some g) : OffSt ks sel w base W' k n c B xs :=
  ⟨h.len, row_keep h.row fun g e => hg.block g (row_lt h.row e).2 (fun e2 => hne g e e2.symm), h.ox⟩
theorem OffSt.skip {ks : List Kv} {sel : Nat → Bool} {w W : World} {base k n c : Nat} {B : Option Addr} {xs : List Value} {kv : Kv} (h : OffSt ks sel w base W k n c B xs) (hk : ks[k]? = some kv) (hs : sel k = false) : OffSt ks sel w base W (k + 1) n c B xs := by
  have e := offers_succ sel hk
  rw [hs, if_neg (by simp), List.append_nil] at e
  exact ⟨by rw [e]; exact h.len, h.row, by rw [e]; exact h.ox⟩
theorem OffSt.more {ks : List Kv} {sel : Nat → Bool} {w W W' : World} {base k n c c2 : Nat} {B B2 : Option Addr} {xs : List Value} {kv : Kv} {vp : Value} (h : OffSt ks sel w base W k n c B xs) (hk : ks[k]? = some kv) (hs : sel k = true)
    (ht : TermsAt w vp kv.p.pr) (hown : W'.ownsRow base 84 5 (.slice B2 (n + 1) c2) (n + 1) (xs ++ [.string kv.p.n, .int .i64 kv.p.e, .string kv.p.u, .string kv.p.r, vp])) : OffSt ks sel w base W' (k + 1) (n + 1) c2 B2 (xs ++ [.string kv.p.n, .int .i64 kv.p.e, .string kv.p.u, .string kv.p.r, vp]) := by
  have e := offers_succ sel hk
  rw [hs, if_pos rfl] at e
  exact ⟨by rw [e, List.length_append, h.len]; rfl, hown, by rw [e]; exact h.ox.append (offersRow_one (o := kv.offer) ht)⟩
theorem OffSt.at {ks : List Kv} {sel : Nat → Bool} {w W : World} {base n c : Nat} {B : Option Addr} {xs : List Value} (h : OffSt ks sel w base W ks.length n c B xs) (hb : Below w.heap.size w W) (hl : ks.length ≤ 40) : OffersAt W (.slice B n c) (offersT ks sel ks.length) :=
  offers_of_own h.row h.len.symm (by have := offers_len ks sel ks.length; have := h.len; omega) (h.ox.below hb)
theorem OffSt.bound {ks : List Kv} {sel : Nat → Bool} {w W : World} {base k n c : Nat} {B : Option Addr} {xs : List Value} (h : OffSt ks sel w base W k n c B xs) : n ≤ k := by have := offers_len ks sel k; have := h.len; omega
theorem workI_at {ks : List Kv} {k : Nat} {kv : Kv} (h : ks[k]? = some kv) : worksI ks k = worksB kv.st := by unfold worksI; rw [h]
theorem leftC_at {ks : List Kv} {which k : Nat} {kv : Kv} (h : ks[k]? = some kv) : leftC ks which k = (worksB kv.st && decide (goneC ks which k = 0)) := by unfold leftC; rw [workI_at h]
end Go.Proofs.YtpbbhjifgaeklaaGreatDoor
