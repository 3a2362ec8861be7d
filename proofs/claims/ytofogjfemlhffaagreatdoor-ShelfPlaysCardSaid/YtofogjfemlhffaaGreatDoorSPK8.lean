/- The disk's calls: Read, Write, Sync, Move, Remove: what they answer, and what becomes of the disk. · The disk's calls: Read, Write, Sync, Move, Remove: what they answer, and what becomes of the disk. · A map of texts in memory: a look-up without 'ok'; ranging over it. · The disk's Move. -/
import Derived.Test.YtofogjfemlhffaaGreatDoorSPK6
import Derived.Test.YtofogjfemlhffaaGreatDoorSPK7
import Derived.Test.YtofogjfemlhffaaGreatDoorSPK2
import Derived.Deep.QuietTactic
import Derived.BigQuiet
import Derived.Deep.DeepCutAuto
import Derived.Maps.RangeWalk
import Derived.Maps.OwnOps
import Derived.Sort.KeysCollected
namespace Go.Proofs.YtofogjfemlhffaaGreatDoor
open Go Go.RowKit Go.Maps

/-- a disk's state is one: its numbers are the machine's, its maps rise, what is safe is there -/
structure DkOk (D : Dk) : Prop where
  l0 : 0 ≤ D.left
  l1 : D.left ≤ 9223372036854775807
  len : D.now.length ≤ 5000
  ris : RisF D.now
  sris : RisF D.safe
  sub : ∀ k, getF D.safe k ≠ none → getF D.now k ≠ none
theorem DkOk.slen {D : Dk} (h : DkOk D) : D.safe.length ≤ 5000 := Nat.le_trans (len_sub h.sris h.sub) h.len

def Ready (W : World) (d : Nat) (D : Dk) (b0 b1 : Nat) : Prop := Blk 31 W d #[.map (some b0), .map (some b1), .int .i64 D.left, .bool D.cut, .int .i64 D.most, .bool false] ∧ b0 ≠ b1 ∧ MapAt W b0 D.now ∧ MapAt W b1 D.safe
theorem Ready.disk {W : World} {d b0 b1 : Nat} {D : Dk} (h : Ready W d D b0 b1) : DiskAt W d D := ⟨_, _, h.1, .inr ⟨b0, b1, rfl, rfl, h.2.1, h.2.2.1, h.2.2.2⟩⟩
theorem blk_map {T : TypeId} {W : World} {d b : Nat} {cs : Array Value} {M : Fm} (h : Blk T W d cs) (k : MapAt W b M) : d ≠ b := by
  rintro rfl
  obtain ⟨⟨es, clock, hb, _⟩, _⟩ := k
  rw [show W.heap[d]? = _ from h] at hb
  injection hb with hb
  cases hb
theorem Ready.ne {W : World} {d b0 b1 : Nat} {D : Dk} (h : Ready W d D b0 b1) : d ≠ b0 ∧ d ≠ b1 := ⟨blk_map h.1 h.2.2.1, blk_map h.1 h.2.2.2⟩
theorem Ready.foot {W : World} {d b0 b1 i : Nat} {D : Dk} (h : Ready W d D b0 b1) : foot W d i ↔ i = d ∨ i = b0 ∨ i = b1 := by
  unfold Go.Proofs.YtofogjfemlhffaaGreatDoor.foot
  rw [h.1.cell (i := 0) rfl, h.1.cell (i := 1) rfl]
  constructor
  · rintro (h | h | h)
    · exact .inl h
    · injection h with h; injection h with h; injection h with h; exact .inr (.inl h.symm)
    · injection h with h; injection h with h; injection h with h; exact .inr (.inr h.symm)
  · rintro (h | h | h)
    · exact .inl h
    · subst h; exact .inr (.inl rfl)
    · subst h; exact .inr (.inr rfl)
theorem Ready.now {W W' : World} {d b0 b1 : Nat} {D : Dk} {M : Fm} (h : Ready W d D b0 b1) (ht : W.mapTurned W' b0) (hm : MapAt W' b0 M) : Ready W' d { D with now := M } b0 b1 ∧ Off d W W' := by
  have hR : Ready W' d { D with now := M } b0 b1 := ⟨(turned_block ht h.ne.1).trans h.1, h.2.1, hm, h.2.2.2.keep (turned_block ht (Ne.symm h.2.1))⟩
  refine ⟨hR, (turned_os ht).1, (turned_os ht).2.1, (turned_os ht).2.2, Nat.le_of_eq (turned_size ht).symm, fun i _ hi => turned_block ht fun e => hi (h.foot.2 (.inr (.inl e))), fun i hi => .inl (h.foot.2 (hR.foot.1 hi))⟩
theorem Ready.safe {W W' : World} {d b0 b1 : Nat} {D : Dk} {M : Fm} (h : Ready W d D b0 b1) (ht : W.mapTurned W' b1) (hm : MapAt W' b1 M) : Ready W' d { D with safe := M } b0 b1 ∧ Off d W W' := by
  have hR : Ready W' d { D with safe := M } b0 b1 := ⟨(turned_block ht h.ne.2).trans h.1, h.2.1, h.2.2.1.keep (turned_block ht h.2.1), hm⟩
  refine ⟨hR, (turned_os ht).1, (turned_os ht).2.1, (turned_os ht).2.2, Nat.le_of_eq (turned_size ht).symm, fun i _ hi => turned_block ht fun e => hi (h.foot.2 (.inr (.inr e))), fun i hi => .inl (h.foot.2 (hR.foot.1 hi))⟩

/-! name, On, does -/
def nameD (s : ByteArray) : Bool := decide (0 < s.size) && decide (s.size ≤ 80)
set_option maxRecDepth 100000 in
theorem dname_calls (s : ByteArray) (w : World) : Calls Tryz.prog 86 #[.string s] w fun E w' => E = .returned (.bool (nameD s)) ∧ w = w' := by
  by_cases h0 : s.size = 0
  · have F := Lib.hid (show nameD s = false by unfold nameD; rw [decide_eq_false (by omega)]; rfl)
    have es := eq_empty s h0
    subst es
    clear h0
    go_enter Tryz.func86, Tryz.ntmps86
    go_wp2
    go_ret
    exact ⟨ret_bool F.out.symm, rfl⟩
  · have hz := isEmpty_false s (by omega)
    by_cases h8 : s.size ≤ 80
    · have F := Lib.hid (show nameD s = true by unfold nameD; rw [decide_eq_true (by omega), decide_eq_true h8]; rfl)
      have h9 : (s.size : Int) ≤ 80 := by omega
      clear h0
      go_enter Tryz.func86, Tryz.ntmps86
      go_wp2
      go_ret
      exact ⟨ret_bool F.out.symm, rfl⟩
    · have F := Lib.hid (show nameD s = false by unfold nameD; rw [decide_eq_false h8, Bool.and_false])
      have h9 : ¬ (s.size : Int) ≤ 80 := by omega
      clear h0
      go_enter Tryz.func86, Tryz.ntmps86
      go_wp2
      go_ret
      exact ⟨ret_bool F.out.symm, rfl⟩

def powerD (D : Dk) : Bool := !D.cut || decide (0 < D.left)
def stepD (D : Dk) : Dk := { D with left := if D.cut then D.left - 1 else D.left }
set_option maxRecDepth 100000 in
theorem on_calls (d : Nat) (D : Dk) (w : World) (hD : DiskAt w d D) : Calls Tryz.prog 101 #[.pointer (some ⟨d, 0, none⟩)] w fun E w' => E = .returned (.bool (powerD D)) ∧ w = w' := by
  obtain ⟨m0, m1, hb, _⟩ := hD
  have c2 := hb.cell (i := 2) rfl
  have c3 := hb.cell (i := 3) rfl
  obtain ⟨now, safe, left, cut, most⟩ := D
  simp only at *
  clear hb
  cases cut with
  | false =>
    go_enter Tryz.func101, Tryz.ntmps101
    go_wp2
    go_ret
    exact ⟨rfl, rfl⟩
  | true =>
    by_cases h : 0 < left
    · go_enter Tryz.func101, Tryz.ntmps101
      go_wp2
      go_ret
      exact ⟨ret_bool (by unfold powerD; simp [h]), rfl⟩
    · go_enter Tryz.func101, Tryz.ntmps101
      go_wp2
      go_ret
      exact ⟨ret_bool (by unfold powerD; simp [h]), rfl⟩

set_option maxRecDepth 100000 in
theorem does_no (d : Nat) (D : Dk) (w : World) (hD : DiskAt w d D) (hp : powerD D = false) : Calls Tryz.prog 72 #[.pointer (some ⟨d, 0, none⟩)] w fun E w' => E = .returned (.iface 33 (.int .i64 14)) ∧ w = w' := by
  have C := on_calls d D w hD
  rw [hp] at C
  have C := Lib.hid C
  clear hD hp
  go_enter Tryz.func72, Tryz.ntmps72
  go_wp2_with fail
  refine C.out.mono ?_
  rintro E w1 ⟨rfl, rfl⟩
  go_wp2_with fail
  go_ret
  exact ⟨rfl, rfl⟩

theorem cell_set_other {W : World} {b i j : Nat} {v : Value} (hne : i ≠ j) : (W.setCell ⟨b, j, none⟩ v).cell? ⟨b, i, none⟩ = W.cell? ⟨b, i, none⟩ := by
  unfold World.cell? World.setCell
  dsimp only
  rw [Array.getElem?_modify, if_pos rfl]
  cases W.heap[b]? with
  | none => rfl
  | some o => cases o <;> simp [Ne.symm hne]
theorem off_set2 (d : Nat) (W : World) (v : Value) : Off d W (W.setCell ⟨d, 2, none⟩ v) := by
  refine ⟨rfl, rfl, rfl, by simp [World.setCell], fun i _ hi => ?_, fun i hi => .inl ?_⟩
  · unfold World.setCell
    rw [Array.getElem?_modify, if_neg fun e => hi (.inl e.symm)]
  · unfold foot at hi ⊢
    rwa [cell_set_other (by decide), cell_set_other (by decide)] at hi
theorem Ready.left {W : World} {d b0 b1 : Nat} {D : Dk} (h : Ready W d D b0 b1) (x : Int) : Ready (W.setCell ⟨d, 2, none⟩ (.int .i64 x)) d { D with left := x } b0 b1 := by
  have h2 := h.1.set 2 (.int .i64 x)
  simp only [List.setIfInBounds_toArray] at h2
  refine ⟨h2, h.2.1, h.2.2.1.keep ?_, h.2.2.2.keep ?_⟩
  · unfold World.setCell
    rw [Array.getElem?_modify, if_neg h.ne.1]
  · unfold World.setCell
    rw [Array.getElem?_modify, if_neg h.ne.2]
/-- the maps are made -/
theorem made_ready {W : World} {d : Nat} {l mo : Int} {c : Bool} (h : Blk 31 W d #[.map none, .map none, .int .i64 l, .bool c, .int .i64 mo, .bool false]) :
    Ready (((W.alloc (.map #[] 0)).alloc (.map #[] 0)).setCell ⟨d, 0, none⟩ (.map (some W.heap.size)) |>.setCell ⟨d, 1, none⟩ (.map (some (W.heap.size + 1)))) d ⟨[], [], l, c, mo⟩ W.heap.size (W.heap.size + 1) ∧
    Off d W (((W.alloc (.map #[] 0)).alloc (.map #[] 0)).setCell ⟨d, 0, none⟩ (.map (some W.heap.size)) |>.setCell ⟨d, 1, none⟩ (.map (some (W.heap.size + 1)))) := by
  have hb1 := below_alloc W (.map #[] 0)
  have hb2 := below_alloc (W.alloc (.map #[] 0)) (.map #[] 0)
  have hl := h.lt
  have h1 := (h.keep hb1).keep hb2
  have h2 := h1.set 0 (.map (some W.heap.size))
  simp only [List.setIfInBounds_toArray] at h2
  have h3 := h2.set 1 (.map (some (W.heap.size + 1)))
  simp only [List.setIfInBounds_toArray, List.set_cons_zero, List.set_cons_succ] at h3
  have hs : (W.alloc (.map #[] 0)).heap.size = W.heap.size + 1 := World.size_alloc _ _
  have m0 : MapAt ((W.alloc (.map #[] 0)).alloc (.map #[] 0)) W.heap.size [] := (mapAt_new W).keep (hb2.block _ (by rw [hs]; omega))
  have m1 : MapAt ((W.alloc (.map #[] 0)).alloc (.map #[] 0)) (W.heap.size + 1) [] := by have := mapAt_new (W.alloc (.map #[] 0)); rwa [hs] at this
  have hset : ∀ (X : World) (j : Nat) (v : Value) (i : Nat), i ≠ d → (X.setCell ⟨d, j, none⟩ v).heap[i]? = X.heap[i]? := fun X j v i hi => by
    unfold World.setCell
    rw [Array.getElem?_modify, if_neg (Ne.symm hi)]
  have hR : Ready (((W.alloc (.map #[] 0)).alloc (.map #[] 0)).setCell ⟨d, 0, none⟩ (.map (some W.heap.size)) |>.setCell ⟨d, 1, none⟩ (.map (some (W.heap.size + 1)))) d ⟨[], [], l, c, mo⟩ W.heap.size (W.heap.size + 1) :=
    ⟨h3, by omega, m0.keep ((hset _ _ _ _ (by omega)).trans (hset _ _ _ _ (by omega))), m1.keep ((hset _ _ _ _ (by omega)).trans (hset _ _ _ _ (by omega)))⟩
  refine ⟨hR, rfl, rfl, rfl, by simp [World.setCell]; omega, fun i hi hf => ?_, fun i hi => ?_⟩
  · have hne : i ≠ d := fun e => hf (.inl e)
    rw [hset _ _ _ _ hne, hset _ _ _ _ hne, hb2.block i (by rw [hs]; omega), hb1.block i hi]
  · rcases hR.foot.1 hi with e | e | e
    · exact .inl (.inl e)
    · exact .inr (by omega)
    · exact .inr (by omega)

set_option maxHeartbeats 1000000 in
set_option maxRecDepth 100000 in
theorem does_yes (d : Nat) (D : Dk) (w : World) (hD : DiskAt w d D) (hk : DkOk D) (hp : powerD D = true) : Calls Tryz.prog 72 #[.pointer (some ⟨d, 0, none⟩)] w fun E w' => E = .returned .nilIface ∧ ∃ b0 b1, Ready w' d (stepD D) b0 b1 ∧ Off d w w' := by
  have C := on_calls d D w hD
  rw [hp] at C
  have C := Lib.hid C
  obtain ⟨m0, m1, hb, hm⟩ := hD
  obtain ⟨hl0, hl1, _, _, _, _⟩ := hk
  have fz := hb.frozen
  have c0 := hb.cell (i := 0) rfl
  have c1 := hb.cell (i := 1) rfl
  have c2 := hb.cell (i := 2) rfl
  have c3 := hb.cell (i := 3) rfl
  obtain ⟨now, safe, left, cut, most⟩ := D
  unfold powerD at hp
  simp only at *
  have HB := Lib.hid hb
  have hq0 : ∀ (r : Option Nat) (W : World), (binOp .eql 29 (.map r) (.map none)).run Tryz.prog W = .ok (.bool r.isNone) W := fun r W => run_eql_map_nil W _ _ _ r Tryz.underlying29
  have hmm := @run_makeMap Tryz.prog
  clear hb
  rcases hm with ⟨rfl, rfl, e0, e1⟩ | ⟨b0, b1, rfl, rfl, hne, h0, h1⟩
  · simp only at e0 e1
    subst e0 e1
    cases cut with
    | false =>
      clear hp hl0 hl1
      have B2 := (HB.out.keep (below_alloc w (.map #[] 0))).keep (below_alloc _ (.map #[] 0))
      have fz2 := B2.frozen
      have d0 := B2.cell (i := 0) rfl
      have d1 := B2.cell (i := 1) rfl
      clear B2
      go_enter Tryz.func72, Tryz.ntmps72
      go_wp2_with fail
      refine C.out.mono ?_
      rintro E w1 ⟨rfl, rfl⟩
      go_wp2_with fail
      go_ret
      exact ⟨rfl, _, _, (made_ready HB.out).1, (made_ready HB.out).2⟩
    | true =>
      have hlp : 0 < left := by simpa using hp
      have hl2 : -9223372036854775808 ≤ left - 1 := by omega
      have hl3 : left - 1 ≤ 9223372036854775807 := by omega
      have h2 := HB.out.set 2 (.int .i64 (left - 1))
      simp only [List.setIfInBounds_toArray, List.set_cons_zero, List.set_cons_succ] at h2
      have B2 := (h2.keep (below_alloc _ (.map #[] 0))).keep (below_alloc _ (.map #[] 0))
      have fz2 := B2.frozen
      have d0 := B2.cell (i := 0) rfl
      have d1 := B2.cell (i := 1) rfl
      have H2 := Lib.hid h2
      clear hp B2 h2
      go_enter Tryz.func72, Tryz.ntmps72
      go_wp2_with fail
      refine C.out.mono ?_
      rintro E w1 ⟨rfl, rfl⟩
      go_wp2_with fail
      go_ret
      have hM := made_ready H2.out
      have hs2 : (w.setCell ⟨d, 2, none⟩ (.int .i64 (left - 1))).heap.size = w.heap.size := by simp [World.setCell]
      rw [hs2] at hM
      exact ⟨rfl, _, _, hM.1, (off_set2 d w _).trans hM.2⟩
  · have HR := Lib.hid (show Ready w d ⟨now, safe, left, cut, most⟩ b0 b1 from ⟨HB.out, hne, h0, h1⟩)
    clear h0 h1 hne
    cases cut with
    | false =>
      clear hp hl0 hl1
      go_enter Tryz.func72, Tryz.ntmps72
      go_wp2_with fail
      refine C.out.mono ?_
      rintro E w1 ⟨rfl, rfl⟩
      go_wp2_with fail
      go_ret
      exact ⟨rfl, _, _, HR.out, Off.refl _ _⟩
    | true =>
      have hlp : 0 < left := by simpa using hp
      have hl2 : -9223372036854775808 ≤ left - 1 := by omega
      have hl3 : left - 1 ≤ 9223372036854775807 := by omega
      clear hp
      go_enter Tryz.func72, Tryz.ntmps72
      go_wp2_with fail
      refine C.out.mono ?_
      rintro E w1 ⟨rfl, rfl⟩
      go_wp2_with fail
      go_ret
      exact ⟨rfl, _, _, HR.out.left (left - 1), off_set2 d w _⟩
end Go.Proofs.YtofogjfemlhffaaGreatDoor

namespace Go.Proofs.YtofogjfemlhffaaGreatDoor
open Go Go.RowKit Go.Maps

def writeD (D : Dk) (f s : ByteArray) : Int × Dk :=
  if nameD f = false then (1, D) else if powerD D = false then (14, D) else if getF D.now f = none ∧ 5000 ≤ D.now.length then (12, stepD D) else (0, { stepD D with now := putF D.now f s })
def syncD (D : Dk) (f : ByteArray) : Int × Dk :=
  match getF D.now f with
  | none => (7, D)
  | some s => if powerD D = false then (14, D) else (0, { stepD D with safe := putF D.safe f s })
def movedS (S : Fm) (f g : ByteArray) : Fm := match getF S f with | some old => putF (delF (delF S f) g) g old | none => delF (delF S f) g
def moveD (D : Dk) (f g : ByteArray) : Int × Dk :=
  if nameD g = false then (1, D) else match getF D.now f with
  | none => (7, D)
  | some s => if powerD D = false then (14, D) else (0, { stepD D with now := putF (delF D.now f) g s, safe := movedS D.safe f g })
def removeD (D : Dk) (f : ByteArray) : Int × Dk :=
  match getF D.now f with
  | none => (7, D)
  | some _ => if powerD D = false then (14, D) else (0, { stepD D with now := delF D.now f, safe := delF D.safe f })
def readV (D : Dk) (f : ByteArray) : Value := match getF D.now f with | some s => .tuple #[.string s, .nilIface] | none => .tuple #[.string ⟨#[]⟩, .iface 33 (.int .i64 7)]
/-- a call on a disk has answered so, and the disk is so -/
def DiskDone (d : Nat) (r : Int × Dk) (w : World) (E : Ending) (w' : World) : Prop := E = .returned (errV r.1) ∧ DiskAt w' d r.2 ∧ Off d w w'

theorem size_max {s : ByteArray} (h : s.size ≤ 1000000) : s.size ≤ maxLen := by unfold maxLen; omega
/-- the look-up in what there is now -/
theorem DiskAt.look {w : World} {d : Nat} {D : Dk} (h : DiskAt w d D) (f : ByteArray) (hf : f.size ≤ 1000000) : ∃ r : Option Nat, w.cell? ⟨d, 0, none⟩ = some (.map r) ∧ (Instr.lookup 29 (.map r) (.string f) true).run Tryz.prog w = .ok (.tuple #[.string ((getF D.now f).getD ⟨#[]⟩), .bool (getF D.now f).isSome]) w ∧ ((getF D.now f).getD ⟨#[]⟩).size ≤ maxLen := by
  obtain ⟨m0, m1, hb, hm⟩ := h
  rcases hm with ⟨rfl, rfl, e0, _⟩ | ⟨b0, b1, rfl, rfl, _, h0, _⟩
  · refine ⟨none, hb.cell (i := 0) rfl, ?_, ?_⟩
    · have := Maps.look_nil (P := Tryz.prog) (w := w) true str_key Tryz.underlying29 (zero_str w) (keyOf_str1 f (size_max hf))
      rw [e0]
      exact this
    · rw [e0]
      show (0 : Nat) ≤ maxLen
      exact Nat.zero_le _
  · exact ⟨some b0, hb.cell (i := 0) rfl, (h0.look f (size_max hf)).1, (h0.look f (size_max hf)).2⟩

set_option maxRecDepth 100000 in
theorem dread_calls (d : Nat) (D : Dk) (f : ByteArray) (w : World) (hD : DiskAt w d D) (hf : f.size ≤ 1000000) : Calls Tryz.prog 51 #[.pointer (some ⟨d, 0, none⟩), .string f] w fun E w' => E = .returned (readV D f) ∧ w = w' := by
  obtain ⟨r, c0, hl, _⟩ := hD.look f hf
  unfold readV
  clear hD hf
  cases hg : getF D.now f with
  | none =>
    rw [hg] at hl
    simp only [Option.getD_none, Option.isSome_none] at hl
    clear hg
    go_enter Tryz.func51, Tryz.ntmps51
    go_wp2_with fail
    go_ret2
    exact ⟨rfl, rfl⟩
  | some s =>
    rw [hg] at hl
    simp only [Option.getD_some, Option.isSome_some] at hl
    clear hg
    go_enter Tryz.func51, Tryz.ntmps51
    go_wp2_with fail
    go_ret2
    exact ⟨rfl, rfl⟩

set_option maxHeartbeats 1000000 in
set_option maxRecDepth 100000 in
theorem dsync_calls (d : Nat) (D : Dk) (f : ByteArray) (w : World) (hD : DiskAt w d D) (hk : DkOk D) (hf : f.size ≤ 1000000) : Calls Tryz.prog 64 #[.pointer (some ⟨d, 0, none⟩), .string f] w (DiskDone d (syncD D f) w) := by
  obtain ⟨r, c0, hl, hmx⟩ := hD.look f hf
  cases hg : getF D.now f with
  | none =>
    rw [hg] at hl
    have F := Lib.hid (show syncD D f = (7, D) by unfold syncD; rw [hg])
    have HD := Lib.hid hD
    simp only [Option.getD_none, Option.isSome_none] at hl
    clear hg hD hk hf hmx
    go_enter Tryz.func64, Tryz.ntmps64
    go_wp2_with fail
    go_ret
    exact ⟨by rw [F.out]; rfl, by rw [F.out]; exact HD.out, Off.refl _ _⟩
  | some s =>
    rw [hg] at hl hmx
    simp only [Option.getD_some, Option.isSome_some] at hl hmx
    cases hp : powerD D with
    | false =>
      have F := Lib.hid (show syncD D f = (14, D) by unfold syncD; rw [hg]; exact if_pos hp)
      have C := Lib.hid (does_no d D w hD hp)
      have HD := Lib.hid hD
      clear hg hD hk hf hmx hp
      go_enter Tryz.func64, Tryz.ntmps64
      go_wp2_with fail
      refine C.out.mono ?_
      rintro E w1 ⟨rfl, rfl⟩
      go_wp2_with fail
      go_ret
      exact ⟨by rw [F.out]; rfl, by rw [F.out]; exact HD.out, Off.refl _ _⟩
    | true =>
      have F := Lib.hid (show syncD D f = (0, { stepD D with safe := putF D.safe f s }) by unfold syncD; rw [hg]; exact if_neg (by rw [hp]; decide))
      have C := Lib.hid (does_yes d D w hD hk hp)
      have HK := Lib.hid hk.slen
      have HF := Lib.hid hf
      have HM := Lib.hid hmx
      clear hg hD hk hf hmx hp
      go_enter Tryz.func64, Tryz.ntmps64
      go_wp2_with fail
      refine C.out.mono ?_
      rintro E w1 ⟨rfl, b0, b1, hR, hO⟩
      have c1 := hR.1.cell (i := 1) rfl
      obtain ⟨W2, hrun, hM2, ht⟩ := hR.2.2.2.store f s (size_max HF.out) HM.out (by have := HK.out; show D.safe.length < maxLen; unfold maxLen; omega)
      have HR2 := Lib.hid (hR.safe ht hM2)
      have HO := Lib.hid hO
      clear hR hM2 ht hO C c0 hl
      go_wp2_with fail
      go_ret
      exact ⟨by rw [F.out]; rfl, by rw [F.out]; exact HR2.out.1.disk, HO.out.trans HR2.out.2⟩

set_option maxHeartbeats 1000000 in
set_option maxRecDepth 100000 in
theorem dremove_calls (d : Nat) (D : Dk) (f : ByteArray) (w : World) (hD : DiskAt w d D) (hk : DkOk D) (hf : f.size ≤ 1000000) : Calls Tryz.prog 43 #[.pointer (some ⟨d, 0, none⟩), .string f] w (DiskDone d (removeD D f) w) := by
  obtain ⟨r, c0, hl, hmx⟩ := hD.look f hf
  cases hg : getF D.now f with
  | none =>
    rw [hg] at hl
    have F := Lib.hid (show removeD D f = (7, D) by unfold removeD; rw [hg])
    have HD := Lib.hid hD
    simp only [Option.getD_none, Option.isSome_none] at hl
    clear hg hD hk hf hmx
    go_enter Tryz.func43, Tryz.ntmps43
    go_wp2_with fail
    go_ret
    exact ⟨by rw [F.out]; rfl, by rw [F.out]; exact HD.out, Off.refl _ _⟩
  | some s =>
    rw [hg] at hl hmx
    simp only [Option.getD_some, Option.isSome_some] at hl hmx
    cases hp : powerD D with
    | false =>
      have F := Lib.hid (show removeD D f = (14, D) by unfold removeD; rw [hg]; exact if_pos hp)
      have C := Lib.hid (does_no d D w hD hp)
      have HD := Lib.hid hD
      clear hg hD hk hf hmx hp
      go_enter Tryz.func43, Tryz.ntmps43
      go_wp2_with fail
      refine C.out.mono ?_
      rintro E w1 ⟨rfl, rfl⟩
      go_wp2_with fail
      go_ret
      exact ⟨by rw [F.out]; rfl, by rw [F.out]; exact HD.out, Off.refl _ _⟩
    | true =>
      have F := Lib.hid (show removeD D f = (0, { stepD D with now := delF D.now f, safe := delF D.safe f }) by unfold removeD; rw [hg]; exact if_neg (by rw [hp]; decide))
      have C := Lib.hid (does_yes d D w hD hk hp)
      have HF := Lib.hid hf
      clear hg hD hk hf hmx hp
      go_enter Tryz.func43, Tryz.ntmps43
      go_wp2_with fail
      refine C.out.mono ?_
      rintro E w1 ⟨rfl, b0, b1, hR, hO⟩
      have d0 := hR.1.cell (i := 0) rfl
      obtain ⟨W2, hrun, hM2, ht⟩ := hR.2.2.1.drop f (size_max HF.out) 0
      have hR2 := hR.now ht hM2
      have e1 := hR2.1.1.cell (i := 1) rfl
      obtain ⟨W3, hrun3, hM3, ht3⟩ := hR2.1.2.2.2.drop f (size_max HF.out) 0
      have HR3 := Lib.hid (hR2.1.safe ht3 hM3)
      have HO := Lib.hid (hO.trans hR2.2)
      clear hR hM2 ht hO C c0 hl hR2 hM3 ht3
      go_wp2_with fail
      go_ret
      exact ⟨by rw [F.out]; rfl, by rw [F.out]; exact HR3.out.1.disk, HO.out.trans HR3.out.2⟩
end Go.Proofs.YtofogjfemlhffaaGreatDoor

namespace Go.Proofs.YtofogjfemlhffaaGreatDoor
open Go Go.RowKit Go.Maps

/-- 'm[k]' -/
theorem MapAt.look1 {W : World} {b : Nat} {M : Fm} (h : MapAt W b M) (k : ByteArray) (hk : k.size ≤ maxLen) : (Instr.lookup 29 (.map (some b)) (.string k) false).run Tryz.prog W = .ok (.string ((getF M k).getD ⟨#[]⟩)) W := by
  obtain ⟨v, ps, hrun, hR⟩ := h.1.lookup str_key Tryz.underlying29 (zero_str W) (plainElem_string Tryz.underlying9 (s := ⟨#[]⟩) (by unfold maxLen; decide)) (keyOf_str1 k hk)
  rw [datF_at] at hR
  obtain ⟨s, rfl, hz, hs⟩ := plainElem_string_inv Tryz.underlying9 hR
  have e : s = (getF M k).getD ⟨#[]⟩ := by
    cases hg : getF M k with
    | none =>
      rw [hg] at hz
      exact data_inj (lit_str (congrArg Prod.fst hz)).symm
    | some v =>
      rw [hg] at hz
      exact data_inj (lit_str (congrArg Prod.fst hz)).symm
  rw [← e]
  exact hrun
theorem below_turned {n b : Nat} {w0 W W' : World} (h : Below n w0 W) (hn : n ≤ b) (hW : n ≤ W.heap.size) (ht : W.mapTurned W' b) : Below n w0 W' :=
  h.grown ht.grown hW fun g e => by injection e with e; omega

/-- ranging over a map of texts under way: what is still to come -/
def RangesF (W : World) (b r : Nat) (M : Fm) (left : Lit → Bool) (cnt : Nat) : Prop := W.ranges Tryz.prog 9 (plainElem Tryz.prog 9) b r M.length (datF M) left cnt ∧ RisF M
theorem RangesF.map {W : World} {b r : Nat} {M : Fm} {left : Lit → Bool} {cnt : Nat} (h : RangesF W b r M left cnt) : MapAt W b M := ⟨h.1.owns, h.2⟩
theorem RangesF.kept {W W' : World} {b r : Nat} {M : Fm} {left : Lit → Bool} {cnt : Nat} {row : Option Nat} (h : RangesF W b r M left cnt) (hg : W.grownBy W' row) (hb : some b ≠ row) (hr : some r ≠ row) : RangesF W' b r M left cnt := ⟨h.1.kept hg hb hr, h.2⟩
section
variable {ops : Array Oper} {rest : List Oper} {o : Oper} {a : Act} {Q : Exit → Act → World → Prop}
theorem wpList_rangeF (w : World) (hg : o.guard = none) (m : Operand) (hop : o.op = Op.range 29 m) (b : Nat) (M : Fm) (hm : a.eval m = .map (some b)) (h : MapAt w b M)
    (hK : ∀ w', RangesF w' b w.heap.size M (Maps.has (datF M)) M.length → w.grownBy w' none → w'.heap.size = w.heap.size + 1 → wpList Tryz.prog ops Q rest (a.put o.dst (.pointer (some ⟨w.heap.size, 0, none⟩))) w') :
    wpList Tryz.prog ops Q (o :: rest) a w :=
  wpList_range_own w hg m 29 hop 9 9 str_key Tryz.underlying29 _ b M.length (datF M) hm h.1 fun w' h1 h2 h3 => hK w' ⟨by rw [datF_size] at h1; exact h1, h.2⟩ h2 h3
theorem wpList_nextF (w : World) (hg : o.guard = none) (it : Operand) (hop : o.op = Op.next it false) (b r : Nat) (M : Fm) (left : Lit → Bool) (cnt : Nat) (hit : a.eval it = .pointer (some ⟨r, 0, none⟩)) (h : RangesF w b r M left cnt)
    (hDone : cnt = 0 → (∀ kl, left kl = false) → wpList Tryz.prog ops Q rest (a.put o.dst (.tuple #[.bool false])) w)
    (hMore : ∀ (x c : ByteArray) (w' : World) (cnt' : Nat), getF M x = some c → left (.string x.data.toList) = true → RangesF w' b r M (fun z => left z && !z.sameKey (.string x.data.toList)) cnt' → cnt' < cnt →
      w.grownBy w' (some r) → w'.heap.size = w.heap.size → (Instr.entry (.pointer (some ⟨r, 0, none⟩))).run Tryz.prog w' = .ok (.tuple #[.string x, .string c]) w' → wpList Tryz.prog ops Q rest (a.put o.dst (.tuple #[.bool true, .string x, .string c])) w') :
    wpList Tryz.prog ops Q (o :: rest) a w := by
  refine wpList_next_ranges w hg it hop 9 str_key (plainElem Tryz.prog 9) (fun s : ByteArray => Value.string s) (fun s : ByteArray => Value.string s) (fun key kl hk => ?_) (fun v y hv => ?_) b r M.length (datF M) left cnt hit h.1 hDone fun x c kl y w' cnt' hkey hl hv hat hr hlt hg2 hs hen => ?_
  · obtain ⟨x, hx, _⟩ := Maps.keyOf_str Tryz.underlying9 hk
    exact ⟨_, hx⟩
  · obtain ⟨s, rfl, _⟩ := plainElem_string_inv Tryz.underlying9 hv
    exact ⟨s, rfl⟩
  · obtain ⟨x', hx, rfl, _⟩ := Maps.keyOf_str Tryz.underlying9 hkey
    obtain ⟨c', hc, rfl, _⟩ := plainElem_string_inv Tryz.underlying9 hv
    have ex : x.data.toList = x' := by rw [Value.string.inj hx]
    obtain rfl : c = c' := Value.string.inj hc
    subst ex
    refine hMore x c w' cnt' ?_ hl ⟨hr, h.2⟩ hlt hg2 hs hen
    have h1 := hat (.lit (.int .i64 0))
    rw [datF_at] at h1
    cases hg' : getF M x with
    | none => rw [hg'] at h1; cases h1
    | some v =>
      rw [hg'] at h1
      exact congrArg some (data_inj (lit_str h1))
end
end Go.Proofs.YtofogjfemlhffaaGreatDoor

namespace Go.Proofs.YtofogjfemlhffaaGreatDoor
open Go Go.RowKit Go.Maps

set_option maxHeartbeats 1000000 in
set_option maxRecDepth 100000 in
theorem dmove_calls (d : Nat) (D : Dk) (f g : ByteArray) (w : World) (hD : DiskAt w d D) (hk : DkOk D) (hf : f.size ≤ 1000000) (hg1 : g.size ≤ 1000000) : Calls Tryz.prog 62 #[.pointer (some ⟨d, 0, none⟩), .string f, .string g] w (DiskDone d (moveD D f g) w) := by
  obtain ⟨r, c0, hl, hmx⟩ := hD.look f hf
  have CN := Lib.hid (fun W => dname_calls g W)
  cases hn : nameD g with
  | false =>
    rw [hn] at CN
    have F := Lib.hid (show moveD D f g = (1, D) by unfold moveD; exact if_pos hn)
    have HD := Lib.hid hD
    obtain ⟨x, hx⟩ : ∃ x, (getF D.now f).getD ⟨#[]⟩ = x := ⟨_, rfl⟩
    obtain ⟨y, hy⟩ : ∃ y, (getF D.now f).isSome = y := ⟨_, rfl⟩
    rw [hx, hy] at hl
    clear hD hk hf hmx hn hg1 hx hy
    go_enter Tryz.func62, Tryz.ntmps62
    go_wp2_with fail
    refine (CN.out _).mono ?_
    rintro E w1 ⟨rfl, rfl⟩
    go_wp2_with fail
    go_ret
    exact ⟨by rw [F.out]; rfl, by rw [F.out]; exact HD.out, Off.refl _ _⟩
  | true =>
  rw [hn] at CN
  cases hg : getF D.now f with
  | none =>
    rw [hg] at hl
    have F := Lib.hid (show moveD D f g = (7, D) by unfold moveD; rw [if_neg (by rw [hn]; decide), hg])
    have HD := Lib.hid hD
    simp only [Option.getD_none, Option.isSome_none] at hl
    clear hg hD hk hf hmx hn hg1
    go_enter Tryz.func62, Tryz.ntmps62
    go_wp2_with fail
    refine (CN.out _).mono ?_
    rintro E w1 ⟨rfl, rfl⟩
    go_wp2_with fail
    go_ret
    exact ⟨by rw [F.out]; rfl, by rw [F.out]; exact HD.out, Off.refl _ _⟩
  | some s =>
    rw [hg] at hl hmx
    simp only [Option.getD_some, Option.isSome_some] at hl hmx
    cases hp : powerD D with
    | false =>
      have F := Lib.hid (show moveD D f g = (14, D) by unfold moveD; rw [if_neg (by rw [hn]; decide), hg]; exact if_pos hp)
      have C := Lib.hid (does_no d D w hD hp)
      have HD := Lib.hid hD
      clear hg hD hk hf hmx hp hn hg1
      go_enter Tryz.func62, Tryz.ntmps62
      go_wp2_with fail
      refine (CN.out _).mono ?_
      rintro E w1 ⟨rfl, rfl⟩
      go_wp2_with fail
      refine C.out.mono ?_
      rintro E w1 ⟨rfl, rfl⟩
      go_wp2_with fail
      go_ret
      exact ⟨by rw [F.out]; rfl, by rw [F.out]; exact HD.out, Off.refl _ _⟩
    | true =>
      have F := Lib.hid (show moveD D f g = (0, { stepD D with now := putF (delF D.now f) g s, safe := movedS D.safe f g }) by unfold moveD; rw [if_neg (by rw [hn]; decide), hg]; exact if_neg (by rw [hp]; decide))
      have C := Lib.hid (does_yes d D w hD hk hp)
      have HF := Lib.hid hf
      have HG := Lib.hid hg1
      have HL := Lib.hid (Nat.le_trans (len_del_le D.now f) hk.len)
      have HM := Lib.hid hmx
      have HSL := Lib.hid hk.slen
      clear hg hD hk hf hmx hp hn hg1
      go_enter Tryz.func62, Tryz.ntmps62
      go_wp2_with fail
      refine (CN.out _).mono ?_
      rintro E w1 ⟨rfl, rfl⟩
      go_wp2_with fail
      refine C.out.mono ?_
      rintro E w1 ⟨rfl, b0, b1, hR, hO⟩
      have d0 := hR.1.cell (i := 0) rfl
      obtain ⟨W2, hrun2, hM2, ht2⟩ := hR.2.2.1.drop f (size_max HF.out) 0
      have hR2 := hR.now ht2 hM2
      have e0 := hR2.1.1.cell (i := 0) rfl
      obtain ⟨W3, hrun3, hM3, ht3⟩ := hR2.1.2.2.1.store g s (size_max HG.out) HM.out (by have := HL.out; show (delF D.now f).length < maxLen; unfold maxLen; omega)
      have hR3 := hR2.1.now ht3 hM3
      have f1 := hR3.1.1.cell (i := 1) rfl
      have hL4 := hR3.1.2.2.2.look f (size_max HF.out)
      obtain ⟨W5, hrun5, hM5, ht5⟩ := hR3.1.2.2.2.drop f (size_max HF.out) 0
      have hR5 := hR3.1.safe ht5 hM5
      have g1 := hR5.1.1.cell (i := 1) rfl
      obtain ⟨W6, hrun6, hM6, ht6⟩ := hR5.1.2.2.2.drop g (size_max HG.out) 0
      have hR6 := hR5.1.safe ht6 hM6
      have h1 := hR6.1.1.cell (i := 1) rfl
      have HO := Lib.hid ((((hO.trans hR2.2).trans hR3.2).trans hR5.2).trans hR6.2)
      have HR6 := Lib.hid hR6.1
      clear hR hM2 ht2 hO C c0 hl hR2 hM3 ht3 hR3 hM5 ht5 hR5 hM6 ht6 hR6
      obtain ⟨hlk, hlm⟩ := hL4
      have hSS : (stepD D).safe = D.safe := rfl
      cases hs : getF D.safe f with
      | none =>
        rw [show getF ({ (stepD D) with now := putF (delF D.now f) g s } : Dk).safe f = none from hs] at hlk
        simp only [Option.getD_none, Option.isSome_none] at hlk
        have FS := Lib.hid (show movedS D.safe f g = delF (delF D.safe f) g by unfold movedS; rw [hs])
        clear hs hlm
        go_wp2_with fail
        go_ret
        exact ⟨by rw [F.out]; rfl, by rw [F.out, FS.out]; exact HR6.out.disk, HO.out⟩
      | some old =>
        rw [show getF ({ (stepD D) with now := putF (delF D.now f) g s } : Dk).safe f = some old from hs] at hlk hlm
        simp only [Option.getD_some, Option.isSome_some] at hlk hlm
        have FS := Lib.hid (show movedS D.safe f g = putF (delF (delF D.safe f) g) g old by unfold movedS; rw [hs])
        obtain ⟨W7, hrun7, hM7, ht7⟩ := HR6.out.2.2.2.store g old (size_max HG.out) hlm (by
          have h1 := len_del_le (delF D.safe f) g
          have h2 := len_del_le D.safe f
          have h3 := HSL.out
          show (delF (delF D.safe f) g).length < maxLen
          unfold maxLen
          omega)
        have HR7 := Lib.hid (HR6.out.safe ht7 hM7)
        clear hs hlm hM7 ht7
        go_wp2_with fail
        go_ret
        exact ⟨by rw [F.out]; rfl, by rw [F.out, FS.out]; exact HR7.out.1.disk, HO.out.trans HR7.out.2⟩
end Go.Proofs.YtofogjfemlhffaaGreatDoor
