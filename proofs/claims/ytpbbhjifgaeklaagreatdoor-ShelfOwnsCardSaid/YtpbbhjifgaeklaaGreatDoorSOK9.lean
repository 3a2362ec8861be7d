/- A disk in memory: what there is now, what is safe; what a call on it leaves as it was. · Errors taken apart: api.Tell, plain.Place, and the statements' bare, of no error and of an Errno. · The disk's calls: Read, Write, Sync, Move, Remove: what they answer, and what becomes of the disk. -/
import Derived.Test.YtpbbhjifgaeklaaGreatDoorSOK2
import Derived.Test.YtpbbhjifgaeklaaGreatDoorSOK8
import Derived.LaidEql
import Derived.Stop.Asserts
import Derived.RowKitTokens
import Derived.Test.YtpbbhjifgaeklaaGreatDoorSOK6
import Derived.Deep.QuietTactic
import Derived.BigQuiet
import Derived.Deep.DeepCutAuto
namespace Go.Proofs.YtpbbhjifgaeklaaGreatDoor
open Go Go.RowKit Go.Maps Go.ChangeMaps Go.WideShapes Go.WideMaps

/-- a map of texts in memory -/
def MapAt (W : World) (b : Nat) (M : Fm) : Prop := W.ownsMap Tryz.prog 9 (plainElem Tryz.prog 9) b M.length (datF M) ∧ RisF M

theorem str_key : Keyed Tryz.prog 9 := string_keyed Tryz.underlying9
theorem zero_str (w : World) : (zeroValue 9).run Tryz.prog w = .ok (.string ⟨#[]⟩) w := by kernel_rfl
theorem keyOf_str1 (s : ByteArray) (h : s.size ≤ maxLen) : keyOf Tryz.prog 9 (.string s) = some (.string s.data.toList) := by
  have := keyOf_string_mk (P := Tryz.prog) (k := 9) (s := s) Tryz.underlying9 h
  exact this
theorem owns_tight {W : World} {b n : Nat} {M : Fm} (h : W.ownsMap Tryz.prog 9 (plainElem Tryz.prog 9) b n (datF M)) : W.ownsMap Tryz.prog 9 (plainElem Tryz.prog 9) b M.length (datF M) := by
  obtain ⟨es, clock, hb, F, hn, hD⟩ := h
  refine ⟨es, clock, hb, F, ?_, hD⟩
  have := congrArg Maps.size hD
  rw [datF_size] at this
  have e : Maps.size (DataW.map ((es.toList.map (WideElems.rg Tryz.prog 9 (plainElem Tryz.prog 9))).foldr DataW.insert []) : DataW Unit) = es.size := by simp [Maps.size, length_sorted]
  rw [e] at this
  omega

theorem MapAt.lt {W : World} {b : Nat} {M : Fm} (h : MapAt W b M) : b < W.heap.size := h.1.lt
theorem MapAt.keep {W W' : World} {b : Nat} {M : Fm} (h : MapAt W b M) (hb : W'.heap[b]? = W.heap[b]?) : MapAt W' b M := by
  obtain ⟨⟨es, clock, hm, r⟩, hr⟩ := h
  exact ⟨⟨es, clock, hb.trans hm, r⟩, hr⟩
theorem mapAt_new (w : World) : MapAt (w.alloc (.map #[] 0)) w.heap.size [] := ⟨World.ownsMap_made w _ _ _, ris_nil⟩

theorem lit_str {a b : List UInt8} (h : (DataW.lit (.string a) : DataW Unit) = .lit (.string b)) : a = b := by
  cases h; rfl
/-- 'v, ok := m[k]' -/
theorem MapAt.look {W : World} {b : Nat} {M : Fm} (h : MapAt W b M) (k : ByteArray) (hk : k.size ≤ maxLen) : (Instr.lookup 56 (.map (some b)) (.string k) true).run Tryz.prog W = .ok (.tuple #[.string ((getF M k).getD ⟨#[]⟩), .bool (getF M k).isSome]) W ∧ ((getF M k).getD ⟨#[]⟩).size ≤ maxLen := by
  obtain ⟨v, ps, hrun, hR⟩ := h.1.look_ok str_key Tryz.underlying56 (zero_str W) (plainElem_string Tryz.underlying9 (s := ⟨#[]⟩) (by unfold maxLen; decide)) (keyOf_str1 k hk)
  rw [datF_has] at hrun
  rw [datF_at] at hR
  obtain ⟨s, rfl, hz, hs⟩ := plainElem_string_inv Tryz.underlying9 hR
  have e : s = (getF M k).getD ⟨#[]⟩ := by
    cases hg : getF M k with
    | none =>
      rw [hg] at hz
      exact data_inj (lit_str (congrArg Prod.fst hz)).symm
    | some v =>
      rw [hg] at hz
      exact data_inj (lit_str (congrArg Prod.fst hz)).symm
  rw [← e]
  exact ⟨hrun, hs⟩
theorem MapAt.sized {W : World} {b : Nat} {M : Fm} (h : MapAt W b M) (ty : TypeId) : (Builtin.len_ #[56] ty #[.map (some b)]).run Tryz.prog W = .ok (.int .i64 (M.length : Int)) W := by
  have := h.1.len Tryz.underlying56 ty
  rwa [datF_size] at this
/-- w' is w but for the map in block b (and so is what is kept) -/
theorem turned_block {w w' : World} {b i : Nat} (h : w.mapTurned w' b) (hi : i ≠ b) : w'.heap[i]? = w.heap[i]? := by
  have := h.grown
  rcases Nat.lt_or_ge i w.heap.size with hl | hl
  · exact this.block i hl (fun e => hi (by injection e))
  · obtain ⟨es, clock, es', clock', hb, rfl⟩ := h
    exact heap_setBlock_other hb _ hi
theorem turned_size {w w' : World} {b : Nat} (h : w.mapTurned w' b) : w'.heap.size = w.heap.size := by
  obtain ⟨es, clock, es', clock', hb, rfl⟩ := h
  simp [setBlock]
theorem turned_os {w w' : World} {b : Nat} (h : w.mapTurned w' b) : w'.os = w.os ∧ w'.tape = w.tape ∧ w'.output = w.output := ⟨h.grown.os, h.grown.tape, h.grown.output⟩
/-- 'm[k] = v' -/
theorem MapAt.store {W : World} {b : Nat} {M : Fm} (h : MapAt W b M) (k v : ByteArray) (hk : k.size ≤ maxLen) (hv : v.size ≤ maxLen) (hn : M.length < maxLen) : ∃ W', (Instr.mapUpdate 56 (.map (some b)) (.string k) (.string v)).run Tryz.prog W = .ok () W' ∧ MapAt W' b (putF M k v) ∧ W.mapTurned W' b := by
  obtain ⟨W', hrun, ho, ht⟩ := h.1.store str_key Tryz.underlying56 hn (keyOf_str1 k hk) (plainElem_string Tryz.underlying9 hv)
  rw [datF_put] at ho
  exact ⟨W', hrun, ⟨owns_tight ho, ris_put h.2 k v⟩, ht⟩
/-- 'delete(m, k)' -/
theorem MapAt.drop {W : World} {b : Nat} {M : Fm} (h : MapAt W b M) (k : ByteArray) (hk : k.size ≤ maxLen) (ty : TypeId) : ∃ W', (Builtin.delete_ #[56, 9] ty #[.map (some b), .string k]).run Tryz.prog W = .ok (.tuple #[]) W' ∧ MapAt W' b (delF M k) ∧ W.mapTurned W' b := by
  obtain ⟨W', hrun, ho, ht⟩ := h.1.drop str_key Tryz.underlying56 (keyOf_str1 k hk) ty
  rw [datF_del] at ho
  exact ⟨W', hrun, ⟨owns_tight ho, ris_del h.2 k⟩, ht⟩

/-! a disk -/
structure Dk where
  now : Fm
  safe : Fm
  left : Int
  cut : Bool
  most : Int
/-- the disk's own block, and the blocks of its two maps -/
def foot (W : World) (d i : Nat) : Prop := i = d ∨ W.cell? ⟨d, 0, none⟩ = some (.map (some i)) ∨ W.cell? ⟨d, 1, none⟩ = some (.map (some i))
def MapsAt (W : World) (m0 m1 : Value) (D : Dk) : Prop := (m0 = .map none ∧ m1 = .map none ∧ D.now = [] ∧ D.safe = []) ∨ ∃ b0 b1, m0 = .map (some b0) ∧ m1 = .map (some b1) ∧ b0 ≠ b1 ∧ MapAt W b0 D.now ∧ MapAt W b1 D.safe
def DiskAt (W : World) (d : Nat) (D : Dk) : Prop := ∃ m0 m1, Blk 58 W d #[m0, m1, .int .i64 D.left, .bool D.cut, .int .i64 D.most, .bool false] ∧ MapsAt W m0 m1 D

/-- what a call on a disk leaves: all but the disk's own blocks is as it was, and what it takes besides is new -/
structure Off (d : Nat) (w w' : World) : Prop where
  os : w'.os = w.os
  tape : w'.tape = w.tape
  output : w'.output = w.output
  size : w.heap.size ≤ w'.heap.size
  block : ∀ i, i < w.heap.size → ¬ foot w d i → w'.heap[i]? = w.heap[i]?
  foot : ∀ i, foot w' d i → foot w d i ∨ w.heap.size ≤ i
theorem Off.refl (d : Nat) (w : World) : Off d w w := ⟨rfl, rfl, rfl, Nat.le_refl _, fun _ _ _ => rfl, fun _ h => .inl h⟩
theorem Off.trans {d : Nat} {a b c : World} (h : Off d a b) (k : Off d b c) : Off d a c := by
  refine ⟨k.os.trans h.os, k.tape.trans h.tape, k.output.trans h.output, Nat.le_trans h.size k.size, fun i hi hf => ?_, fun i hi => ?_⟩
  · refine (k.block i (Nat.lt_of_lt_of_le hi h.size) fun hb => ?_).trans (h.block i hi hf)
    rcases h.foot i hb with h' | h'
    · exact hf h'
    · omega
  · rcases k.foot i hi with h' | h'
    · exact h.foot i h'
    · exact .inr (Nat.le_trans h.size h')
theorem foot_kept {w w' : World} {d i : Nat} (hb : Below w.heap.size w w') (hd : d < w.heap.size) : foot w' d i ↔ foot w d i := by
  have e : ∀ j, w'.cell? ⟨d, j, none⟩ = w.cell? ⟨d, j, none⟩ := fun j => by
    unfold World.cell?
    rw [show w'.heap[(⟨d, j, none⟩ : Addr).block]? = w.heap[(⟨d, j, none⟩ : Addr).block]? from hb.block d hd]
  unfold foot
  rw [e, e]
theorem Off.of_below {d : Nat} {w w' : World} (hb : Below w.heap.size w w') (hd : d < w.heap.size) : Off d w w' :=
  ⟨hb.os, hb.tape, hb.output, hb.size, fun i hi _ => hb.block i hi, fun _ hi => .inl ((foot_kept hb hd).1 hi)⟩
/-- behind what makes new memory alone -/
theorem Off.step {d : Nat} {a b c : World} (h : Off d a b) (hb : Below b.heap.size b c) (hd : d < b.heap.size) : Off d a c := h.trans (Off.of_below hb hd)
theorem not_foot {d i : Nat} {w w' : World} (h : Off d w w') (hi : i < w.heap.size) (hf : ¬ foot w d i) : ¬ foot w' d i := fun h' => by
  rcases h.foot i h' with h' | h'
  · exact hf h'
  · omega
theorem keptO {d : Nat} {w w' : World} {p : Addr} {v : Value} (h : Off d w w') (hf : ¬ foot w d p.block) (hc : w.cell? p = some v) : w'.cell? p = some v := by
  have := h.block p.block (cell_lt hc) hf
  unfold World.cell? at hc ⊢
  rw [this]; exact hc
/-- all of a disk's blocks lie from n on -/
def Low (n : Nat) (w : World) (d : Nat) : Prop := ∀ i, foot w d i → n ≤ i
theorem Low.go {n d : Nat} {w w' : World} (h : Low n w d) (k : Off d w w') (hn : n ≤ w.heap.size) : Low n w' d := fun i hi => by
  rcases k.foot i hi with h' | h'
  · exact h i h'
  · omega
theorem Off.below {n d : Nat} {w w' : World} (h : Off d w w') (hl : Low n w d) (hn : n ≤ w.heap.size) : Below n w w' :=
  ⟨h.os, h.tape, h.output, h.size, fun i hi => h.block i (by omega) fun hf => by have := hl i hf; omega⟩

theorem DiskAt.lt {W : World} {d : Nat} {D : Dk} (h : DiskAt W d D) : d < W.heap.size := by
  obtain ⟨m0, m1, hb, _⟩ := h
  exact hb.lt
theorem MapsAt.keep {W W' : World} {m0 m1 : Value} {D : Dk} (h : MapsAt W m0 m1 D) (hb : ∀ i, m0 = .map (some i) ∨ m1 = .map (some i) → W'.heap[i]? = W.heap[i]?) : MapsAt W' m0 m1 D := by
  rcases h with h | ⟨b0, b1, rfl, rfl, hne, h0, h1⟩
  · exact .inl h
  · exact .inr ⟨b0, b1, rfl, rfl, hne, h0.keep (hb b0 (.inl rfl)), h1.keep (hb b1 (.inr rfl))⟩
theorem MapsAt.lt {W : World} {m0 m1 : Value} {D : Dk} (h : MapsAt W m0 m1 D) : ∀ i, m0 = .map (some i) ∨ m1 = .map (some i) → i < W.heap.size := by
  rcases h with ⟨rfl, rfl, _⟩ | ⟨b0, b1, rfl, rfl, _, h0, h1⟩
  · rintro i (h | h) <;> cases h
  · rintro i (h | h)
    · injection h with h; injection h with h; subst h; exact h0.lt
    · injection h with h; injection h with h; subst h; exact h1.lt
theorem DiskAt.keep {W W' : World} {d : Nat} {D : Dk} (h : DiskAt W d D) (hb : Below W.heap.size W W') : DiskAt W' d D := by
  obtain ⟨m0, m1, hk, hm⟩ := h
  exact ⟨m0, m1, hk.keep hb, hm.keep fun i hi => hb.block i (hm.lt i hi)⟩
theorem DiskAt.foot_lt {W : World} {d : Nat} {D : Dk} (h : DiskAt W d D) {i : Nat} (hf : foot W d i) : i < W.heap.size := by
  obtain ⟨m0, m1, hk, hm⟩ := h
  rcases hf with rfl | hf | hf
  · exact hk.lt
  · have := (hk.cell (i := 0) rfl).symm.trans hf
    injection this with this
    exact hm.lt i (.inl this)
  · have := (hk.cell (i := 1) rfl).symm.trans hf
    injection this with this
    exact hm.lt i (.inr this)
/-- a disk that lies in new memory is off what lay before -/
theorem new_not_foot {W W' : World} {d i : Nat} {D : Dk} (h : DiskAt W d D) (hb : Below W.heap.size W W') (hi : W.heap.size ≤ i) : ¬ foot W' d i := fun hf => by
  have := h.foot_lt ((foot_kept hb h.lt).1 hf)
  omega
end Go.Proofs.YtpbbhjifgaeklaaGreatDoor

namespace Go.Proofs.YtpbbhjifgaeklaaGreatDoor
open Go.RowKit

/-- errors.errorType is laid -/
def EnvE (w : World) : Prop := w.cell? ⟨2, 0, none⟩ = some (.iface 304 (.agg #[.pointer (some ⟨11, 31, none⟩)]))
theorem EnvE.below {w w' : World} (h : EnvE w) (hb : Below w.heap.size w w') : EnvE w' := kept hb h

/-- an error of the program's: none, or an Errno -/
def errV (n : Int) : Value := if n = 0 then .nilIface else .iface 43 (.int .i64 n)

end Go.Proofs.YtpbbhjifgaeklaaGreatDoor

namespace Go.Proofs.YtpbbhjifgaeklaaGreatDoor
open Go Go.RowKit Go.Maps

/-- a disk's state is one: its numbers are the machine's, its maps rise, what is safe is there -/
structure DkOk (D : Dk) : Prop where
  l0 : 0 ≤ D.left
  l1 : D.left ≤ 9223372036854775807
  len : D.now.length ≤ 5000
  ris : RisF D.now
  sris : RisF D.safe
  sub : ∀ k, getF D.safe k ≠ none → getF D.now k ≠ none
theorem DkOk.slen {D : Dk} (h : DkOk D) : D.safe.length ≤ 5000 := Nat.le_trans (len_sub h.sris h.sub) h.len

def Ready (W : World) (d : Nat) (D : Dk) (b0 b1 : Nat) : Prop := Blk 58 W d #[.map (some b0), .map (some b1), .int .i64 D.left, .bool D.cut, .int .i64 D.most, .bool false] ∧ b0 ≠ b1 ∧ MapAt W b0 D.now ∧ MapAt W b1 D.safe
theorem Ready.disk {W : World} {d b0 b1 : Nat} {D : Dk} (h : Ready W d D b0 b1) : DiskAt W d D := ⟨_, _, h.1, .inr ⟨b0, b1, rfl, rfl, h.2.1, h.2.2.1, h.2.2.2⟩⟩
theorem blk_map {T : TypeId} {W : World} {d b : Nat} {cs : Array Value} {M : Fm} (h : Blk T W d cs) (k : MapAt W b M) : d ≠ b := by
  rintro rfl
  obtain ⟨⟨es, clock, hb, _⟩, _⟩ := k
  rw [show W.heap[d]? = _ from h] at hb
  injection hb with hb
  cases hb
theorem Ready.ne {W : World} {d b0 b1 : Nat} {D : Dk} (h : Ready W d D b0 b1) : d ≠ b0 ∧ d ≠ b1 := ⟨blk_map h.1 h.2.2.1, blk_map h.1 h.2.2.2⟩
theorem Ready.foot {W : World} {d b0 b1 i : Nat} {D : Dk} (h : Ready W d D b0 b1) : foot W d i ↔ i = d ∨ i = b0 ∨ i = b1 := by
  unfold Go.Proofs.YtpbbhjifgaeklaaGreatDoor.foot
  rw [h.1.cell (i := 0) rfl, h.1.cell (i := 1) rfl]
  constructor
  · rintro (h | h | h)
    · exact .inl h
    · injection h with h; injection h with h; injection h with h; exact .inr (.inl h.symm)
    · injection h with h; injection h with h; injection h with h; exact .inr (.inr h.symm)
  · rintro (h | h | h)
    · exact .inl h
    · subst h; exact .inr (.inl rfl)
    · subst h; exact .inr (.inr rfl)
theorem Ready.now {W W' : World} {d b0 b1 : Nat} {D : Dk} {M : Fm} (h : Ready W d D b0 b1) (ht : W.mapTurned W' b0) (hm : MapAt W' b0 M) : Ready W' d { D with now := M } b0 b1 ∧ Off d W W' := by
  have hR : Ready W' d { D with now := M } b0 b1 := ⟨(turned_block ht h.ne.1).trans h.1, h.2.1, hm, h.2.2.2.keep (turned_block ht (Ne.symm h.2.1))⟩
  refine ⟨hR, (turned_os ht).1, (turned_os ht).2.1, (turned_os ht).2.2, Nat.le_of_eq (turned_size ht).symm, fun i _ hi => turned_block ht fun e => hi (h.foot.2 (.inr (.inl e))), fun i hi => .inl (h.foot.2 (hR.foot.1 hi))⟩
theorem Ready.safe {W W' : World} {d b0 b1 : Nat} {D : Dk} {M : Fm} (h : Ready W d D b0 b1) (ht : W.mapTurned W' b1) (hm : MapAt W' b1 M) : Ready W' d { D with safe := M } b0 b1 ∧ Off d W W' := by
  have hR : Ready W' d { D with safe := M } b0 b1 := ⟨(turned_block ht h.ne.2).trans h.1, h.2.1, h.2.2.1.keep (turned_block ht h.2.1), hm⟩
  refine ⟨hR, (turned_os ht).1, (turned_os ht).2.1, (turned_os ht).2.2, Nat.le_of_eq (turned_size ht).symm, fun i _ hi => turned_block ht fun e => hi (h.foot.2 (.inr (.inr e))), fun i hi => .inl (h.foot.2 (hR.foot.1 hi))⟩

/-! name, On, does -/
def nameD (s : ByteArray) : Bool := decide (0 < s.size) && decide (s.size ≤ 80)
set_option maxRecDepth 100000 in
theorem dname_calls (s : ByteArray) (w : World) : Calls Tryz.prog 219 #[.string s] w fun E w' => E = .returned (.bool (nameD s)) ∧ w = w' := by
  by_cases h0 : s.size = 0
  · have F := Lib.hid (show nameD s = false by unfold nameD; rw [decide_eq_false (by omega)]; rfl)
    have es := eq_empty s h0
    subst es
    clear h0
    go_enter Tryz.func219, Tryz.ntmps219
    go_wp2
    go_ret
    exact ⟨ret_bool F.out.symm, rfl⟩
  · have hz := isEmpty_false s (by omega)
    by_cases h8 : s.size ≤ 80
    · have F := Lib.hid (show nameD s = true by unfold nameD; rw [decide_eq_true (by omega), decide_eq_true h8]; rfl)
      have h9 : (s.size : Int) ≤ 80 := by omega
      clear h0
      go_enter Tryz.func219, Tryz.ntmps219
      go_wp2
      go_ret
      exact ⟨ret_bool F.out.symm, rfl⟩
    · have F := Lib.hid (show nameD s = false by unfold nameD; rw [decide_eq_false h8, Bool.and_false])
      have h9 : ¬ (s.size : Int) ≤ 80 := by omega
      clear h0
      go_enter Tryz.func219, Tryz.ntmps219
      go_wp2
      go_ret
      exact ⟨ret_bool F.out.symm, rfl⟩

def powerD (D : Dk) : Bool := !D.cut || decide (0 < D.left)
def stepD (D : Dk) : Dk := { D with left := if D.cut then D.left - 1 else D.left }
set_option maxRecDepth 100000 in
theorem on_calls (d : Nat) (D : Dk) (w : World) (hD : DiskAt w d D) : Calls Tryz.prog 222 #[.pointer (some ⟨d, 0, none⟩)] w fun E w' => E = .returned (.bool (powerD D)) ∧ w = w' := by
  obtain ⟨m0, m1, hb, _⟩ := hD
  have c2 := hb.cell (i := 2) rfl
  have c3 := hb.cell (i := 3) rfl
  obtain ⟨now, safe, left, cut, most⟩ := D
  simp only at *
  clear hb
  cases cut with
  | false =>
    go_enter Tryz.func222, Tryz.ntmps222
    go_wp2
    go_ret
    exact ⟨rfl, rfl⟩
  | true =>
    by_cases h : 0 < left
    · go_enter Tryz.func222, Tryz.ntmps222
      go_wp2
      go_ret
      exact ⟨ret_bool (by unfold powerD; simp [h]), rfl⟩
    · go_enter Tryz.func222, Tryz.ntmps222
      go_wp2
      go_ret
      exact ⟨ret_bool (by unfold powerD; simp [h]), rfl⟩

set_option maxRecDepth 100000 in
theorem does_no (d : Nat) (D : Dk) (w : World) (hD : DiskAt w d D) (hp : powerD D = false) : Calls Tryz.prog 160 #[.pointer (some ⟨d, 0, none⟩)] w fun E w' => E = .returned (.iface 43 (.int .i64 14)) ∧ w = w' := by
  have C := on_calls d D w hD
  rw [hp] at C
  have C := Lib.hid C
  clear hD hp
  go_enter Tryz.func160, Tryz.ntmps160
  go_wp2_with fail
  refine C.out.mono ?_
  rintro E w1 ⟨rfl, rfl⟩
  go_wp2_with fail
  go_ret
  exact ⟨rfl, rfl⟩

theorem cell_set_other {W : World} {b i j : Nat} {v : Value} (hne : i ≠ j) : (W.setCell ⟨b, j, none⟩ v).cell? ⟨b, i, none⟩ = W.cell? ⟨b, i, none⟩ := by
  unfold World.cell? World.setCell
  dsimp only
  rw [Array.getElem?_modify, if_pos rfl]
  cases W.heap[b]? with
  | none => rfl
  | some o => cases o <;> simp [Ne.symm hne]
theorem off_set2 (d : Nat) (W : World) (v : Value) : Off d W (W.setCell ⟨d, 2, none⟩ v) := by
  refine ⟨rfl, rfl, rfl, by simp [World.setCell], fun i _ hi => ?_, fun i hi => .inl ?_⟩
  · unfold World.setCell
    rw [Array.getElem?_modify, if_neg fun e => hi (.inl e.symm)]
  · unfold foot at hi ⊢
    rwa [cell_set_other (by decide), cell_set_other (by decide)] at hi
theorem Ready.left {W : World} {d b0 b1 : Nat} {D : Dk} (h : Ready W d D b0 b1) (x : Int) : Ready (W.setCell ⟨d, 2, none⟩ (.int .i64 x)) d { D with left := x } b0 b1 := by
  have h2 := h.1.set 2 (.int .i64 x)
  simp only [List.setIfInBounds_toArray] at h2
  refine ⟨h2, h.2.1, h.2.2.1.keep ?_, h.2.2.2.keep ?_⟩
  · unfold World.setCell
    rw [Array.getElem?_modify, if_neg h.ne.1]
  · unfold World.setCell
    rw [Array.getElem?_modify, if_neg h.ne.2]
/-- the maps are made -/
theorem made_ready {W : World} {d : Nat} {l mo : Int} {c : Bool} (h : Blk 58 W d #[.map none, .map none, .int .i64 l, .bool c, .int .i64 mo, .bool false]) :
    Ready (((W.alloc (.map #[] 0)).alloc (.map #[] 0)).setCell ⟨d, 0, none⟩ (.map (some W.heap.size)) |>.setCell ⟨d, 1, none⟩ (.map (some (W.heap.size + 1)))) d ⟨[], [], l, c, mo⟩ W.heap.size (W.heap.size + 1) ∧
    Off d W (((W.alloc (.map #[] 0)).alloc (.map #[] 0)).setCell ⟨d, 0, none⟩ (.map (some W.heap.size)) |>.setCell ⟨d, 1, none⟩ (.map (some (W.heap.size + 1)))) := by
  have hb1 := below_alloc W (.map #[] 0)
  have hb2 := below_alloc (W.alloc (.map #[] 0)) (.map #[] 0)
  have hl := h.lt
  have h1 := (h.keep hb1).keep hb2
  have h2 := h1.set 0 (.map (some W.heap.size))
  simp only [List.setIfInBounds_toArray] at h2
  have h3 := h2.set 1 (.map (some (W.heap.size + 1)))
  simp only [List.setIfInBounds_toArray, List.set_cons_zero, List.set_cons_succ] at h3
  have hs : (W.alloc (.map #[] 0)).heap.size = W.heap.size + 1 := World.size_alloc _ _
  have m0 : MapAt ((W.alloc (.map #[] 0)).alloc (.map #[] 0)) W.heap.size [] := (mapAt_new W).keep (hb2.block _ (by rw [hs]; omega))
  have m1 : MapAt ((W.alloc (.map #[] 0)).alloc (.map #[] 0)) (W.heap.size + 1) [] := by have := mapAt_new (W.alloc (.map #[] 0)); rwa [hs] at this
  have hset : ∀ (X : World) (j : Nat) (v : Value) (i : Nat), i ≠ d → (X.setCell ⟨d, j, none⟩ v).heap[i]? = X.heap[i]? := fun X j v i hi => by
    unfold World.setCell
    rw [Array.getElem?_modify, if_neg (Ne.symm hi)]
  have hR : Ready (((W.alloc (.map #[] 0)).alloc (.map #[] 0)).setCell ⟨d, 0, none⟩ (.map (some W.heap.size)) |>.setCell ⟨d, 1, none⟩ (.map (some (W.heap.size + 1)))) d ⟨[], [], l, c, mo⟩ W.heap.size (W.heap.size + 1) :=
    ⟨h3, by omega, m0.keep ((hset _ _ _ _ (by omega)).trans (hset _ _ _ _ (by omega))), m1.keep ((hset _ _ _ _ (by omega)).trans (hset _ _ _ _ (by omega)))⟩
  refine ⟨hR, rfl, rfl, rfl, by simp [World.setCell]; omega, fun i hi hf => ?_, fun i hi => ?_⟩
  · have hne : i ≠ d := fun e => hf (.inl e)
    rw [hset _ _ _ _ hne, hset _ _ _ _ hne, hb2.block i (by rw [hs]; omega), hb1.block i hi]
  · rcases hR.foot.1 hi with e | e | e
    · exact .inl (.inl e)
    · exact .inr (by omega)
    · exact .inr (by omega)

set_option maxHeartbeats 1000000 in
set_option maxRecDepth 100000 in
theorem does_yes (d : Nat) (D : Dk) (w : World) (hD : DiskAt w d D) (hk : DkOk D) (hp : powerD D = true) : Calls Tryz.prog 160 #[.pointer (some ⟨d, 0, none⟩)] w fun E w' => E = .returned .nilIface ∧ ∃ b0 b1, Ready w' d (stepD D) b0 b1 ∧ Off d w w' := by
  have C := on_calls d D w hD
  rw [hp] at C
  have C := Lib.hid C
  obtain ⟨m0, m1, hb, hm⟩ := hD
  obtain ⟨hl0, hl1, _, _, _, _⟩ := hk
  have fz := hb.frozen
  have c0 := hb.cell (i := 0) rfl
  have c1 := hb.cell (i := 1) rfl
  have c2 := hb.cell (i := 2) rfl
  have c3 := hb.cell (i := 3) rfl
  obtain ⟨now, safe, left, cut, most⟩ := D
  unfold powerD at hp
  simp only at *
  have HB := Lib.hid hb
  have hq0 : ∀ (r : Option Nat) (W : World), (binOp .eql 56 (.map r) (.map none)).run Tryz.prog W = .ok (.bool r.isNone) W := fun r W => run_eql_map_nil W _ _ _ r Tryz.underlying56
  have hmm := @run_makeMap Tryz.prog
  clear hb
  rcases hm with ⟨rfl, rfl, e0, e1⟩ | ⟨b0, b1, rfl, rfl, hne, h0, h1⟩
  · simp only at e0 e1
    subst e0 e1
    cases cut with
    | false =>
      clear hp hl0 hl1
      have B2 := (HB.out.keep (below_alloc w (.map #[] 0))).keep (below_alloc _ (.map #[] 0))
      have fz2 := B2.frozen
      have d0 := B2.cell (i := 0) rfl
      have d1 := B2.cell (i := 1) rfl
      clear B2
      go_enter Tryz.func160, Tryz.ntmps160
      go_wp2_with fail
      refine C.out.mono ?_
      rintro E w1 ⟨rfl, rfl⟩
      go_wp2_with fail
      go_ret
      exact ⟨rfl, _, _, (made_ready HB.out).1, (made_ready HB.out).2⟩
    | true =>
      have hlp : 0 < left := by simpa using hp
      have hl2 : -9223372036854775808 ≤ left - 1 := by omega
      have hl3 : left - 1 ≤ 9223372036854775807 := by omega
      have h2 := HB.out.set 2 (.int .i64 (left - 1))
      simp only [List.setIfInBounds_toArray, List.set_cons_zero, List.set_cons_succ] at h2
      have B2 := (h2.keep (below_alloc _ (.map #[] 0))).keep (below_alloc _ (.map #[] 0))
      have fz2 := B2.frozen
      have d0 := B2.cell (i := 0) rfl
      have d1 := B2.cell (i := 1) rfl
      have H2 := Lib.hid h2
      clear hp B2 h2
      go_enter Tryz.func160, Tryz.ntmps160
      go_wp2_with fail
      refine C.out.mono ?_
      rintro E w1 ⟨rfl, rfl⟩
      go_wp2_with fail
      go_ret
      have hM := made_ready H2.out
      have hs2 : (w.setCell ⟨d, 2, none⟩ (.int .i64 (left - 1))).heap.size = w.heap.size := by simp [World.setCell]
      rw [hs2] at hM
      exact ⟨rfl, _, _, hM.1, (off_set2 d w _).trans hM.2⟩
  · have HR := Lib.hid (show Ready w d ⟨now, safe, left, cut, most⟩ b0 b1 from ⟨HB.out, hne, h0, h1⟩)
    clear h0 h1 hne
    cases cut with
    | false =>
      clear hp hl0 hl1
      go_enter Tryz.func160, Tryz.ntmps160
      go_wp2_with fail
      refine C.out.mono ?_
      rintro E w1 ⟨rfl, rfl⟩
      go_wp2_with fail
      go_ret
      exact ⟨rfl, _, _, HR.out, Off.refl _ _⟩
    | true =>
      have hlp : 0 < left := by simpa using hp
      have hl2 : -9223372036854775808 ≤ left - 1 := by omega
      have hl3 : left - 1 ≤ 9223372036854775807 := by omega
      clear hp
      go_enter Tryz.func160, Tryz.ntmps160
      go_wp2_with fail
      refine C.out.mono ?_
      rintro E w1 ⟨rfl, rfl⟩
      go_wp2_with fail
      go_ret
      exact ⟨rfl, _, _, HR.out.left (left - 1), off_set2 d w _⟩
end Go.Proofs.YtpbbhjifgaeklaaGreatDoor
