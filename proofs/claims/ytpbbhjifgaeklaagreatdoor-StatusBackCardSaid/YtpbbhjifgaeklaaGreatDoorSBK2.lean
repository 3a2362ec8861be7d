/- What all walks of this seat lean on: the library's variables that are read (Env), and how a world grows. -/
import Derived.Test.YtpbbhjifgaeklaaGreatDoorShelf
import Derived.Test.YtpbbhjifgaeklaaGreatDoorSBK1
import Derived.Shelf.Strings.SlTrimAscii
import Derived.Lib.SmallJoins
import Derived.WalkKit
import Derived.WalkSpells
import Derived.WalkLawsBesides
import Derived.Outline
import Derived.Lib.Hide
import Derived.Handy
import Derived.Lib.ItoaLen
import Derived.Sort.Grow
import Derived.Shelf.GgClosure.Gives
namespace Go.Proofs.YtpbbhjifgaeklaaGreatDoor
open Go.RowKit

/-- What the library's functions read of the library's own variables: a number, and the table of powers of ten. -/
def Env (w : World) : Prop := (∃ m, w.cell? ⟨5, 0, none⟩ = some (.int .i64 m)) ∧ Lib.TabIs Tryz.prog w "internal/strconv.uint64pow10" .u64 Lib.pow10Tab

theorem cell_lt {w : World} {a : Addr} {v : Value} (h : w.cell? a = some v) : a.block < w.heap.size := by
  rcases Nat.lt_or_ge a.block w.heap.size with h1 | h1
  · exact h1
  · unfold World.cell? at h
    rw [Array.getElem?_eq_none h1] at h
    cases h

theorem kept {w w1 : World} {p : Addr} {v : Value} (hb : Below w.heap.size w w1) (h : w.cell? p = some v) : w1.cell? p = some v := (hb.cell (cell_lt h)).trans h
theorem below_alloc (w : World) (o : Obj) : Below w.heap.size w (w.alloc o) := (Below.refl _ _).alloc (Nat.le_refl _) o
theorem below_drew (w : World) : Below w.heap.size w w.drew := (Below.refl _ _).drew

theorem box3 {w w1 : World} {x y z : Value} {t : TypeId} (hb : Below (w.alloc (.cells #[x, y, z] t)).heap.size (w.alloc (.cells #[x, y, z] t)) w1) :
    w1.cell? ⟨w.heap.size, 0, none⟩ = some x ∧ w1.cell? ⟨w.heap.size, 1, none⟩ = some y ∧ w1.cell? ⟨w.heap.size, 2, none⟩ = some z :=
  ⟨kept hb (by go_cell), kept hb (by go_cell), kept hb (by go_cell)⟩

theorem Env.below {w w' : World} (h : Env w) (hb : Below w.heap.size w w') : Env w' := by
  obtain ⟨⟨m, hm⟩, ht⟩ := h
  exact ⟨⟨m, (hb.cell (cell_lt hm)).trans hm⟩, Joins.tab_stays (g := 6) (by kernel_rfl) ht hb (Nat.le_refl _)⟩

theorem Env.drew {w : World} (h : Env w) : Env w.drew := h.below ((Below.refl _ _).drew)

/-- one step more -/
theorem step_below {w w1 w2 : World} (h1 : Below w.heap.size w w1) (h2 : Below w1.heap.size w1 w2) : Below w.heap.size w w2 := h1.trans (h2.mono h1.size)

theorem below_drewN (B : Nat) (w : World) (n : Nat) : Below B w (w.drewN n) := ⟨rfl, rfl, rfl, Nat.le_refl _, fun _ _ => rfl⟩

theorem ret_bool {a b : Bool} (h : a = b) : Ending.returned (.bool a) = .returned (.bool b) := by rw [h]

theorem isEmpty_false (s : ByteArray) (h : 0 < s.size) : s.toList.isEmpty = false := by
  rw [Lib.toList_data]
  cases h1 : s.data.toList with
  | nil => have := Lib.size_eq s; rw [h1, List.length_nil] at this; omega
  | cons _ _ => rfl
theorem isEmpty_true (s : ByteArray) (h : s.size = 0) : s.toList.isEmpty = true := by
  rw [Lib.toList_data]
  cases h1 : s.data.toList with
  | nil => rfl
  | cons _ _ => have := Lib.size_eq s; rw [h1, List.length_cons] at this; omega
theorem eq_empty (s : ByteArray) (h : s.size = 0) : s = ⟨#[]⟩ := by
  obtain ⟨⟨l⟩⟩ := s
  have : l = [] := List.eq_nil_of_length_eq_zero h
  subst this; rfl
theorem take_snoc (s : ByteArray) (k : Nat) (h : k < s.size) : s.data.toList.take (k + 1) = s.data.toList.take k ++ [s[k]] := by
  rw [List.take_succ_eq_append_getElem (by simpa using h)]; rfl
theorem drop_cons (s : ByteArray) (k : Nat) (h : k < s.size) : s.data.toList.drop k = s[k] :: s.data.toList.drop (k + 1) := by
  rw [List.drop_eq_getElem_cons (by simpa using h)]; rfl
theorem list_cons (s : ByteArray) (h : 0 < s.size) : s.data.toList = s[0] :: s.data.toList.tail := by
  have := drop_cons s 0 h
  rw [List.drop_zero] at this
  rw [← List.drop_one]
  exact this
theorem size_eq_length (s : ByteArray) : s.size = s.data.toList.length := Lib.size_eq s

theorem mk_data (s : ByteArray) : (⟨s.data.toList.toArray⟩ : ByteArray) = s := by cases s; simp
theorem data_inj {s t : ByteArray} (h : s.data.toList = t.data.toList) : s = t := by rw [← mk_data s, ← mk_data t, h]

/-! the library's calls, said in our words -/
theorem info_set : (Tryz.prog.info? 238).map (fun i => (i.zero, i.size)) = some (some (.agg (Array.replicate 256 (.bool false))), 256) := by kernel_rfl

/-- t is s without what stands ahead of it that is of one kind -/
def Behind (p : UInt8 → Bool) (s t : ByteArray) : Prop := t.data.toList = s.data.toList.dropWhile p

theorem Behind.size {p : UInt8 → Bool} {s t : ByteArray} (h : Behind p s t) : t.size ≤ s.size := by
  have := VP.dropWhile_le p s.data.toList
  rw [size_eq_length, size_eq_length, h]; exact this

def digitsB : ByteArray := ⟨#[48, 49, 50, 51, 52, 53, 54, 55, 56, 57]⟩
end Go.Proofs.YtpbbhjifgaeklaaGreatDoor
