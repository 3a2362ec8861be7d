/- What all walks of this seat lean on: the library's variables that are read (Env), and how a world grows. -/
import Derived.Test.YtlkmmejlnohjhaaDoorShelf
import Derived.Test.YtlkmmejlnohjhaaDoorVersPlain
import Derived.Shelf.Strings.SlTrimAscii
import Derived.Lib.SmallJoins
import Derived.WalkKit
import Derived.WalkSpells
import Derived.WalkLawsBesides
import Derived.Outline
import Derived.Lib.Hide
import Derived.Handy
import Derived.Lib.ItoaLen
import Derived.Sort.Grow
import Derived.Shelf.GgClosure.Gives
namespace Go.Proofs.YtlkmmejlnohjhaaDoor
open Go.RowKit

/-- What the library's functions read of the library's own variables: a number, and the table of powers of ten. -/
def Env (w : World) : Prop := (∃ m, w.cell? ⟨0, 0, none⟩ = some (.int .i64 m)) ∧ Lib.TabIs Tryd.prog w "internal/strconv.uint64pow10" .u64 Lib.pow10Tab

theorem cell_lt {w : World} {a : Addr} {v : Value} (h : w.cell? a = some v) : a.block < w.heap.size := by
  rcases Nat.lt_or_ge a.block w.heap.size with h1 | h1
  · exact h1
  · unfold World.cell? at h
    rw [Array.getElem?_eq_none h1] at h
    cases h

theorem kept {w w1 : World} {p : Addr} {v : Value} (hb : Below w.heap.size w w1) (h : w.cell? p = some v) : w1.cell? p = some v := (hb.cell (cell_lt h)).trans h
theorem below_alloc (w : World) (o : Obj) : Below w.heap.size w (w.alloc o) := (Below.refl _ _).alloc (Nat.le_refl _) o
theorem below_drew (w : World) : Below w.heap.size w w.drew := (Below.refl _ _).drew

theorem box3 {w w1 : World} {x y z : Value} {t : TypeId} (hb : Below (w.alloc (.cells #[x, y, z] t)).heap.size (w.alloc (.cells #[x, y, z] t)) w1) :
    w1.cell? ⟨w.heap.size, 0, none⟩ = some x ∧ w1.cell? ⟨w.heap.size, 1, none⟩ = some y ∧ w1.cell? ⟨w.heap.size, 2, none⟩ = some z :=
  ⟨kept hb (by go_cell), kept hb (by go_cell), kept hb (by go_cell)⟩

theorem Env.below {w w' : World} (h : Env w) (hb : Below w.heap.size w w') : Env w' := by
  obtain ⟨⟨m, hm⟩, ht⟩ := h
  exact ⟨⟨m, (hb.cell (cell_lt hm)).trans hm⟩, Joins.tab_stays (g := 4) (by kernel_rfl) ht hb (Nat.le_refl _)⟩

theorem Env.drew {w : World} (h : Env w) : Env w.drew := h.below ((Below.refl _ _).drew)

/-- one step more -/
theorem step_below {w w1 w2 : World} (h1 : Below w.heap.size w w1) (h2 : Below w1.heap.size w1 w2) : Below w.heap.size w w2 := h1.trans (h2.mono h1.size)

theorem below_drewN (B : Nat) (w : World) (n : Nat) : Below B w (w.drewN n) := ⟨rfl, rfl, rfl, Nat.le_refl _, fun _ _ => rfl⟩

theorem ret_int {k : IntKind} {a b : Int} (h : a = b) : Ending.returned (.int k a) = .returned (.int k b) := by rw [h]
theorem ret_bool {a b : Bool} (h : a = b) : Ending.returned (.bool a) = .returned (.bool b) := by rw [h]

theorem isEmpty_false (s : ByteArray) (h : 0 < s.size) : s.toList.isEmpty = false := by
  rw [Lib.toList_data]
  cases h1 : s.data.toList with
  | nil => have := Lib.size_eq s; rw [h1, List.length_nil] at this; omega
  | cons _ _ => rfl
theorem isEmpty_true (s : ByteArray) (h : s.size = 0) : s.toList.isEmpty = true := by
  rw [Lib.toList_data]
  cases h1 : s.data.toList with
  | nil => rfl
  | cons _ _ => have := Lib.size_eq s; rw [h1, List.length_cons] at this; omega
theorem eq_empty (s : ByteArray) (h : s.size = 0) : s = ⟨#[]⟩ := by
  obtain ⟨⟨l⟩⟩ := s
  have : l = [] := List.eq_nil_of_length_eq_zero h
  subst this; rfl
theorem take_snoc (s : ByteArray) (k : Nat) (h : k < s.size) : s.data.toList.take (k + 1) = s.data.toList.take k ++ [s[k]] := by
  rw [List.take_succ_eq_append_getElem (by simpa using h)]; rfl
theorem drop_cons (s : ByteArray) (k : Nat) (h : k < s.size) : s.data.toList.drop k = s[k] :: s.data.toList.drop (k + 1) := by
  rw [List.drop_eq_getElem_cons (by simpa using h)]; rfl
theorem list_cons (s : ByteArray) (h : 0 < s.size) : s.data.toList = s[0] :: s.data.toList.tail := by
  have := drop_cons s 0 h
  rw [List.drop_zero] at this
  rw [← List.drop_one]
  exact this
theorem size_eq_length (s : ByteArray) : s.size = s.data.toList.length := Lib.size_eq s

/-- two lists of bytes, as strings -/
theorem mk_inj {l m : List UInt8} : (⟨l.toArray⟩ : ByteArray) = ⟨m.toArray⟩ ↔ l = m := by
  constructor
  · intro h
    have := congrArg (fun s : ByteArray => s.data.toList) h
    simpa using this
  · rintro rfl; rfl
theorem mk_data (s : ByteArray) : (⟨s.data.toList.toArray⟩ : ByteArray) = s := by cases s; simp
theorem data_inj {s t : ByteArray} (h : s.data.toList = t.data.toList) : s = t := by rw [← mk_data s, ← mk_data t, h]

/-! the library's calls, said in our words -/
theorem info_set : (Tryd.prog.info? 94).map (fun i => (i.zero, i.size)) = some (some (.agg (Array.replicate 256 (.bool false))), 256) := by kernel_rfl

/-- t is s without what stands ahead of it that is of one kind -/
def Behind (p : UInt8 → Bool) (s t : ByteArray) : Prop := t.data.toList = s.data.toList.dropWhile p

theorem Behind.size {p : UInt8 → Bool} {s t : ByteArray} (h : Behind p s t) : t.size ≤ s.size := by
  have := VP.dropWhile_le p s.data.toList
  rw [size_eq_length, size_eq_length, h]; exact this

def digitsB : ByteArray := ⟨#[48, 49, 50, 51, 52, 53, 54, 55, 56, 57]⟩
theorem digits_contains_fin : ∀ i : Fin 256, digitsB.data.toList.contains (UInt8.ofNat i.val) = VP.dig (UInt8.ofNat i.val) := by decide +kernel
theorem digits_contains (c : UInt8) : digitsB.data.toList.contains c = VP.dig c := by
  have := digits_contains_fin ⟨c.toNat, c.toNat_lt⟩
  simpa using this

theorem call_trimDigits (s : ByteArray) (w : World) : Calls Tryd.prog 71 #[.string s, .string ⟨#[48, 49, 50, 51, 52, 53, 54, 55, 56, 57]⟩] w
    fun e w' => ∃ t : ByteArray, e = .returned (.string t) ∧ Behind VP.dig s t ∧ t.size ≤ s.size ∧ Below w.heap.size w w' :=
  (Any.strings_TrimLeft_laid Tryd.lays161 info_set s digitsB w (by decide) (fun j b h => by
    have : b ∈ digitsB.data.toList := List.mem_of_getElem? h
    have hall : (digitsB.data.toList.all fun b => decide (b.toNat < 128)) = true := by decide
    simpa using List.all_eq_true.1 hall b this)).mono fun e w' ⟨he, hb⟩ => by
      have h : Behind VP.dig s ⟨(Lib.trimLeftS s.data.toList digitsB.data.toList).toArray⟩ := by
        unfold Behind Lib.trimLeftS
        show List.dropWhile _ _ = List.dropWhile _ _
        congr 1
        funext c
        exact digits_contains c
      exact ⟨_, he, h, h.size, hb⟩

theorem call_trimNoughts (s : ByteArray) (w : World) : Calls Tryd.prog 71 #[.string s, .string ⟨#[48]⟩] w
    fun e w' => ∃ t : ByteArray, e = .returned (.string t) ∧ Behind (· == 48) s t ∧ t.size ≤ s.size ∧ Below w.heap.size w w' :=
  (Tryd.strings_TrimLeft_one s 48 (by decide) w).mono fun e w' ⟨he, hw⟩ => by
    have h : Behind (· == 48) s ⟨(Lib.trimLeftB s.data.toList 48).toArray⟩ := by
      unfold Behind Lib.trimLeftB
      rfl
    exact ⟨_, he, h, h.size, by rw [hw]; exact Below.refl _ _⟩

theorem compareInt_eq (x y : Int) : Lib.compareInt x y = VP.cmpI x y := by
  unfold Lib.compareInt VP.cmpI
  rfl
theorem call_cmp (x y : Int) (w : World) : Calls Tryd.prog 37 #[.int .i64 x, .int .i64 y] w fun e w' => e = .returned (.int .i64 (VP.cmpI x y)) ∧ w = w' :=
  (Tryd.cmp_Compare_int x y w).mono fun e w' ⟨he, hw⟩ => ⟨by rw [he, compareInt_eq], hw.symm⟩

theorem compareBytes_eq (a b : List UInt8) : Lib.compareBytes a b = VP.cmpB a b := by
  induction a generalizing b with
  | nil => cases b <;> rfl
  | cons x a ih =>
    cases b with
    | nil => rfl
    | cons y b =>
      unfold Lib.compareBytes VP.cmpB
      rw [ih]
      unfold VP.orc VP.cmpI
      have e1 : (x < y) ↔ ((x.toNat : Int) < y.toNat) := by rw [UInt8.lt_iff_toNat_lt]; omega
      have e2 : (y < x) ↔ ((y.toNat : Int) < x.toNat) := by rw [UInt8.lt_iff_toNat_lt]; omega
      by_cases h1 : x < y
      · rw [if_pos h1, if_pos (e1.1 h1)]; rfl
      · rw [if_neg h1, if_neg (fun h => h1 (e1.2 h))]
        by_cases h2 : y < x
        · rw [if_pos h2, if_pos (e2.1 h2)]; rfl
        · rw [if_neg h2, if_neg (fun h => h2 (e2.2 h))]; rfl
theorem call_scmp (a b : ByteArray) (w : World) : Calls Tryd.prog 72 #[.string a, .string b] w fun e w' => e = .returned (.int .i64 (VP.cmpB a.data.toList b.data.toList)) ∧ w = w' :=
  (Tryd.strings_Compare a b w).mono fun e w' ⟨he, hw⟩ => ⟨by rw [he, compareBytes_eq], hw.symm⟩
end Go.Proofs.YtlkmmejlnohjhaaDoor
