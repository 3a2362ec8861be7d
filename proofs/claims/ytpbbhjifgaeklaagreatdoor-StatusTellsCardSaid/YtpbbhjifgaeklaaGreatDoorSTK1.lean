/- The order of versions, and how they are written and read: plain lists of bytes and numbers; no program in sight. · What all walks of this seat lean on: the library's variables that are read (Env), and how a world grows. -/
import Derived.Lib.ItoaNum
import Derived.Lib.CutLaws
import Derived.Lib.LastIndexByte
import Derived.Lib.SlTrimSet
import Derived.Test.YtpbbhjifgaeklaaGreatDoorShelf
import Derived.Shelf.Strings.SlTrimAscii
import Derived.Lib.SmallJoins
import Derived.WalkKit
import Derived.WalkSpells
import Derived.WalkLawsBesides
import Derived.Outline
import Derived.Lib.Hide
import Derived.Handy
import Derived.Lib.ItoaLen
import Derived.Sort.Grow
import Derived.Shelf.GgClosure.Gives
namespace Go.Proofs.YtpbbhjifgaeklaaGreatDoor.VP

/-! comparison functions that are total preorders -/
structure Row {α : Type} (f : α → α → Int) : Prop where
  anti : ∀ a b, f b a = - f a b
  rng : ∀ a b, f a b = -1 ∨ f a b = 0 ∨ f a b = 1
  tr : ∀ a b c, f a b ≤ 0 → f b c ≤ 0 → f a c ≤ 0

/-- equal things are the same against others -/
theorem Row.eq_left {α : Type} {f : α → α → Int} (h : Row f) {a b : α} (c : α) (e : f a b = 0) : f a c = f b c := by
  have h1 := h.anti a b
  have h2 := h.anti a c
  have h3 := h.anti b c
  have r1 := h.rng a c
  have r2 := h.rng b c
  have t1 := h.tr a b c (by omega)
  have t2 := h.tr b a c (by omega)
  have t3 := h.tr c a b
  have t4 := h.tr c b a
  omega

/-- strictly ahead, carried on -/
theorem Row.lt_trans {α : Type} {f : α → α → Int} (h : Row f) {a b c : α} (e1 : f a b = -1) (e2 : f b c = -1) : f a c = -1 := by
  have t1 := h.tr a b c (by omega) (by omega)
  rcases h.rng a c with r | r | r
  · exact r
  · have := h.eq_left b r
    have := h.anti b c
    omega
  · omega

/-! the letters of a version -/
def dig (c : UInt8) : Bool := decide (48 ≤ c.toNat) && decide (c.toNat ≤ 57)
def lett (c : UInt8) : Bool := (decide (97 ≤ c.toNat) && decide (c.toNat ≤ 122)) || (decide (65 ≤ c.toNat) && decide (c.toNat ≤ 90))

/-- a byte's place among others -/
def wtc (c : UInt8) : Int := if dig c then 0 else if c.toNat = 126 then -1 else if lett c then (c.toNat : Int) else (c.toNat : Int) + 256

/-- a number without the noughts ahead -/
def bareN (l : List UInt8) : List UInt8 := (l.takeWhile dig).dropWhile (· == 48)

/-- what a part is for the order -/
def keyF : Nat → List UInt8 → List Int
  | 0, _ => []
  | _ + 1, [] => []
  | n + 1, c :: l =>
    if dig c then 0 :: ((bareN (c :: l)).length : Int) :: ((bareN (c :: l)).map fun x => (x.toNat : Int)) ++ keyF n ((c :: l).dropWhile dig)
    else wtc c :: keyF n l

def key (l : List UInt8) : List Int := keyF l.length l

theorem dropWhile_le {α : Type} (p : α → Bool) (l : List α) : (l.dropWhile p).length ≤ l.length := by
  induction l with
  | nil => simp
  | cons a l ih =>
    rw [List.dropWhile_cons]
    split
    · simp; omega
    · simp

end Go.Proofs.YtpbbhjifgaeklaaGreatDoor.VP
namespace Go.Proofs.YtpbbhjifgaeklaaGreatDoor.VP

/-! a text cut at the first, and at the last, of a byte -/
def cutAt (c : UInt8) : List UInt8 → Option (List UInt8 × List UInt8)
  | [] => none
  | x :: l => if x = c then some ([], l) else (cutAt c l).map fun p => (x :: p.1, p.2)

def cutEnd (c : UInt8) (l : List UInt8) : Option (List UInt8 × List UInt8) := (cutAt c l.reverse).map fun p => (p.2.reverse, p.1.reverse)

theorem cutAt_mid (c : UInt8) (a b : List UInt8) (h : c ∉ a) : cutAt c (a ++ c :: b) = some (a, b) := by
  induction a with
  | nil => simp [cutAt]
  | cons x a ih =>
    simp only [List.mem_cons, not_or] at h
    simp [cutAt, ih h.2, Ne.symm h.1]

theorem cutAt_none (c : UInt8) (l : List UInt8) : cutAt c l = none ↔ c ∉ l := by
  induction l with
  | nil => simp [cutAt]
  | cons x l ih =>
    by_cases hx : x = c
    · subst hx; simp [cutAt]
    · simp [cutAt, hx, ih, Ne.symm hx]

theorem cutAt_some {c : UInt8} {l a b : List UInt8} (h : cutAt c l = some (a, b)) : l = a ++ c :: b ∧ c ∉ a := by
  induction l generalizing a b with
  | nil => simp [cutAt] at h
  | cons x l ih =>
    by_cases hx : x = c
    · subst hx
      simp [cutAt] at h
      obtain ⟨rfl, rfl⟩ := h
      simp
    · simp [cutAt, hx] at h
      obtain ⟨a', h, rfl⟩ := h
      obtain ⟨e, hn⟩ := ih h
      subst e
      simp [Ne.symm hx, hn]

theorem cutEnd_mid (c : UInt8) (a b : List UInt8) (h : c ∉ b) : cutEnd c (a ++ c :: b) = some (a, b) := by
  unfold cutEnd
  rw [List.reverse_append, List.reverse_cons, List.append_assoc, List.singleton_append, cutAt_mid c _ _ (by simpa using h)]
  simp

theorem cutEnd_none (c : UInt8) (l : List UInt8) : cutEnd c l = none ↔ c ∉ l := by
  unfold cutEnd
  rw [Option.map_eq_none_iff, cutAt_none]
  simp

theorem cutEnd_some {c : UInt8} {l a b : List UInt8} (h : cutEnd c l = some (a, b)) : l = a ++ c :: b ∧ c ∉ b := by
  unfold cutEnd at h
  rw [Option.map_eq_some_iff] at h
  obtain ⟨⟨x, y⟩, h, e⟩ := h
  simp only [Prod.mk.injEq] at e
  obtain ⟨rfl, rfl⟩ := e
  obtain ⟨e, hn⟩ := cutAt_some h
  have e' := congrArg List.reverse e
  rw [List.reverse_reverse, List.reverse_append, List.reverse_cons, List.append_assoc, List.singleton_append] at e'
  exact ⟨e', by simpa using hn⟩

/-! numbers -/
def val (l : List UInt8) : Nat := l.foldl (fun n c => n * 10 + (c.toNat - 48)) 0

/-- a text of digits, without a nought ahead, of at most so many -/
def number (most : Nat) (l : List UInt8) : Option Nat :=
  if l = [] ∨ most < l.length ∨ (1 < l.length ∧ l.head? = some 48) then none
  else if l.all dig then some (val l) else none

theorem val_snoc (l : List UInt8) (c : UInt8) : val (l ++ [c]) = val l * 10 + (c.toNat - 48) := by
  unfold val; rw [List.foldl_append]; rfl

theorem val_fold (l : List UInt8) (h : l.all dig = true) (n : Nat) : l.foldl (fun n c => n * 10 + (c.toNat - 48)) n < (n + 1) * 10 ^ l.length := by
  induction l generalizing n with
  | nil => simp
  | cons c l ih =>
    rw [List.all_cons, Bool.and_eq_true] at h
    have hc := h.1
    unfold dig at hc
    simp at hc
    have h1 := ih h.2 (n * 10 + (c.toNat - 48))
    have h2 : (n * 10 + (c.toNat - 48) + 1) * 10 ^ l.length ≤ ((n + 1) * 10) * 10 ^ l.length := Nat.mul_le_mul_right _ (by omega)
    rw [List.foldl_cons, List.length_cons, Nat.pow_succ]
    have h3 : (n + 1) * (10 ^ l.length * 10) = ((n + 1) * 10) * 10 ^ l.length := by rw [Nat.mul_assoc, Nat.mul_comm 10]
    omega

theorem val_lt (l : List UInt8) (h : l.all dig = true) : val l < 10 ^ l.length := by
  have := val_fold l h 0
  unfold val; omega

theorem byte_toNat (k : Nat) (h : k < 10) : (UInt8.ofNat (48 + k)).toNat = 48 + k := by
  rw [UInt8.toNat_ofNat']; omega

theorem val_decDigits (u : Nat) : val (Go.Lib.decDigits u) = u ∧ (Go.Lib.decDigits u).all dig = true ∧ (Go.Lib.decDigits u) ≠ [] ∧ (0 < u → (Go.Lib.decDigits u).head? ≠ some 48) := by
  induction u using Nat.strongRecOn with
  | _ u ih =>
    rw [Go.Lib.decDigits]
    by_cases h : u < 10
    · rw [dif_pos h]
      have := byte_toNat u h
      refine ⟨by simp only [val, List.foldl_cons, List.foldl_nil, this]; omega, ?_, by simp, ?_⟩
      · simp only [List.all_cons, List.all_nil, dig, this, Bool.and_true]
        simp; omega
      · intro h0 e
        simp only [List.head?_cons, Option.some.injEq] at e
        have := congrArg UInt8.toNat e
        rw [byte_toNat u h] at this
        have e48 : (48 : UInt8).toNat = 48 := rfl
        omega
    · rw [dif_neg h]
      obtain ⟨h1, h2, h3, h4⟩ := ih (u / 10) (by omega)
      have := byte_toNat (u % 10) (by omega)
      refine ⟨?_, ?_, by simp, ?_⟩
      · rw [val_snoc, h1, this]; omega
      · rw [List.all_append, h2]
        simp only [List.all_cons, List.all_nil, dig, this, Bool.and_true]
        simp; omega
      · intro _
        have h4' := h4 (by omega)
        cases hd : Go.Lib.decDigits (u / 10) with
        | nil => exact absurd hd h3
        | cons x l => rw [hd] at h4'; simpa using h4'

theorem nDigits_le (k u : Nat) (h : u < 10 ^ (k + 1)) : Go.Lib.nDigits u ≤ k + 1 := by
  induction k generalizing u with
  | zero => rw [Go.Lib.nDigits_small (by simpa using h)]; omega
  | succ k ih =>
    by_cases hu : u < 10
    · rw [Go.Lib.nDigits_small hu]; omega
    · rw [Go.Lib.nDigits_big hu]
      have := ih (u / 10) (by rw [Nat.pow_succ] at h ⊢; omega)
      omega

theorem number_decDigits (u most : Nat) (h : u < 10 ^ most) (hm : 1 ≤ most) : number most (Go.Lib.decDigits u) = some u := by
  obtain ⟨h1, h2, h3, h4⟩ := val_decDigits u
  have hl := Go.Lib.decDigits_length u
  obtain ⟨k, rfl⟩ : ∃ k, most = k + 1 := ⟨most - 1, by omega⟩
  have hn := nDigits_le k u h
  unfold number
  rw [if_neg, if_pos h2, h1]
  rintro (e | e | ⟨e1, e2⟩)
  · exact h3 e
  · omega
  · by_cases hu : 0 < u
    · exact h4 hu e2
    · have : u = 0 := by omega
      subst this
      rw [hl, Go.Lib.nDigits_small (by omega)] at e1
      omega

/-! versions -/
def ok0 (c : UInt8) : Bool := dig c || lett c || c == 46 || c == 43 || c == 126
def ok1 (e : Int) (c : UInt8) : Bool := ok0 c || c == 45 || (decide (0 < e) && c == 58)

def printP (e : Int) (u r : List UInt8) : List UInt8 := (if e ≠ 0 then Go.Lib.itoa e ++ [58] else []) ++ u ++ (if r = [] then [] else 45 :: r)

def startsDig : List UInt8 → Bool
  | [] => false
  | c :: _ => dig c

def rightP (e : Int) (u r : List UInt8) : Bool :=
  decide (0 ≤ e) && decide (e < 1000000000) && startsDig u && u.all (ok1 e) && r.all ok0 && (r != [] || !u.contains 45) && decide ((printP e u r).length ≤ 40)

def checkP (e : Int) (u r : List UInt8) : Option (Int × List UInt8 × List UInt8) := if rightP e u r then some (e, u, r) else none

def restP (e : Int) (l : List UInt8) : Option (Int × List UInt8 × List UInt8) :=
  match cutEnd 45 l with
  | none => checkP e l []
  | some (u, r) => if r = [] then none else checkP e u r

def parseP (l : List UInt8) : Option (Int × List UInt8 × List UInt8) :=
  if 40 < l.length then none else
  match cutAt 58 l with
  | none => restP 0 l
  | some (a, b) => match number 9 a with
    | none => none
    | some n => restP n b

structure RightP (e : Int) (u r : List UInt8) : Prop where
  lo : 0 ≤ e
  hi : e < 1000000000
  st : startsDig u = true
  au : u.all (ok1 e) = true
  ar : r.all ok0 = true
  dash : r ≠ [] ∨ 45 ∉ u
  len : (printP e u r).length ≤ 40

theorem rightP_iff (e : Int) (u r : List UInt8) : rightP e u r = true ↔ RightP e u r := by
  unfold rightP
  constructor
  · intro h
    simp only [Bool.and_eq_true, decide_eq_true_eq, Bool.or_eq_true, bne_iff_ne, Bool.not_eq_true'] at h
    obtain ⟨⟨⟨⟨⟨⟨h1, h2⟩, h3⟩, h4⟩, h5⟩, h6⟩, h7⟩ := h
    exact ⟨h1, h2, h3, h4, h5, h6.imp id (fun h => by simpa using h), h7⟩
  · intro h
    simp only [Bool.and_eq_true, decide_eq_true_eq, Bool.or_eq_true, bne_iff_ne, Bool.not_eq_true']
    exact ⟨⟨⟨⟨⟨⟨h.lo, h.hi⟩, h.st⟩, h.au⟩, h.ar⟩, h.dash.imp id (fun h => by simpa using h)⟩, h.len⟩

end Go.Proofs.YtpbbhjifgaeklaaGreatDoor.VP

namespace Go.Proofs.YtpbbhjifgaeklaaGreatDoor
open Go.RowKit

/-- What the library's functions read of the library's own variables: a number, and the table of powers of ten. -/
def Env (w : World) : Prop := (∃ m, w.cell? ⟨5, 0, none⟩ = some (.int .i64 m)) ∧ Lib.TabIs Tryz.prog w "internal/strconv.uint64pow10" .u64 Lib.pow10Tab

theorem cell_lt {w : World} {a : Addr} {v : Value} (h : w.cell? a = some v) : a.block < w.heap.size := by
  rcases Nat.lt_or_ge a.block w.heap.size with h1 | h1
  · exact h1
  · unfold World.cell? at h
    rw [Array.getElem?_eq_none h1] at h
    cases h

theorem kept {w w1 : World} {p : Addr} {v : Value} (hb : Below w.heap.size w w1) (h : w.cell? p = some v) : w1.cell? p = some v := (hb.cell (cell_lt h)).trans h
theorem below_alloc (w : World) (o : Obj) : Below w.heap.size w (w.alloc o) := (Below.refl _ _).alloc (Nat.le_refl _) o
theorem below_drew (w : World) : Below w.heap.size w w.drew := (Below.refl _ _).drew

theorem box3 {w w1 : World} {x y z : Value} {t : TypeId} (hb : Below (w.alloc (.cells #[x, y, z] t)).heap.size (w.alloc (.cells #[x, y, z] t)) w1) :
    w1.cell? ⟨w.heap.size, 0, none⟩ = some x ∧ w1.cell? ⟨w.heap.size, 1, none⟩ = some y ∧ w1.cell? ⟨w.heap.size, 2, none⟩ = some z :=
  ⟨kept hb (by go_cell), kept hb (by go_cell), kept hb (by go_cell)⟩

theorem Env.below {w w' : World} (h : Env w) (hb : Below w.heap.size w w') : Env w' := by
  obtain ⟨⟨m, hm⟩, ht⟩ := h
  exact ⟨⟨m, (hb.cell (cell_lt hm)).trans hm⟩, Joins.tab_stays (g := 6) (by kernel_rfl) ht hb (Nat.le_refl _)⟩

theorem Env.drew {w : World} (h : Env w) : Env w.drew := h.below ((Below.refl _ _).drew)

/-- one step more -/
theorem step_below {w w1 w2 : World} (h1 : Below w.heap.size w w1) (h2 : Below w1.heap.size w1 w2) : Below w.heap.size w w2 := h1.trans (h2.mono h1.size)

theorem below_drewN (B : Nat) (w : World) (n : Nat) : Below B w (w.drewN n) := ⟨rfl, rfl, rfl, Nat.le_refl _, fun _ _ => rfl⟩

theorem ret_bool {a b : Bool} (h : a = b) : Ending.returned (.bool a) = .returned (.bool b) := by rw [h]

theorem isEmpty_false (s : ByteArray) (h : 0 < s.size) : s.toList.isEmpty = false := by
  rw [Lib.toList_data]
  cases h1 : s.data.toList with
  | nil => have := Lib.size_eq s; rw [h1, List.length_nil] at this; omega
  | cons _ _ => rfl
theorem isEmpty_true (s : ByteArray) (h : s.size = 0) : s.toList.isEmpty = true := by
  rw [Lib.toList_data]
  cases h1 : s.data.toList with
  | nil => rfl
  | cons _ _ => have := Lib.size_eq s; rw [h1, List.length_cons] at this; omega
theorem eq_empty (s : ByteArray) (h : s.size = 0) : s = ⟨#[]⟩ := by
  obtain ⟨⟨l⟩⟩ := s
  have : l = [] := List.eq_nil_of_length_eq_zero h
  subst this; rfl
theorem take_snoc (s : ByteArray) (k : Nat) (h : k < s.size) : s.data.toList.take (k + 1) = s.data.toList.take k ++ [s[k]] := by
  rw [List.take_succ_eq_append_getElem (by simpa using h)]; rfl
theorem drop_cons (s : ByteArray) (k : Nat) (h : k < s.size) : s.data.toList.drop k = s[k] :: s.data.toList.drop (k + 1) := by
  rw [List.drop_eq_getElem_cons (by simpa using h)]; rfl
theorem list_cons (s : ByteArray) (h : 0 < s.size) : s.data.toList = s[0] :: s.data.toList.tail := by
  have := drop_cons s 0 h
  rw [List.drop_zero] at this
  rw [← List.drop_one]
  exact this
theorem size_eq_length (s : ByteArray) : s.size = s.data.toList.length := Lib.size_eq s

theorem mk_data (s : ByteArray) : (⟨s.data.toList.toArray⟩ : ByteArray) = s := by cases s; simp
theorem data_inj {s t : ByteArray} (h : s.data.toList = t.data.toList) : s = t := by rw [← mk_data s, ← mk_data t, h]

/-! the library's calls, said in our words -/
theorem info_set : (Tryz.prog.info? 238).map (fun i => (i.zero, i.size)) = some (some (.agg (Array.replicate 256 (.bool false))), 256) := by kernel_rfl

/-- t is s without what stands ahead of it that is of one kind -/
def Behind (p : UInt8 → Bool) (s t : ByteArray) : Prop := t.data.toList = s.data.toList.dropWhile p

theorem Behind.size {p : UInt8 → Bool} {s t : ByteArray} (h : Behind p s t) : t.size ≤ s.size := by
  have := VP.dropWhile_le p s.data.toList
  rw [size_eq_length, size_eq_length, h]; exact this

def digitsB : ByteArray := ⟨#[48, 49, 50, 51, 52, 53, 54, 55, 56, 57]⟩
end Go.Proofs.YtpbbhjifgaeklaaGreatDoor
