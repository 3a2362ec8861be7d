/- The order of versions, and how they are written and read: plain lists of bytes and numbers; no program in sight. -/
import Derived.Lib.ItoaNum
import Derived.Lib.CutLaws
import Derived.Lib.LastIndexByte
import Derived.Lib.SlTrimSet
namespace Go.Proofs.YtpbbhjifgaeklaaGreatDoor.VP

/-! comparison functions that are total preorders -/
structure Row {α : Type} (f : α → α → Int) : Prop where
  anti : ∀ a b, f b a = - f a b
  rng : ∀ a b, f a b = -1 ∨ f a b = 0 ∨ f a b = 1
  tr : ∀ a b c, f a b ≤ 0 → f b c ≤ 0 → f a c ≤ 0

/-- equal things are the same against others -/
theorem Row.eq_left {α : Type} {f : α → α → Int} (h : Row f) {a b : α} (c : α) (e : f a b = 0) : f a c = f b c := by
  have h1 := h.anti a b
  have h2 := h.anti a c
  have h3 := h.anti b c
  have r1 := h.rng a c
  have r2 := h.rng b c
  have t1 := h.tr a b c (by omega)
  have t2 := h.tr b a c (by omega)
  have t3 := h.tr c a b
  have t4 := h.tr c b a
  omega

/-- strictly ahead, carried on -/
theorem Row.lt_trans {α : Type} {f : α → α → Int} (h : Row f) {a b c : α} (e1 : f a b = -1) (e2 : f b c = -1) : f a c = -1 := by
  have t1 := h.tr a b c (by omega) (by omega)
  rcases h.rng a c with r | r | r
  · exact r
  · have := h.eq_left b r
    have := h.anti b c
    omega
  · omega

/-- of two comparisons, the first that tells -/
def orc (m n : Int) : Int := if m ≠ 0 then m else n

/-- the order of two numbers -/
def cmpI (a b : Int) : Int := if a < b then -1 else if b < a then 1 else 0

/-- lists of numbers, the end is as many noughts -/
def cmpL : List Int → List Int → Int
  | [], [] => 0
  | x :: l, [] => orc (cmpI x 0) (cmpL l [])
  | [], y :: m => orc (cmpI 0 y) (cmpL [] m)
  | x :: l, y :: m => orc (cmpI x y) (cmpL l m)

/-! the letters of a version -/
def dig (c : UInt8) : Bool := decide (48 ≤ c.toNat) && decide (c.toNat ≤ 57)
def lett (c : UInt8) : Bool := (decide (97 ≤ c.toNat) && decide (c.toNat ≤ 122)) || (decide (65 ≤ c.toNat) && decide (c.toNat ≤ 90))

/-- a byte's place among others -/
def wtc (c : UInt8) : Int := if dig c then 0 else if c.toNat = 126 then -1 else if lett c then (c.toNat : Int) else (c.toNat : Int) + 256

/-- a number without the noughts ahead -/
def bareN (l : List UInt8) : List UInt8 := (l.takeWhile dig).dropWhile (· == 48)

/-- what a part is for the order -/
def keyF : Nat → List UInt8 → List Int
  | 0, _ => []
  | _ + 1, [] => []
  | n + 1, c :: l =>
    if dig c then 0 :: ((bareN (c :: l)).length : Int) :: ((bareN (c :: l)).map fun x => (x.toNat : Int)) ++ keyF n ((c :: l).dropWhile dig)
    else wtc c :: keyF n l

def key (l : List UInt8) : List Int := keyF l.length l

theorem dropWhile_le {α : Type} (p : α → Bool) (l : List α) : (l.dropWhile p).length ≤ l.length := by
  induction l with
  | nil => simp
  | cons a l ih =>
    rw [List.dropWhile_cons]
    split
    · simp; omega
    · simp

/-- the order of parts -/
def partC (a b : List UInt8) : Int := cmpL (key a) (key b)

end Go.Proofs.YtpbbhjifgaeklaaGreatDoor.VP
namespace Go.Proofs.YtpbbhjifgaeklaaGreatDoor.VP

/-! a text cut at the first, and at the last, of a byte -/
def cutAt (c : UInt8) : List UInt8 → Option (List UInt8 × List UInt8)
  | [] => none
  | x :: l => if x = c then some ([], l) else (cutAt c l).map fun p => (x :: p.1, p.2)

def cutEnd (c : UInt8) (l : List UInt8) : Option (List UInt8 × List UInt8) := (cutAt c l.reverse).map fun p => (p.2.reverse, p.1.reverse)

theorem cutAt_mid (c : UInt8) (a b : List UInt8) (h : c ∉ a) : cutAt c (a ++ c :: b) = some (a, b) := by
  induction a with
  | nil => simp [cutAt]
  | cons x a ih =>
    simp only [List.mem_cons, not_or] at h
    simp [cutAt, ih h.2, Ne.symm h.1]

theorem cutAt_none (c : UInt8) (l : List UInt8) : cutAt c l = none ↔ c ∉ l := by
  induction l with
  | nil => simp [cutAt]
  | cons x l ih =>
    by_cases hx : x = c
    · subst hx; simp [cutAt]
    · simp [cutAt, hx, ih, Ne.symm hx]

theorem cutAt_some {c : UInt8} {l a b : List UInt8} (h : cutAt c l = some (a, b)) : l = a ++ c :: b ∧ c ∉ a := by
  induction l generalizing a b with
  | nil => simp [cutAt] at h
  | cons x l ih =>
    by_cases hx : x = c
    · subst hx
      simp [cutAt] at h
      obtain ⟨rfl, rfl⟩ := h
      simp
    · simp [cutAt, hx] at h
      obtain ⟨a', h, rfl⟩ := h
      obtain ⟨e, hn⟩ := ih h
      subst e
      simp [Ne.symm hx, hn]

theorem cutEnd_mid (c : UInt8) (a b : List UInt8) (h : c ∉ b) : cutEnd c (a ++ c :: b) = some (a, b) := by
  unfold cutEnd
  rw [List.reverse_append, List.reverse_cons, List.append_assoc, List.singleton_append, cutAt_mid c _ _ (by simpa using h)]
  simp

theorem cutEnd_none (c : UInt8) (l : List UInt8) : cutEnd c l = none ↔ c ∉ l := by
  unfold cutEnd
  rw [Option.map_eq_none_iff, cutAt_none]
  simp

theorem cutEnd_some {c : UInt8} {l a b : List UInt8} (h : cutEnd c l = some (a, b)) : l = a ++ c :: b ∧ c ∉ b := by
  unfold cutEnd at h
  rw [Option.map_eq_some_iff] at h
  obtain ⟨⟨x, y⟩, h, e⟩ := h
  simp only [Prod.mk.injEq] at e
  obtain ⟨rfl, rfl⟩ := e
  obtain ⟨e, hn⟩ := cutAt_some h
  have e' := congrArg List.reverse e
  rw [List.reverse_reverse, List.reverse_append, List.reverse_cons, List.append_assoc, List.singleton_append] at e'
  exact ⟨e', by simpa using hn⟩

/-! numbers -/
def val (l : List UInt8) : Nat := l.foldl (fun n c => n * 10 + (c.toNat - 48)) 0

/-- a text of digits, without a nought ahead, of at most so many -/
def number (most : Nat) (l : List UInt8) : Option Nat :=
  if l = [] ∨ most < l.length ∨ (1 < l.length ∧ l.head? = some 48) then none
  else if l.all dig then some (val l) else none

theorem val_snoc (l : List UInt8) (c : UInt8) : val (l ++ [c]) = val l * 10 + (c.toNat - 48) := by
  unfold val; rw [List.foldl_append]; rfl

theorem val_fold (l : List UInt8) (h : l.all dig = true) (n : Nat) : l.foldl (fun n c => n * 10 + (c.toNat - 48)) n < (n + 1) * 10 ^ l.length := by
  induction l generalizing n with
  | nil => simp
  | cons c l ih =>
    rw [List.all_cons, Bool.and_eq_true] at h
    have hc := h.1
    unfold dig at hc
    simp at hc
    have h1 := ih h.2 (n * 10 + (c.toNat - 48))
    have h2 : (n * 10 + (c.toNat - 48) + 1) * 10 ^ l.length ≤ ((n + 1) * 10) * 10 ^ l.length := Nat.mul_le_mul_right _ (by omega)
    rw [List.foldl_cons, List.length_cons, Nat.pow_succ]
    have h3 : (n + 1) * (10 ^ l.length * 10) = ((n + 1) * 10) * 10 ^ l.length := by rw [Nat.mul_assoc, Nat.mul_comm 10]
    omega

theorem val_lt (l : List UInt8) (h : l.all dig = true) : val l < 10 ^ l.length := by
  have := val_fold l h 0
  unfold val; omega

theorem byte_toNat (k : Nat) (h : k < 10) : (UInt8.ofNat (48 + k)).toNat = 48 + k := by
  rw [UInt8.toNat_ofNat']; omega

theorem val_decDigits (u : Nat) : val (Go.Lib.decDigits u) = u ∧ (Go.Lib.decDigits u).all dig = true ∧ (Go.Lib.decDigits u) ≠ [] ∧ (0 < u → (Go.Lib.decDigits u).head? ≠ some 48) := by
  induction u using Nat.strongRecOn with
  | _ u ih =>
    rw [Go.Lib.decDigits]
    by_cases h : u < 10
    · rw [dif_pos h]
      have := byte_toNat u h
      refine ⟨by simp only [val, List.foldl_cons, List.foldl_nil, this]; omega, ?_, by simp, ?_⟩
      · simp only [List.all_cons, List.all_nil, dig, this, Bool.and_true]
        simp; omega
      · intro h0 e
        simp only [List.head?_cons, Option.some.injEq] at e
        have := congrArg UInt8.toNat e
        rw [byte_toNat u h] at this
        have e48 : (48 : UInt8).toNat = 48 := rfl
        omega
    · rw [dif_neg h]
      obtain ⟨h1, h2, h3, h4⟩ := ih (u / 10) (by omega)
      have := byte_toNat (u % 10) (by omega)
      refine ⟨?_, ?_, by simp, ?_⟩
      · rw [val_snoc, h1, this]; omega
      · rw [List.all_append, h2]
        simp only [List.all_cons, List.all_nil, dig, this, Bool.and_true]
        simp; omega
      · intro _
        have h4' := h4 (by omega)
        cases hd : Go.Lib.decDigits (u / 10) with
        | nil => exact absurd hd h3
        | cons x l => rw [hd] at h4'; simpa using h4'

theorem nDigits_le (k u : Nat) (h : u < 10 ^ (k + 1)) : Go.Lib.nDigits u ≤ k + 1 := by
  induction k generalizing u with
  | zero => rw [Go.Lib.nDigits_small (by simpa using h)]; omega
  | succ k ih =>
    by_cases hu : u < 10
    · rw [Go.Lib.nDigits_small hu]; omega
    · rw [Go.Lib.nDigits_big hu]
      have := ih (u / 10) (by rw [Nat.pow_succ] at h ⊢; omega)
      omega

theorem number_decDigits (u most : Nat) (h : u < 10 ^ most) (hm : 1 ≤ most) : number most (Go.Lib.decDigits u) = some u := by
  obtain ⟨h1, h2, h3, h4⟩ := val_decDigits u
  have hl := Go.Lib.decDigits_length u
  obtain ⟨k, rfl⟩ : ∃ k, most = k + 1 := ⟨most - 1, by omega⟩
  have hn := nDigits_le k u h
  unfold number
  rw [if_neg, if_pos h2, h1]
  rintro (e | e | ⟨e1, e2⟩)
  · exact h3 e
  · omega
  · by_cases hu : 0 < u
    · exact h4 hu e2
    · have : u = 0 := by omega
      subst this
      rw [hl, Go.Lib.nDigits_small (by omega)] at e1
      omega

/-! versions -/
def ok0 (c : UInt8) : Bool := dig c || lett c || c == 46 || c == 43 || c == 126
def ok1 (e : Int) (c : UInt8) : Bool := ok0 c || c == 45 || (decide (0 < e) && c == 58)

def printP (e : Int) (u r : List UInt8) : List UInt8 := (if e ≠ 0 then Go.Lib.itoa e ++ [58] else []) ++ u ++ (if r = [] then [] else 45 :: r)

def startsDig : List UInt8 → Bool
  | [] => false
  | c :: _ => dig c

def rightP (e : Int) (u r : List UInt8) : Bool :=
  decide (0 ≤ e) && decide (e < 1000000000) && startsDig u && u.all (ok1 e) && r.all ok0 && (r != [] || !u.contains 45) && decide ((printP e u r).length ≤ 40)

def checkP (e : Int) (u r : List UInt8) : Option (Int × List UInt8 × List UInt8) := if rightP e u r then some (e, u, r) else none

def restP (e : Int) (l : List UInt8) : Option (Int × List UInt8 × List UInt8) :=
  match cutEnd 45 l with
  | none => checkP e l []
  | some (u, r) => if r = [] then none else checkP e u r

def parseP (l : List UInt8) : Option (Int × List UInt8 × List UInt8) :=
  if 40 < l.length then none else
  match cutAt 58 l with
  | none => restP 0 l
  | some (a, b) => match number 9 a with
    | none => none
    | some n => restP n b

theorem ok0_45 : ok0 45 = false := by decide
theorem ok0_58 : ok0 58 = false := by decide
theorem dig_58 : dig 58 = false := by decide

theorem not_mem_of_all {p : UInt8 → Bool} {l : List UInt8} {c : UInt8} (h : l.all p = true) (hc : p c = false) : c ∉ l := by
  intro hm
  have := List.all_eq_true.1 h c hm
  rw [hc] at this; cases this

structure RightP (e : Int) (u r : List UInt8) : Prop where
  lo : 0 ≤ e
  hi : e < 1000000000
  st : startsDig u = true
  au : u.all (ok1 e) = true
  ar : r.all ok0 = true
  dash : r ≠ [] ∨ 45 ∉ u
  len : (printP e u r).length ≤ 40

theorem rightP_iff (e : Int) (u r : List UInt8) : rightP e u r = true ↔ RightP e u r := by
  unfold rightP
  constructor
  · intro h
    simp only [Bool.and_eq_true, decide_eq_true_eq, Bool.or_eq_true, bne_iff_ne, Bool.not_eq_true'] at h
    obtain ⟨⟨⟨⟨⟨⟨h1, h2⟩, h3⟩, h4⟩, h5⟩, h6⟩, h7⟩ := h
    exact ⟨h1, h2, h3, h4, h5, h6.imp id (fun h => by simpa using h), h7⟩
  · intro h
    simp only [Bool.and_eq_true, decide_eq_true_eq, Bool.or_eq_true, bne_iff_ne, Bool.not_eq_true']
    exact ⟨⟨⟨⟨⟨⟨h.lo, h.hi⟩, h.st⟩, h.au⟩, h.ar⟩, h.dash.imp id (fun h => by simpa using h)⟩, h.len⟩

theorem restP_print {e : Int} {u r : List UInt8} (h : RightP e u r) : restP e (u ++ (if r = [] then [] else 45 :: r)) = some (e, u, r) := by
  have hr : rightP e u r = true := (rightP_iff e u r).2 h
  unfold restP
  by_cases h0 : r = []
  · subst h0
    have hd : (45 : UInt8) ∉ u := h.dash.resolve_left (by simp)
    rw [if_pos rfl, List.append_nil, (cutEnd_none 45 u).2 hd]
    simp only [checkP, hr, if_true]
  · rw [if_neg h0, cutEnd_mid 45 u r (not_mem_of_all h.ar ok0_45)]
    simp only [h0, if_false, checkP, hr, if_true]

/-- WHAT A VERSION IS WRITTEN AS IS THAT VERSION. -/
theorem parse_print {e : Int} {u r : List UInt8} (h : rightP e u r = true) : parseP (printP e u r) = some (e, u, r) := by
  have H := (rightP_iff e u r).1 h
  unfold parseP
  rw [if_neg (by have := H.len; omega)]
  have hrest := restP_print H
  by_cases he : e = 0
  · subst he
    have hu : (58 : UInt8) ∉ u := not_mem_of_all H.au (by decide)
    have hr : (58 : UInt8) ∉ r := not_mem_of_all H.ar ok0_58
    have : printP 0 u r = u ++ (if r = [] then [] else 45 :: r) := by simp [printP]
    rw [this, (cutAt_none 58 _).2 (by
      rw [List.mem_append, not_or]
      refine ⟨hu, ?_⟩
      split
      · simp
      · simp [hr])]
    exact hrest
  · have hlo := H.lo
    have hhi := H.hi
    have ei : Go.Lib.itoa e = Go.Lib.decDigits e.toNat := by unfold Go.Lib.itoa; rw [if_neg (by omega)]
    obtain ⟨_, d2, _, _⟩ := val_decDigits e.toNat
    have : printP e u r = Go.Lib.decDigits e.toNat ++ 58 :: (u ++ (if r = [] then [] else 45 :: r)) := by
      unfold printP; rw [if_pos he, ei]; simp
    rw [this, cutAt_mid 58 _ _ (not_mem_of_all d2 dig_58)]
    simp only [number_decDigits e.toNat 9 (by omega) (by omega)]
    have : ((e.toNat : Nat) : Int) = e := by omega
    rw [this]
    exact hrest
end Go.Proofs.YtpbbhjifgaeklaaGreatDoor.VP
