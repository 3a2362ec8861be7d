/- The order of versions, and how they are written and read: plain lists of bytes and numbers; no program in sight. · What all walks of this seat lean on: the library's variables that are read (Env), and how a world grows. -/
import Derived.Lib.ItoaNum
import Derived.Lib.CutLaws
import Derived.Lib.LastIndexByte
import Derived.Lib.SlTrimSet
import Derived.Test.YtpbbhjifgaeklaaGreatDoorShelf
import Derived.Shelf.Strings.SlTrimAscii
import Derived.Lib.SmallJoins
import Derived.WalkKit
import Derived.WalkSpells
import Derived.WalkLawsBesides
import Derived.Outline
import Derived.Lib.Hide
import Derived.Handy
import Derived.Lib.ItoaLen
import Derived.Sort.Grow
import Derived.Shelf.GgClosure.Gives
namespace Go.Proofs.YtpbbhjifgaeklaaGreatDoor.VP

/-! comparison functions that are total preorders -/
structure Row {α : Type} (f : α → α → Int) : Prop where
  anti : ∀ a b, f b a = - f a b
  rng : ∀ a b, f a b = -1 ∨ f a b = 0 ∨ f a b = 1
  tr : ∀ a b c, f a b ≤ 0 → f b c ≤ 0 → f a c ≤ 0

/-- equal things are the same against others -/
theorem Row.eq_left {α : Type} {f : α → α → Int} (h : Row f) {a b : α} (c : α) (e : f a b = 0) : f a c = f b c := by
  have h1 := h.anti a b
  have h2 := h.anti a c
  have h3 := h.anti b c
  have r1 := h.rng a c
  have r2 := h.rng b c
  have t1 := h.tr a b c (by omega)
  have t2 := h.tr b a c (by omega)
  have t3 := h.tr c a b
  have t4 := h.tr c b a
  omega

theorem Row.eq_right {α : Type} {f : α → α → Int} (h : Row f) {a b : α} (c : α) (e : f a b = 0) : f c a = f c b := by
  have h1 := h.anti a c
  have h2 := h.anti b c
  have := h.eq_left c e
  omega

/-- strictly ahead, carried on -/
theorem Row.lt_trans {α : Type} {f : α → α → Int} (h : Row f) {a b c : α} (e1 : f a b = -1) (e2 : f b c = -1) : f a c = -1 := by
  have t1 := h.tr a b c (by omega) (by omega)
  rcases h.rng a c with r | r | r
  · exact r
  · have := h.eq_left b r
    have := h.anti b c
    omega
  · omega

/-- of two comparisons, the first that tells -/
def orc (m n : Int) : Int := if m ≠ 0 then m else n

theorem Row.lex {α : Type} {f g : α → α → Int} (hf : Row f) (hg : Row g) : Row (fun a b => orc (f a b) (g a b)) where
  anti a b := by
    have h1 := hf.anti a b
    have h2 := hg.anti a b
    unfold orc
    split <;> split <;> omega
  rng a b := by
    have h1 := hf.rng a b
    have h2 := hg.rng a b
    unfold orc
    split <;> omega
  tr a b c := by
    unfold orc
    intro h1 h2
    have t := hf.tr a b c
    have r1 := hf.rng a b
    have r2 := hf.rng b c
    have r3 := hf.rng a c
    by_cases e1 : f a b = 0
    · have := hf.eq_left c e1
      have t' := hg.tr a b c
      by_cases e2 : f b c = 0
      · rw [if_neg (by omega)] at h1 h2
        rw [if_neg (by omega)]
        exact t' h1 h2
      · rw [if_pos (by omega)] at h2 ⊢
        omega
    · rw [if_pos e1] at h1
      by_cases e2 : f b c = 0
      · have := hf.eq_right a e2
        rw [if_pos (by omega)]
        omega
      · rw [if_pos e2] at h2
        have := hf.lt_trans (a := a) (b := b) (c := c) (by omega) (by omega)
        rw [if_pos (by omega)]
        omega

theorem Row.comap {α β : Type} {f : α → α → Int} (hf : Row f) (k : β → α) : Row (fun a b => f (k a) (k b)) where
  anti _ _ := hf.anti _ _
  rng _ _ := hf.rng _ _
  tr _ _ _ := hf.tr _ _ _

/-- the order of two numbers -/
def cmpI (a b : Int) : Int := if a < b then -1 else if b < a then 1 else 0

theorem row_cmpI : Row cmpI where
  anti a b := by unfold cmpI; (repeat' split) <;> omega
  rng a b := by unfold cmpI; (repeat' split) <;> omega
  tr a b c := by unfold cmpI; (repeat' split) <;> omega

/-- lists of numbers, the end is as many noughts -/
def cmpL : List Int → List Int → Int
  | [], [] => 0
  | x :: l, [] => orc (cmpI x 0) (cmpL l [])
  | [], y :: m => orc (cmpI 0 y) (cmpL [] m)
  | x :: l, y :: m => orc (cmpI x y) (cmpL l m)

theorem cmpL_cons (x y : Int) (l m : List Int) : cmpL (x :: l) (y :: m) = orc (cmpI x y) (cmpL l m) := by rw [cmpL]

theorem cmpL_step (l m : List Int) : cmpL l m = orc (cmpI (l.headD 0) (m.headD 0)) (cmpL l.tail m.tail) := by
  cases l <;> cases m <;> simp [cmpL]
  simp [orc, cmpI]

def cmpN : Nat → List Int → List Int → Int
  | 0, _, _ => 0
  | n + 1, l, m => orc (cmpI (l.headD 0) (m.headD 0)) (cmpN n l.tail m.tail)

theorem cmpL_eq_cmpN (n : Nat) : ∀ l m : List Int, l.length ≤ n → m.length ≤ n → cmpL l m = cmpN n l m := by
  induction n with
  | zero =>
    intro l m h1 h2
    have := List.eq_nil_of_length_eq_zero (Nat.le_zero.1 h1)
    have := List.eq_nil_of_length_eq_zero (Nat.le_zero.1 h2)
    subst l; subst m
    rw [cmpL, cmpN]
  | succ n ih =>
    intro l m h1 h2
    rw [cmpL_step, cmpN, ih]
    · simp; omega
    · simp; omega

theorem row_cmpN (n : Nat) : Row (cmpN n) := by
  induction n with
  | zero => exact ⟨fun _ _ => by simp [cmpN], fun _ _ => by simp [cmpN], fun _ _ _ => by simp [cmpN]⟩
  | succ n ih =>
    exact ((row_cmpI.comap (fun l : List Int => l.headD 0)).lex (ih.comap (fun l : List Int => l.tail)))

theorem row_cmpL : Row cmpL where
  anti a b := by
    have h := (row_cmpN (a.length + b.length)).anti a b
    rw [cmpL_eq_cmpN (a.length + b.length) a b (by omega) (by omega), cmpL_eq_cmpN (a.length + b.length) b a (by omega) (by omega)]
    exact h
  rng a b := by
    rw [cmpL_eq_cmpN (a.length + b.length) a b (by omega) (by omega)]
    exact (row_cmpN _).rng a b
  tr a b c := by
    rw [cmpL_eq_cmpN (a.length + b.length + c.length) a b (by omega) (by omega), cmpL_eq_cmpN (a.length + b.length + c.length) b c (by omega) (by omega), cmpL_eq_cmpN (a.length + b.length + c.length) a c (by omega) (by omega)]
    exact (row_cmpN _).tr a b c


/-! the letters of a version -/
def dig (c : UInt8) : Bool := decide (48 ≤ c.toNat) && decide (c.toNat ≤ 57)
def lett (c : UInt8) : Bool := (decide (97 ≤ c.toNat) && decide (c.toNat ≤ 122)) || (decide (65 ≤ c.toNat) && decide (c.toNat ≤ 90))

/-- a byte's place among others -/
def wtc (c : UInt8) : Int := if dig c then 0 else if c.toNat = 126 then -1 else if lett c then (c.toNat : Int) else (c.toNat : Int) + 256

def wt : List UInt8 → Int
  | [] => 0
  | c :: _ => wtc c

/-- a number without the noughts ahead -/
def bareN (l : List UInt8) : List UInt8 := (l.takeWhile dig).dropWhile (· == 48)

/-- what a part is for the order -/
def keyF : Nat → List UInt8 → List Int
  | 0, _ => []
  | _ + 1, [] => []
  | n + 1, c :: l =>
    if dig c then 0 :: ((bareN (c :: l)).length : Int) :: ((bareN (c :: l)).map fun x => (x.toNat : Int)) ++ keyF n ((c :: l).dropWhile dig)
    else wtc c :: keyF n l

def key (l : List UInt8) : List Int := keyF l.length l

theorem dropWhile_le {α : Type} (p : α → Bool) (l : List α) : (l.dropWhile p).length ≤ l.length := by
  induction l with
  | nil => simp
  | cons a l ih =>
    rw [List.dropWhile_cons]
    split
    · simp; omega
    · simp

theorem keyF_eq (n : Nat) : ∀ l : List UInt8, ∀ m, l.length ≤ n → l.length ≤ m → keyF n l = keyF m l := by
  induction n with
  | zero =>
    intro l m h _
    have := List.eq_nil_of_length_eq_zero (Nat.le_zero.1 h)
    subst l
    cases m <;> simp [keyF]
  | succ n ih =>
    intro l m h1 h2
    match l, m with
    | [], 0 => simp [keyF]
    | [], m + 1 => simp [keyF]
    | c :: l, 0 => simp at h2
    | c :: l, m + 1 =>
      simp only [List.length_cons] at h1 h2
      rw [keyF, keyF]
      by_cases hc : dig c = true
      · rw [if_pos hc, if_pos hc]
        have hd : (c :: l).dropWhile dig = l.dropWhile dig := by simp [hc]
        have := dropWhile_le dig l
        rw [hd, ih (l.dropWhile dig) m (by omega) (by omega)]
      · rw [if_neg hc, if_neg hc, ih l m (by omega) (by omega)]

theorem key_nil : key [] = [] := rfl

theorem key_nd (c : UInt8) (l : List UInt8) (h : dig c = false) : key (c :: l) = wtc c :: key l := by
  unfold key
  rw [List.length_cons, keyF, if_neg (by simp [h])]

/-- a part that begins with a number, or ends -/
def keyN (l : List UInt8) : List Int := 0 :: ((bareN l).length : Int) :: ((bareN l).map fun x => (x.toNat : Int)) ++ key (l.dropWhile dig)

theorem key_dig (c : UInt8) (l : List UInt8) (h : dig c = true) : key (c :: l) = keyN (c :: l) := by
  unfold key keyN
  rw [List.length_cons, keyF, if_pos h]
  have hd : (c :: l).dropWhile dig = l.dropWhile dig := by simp [h]
  have := dropWhile_le dig l
  unfold key
  rw [hd, keyF_eq l.length (l.dropWhile dig) (l.dropWhile dig).length (by omega) (by omega)]

theorem cmpL_nil_nought (m : List Int) : cmpL [0, 0] m = cmpL [] m := by
  rw [cmpL_step [0, 0] m, cmpL_step [] m, cmpL_step _ m.tail, cmpL_step _ m.tail]
  simp

theorem keyN_nil : keyN [] = [0, 0] := by simp [keyN, bareN, key_nil]

theorem wtc_ne (c : UInt8) (h : dig c = false) : wtc c ≠ 0 := by
  unfold wtc
  rw [if_neg (by simp [h])]
  split
  · omega
  · split
    · rename_i h2
      unfold lett at h2
      simp at h2
      omega
    · omega

theorem wtc_dig (c : UInt8) : wtc c = 0 ↔ dig c = true := by
  constructor
  · intro h
    cases hd : dig c with
    | true => rfl
    | false => exact absurd h (wtc_ne c hd)
  · intro h
    unfold wtc
    rw [if_pos h]

theorem cmpL_keyN_left (l : List UInt8) (m : List Int) (h : wt l = 0) : cmpL (key l) m = cmpL (keyN l) m := by
  cases l with
  | nil => rw [keyN_nil, cmpL_nil_nought, key_nil]
  | cons c l => rw [key_dig c l ((wtc_dig c).1 h)]

theorem cmpL_keyN_right (l : List UInt8) (m : List Int) (h : wt l = 0) : cmpL m (key l) = cmpL m (keyN l) := by
  have h1 := row_cmpL.anti (key l) m
  have h2 := row_cmpL.anti (keyN l) m
  have := cmpL_keyN_left l m h
  omega

/-- both stand at numbers, or at the end -/
theorem part_num (a b : List UInt8) (ha : wt a = 0) (hb : wt b = 0) : cmpL (key a) (key b) = cmpL (keyN a) (keyN b) := by
  rw [cmpL_keyN_left a _ ha, cmpL_keyN_right b _ hb]

/-- a byte that is no digit stands at one of them -/
theorem key_step (l : List UInt8) (h : wt l ≠ 0) : key l = wt l :: key l.tail := by
  cases l with
  | nil => exact absurd rfl h
  | cons c l => exact key_nd c l (by cases hd : dig c with
    | false => rfl
    | true => exact absurd ((wtc_dig c).2 hd) h)

theorem key_head (l : List UInt8) : (key l).headD 0 = wt l := by
  cases l with
  | nil => rfl
  | cons c l =>
    cases hd : dig c with
    | false => rw [key_nd c l hd]; rfl
    | true => rw [key_dig c l hd, keyN]; exact ((wtc_dig c).2 hd).symm

theorem orc_zero (n : Int) : orc 0 n = n := by simp [orc]
theorem orc_ne {m : Int} (n : Int) (h : m ≠ 0) : orc m n = m := by simp [orc, h]
theorem cmpI_self (a : Int) : cmpI a a = 0 := by simp [cmpI]
theorem cmpI_eq {a b : Int} (h : cmpI a b = 0) : a = b := by
  unfold cmpI at h
  split at h
  · omega
  · split at h <;> omega

/-- the weights part: they tell -/
theorem part_wt (a b : List UInt8) (h : cmpI (wt a) (wt b) ≠ 0) : cmpL (key a) (key b) = cmpI (wt a) (wt b) := by
  rw [cmpL_step, key_head, key_head, orc_ne _ h]

/-- the weights are the same and no digit's: on to the next bytes -/
theorem part_next (a b : List UInt8) (h : cmpI (wt a) (wt b) = 0) (hn : wt a ≠ 0) : cmpL (key a) (key b) = cmpL (key a.tail) (key b.tail) := by
  have e := cmpI_eq h
  rw [key_step a hn, key_step b (by omega), cmpL_cons, h, orc_zero]

def cmpB : List UInt8 → List UInt8 → Int
  | [], [] => 0
  | [], _ :: _ => -1
  | _ :: _, [] => 1
  | x :: l, y :: m => orc (cmpI x.toNat y.toNat) (cmpB l m)

theorem cmpL_bytes (x y : List UInt8) (k k' : List Int) (h : x.length = y.length) :
    cmpL ((x.map fun c => (c.toNat : Int)) ++ k) ((y.map fun c => (c.toNat : Int)) ++ k') = orc (cmpB x y) (cmpL k k') := by
  induction x generalizing y with
  | nil =>
    cases y with
    | nil => simp [cmpB, orc_zero]
    | cons d y => simp at h
  | cons c x ih =>
    cases y with
    | nil => simp at h
    | cons d y =>
      simp only [List.map_cons, List.cons_append, cmpL_cons, cmpB]
      rw [ih y (by simpa using h)]
      unfold orc
      (repeat' split) <;> first | rfl | omega

theorem part_digits (a b : List UInt8) :
    cmpL (keyN a) (keyN b) = orc (orc (cmpI (bareN a).length (bareN b).length) (cmpB (bareN a) (bareN b))) (cmpL (key (a.dropWhile dig)) (key (b.dropWhile dig))) := by
  unfold keyN
  rw [List.cons_append, List.cons_append, List.cons_append, List.cons_append, cmpL_cons, cmpI_self, orc_zero, cmpL_cons]
  by_cases h : cmpI ((bareN a).length : Int) ((bareN b).length : Int) = 0
  · rw [h, orc_zero, orc_zero, cmpL_bytes _ _ _ _ (by have := cmpI_eq h; omega)]
  · rw [orc_ne _ h, orc_ne _ h, orc_ne _ h]

/-- the order of parts -/
def partC (a b : List UInt8) : Int := cmpL (key a) (key b)

theorem partC_nil : partC [] [] = 0 := by unfold partC; rw [key_nil, cmpL]

theorem part_round (a b : List UInt8) (ha : wt a = 0) (hb : wt b = 0) :
    partC a b = orc (orc (cmpI (bareN a).length (bareN b).length) (cmpB (bareN a) (bareN b))) (partC (a.dropWhile dig) (b.dropWhile dig)) := by
  unfold partC
  rw [part_num a b ha hb, part_digits]

theorem drop_lt (l : List UInt8) (h : wt l = 0) (hl : 0 < l.length) : (l.dropWhile dig).length < l.length := by
  cases l with
  | nil => simp at hl
  | cons c l =>
    have hc := (wtc_dig c).1 h
    have := dropWhile_le dig l
    rw [List.dropWhile_cons, if_pos hc, List.length_cons]
    omega

theorem take_drop (p : UInt8 → Bool) (l : List UInt8) : l.take (l.length - (l.dropWhile p).length) = l.takeWhile p := by
  induction l with
  | nil => rfl
  | cons c l ih =>
    rw [List.dropWhile_cons, List.takeWhile_cons]
    split
    · have := dropWhile_le p l
      rw [List.length_cons, show l.length + 1 - (l.dropWhile p).length = (l.length - (l.dropWhile p).length) + 1 by omega, List.take_succ_cons, ih]
    · simp

theorem drop_take (p : UInt8 → Bool) (l : List UInt8) : l.drop (l.takeWhile p).length = l.dropWhile p := by
  induction l with
  | nil => rfl
  | cons c l ih =>
    rw [List.dropWhile_cons, List.takeWhile_cons]
    split
    · rw [List.length_cons, List.drop_succ_cons, ih]
    · simp

/-- THE ORDER OF VERSIONS: by the epoch, upstream, the revision. -/
def cmpV (e1 : Int) (u1 r1 : List UInt8) (e2 : Int) (u2 r2 : List UInt8) : Int := orc (cmpI e1 e2) (orc (partC u1 u2) (partC r1 r2))

/-- whether a version is as it is asked -/
def isOp (op n : Int) : Bool :=
  if op = 0 then true else if op = 1 then decide (n < 0) else if op = 2 then decide (n ≤ 0) else if op = 3 then n == 0 else if op = 4 then decide (0 ≤ n) else if op = 5 then decide (0 < n) else false

end Go.Proofs.YtpbbhjifgaeklaaGreatDoor.VP
namespace Go.Proofs.YtpbbhjifgaeklaaGreatDoor.VP

/-! a text cut at the first, and at the last, of a byte -/
def cutAt (c : UInt8) : List UInt8 → Option (List UInt8 × List UInt8)
  | [] => none
  | x :: l => if x = c then some ([], l) else (cutAt c l).map fun p => (x :: p.1, p.2)

def cutEnd (c : UInt8) (l : List UInt8) : Option (List UInt8 × List UInt8) := (cutAt c l.reverse).map fun p => (p.2.reverse, p.1.reverse)

theorem cutAt_none (c : UInt8) (l : List UInt8) : cutAt c l = none ↔ c ∉ l := by
  induction l with
  | nil => simp [cutAt]
  | cons x l ih =>
    by_cases hx : x = c
    · subst hx; simp [cutAt]
    · simp [cutAt, hx, ih, Ne.symm hx]

theorem cutAt_some {c : UInt8} {l a b : List UInt8} (h : cutAt c l = some (a, b)) : l = a ++ c :: b ∧ c ∉ a := by
  induction l generalizing a b with
  | nil => simp [cutAt] at h
  | cons x l ih =>
    by_cases hx : x = c
    · subst hx
      simp [cutAt] at h
      obtain ⟨rfl, rfl⟩ := h
      simp
    · simp [cutAt, hx] at h
      obtain ⟨a', h, rfl⟩ := h
      obtain ⟨e, hn⟩ := ih h
      subst e
      simp [Ne.symm hx, hn]

theorem cutEnd_none (c : UInt8) (l : List UInt8) : cutEnd c l = none ↔ c ∉ l := by
  unfold cutEnd
  rw [Option.map_eq_none_iff, cutAt_none]
  simp

theorem cutEnd_some {c : UInt8} {l a b : List UInt8} (h : cutEnd c l = some (a, b)) : l = a ++ c :: b ∧ c ∉ b := by
  unfold cutEnd at h
  rw [Option.map_eq_some_iff] at h
  obtain ⟨⟨x, y⟩, h, e⟩ := h
  simp only [Prod.mk.injEq] at e
  obtain ⟨rfl, rfl⟩ := e
  obtain ⟨e, hn⟩ := cutAt_some h
  have e' := congrArg List.reverse e
  rw [List.reverse_reverse, List.reverse_append, List.reverse_cons, List.append_assoc, List.singleton_append] at e'
  exact ⟨e', by simpa using hn⟩

/-! numbers -/
def val (l : List UInt8) : Nat := l.foldl (fun n c => n * 10 + (c.toNat - 48)) 0

/-- a text of digits, without a nought ahead, of at most so many -/
def number (most : Nat) (l : List UInt8) : Option Nat :=
  if l = [] ∨ most < l.length ∨ (1 < l.length ∧ l.head? = some 48) then none
  else if l.all dig then some (val l) else none

theorem val_snoc (l : List UInt8) (c : UInt8) : val (l ++ [c]) = val l * 10 + (c.toNat - 48) := by
  unfold val; rw [List.foldl_append]; rfl

theorem val_fold (l : List UInt8) (h : l.all dig = true) (n : Nat) : l.foldl (fun n c => n * 10 + (c.toNat - 48)) n < (n + 1) * 10 ^ l.length := by
  induction l generalizing n with
  | nil => simp
  | cons c l ih =>
    rw [List.all_cons, Bool.and_eq_true] at h
    have hc := h.1
    unfold dig at hc
    simp at hc
    have h1 := ih h.2 (n * 10 + (c.toNat - 48))
    have h2 : (n * 10 + (c.toNat - 48) + 1) * 10 ^ l.length ≤ ((n + 1) * 10) * 10 ^ l.length := Nat.mul_le_mul_right _ (by omega)
    rw [List.foldl_cons, List.length_cons, Nat.pow_succ]
    have h3 : (n + 1) * (10 ^ l.length * 10) = ((n + 1) * 10) * 10 ^ l.length := by rw [Nat.mul_assoc, Nat.mul_comm 10]
    omega

theorem val_lt (l : List UInt8) (h : l.all dig = true) : val l < 10 ^ l.length := by
  have := val_fold l h 0
  unfold val; omega

/-! versions -/
def ok0 (c : UInt8) : Bool := dig c || lett c || c == 46 || c == 43 || c == 126
def ok1 (e : Int) (c : UInt8) : Bool := ok0 c || c == 45 || (decide (0 < e) && c == 58)

def printP (e : Int) (u r : List UInt8) : List UInt8 := (if e ≠ 0 then Go.Lib.itoa e ++ [58] else []) ++ u ++ (if r = [] then [] else 45 :: r)

def startsDig : List UInt8 → Bool
  | [] => false
  | c :: _ => dig c

def rightP (e : Int) (u r : List UInt8) : Bool :=
  decide (0 ≤ e) && decide (e < 1000000000) && startsDig u && u.all (ok1 e) && r.all ok0 && (r != [] || !u.contains 45) && decide ((printP e u r).length ≤ 40)

def checkP (e : Int) (u r : List UInt8) : Option (Int × List UInt8 × List UInt8) := if rightP e u r then some (e, u, r) else none

def restP (e : Int) (l : List UInt8) : Option (Int × List UInt8 × List UInt8) :=
  match cutEnd 45 l with
  | none => checkP e l []
  | some (u, r) => if r = [] then none else checkP e u r

def parseP (l : List UInt8) : Option (Int × List UInt8 × List UInt8) :=
  if 40 < l.length then none else
  match cutAt 58 l with
  | none => restP 0 l
  | some (a, b) => match number 9 a with
    | none => none
    | some n => restP n b

structure RightP (e : Int) (u r : List UInt8) : Prop where
  lo : 0 ≤ e
  hi : e < 1000000000
  st : startsDig u = true
  au : u.all (ok1 e) = true
  ar : r.all ok0 = true
  dash : r ≠ [] ∨ 45 ∉ u
  len : (printP e u r).length ≤ 40

theorem rightP_iff (e : Int) (u r : List UInt8) : rightP e u r = true ↔ RightP e u r := by
  unfold rightP
  constructor
  · intro h
    simp only [Bool.and_eq_true, decide_eq_true_eq, Bool.or_eq_true, bne_iff_ne, Bool.not_eq_true'] at h
    obtain ⟨⟨⟨⟨⟨⟨h1, h2⟩, h3⟩, h4⟩, h5⟩, h6⟩, h7⟩ := h
    exact ⟨h1, h2, h3, h4, h5, h6.imp id (fun h => by simpa using h), h7⟩
  · intro h
    simp only [Bool.and_eq_true, decide_eq_true_eq, Bool.or_eq_true, bne_iff_ne, Bool.not_eq_true']
    exact ⟨⟨⟨⟨⟨⟨h.lo, h.hi⟩, h.st⟩, h.au⟩, h.ar⟩, h.dash.imp id (fun h => by simpa using h)⟩, h.len⟩

end Go.Proofs.YtpbbhjifgaeklaaGreatDoor.VP

namespace Go.Proofs.YtpbbhjifgaeklaaGreatDoor
open Go.RowKit

/-- What the library's functions read of the library's own variables: a number, and the table of powers of ten. -/
def Env (w : World) : Prop := (∃ m, w.cell? ⟨5, 0, none⟩ = some (.int .i64 m)) ∧ Lib.TabIs Tryz.prog w "internal/strconv.uint64pow10" .u64 Lib.pow10Tab

theorem cell_lt {w : World} {a : Addr} {v : Value} (h : w.cell? a = some v) : a.block < w.heap.size := by
  rcases Nat.lt_or_ge a.block w.heap.size with h1 | h1
  · exact h1
  · unfold World.cell? at h
    rw [Array.getElem?_eq_none h1] at h
    cases h

theorem kept {w w1 : World} {p : Addr} {v : Value} (hb : Below w.heap.size w w1) (h : w.cell? p = some v) : w1.cell? p = some v := (hb.cell (cell_lt h)).trans h
theorem below_alloc (w : World) (o : Obj) : Below w.heap.size w (w.alloc o) := (Below.refl _ _).alloc (Nat.le_refl _) o
theorem below_drew (w : World) : Below w.heap.size w w.drew := (Below.refl _ _).drew

theorem box3 {w w1 : World} {x y z : Value} {t : TypeId} (hb : Below (w.alloc (.cells #[x, y, z] t)).heap.size (w.alloc (.cells #[x, y, z] t)) w1) :
    w1.cell? ⟨w.heap.size, 0, none⟩ = some x ∧ w1.cell? ⟨w.heap.size, 1, none⟩ = some y ∧ w1.cell? ⟨w.heap.size, 2, none⟩ = some z :=
  ⟨kept hb (by go_cell), kept hb (by go_cell), kept hb (by go_cell)⟩

theorem Env.below {w w' : World} (h : Env w) (hb : Below w.heap.size w w') : Env w' := by
  obtain ⟨⟨m, hm⟩, ht⟩ := h
  exact ⟨⟨m, (hb.cell (cell_lt hm)).trans hm⟩, Joins.tab_stays (g := 6) (by kernel_rfl) ht hb (Nat.le_refl _)⟩

theorem Env.drew {w : World} (h : Env w) : Env w.drew := h.below ((Below.refl _ _).drew)

/-- one step more -/
theorem step_below {w w1 w2 : World} (h1 : Below w.heap.size w w1) (h2 : Below w1.heap.size w1 w2) : Below w.heap.size w w2 := h1.trans (h2.mono h1.size)

theorem below_drewN (B : Nat) (w : World) (n : Nat) : Below B w (w.drewN n) := ⟨rfl, rfl, rfl, Nat.le_refl _, fun _ _ => rfl⟩

theorem ret_int {k : IntKind} {a b : Int} (h : a = b) : Ending.returned (.int k a) = .returned (.int k b) := by rw [h]
theorem ret_bool {a b : Bool} (h : a = b) : Ending.returned (.bool a) = .returned (.bool b) := by rw [h]

theorem isEmpty_false (s : ByteArray) (h : 0 < s.size) : s.toList.isEmpty = false := by
  rw [Lib.toList_data]
  cases h1 : s.data.toList with
  | nil => have := Lib.size_eq s; rw [h1, List.length_nil] at this; omega
  | cons _ _ => rfl
theorem isEmpty_true (s : ByteArray) (h : s.size = 0) : s.toList.isEmpty = true := by
  rw [Lib.toList_data]
  cases h1 : s.data.toList with
  | nil => rfl
  | cons _ _ => have := Lib.size_eq s; rw [h1, List.length_cons] at this; omega
theorem eq_empty (s : ByteArray) (h : s.size = 0) : s = ⟨#[]⟩ := by
  obtain ⟨⟨l⟩⟩ := s
  have : l = [] := List.eq_nil_of_length_eq_zero h
  subst this; rfl
theorem take_snoc (s : ByteArray) (k : Nat) (h : k < s.size) : s.data.toList.take (k + 1) = s.data.toList.take k ++ [s[k]] := by
  rw [List.take_succ_eq_append_getElem (by simpa using h)]; rfl
theorem drop_cons (s : ByteArray) (k : Nat) (h : k < s.size) : s.data.toList.drop k = s[k] :: s.data.toList.drop (k + 1) := by
  rw [List.drop_eq_getElem_cons (by simpa using h)]; rfl
theorem list_cons (s : ByteArray) (h : 0 < s.size) : s.data.toList = s[0] :: s.data.toList.tail := by
  have := drop_cons s 0 h
  rw [List.drop_zero] at this
  rw [← List.drop_one]
  exact this
theorem size_eq_length (s : ByteArray) : s.size = s.data.toList.length := Lib.size_eq s

theorem mk_data (s : ByteArray) : (⟨s.data.toList.toArray⟩ : ByteArray) = s := by cases s; simp
theorem data_inj {s t : ByteArray} (h : s.data.toList = t.data.toList) : s = t := by rw [← mk_data s, ← mk_data t, h]

/-! the library's calls, said in our words -/
theorem info_set : (Tryz.prog.info? 238).map (fun i => (i.zero, i.size)) = some (some (.agg (Array.replicate 256 (.bool false))), 256) := by kernel_rfl

/-- t is s without what stands ahead of it that is of one kind -/
def Behind (p : UInt8 → Bool) (s t : ByteArray) : Prop := t.data.toList = s.data.toList.dropWhile p

theorem Behind.size {p : UInt8 → Bool} {s t : ByteArray} (h : Behind p s t) : t.size ≤ s.size := by
  have := VP.dropWhile_le p s.data.toList
  rw [size_eq_length, size_eq_length, h]; exact this

def digitsB : ByteArray := ⟨#[48, 49, 50, 51, 52, 53, 54, 55, 56, 57]⟩
theorem digits_contains_fin : ∀ i : Fin 256, digitsB.data.toList.contains (UInt8.ofNat i.val) = VP.dig (UInt8.ofNat i.val) := by decide +kernel
theorem digits_contains (c : UInt8) : digitsB.data.toList.contains c = VP.dig c := by
  have := digits_contains_fin ⟨c.toNat, c.toNat_lt⟩
  simpa using this

end Go.Proofs.YtpbbhjifgaeklaaGreatDoor
