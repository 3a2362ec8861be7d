/- What packages ask for: how it is read and written: plain lists of bytes; no program in sight. -/
import Derived.Test.YtlkmmejlnohjhaaGreatDoorVersPlain
namespace Go.Proofs.YtlkmmejlnohjhaaGreatDoor.VP

/-! names -/
def low (c : UInt8) : Bool := decide (97 ≤ c.toNat) && decide (c.toNat ≤ 122)
def nm0 (c : UInt8) : Bool := low c || dig c
def nm1 (c : UInt8) : Bool := nm0 c || c == 43 || c == 45 || c == 46
def startsNm : List UInt8 → Bool
  | [] => false
  | c :: _ => nm0 c
def nameP (l : List UInt8) : Bool := decide (2 ≤ l.length) && decide (l.length ≤ 24) && startsNm l && l.all nm1

/-! blanks, tabs and line feeds at both ends -/
def gap (c : UInt8) : Bool := c == 32 || c == 9 || c == 10
def trimR (l : List UInt8) : List UInt8 := (l.reverse.dropWhile gap).reverse
def trimP (l : List UInt8) : List UInt8 := (trimR l).dropWhile gap

theorem rev_ind {α : Type} {p : List α → Prop} (nil : p []) (append_singleton : ∀ (l : List α) (a : α), p l → p (l ++ [a])) (l : List α) : p l := by
  have h : ∀ m : List α, p m.reverse := by
    intro m
    induction m with
    | nil => exact nil
    | cons a m ih => rw [List.reverse_cons]; exact append_singleton _ _ ih
  have := h l.reverse
  rwa [List.reverse_reverse] at this

theorem trimR_snoc (l : List UInt8) (c : UInt8) : trimR (l ++ [c]) = if gap c then trimR l else l ++ [c] := by
  unfold trimR
  rw [List.reverse_append, List.reverse_singleton, List.singleton_append, List.dropWhile_cons]
  split
  · rfl
  · rw [List.reverse_cons, List.reverse_reverse]

theorem trimR_nil : trimR [] = [] := rfl

theorem trimR_cons (c : UInt8) (l : List UInt8) : trimR (c :: l) = if gap c ∧ trimR l = [] then [] else c :: trimR l := by
  induction l using rev_ind with
  | nil =>
    rw [show [c] = [] ++ [c] from rfl, trimR_snoc, trimR_nil]
    by_cases h : gap c = true <;> simp [h]
  | append_singleton l d ih =>
    rw [show c :: (l ++ [d]) = (c :: l) ++ [d] from rfl, trimR_snoc, trimR_snoc]
    by_cases hd : gap d = true
    · rw [if_pos hd, if_pos hd, ih]
    · rw [if_neg hd, if_neg hd, if_neg (by simp)]
      rfl

/-- whichever end first -/
theorem trim_comm (l : List UInt8) : trimR (l.dropWhile gap) = trimP l := by
  unfold trimP
  induction l with
  | nil => rfl
  | cons c l ih =>
    rw [List.dropWhile_cons, trimR_cons]
    by_cases hc : gap c = true
    · rw [if_pos hc, ih]
      by_cases hr : trimR l = []
      · rw [if_pos ⟨hc, hr⟩, hr]
      · rw [if_neg (fun h => hr h.2), List.dropWhile_cons, if_pos hc]
    · rw [if_neg hc, if_neg (fun h => hc h.1), List.dropWhile_cons, if_neg hc, trimR_cons, if_neg (fun h => hc h.1)]

theorem trimR_prefix (l : List UInt8) : ∃ t, l = trimR l ++ t ∧ t.all gap = true := by
  induction l using rev_ind with
  | nil => exact ⟨[], rfl, rfl⟩
  | append_singleton l d ih =>
    rw [trimR_snoc]
    by_cases hd : gap d = true
    · obtain ⟨t, e, ht⟩ := ih
      rw [if_pos hd]
      exact ⟨t ++ [d], by rw [← List.append_assoc, ← e], by rw [List.all_append, ht]; simp [hd]⟩
    · rw [if_neg hd]
      exact ⟨[], by simp, rfl⟩

theorem trimR_length (l : List UInt8) : (trimR l).length ≤ l.length := by
  obtain ⟨t, e, _⟩ := trimR_prefix l
  have := congrArg List.length e
  rw [List.length_append] at this
  omega

theorem trimP_length (l : List UInt8) : (trimP l).length ≤ l.length := by
  have h1 := trimR_length l
  have h2 := dropWhile_le gap (trimR l)
  unfold trimP
  omega

/-- a text that has no blank at its end -/
theorem trimR_id {l : List UInt8} (h : ∀ c, l.getLast? = some c → gap c = false) : trimR l = l := by
  induction l using rev_ind with
  | nil => rfl
  | append_singleton l d _ =>
    rw [trimR_snoc, if_neg]
    rw [h d (by simp)]
    simp

theorem trimR_last (l : List UInt8) (c : UInt8) (h : (trimR l).getLast? = some c) : gap c = false := by
  induction l using rev_ind with
  | nil => simp [trimR_nil] at h
  | append_singleton l d ih =>
    rw [trimR_snoc] at h
    by_cases hd : gap d = true
    · rw [if_pos hd] at h; exact ih h
    · rw [if_neg hd] at h
      simp at h
      subst h
      simpa using hd

theorem dropWhile_head (p : UInt8 → Bool) (l : List UInt8) (c : UInt8) (h : (l.dropWhile p).head? = some c) : p c = false := by
  induction l with
  | nil => simp at h
  | cons a l ih =>
    rw [List.dropWhile_cons] at h
    by_cases ha : p a = true
    · rw [if_pos ha] at h; exact ih h
    · rw [if_neg ha] at h
      simp at h
      subst h
      simpa using ha

theorem dropWhile_id {p : UInt8 → Bool} {l : List UInt8} (h : ∀ c, l.head? = some c → p c = false) : l.dropWhile p = l := by
  cases l with
  | nil => rfl
  | cons a l => rw [List.dropWhile_cons, if_neg (by rw [h a rfl]; simp)]

theorem trimP_id {l : List UInt8} (h0 : ∀ c, l.head? = some c → gap c = false) (h1 : ∀ c, l.getLast? = some c → gap c = false) : trimP l = l := by
  unfold trimP
  rw [trimR_id h1, dropWhile_id h0]

theorem trimP_head (l : List UInt8) (c : UInt8) (h : (trimP l).head? = some c) : gap c = false := dropWhile_head gap _ c h

theorem dropWhile_last (p : UInt8 → Bool) (l : List UInt8) (c : UInt8) (h : (l.dropWhile p).getLast? = some c) : l.getLast? = some c := by
  induction l with
  | nil => simp at h
  | cons a l ih =>
    rw [List.dropWhile_cons] at h
    by_cases ha : p a = true
    · rw [if_pos ha] at h
      have := ih h
      rw [List.getLast?_cons, this]; rfl
    · rw [if_neg ha] at h; exact h

theorem trimP_last (l : List UInt8) (c : UInt8) (h : (trimP l).getLast? = some c) : gap c = false := trimR_last l c (dropWhile_last gap _ c h)

theorem trimP_trimP (l : List UInt8) : trimP (trimP l) = trimP l := trimP_id (trimP_head l) (trimP_last l)

/-! what is asked of versions: its signs -/
def signP (op : Int) : List UInt8 := if op = 1 then [60, 60] else if op = 2 then [60, 61] else if op = 3 then [61] else if op = 4 then [62, 61] else if op = 5 then [62, 62] else []

/-- the sign that stands ahead, and what is behind -/
def opP : List UInt8 → Int × List UInt8
  | 60 :: 60 :: r => (1, r)
  | 60 :: 61 :: r => (2, r)
  | 61 :: r => (3, r)
  | 62 :: 61 :: r => (4, r)
  | 62 :: 62 :: r => (5, r)
  | l => (0, l)

/-- a package that is asked for: its name, what is asked of its version, the version -/
structure Tm where
  n : List UInt8
  op : Int
  e : Int
  u : List UInt8
  r : List UInt8
deriving DecidableEq

/-- what stands between brackets -/
def innerP (n m : List UInt8) : Option Tm :=
  if (opP m).1 = 0 then none else (parseP (trimP (opP m).2)).map fun v => ⟨n, (opP m).1, v.1, v.2.1, v.2.2⟩

def termP (l : List UInt8) : Option Tm :=
  match cutAt 40 (trimP l) with
  | none => if nameP (trimR (trimP l)) then some ⟨trimR (trimP l), 0, 0, [], []⟩ else none
  | some (a, b) => if nameP (trimR a) then (if b.getLast? = some 41 then innerP (trimR a) (trimP b.dropLast) else none) else none

/-! texts apart at a byte -/
def pieces (c : UInt8) : List UInt8 → List (List UInt8)
  | [] => [[]]
  | x :: l => if x = c then [] :: pieces c l else match pieces c l with
    | [] => [[x]]
    | p :: ps => (x :: p) :: ps

theorem pieces_ne (c : UInt8) (l : List UInt8) : pieces c l ≠ [] := by
  cases l with
  | nil => simp [pieces]
  | cons x l =>
    rw [pieces]
    split
    · simp
    · split <;> simp

theorem pieces_none {c : UInt8} {l : List UInt8} (h : cutAt c l = none) : pieces c l = [l] := by
  induction l with
  | nil => rfl
  | cons x l ih =>
    by_cases hx : x = c
    · subst hx; simp [cutAt] at h
    · simp [cutAt, hx] at h
      rw [pieces, if_neg hx, ih h]

theorem pieces_some {c : UInt8} {l a b : List UInt8} (h : cutAt c l = some (a, b)) : pieces c l = a :: pieces c b := by
  induction l generalizing a b with
  | nil => simp [cutAt] at h
  | cons x l ih =>
    by_cases hx : x = c
    · subst hx
      simp [cutAt] at h
      obtain ⟨rfl, rfl⟩ := h
      rw [pieces, if_pos rfl]
    · simp [cutAt, hx] at h
      obtain ⟨a', h, rfl⟩ := h
      rw [pieces, if_neg hx, ih h]

theorem pieces_mid (c : UInt8) (a b : List UInt8) (h : c ∉ a) : pieces c (a ++ c :: b) = a :: pieces c b := pieces_some (cutAt_mid c a b h)
theorem pieces_one (c : UInt8) (a : List UInt8) (h : c ∉ a) : pieces c a = [a] := pieces_none ((cutAt_none c a).2 h)

/-! reading: one of some, with | between; each, with commas between: 3: ErrForm, 4: ErrLimit -/
def someP (n : Nat) : List (List UInt8) → Except Int (List Tm × Nat)
  | [] => .ok ([], n)
  | y :: ys => match termP y with
    | none => .error 3
    | some t => if 30 < n + 1 then .error 4 else match someP (n + 1) ys with
      | .error e => .error e
      | .ok (ts, k) => .ok (t :: ts, k)

def eachP (n : Nat) : List (List UInt8) → Except Int (List (List Tm))
  | [] => .ok []
  | x :: xs => match someP n (pieces 124 x) with
    | .error e => .error e
    | .ok (ts, k) => match eachP k xs with
      | .error e => .error e
      | .ok r => .ok (ts :: r)

def termsP (l : List UInt8) : Except Int (List (List Tm)) := if trimP l = [] then .ok [] else eachP 0 (pieces 44 l)

/-! writing -/
def rightT (t : Tm) : Bool := nameP t.n && (if t.op = 0 then decide (t.e = 0) && decide (t.u = []) && decide (t.r = []) else decide (0 ≤ t.op) && decide (t.op ≤ 5) && rightP t.e t.u t.r)
def total (L : List (List Tm)) : Nat := (L.map List.length).sum
def askedP (L : List (List Tm)) : Bool := (L.all fun x => !x.isEmpty && x.all rightT) && decide (total L ≤ 30)
def oneP (t : Tm) : List UInt8 := if t.op = 0 then t.n else t.n ++ ([32, 40] ++ (signP t.op ++ (32 :: (printP t.e t.u t.r ++ [41]))))
def joinP (sep : List UInt8) : List (List UInt8) → List UInt8
  | [] => []
  | [x] => x
  | x :: y :: r => x ++ (sep ++ joinP sep (y :: r))
def lineP (x : List Tm) : List UInt8 := joinP [32, 124, 32] (x.map oneP)
def printL (L : List (List Tm)) : List UInt8 := joinP [44, 32] (L.map lineP)
end Go.Proofs.YtlkmmejlnohjhaaGreatDoor.VP
