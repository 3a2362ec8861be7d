/- What packages ask for: how it is read and written: plain lists of bytes; no program in sight. · What is asked for is written, and read, as it is; what is read may be written: plain lists of bytes; no program in sight. · The reference reads what is asked for in another way, and comes to the same: plain lists of bytes; no program in sight. · Reading, piece by piece: plain lists; no program in sight. -/
import Derived.Test.YtodbbfgkclkpgaaGreatDoorABK1
namespace Go.Proofs.YtodbbfgkclkpgaaGreatDoor.VP

/-! names -/
def low (c : UInt8) : Bool := decide (97 ≤ c.toNat) && decide (c.toNat ≤ 122)
def nm0 (c : UInt8) : Bool := low c || dig c
def nm1 (c : UInt8) : Bool := nm0 c || c == 43 || c == 45 || c == 46
def startsNm : List UInt8 → Bool
  | [] => false
  | c :: _ => nm0 c
def nameP (l : List UInt8) : Bool := decide (2 ≤ l.length) && decide (l.length ≤ 24) && startsNm l && l.all nm1

/-! blanks, tabs and line feeds at both ends -/
def gap (c : UInt8) : Bool := c == 32 || c == 9 || c == 10
def trimR (l : List UInt8) : List UInt8 := (l.reverse.dropWhile gap).reverse
def trimP (l : List UInt8) : List UInt8 := (trimR l).dropWhile gap

theorem rev_ind {α : Type} {p : List α → Prop} (nil : p []) (append_singleton : ∀ (l : List α) (a : α), p l → p (l ++ [a])) (l : List α) : p l := by
  have h : ∀ m : List α, p m.reverse := by
    intro m
    induction m with
    | nil => exact nil
    | cons a m ih => rw [List.reverse_cons]; exact append_singleton _ _ ih
  have := h l.reverse
  rwa [List.reverse_reverse] at this

theorem trimR_snoc (l : List UInt8) (c : UInt8) : trimR (l ++ [c]) = if gap c then trimR l else l ++ [c] := by
  unfold trimR
  rw [List.reverse_append, List.reverse_singleton, List.singleton_append, List.dropWhile_cons]
  split
  · rfl
  · rw [List.reverse_cons, List.reverse_reverse]

theorem trimR_nil : trimR [] = [] := rfl

theorem trimR_cons (c : UInt8) (l : List UInt8) : trimR (c :: l) = if gap c ∧ trimR l = [] then [] else c :: trimR l := by
  induction l using rev_ind with
  | nil =>
    rw [show [c] = [] ++ [c] from rfl, trimR_snoc, trimR_nil]
    by_cases h : gap c = true <;> simp [h]
  | append_singleton l d ih =>
    rw [show c :: (l ++ [d]) = (c :: l) ++ [d] from rfl, trimR_snoc, trimR_snoc]
    by_cases hd : gap d = true
    · rw [if_pos hd, if_pos hd, ih]
    · rw [if_neg hd, if_neg hd, if_neg (by simp)]
      rfl

/-- whichever end first -/
theorem trim_comm (l : List UInt8) : trimR (l.dropWhile gap) = trimP l := by
  unfold trimP
  induction l with
  | nil => rfl
  | cons c l ih =>
    rw [List.dropWhile_cons, trimR_cons]
    by_cases hc : gap c = true
    · rw [if_pos hc, ih]
      by_cases hr : trimR l = []
      · rw [if_pos ⟨hc, hr⟩, hr]
      · rw [if_neg (fun h => hr h.2), List.dropWhile_cons, if_pos hc]
    · rw [if_neg hc, if_neg (fun h => hc h.1), List.dropWhile_cons, if_neg hc, trimR_cons, if_neg (fun h => hc h.1)]

theorem trimR_prefix (l : List UInt8) : ∃ t, l = trimR l ++ t ∧ t.all gap = true := by
  induction l using rev_ind with
  | nil => exact ⟨[], rfl, rfl⟩
  | append_singleton l d ih =>
    rw [trimR_snoc]
    by_cases hd : gap d = true
    · obtain ⟨t, e, ht⟩ := ih
      rw [if_pos hd]
      exact ⟨t ++ [d], by rw [← List.append_assoc, ← e], by rw [List.all_append, ht]; simp [hd]⟩
    · rw [if_neg hd]
      exact ⟨[], by simp, rfl⟩

theorem trimR_length (l : List UInt8) : (trimR l).length ≤ l.length := by
  obtain ⟨t, e, _⟩ := trimR_prefix l
  have := congrArg List.length e
  rw [List.length_append] at this
  omega

theorem trimP_length (l : List UInt8) : (trimP l).length ≤ l.length := by
  have h1 := trimR_length l
  have h2 := dropWhile_le gap (trimR l)
  unfold trimP
  omega

/-- a text that has no blank at its end -/
theorem trimR_id {l : List UInt8} (h : ∀ c, l.getLast? = some c → gap c = false) : trimR l = l := by
  induction l using rev_ind with
  | nil => rfl
  | append_singleton l d _ =>
    rw [trimR_snoc, if_neg]
    rw [h d (by simp)]
    simp

theorem dropWhile_head (p : UInt8 → Bool) (l : List UInt8) (c : UInt8) (h : (l.dropWhile p).head? = some c) : p c = false := by
  induction l with
  | nil => simp at h
  | cons a l ih =>
    rw [List.dropWhile_cons] at h
    by_cases ha : p a = true
    · rw [if_pos ha] at h; exact ih h
    · rw [if_neg ha] at h
      simp at h
      subst h
      simpa using ha

theorem dropWhile_id {p : UInt8 → Bool} {l : List UInt8} (h : ∀ c, l.head? = some c → p c = false) : l.dropWhile p = l := by
  cases l with
  | nil => rfl
  | cons a l => rw [List.dropWhile_cons, if_neg (by rw [h a rfl]; simp)]

theorem trimP_id {l : List UInt8} (h0 : ∀ c, l.head? = some c → gap c = false) (h1 : ∀ c, l.getLast? = some c → gap c = false) : trimP l = l := by
  unfold trimP
  rw [trimR_id h1, dropWhile_id h0]

theorem dropWhile_last (p : UInt8 → Bool) (l : List UInt8) (c : UInt8) (h : (l.dropWhile p).getLast? = some c) : l.getLast? = some c := by
  induction l with
  | nil => simp at h
  | cons a l ih =>
    rw [List.dropWhile_cons] at h
    by_cases ha : p a = true
    · rw [if_pos ha] at h
      have := ih h
      rw [List.getLast?_cons, this]; rfl
    · rw [if_neg ha] at h; exact h

/-! what is asked of versions: its signs -/
def signP (op : Int) : List UInt8 := if op = 1 then [60, 60] else if op = 2 then [60, 61] else if op = 3 then [61] else if op = 4 then [62, 61] else if op = 5 then [62, 62] else []

/-- the sign that stands ahead, and what is behind -/
def opP : List UInt8 → Int × List UInt8
  | 60 :: 60 :: r => (1, r)
  | 60 :: 61 :: r => (2, r)
  | 61 :: r => (3, r)
  | 62 :: 61 :: r => (4, r)
  | 62 :: 62 :: r => (5, r)
  | l => (0, l)

/-- a package that is asked for: its name, what is asked of its version, the version -/
structure Tm where
  n : List UInt8
  op : Int
  e : Int
  u : List UInt8
  r : List UInt8
deriving DecidableEq

/-- what stands between brackets -/
def innerP (n m : List UInt8) : Option Tm :=
  if (opP m).1 = 0 then none else (parseP (trimP (opP m).2)).map fun v => ⟨n, (opP m).1, v.1, v.2.1, v.2.2⟩

def termP (l : List UInt8) : Option Tm :=
  match cutAt 40 (trimP l) with
  | none => if nameP (trimR (trimP l)) then some ⟨trimR (trimP l), 0, 0, [], []⟩ else none
  | some (a, b) => if nameP (trimR a) then (if b.getLast? = some 41 then innerP (trimR a) (trimP b.dropLast) else none) else none

/-! texts apart at a byte -/
def pieces (c : UInt8) : List UInt8 → List (List UInt8)
  | [] => [[]]
  | x :: l => if x = c then [] :: pieces c l else match pieces c l with
    | [] => [[x]]
    | p :: ps => (x :: p) :: ps

theorem pieces_ne (c : UInt8) (l : List UInt8) : pieces c l ≠ [] := by
  cases l with
  | nil => simp [pieces]
  | cons x l =>
    rw [pieces]
    split
    · simp
    · split <;> simp

theorem pieces_none {c : UInt8} {l : List UInt8} (h : cutAt c l = none) : pieces c l = [l] := by
  induction l with
  | nil => rfl
  | cons x l ih =>
    by_cases hx : x = c
    · subst hx; simp [cutAt] at h
    · simp [cutAt, hx] at h
      rw [pieces, if_neg hx, ih h]

theorem pieces_some {c : UInt8} {l a b : List UInt8} (h : cutAt c l = some (a, b)) : pieces c l = a :: pieces c b := by
  induction l generalizing a b with
  | nil => simp [cutAt] at h
  | cons x l ih =>
    by_cases hx : x = c
    · subst hx
      simp [cutAt] at h
      obtain ⟨rfl, rfl⟩ := h
      rw [pieces, if_pos rfl]
    · simp [cutAt, hx] at h
      obtain ⟨a', h, rfl⟩ := h
      rw [pieces, if_neg hx, ih h]

theorem pieces_mid (c : UInt8) (a b : List UInt8) (h : c ∉ a) : pieces c (a ++ c :: b) = a :: pieces c b := pieces_some (cutAt_mid c a b h)
theorem pieces_one (c : UInt8) (a : List UInt8) (h : c ∉ a) : pieces c a = [a] := pieces_none ((cutAt_none c a).2 h)

/-! reading: one of some, with | between; each, with commas between: 3: ErrForm, 4: ErrLimit -/
def someP (n : Nat) : List (List UInt8) → Except Int (List Tm × Nat)
  | [] => .ok ([], n)
  | y :: ys => match termP y with
    | none => .error 3
    | some t => if 30 < n + 1 then .error 4 else match someP (n + 1) ys with
      | .error e => .error e
      | .ok (ts, k) => .ok (t :: ts, k)

def eachP (n : Nat) : List (List UInt8) → Except Int (List (List Tm))
  | [] => .ok []
  | x :: xs => match someP n (pieces 124 x) with
    | .error e => .error e
    | .ok (ts, k) => match eachP k xs with
      | .error e => .error e
      | .ok r => .ok (ts :: r)

def termsP (l : List UInt8) : Except Int (List (List Tm)) := if trimP l = [] then .ok [] else eachP 0 (pieces 44 l)

/-! writing -/
def rightT (t : Tm) : Bool := nameP t.n && (if t.op = 0 then decide (t.e = 0) && decide (t.u = []) && decide (t.r = []) else decide (0 ≤ t.op) && decide (t.op ≤ 5) && rightP t.e t.u t.r)
def total (L : List (List Tm)) : Nat := (L.map List.length).sum
def askedP (L : List (List Tm)) : Bool := (L.all fun x => !x.isEmpty && x.all rightT) && decide (total L ≤ 30)
def oneP (t : Tm) : List UInt8 := if t.op = 0 then t.n else t.n ++ ([32, 40] ++ (signP t.op ++ (32 :: (printP t.e t.u t.r ++ [41]))))
def joinP (sep : List UInt8) : List (List UInt8) → List UInt8
  | [] => []
  | [x] => x
  | x :: y :: r => x ++ (sep ++ joinP sep (y :: r))
def lineP (x : List Tm) : List UInt8 := joinP [32, 124, 32] (x.map oneP)
def printL (L : List (List Tm)) : List UInt8 := joinP [44, 32] (L.map lineP)
end Go.Proofs.YtodbbfgkclkpgaaGreatDoor.VP

namespace Go.Proofs.YtodbbfgkclkpgaaGreatDoor.VP

theorem fin_imp {p : UInt8 → Prop} [DecidablePred p] (h : ∀ i : Fin 256, p (UInt8.ofNat i.val)) (c : UInt8) : p c := by
  have := h ⟨c.toNat, c.toNat_lt⟩
  simpa using this

theorem nm1_no (c : UInt8) (h : nm1 c = true) : gap c = false ∧ c ≠ 40 ∧ c ≠ 41 ∧ c ≠ 44 ∧ c ≠ 124 := by
  have : ∀ c : UInt8, nm1 c = true → gap c = false ∧ c ≠ 40 ∧ c ≠ 41 ∧ c ≠ 44 ∧ c ≠ 124 := fin_imp (by decide +kernel)
  exact this c h
theorem ok1_no (c : UInt8) (h : ok1 1 c = true) : gap c = false ∧ c ≠ 40 ∧ c ≠ 41 ∧ c ≠ 44 ∧ c ≠ 124 := by
  have : ∀ c : UInt8, ok1 1 c = true → gap c = false ∧ c ≠ 40 ∧ c ≠ 41 ∧ c ≠ 44 ∧ c ≠ 124 := fin_imp (by decide +kernel)
  exact this c h
theorem dig_ok1 (c : UInt8) (h : dig c = true) : ok1 1 c = true := by unfold ok1 ok0; rw [h]; rfl
theorem ok0_ok1 (c : UInt8) (h : ok0 c = true) : ok1 1 c = true := by unfold ok1; rw [h]; rfl
theorem ok1_ok1 (e : Int) (c : UInt8) (h : ok1 e c = true) : ok1 1 c = true := by
  unfold ok1 at h ⊢
  rw [Bool.or_eq_true] at h ⊢
  rcases h with h | h
  · exact .inl h
  · rw [Bool.and_eq_true] at h
    exact .inr (by rw [h.2]; rfl)

structure NameP (l : List UInt8) : Prop where
  lo : 2 ≤ l.length
  hi : l.length ≤ 24
  st : startsNm l = true
  al : l.all nm1 = true
theorem nameP_iff (l : List UInt8) : nameP l = true ↔ NameP l := by
  unfold nameP
  constructor
  · intro h
    simp only [Bool.and_eq_true, decide_eq_true_eq] at h
    exact ⟨h.1.1.1, h.1.1.2, h.1.2, h.2⟩
  · intro h
    simp only [Bool.and_eq_true, decide_eq_true_eq]
    exact ⟨⟨⟨h.lo, h.hi⟩, h.st⟩, h.al⟩
theorem NameP.no {l : List UInt8} (h : NameP l) {c : UInt8} (hc : c ∈ l) : gap c = false ∧ c ≠ 40 ∧ c ≠ 41 ∧ c ≠ 44 ∧ c ≠ 124 := nm1_no c (List.all_eq_true.1 h.al c hc)
theorem NameP.ne {l : List UInt8} (h : NameP l) : l ≠ [] := by
  have := h.lo
  intro e; subst e; simp at this

theorem trimR_gaps (a t : List UInt8) (ht : t.all gap = true) : trimR (a ++ t) = trimR a := by
  induction t using rev_ind with
  | nil => rw [List.append_nil]
  | append_singleton t d ih =>
    rw [List.all_append, Bool.and_eq_true] at ht
    have hd : gap d = true := by simpa using ht.2
    rw [← List.append_assoc, trimR_snoc, if_pos hd, ih ht.1]

theorem dropWhile_gaps (p : UInt8 → Bool) (a t : List UInt8) (ha : a.all p = true) : (a ++ t).dropWhile p = t.dropWhile p := by
  induction a with
  | nil => rfl
  | cons x a ih =>
    rw [List.all_cons, Bool.and_eq_true] at ha
    rw [List.cons_append, List.dropWhile_cons, if_pos ha.1, ih ha.2]

/-- blanks at both ends make no difference -/
theorem trimP_pad (a l t : List UInt8) (ha : a.all gap = true) (ht : t.all gap = true) : trimP (a ++ l ++ t) = trimP l := by
  unfold trimP
  rw [trimR_gaps _ _ ht]
  have h2 := trim_comm (a ++ l)
  unfold trimP at h2
  rw [← h2, dropWhile_gaps gap _ _ ha, trim_comm]
  rfl

theorem termP_pad (a l t : List UInt8) (ha : a.all gap = true) (ht : t.all gap = true) : termP (a ++ l ++ t) = termP l := by
  unfold termP
  rw [trimP_pad a l t ha ht]

theorem rightP_u {e : Int} {u r : List UInt8} (h : RightP e u r) : u ≠ [] := by
  intro e'
  have := h.st
  rw [e'] at this
  simp [startsDig] at this

theorem printP_all {e : Int} {u r : List UInt8} (h : RightP e u r) : (printP e u r).all (ok1 1) = true := by
  have hu : u.all (ok1 1) = true := by
    rw [List.all_eq_true]
    intro c hc
    exact ok1_ok1 e c (List.all_eq_true.1 h.au c hc)
  have hr : r.all (ok1 1) = true := by
    rw [List.all_eq_true]
    intro c hc
    exact ok0_ok1 c (List.all_eq_true.1 h.ar c hc)
  have hi : (Go.Lib.itoa e).all (ok1 1) = true := by
    have hlo := h.lo
    have ei : Go.Lib.itoa e = Go.Lib.decDigits e.toNat := by unfold Go.Lib.itoa; rw [if_neg (by omega)]
    rw [ei, List.all_eq_true]
    intro c hc
    exact dig_ok1 c (List.all_eq_true.1 (val_decDigits e.toNat).2.1 c hc)
  unfold printP
  rw [List.all_append, List.all_append, hu]
  have h1 : (if e ≠ 0 then Go.Lib.itoa e ++ [58] else []).all (ok1 1) = true := by
    split
    · rw [List.all_append, hi]; rfl
    · rfl
  have h2 : (if r = [] then [] else 45 :: r).all (ok1 1) = true := by
    split
    · rfl
    · rw [List.all_cons, hr]; rfl
  rw [h1, h2]
  rfl

theorem printP_ne {e : Int} {u r : List UInt8} (h : RightP e u r) : printP e u r ≠ [] := by
  unfold printP
  intro e'
  rw [List.append_eq_nil_iff, List.append_eq_nil_iff] at e'
  exact rightP_u h e'.1.2

structure RightT (t : Tm) : Prop where
  nm : NameP t.n
  k : (t.op = 0 ∧ t.e = 0 ∧ t.u = [] ∧ t.r = []) ∨ ((t.op = 1 ∨ t.op = 2 ∨ t.op = 3 ∨ t.op = 4 ∨ t.op = 5) ∧ RightP t.e t.u t.r)
theorem rightT_iff (t : Tm) : rightT t = true ↔ RightT t := by
  unfold rightT
  constructor
  · intro h
    rw [Bool.and_eq_true] at h
    refine ⟨(nameP_iff _).1 h.1, ?_⟩
    have h2 := h.2
    by_cases h0 : t.op = 0
    · rw [if_pos h0] at h2
      simp only [Bool.and_eq_true, decide_eq_true_eq] at h2
      exact .inl ⟨h0, h2.1.1, h2.1.2, h2.2⟩
    · rw [if_neg h0] at h2
      simp only [Bool.and_eq_true, decide_eq_true_eq] at h2
      exact .inr ⟨by omega, (rightP_iff _ _ _).1 h2.2⟩
  · rintro ⟨hn, hk⟩
    rw [Bool.and_eq_true]
    refine ⟨(nameP_iff _).2 hn, ?_⟩
    rcases hk with ⟨h0, h1, h2, h3⟩ | ⟨h0, h1⟩
    · rw [if_pos h0]
      simp [h1, h2, h3]
    · rw [if_neg (by omega), (rightP_iff _ _ _).2 h1]
      simp
      omega

theorem opP_sign (op : Int) (h : op = 1 ∨ op = 2 ∨ op = 3 ∨ op = 4 ∨ op = 5) (v : List UInt8) : opP (signP op ++ (32 :: v)) = (op, 32 :: v) := by
  rcases h with rfl | rfl | rfl | rfl | rfl <;> rfl

theorem sign_no (op : Int) (c : UInt8) (h : c ∈ signP op) : gap c = false ∧ c ≠ 40 ∧ c ≠ 41 ∧ c ≠ 44 ∧ c ≠ 124 := by
  unfold signP at h
  (repeat' split at h) <;> simp at h
  all_goals (try rcases h with rfl | rfl)
  all_goals (try subst h)
  all_goals decide

theorem getLast_append_ne {a b : List UInt8} (hb : b ≠ []) : (a ++ b).getLast? = b.getLast? := by
  rw [List.getLast?_append]
  cases h : b.getLast? with
  | none => rw [List.getLast?_eq_none_iff] at h; exact absurd h hb
  | some x => rfl

theorem mem_of_getLast {l : List UInt8} {c : UInt8} (h : l.getLast? = some c) : c ∈ l := List.mem_of_getLast? h
theorem mem_of_head {l : List UInt8} {c : UInt8} (h : l.head? = some c) : c ∈ l := List.mem_of_mem_head? h

theorem termP_one {t : Tm} (h : RightT t) : termP (oneP t) = some t := by
  obtain ⟨hn, hk⟩ := h
  have hne := hn.ne
  rcases hk with ⟨h0, h1, h2, h3⟩ | ⟨hop, hv⟩
  · have e : oneP t = t.n := by unfold oneP; rw [if_pos h0]
    have ht : trimP t.n = t.n := trimP_id (fun c hc => (hn.no (mem_of_head hc)).1) (fun c hc => (hn.no (mem_of_getLast hc)).1)
    have hr : trimR t.n = t.n := trimR_id (fun c hc => (hn.no (mem_of_getLast hc)).1)
    rw [e]
    unfold termP
    rw [ht, (cutAt_none 40 t.n).2 (fun hm => (hn.no hm).2.1 rfl)]
    simp only
    rw [hr, if_pos ((nameP_iff _).2 hn)]
    cases t
    simp_all
  · have e : oneP t = (t.n ++ [32]) ++ 40 :: (signP t.op ++ (32 :: (printP t.e t.u t.r ++ [41]))) := by
      unfold oneP
      rw [if_neg (by omega)]
      simp
    have hpa := printP_all hv
    have hpn := printP_ne hv
    have ht : trimP (oneP t) = oneP t := by
      refine trimP_id (fun c hc => ?_) (fun c hc => ?_)
      · rw [e] at hc
        cases hnn : t.n with
        | nil => exact absurd hnn hne
        | cons x l =>
          rw [hnn] at hc
          simp at hc
          subst hc
          exact (hn.no (by rw [hnn]; exact .head _)).1
      · have e2 : oneP t = ((t.n ++ [32]) ++ 40 :: (signP t.op ++ (32 :: printP t.e t.u t.r))) ++ [41] := by rw [e]; simp
        rw [e2, getLast_append_ne (by simp)] at hc
        simp at hc
        subst hc
        decide
    unfold termP
    rw [ht, e, cutAt_mid 40 _ _ (by
      rw [List.mem_append, not_or]
      exact ⟨fun hm => (hn.no hm).2.1 rfl, by decide⟩)]
    simp only
    have hr : trimR (t.n ++ [32]) = t.n := by
      rw [trimR_snoc, if_pos (by decide), trimR_id (fun c hc => (hn.no (mem_of_getLast hc)).1)]
    have e3 : signP t.op ++ (32 :: (printP t.e t.u t.r ++ [41])) = (signP t.op ++ (32 :: printP t.e t.u t.r)) ++ [41] := by simp
    have hsn : signP t.op ≠ [] := by rcases hop with h | h | h | h | h <;> rw [h] <;> decide
    have hti : trimP (signP t.op ++ (32 :: printP t.e t.u t.r)) = signP t.op ++ (32 :: printP t.e t.u t.r) := by
      refine trimP_id (fun c hc => ?_) (fun c hc => ?_)
      · cases hss : signP t.op with
        | nil => exact absurd hss hsn
        | cons x l =>
          rw [hss] at hc
          simp at hc
          subst hc
          exact (sign_no t.op x (by rw [hss]; exact .head _)).1
      · rw [getLast_append_ne (by simp), show (32 : UInt8) :: printP t.e t.u t.r = [32] ++ printP t.e t.u t.r from rfl, getLast_append_ne hpn] at hc
        exact (ok1_no c (List.all_eq_true.1 hpa c (mem_of_getLast hc))).1
    have htv : trimP (32 :: printP t.e t.u t.r) = printP t.e t.u t.r := by
      have := trimP_pad [32] (printP t.e t.u t.r) [] (by decide) rfl
      rw [List.append_nil] at this
      rw [show (32 : UInt8) :: printP t.e t.u t.r = [32] ++ printP t.e t.u t.r from rfl, this]
      exact trimP_id (fun c hc => (ok1_no c (List.all_eq_true.1 hpa c (mem_of_head hc))).1) (fun c hc => (ok1_no c (List.all_eq_true.1 hpa c (mem_of_getLast hc))).1)
    rw [hr, if_pos ((nameP_iff _).2 hn), e3, if_pos (by rw [getLast_append_ne (by simp)]; rfl), List.dropLast_concat, hti]
    unfold innerP
    rw [opP_sign t.op hop, if_neg (by omega)]
    simp only
    rw [htv, parse_print ((rightP_iff _ _ _).2 hv)]
    rfl

/-- what is read of versions may be -/
theorem parseP_right {l : List UInt8} {v : Int × List UInt8 × List UInt8} (h : parseP l = some v) : RightP v.1 v.2.1 v.2.2 := by
  have hc : ∀ (e : Int) (u r : List UInt8), checkP e u r = some v → RightP v.1 v.2.1 v.2.2 := by
    intro e u r h
    unfold checkP at h
    split at h
    · rename_i hr
      simp only [Option.some.injEq] at h
      subst h
      exact (rightP_iff _ _ _).1 hr
    · cases h
  have hrest : ∀ (e : Int) (l : List UInt8), restP e l = some v → RightP v.1 v.2.1 v.2.2 := by
    intro e l h
    unfold restP at h
    split at h
    · exact hc _ _ _ h
    · split at h
      · cases h
      · exact hc _ _ _ h
  unfold parseP at h
  split at h
  · cases h
  · split at h
    · exact hrest _ _ h
    · split at h
      · cases h
      · exact hrest _ _ h

theorem opP_rng (m : List UInt8) : (opP m).1 = 0 ∨ (opP m).1 = 1 ∨ (opP m).1 = 2 ∨ (opP m).1 = 3 ∨ (opP m).1 = 4 ∨ (opP m).1 = 5 := by
  unfold opP
  split <;> simp

/-- WHAT IS READ MAY BE ASKED FOR. -/
theorem termP_right {l : List UInt8} {t : Tm} (h : termP l = some t) : RightT t := by
  unfold termP at h
  split at h
  · split at h
    · rename_i hn
      simp only [Option.some.injEq] at h
      subst h
      exact ⟨(nameP_iff _).1 hn, .inl ⟨rfl, rfl, rfl, rfl⟩⟩
    · cases h
  · split at h
    · rename_i hn
      split at h
      · unfold innerP at h
        split at h
        · cases h
        · rename_i h0
          rw [Option.map_eq_some_iff] at h
          obtain ⟨v, hv, e⟩ := h
          subst e
          have := opP_rng
          exact ⟨(nameP_iff _).1 hn, .inr ⟨(this _).resolve_left h0, parseP_right hv⟩⟩
      · cases h
    · cases h

theorem someP_ok {n : Nat} {l : List (List UInt8)} {ts : List Tm} {k : Nat} (h : someP n l = .ok (ts, k)) : ts.length = l.length ∧ k = n + l.length ∧ (n ≤ 30 → k ≤ 30) ∧ ∀ t ∈ ts, RightT t := by
  induction l generalizing n ts k with
  | nil =>
    simp [someP] at h
    obtain ⟨rfl, rfl⟩ := h
    simp
  | cons y ys ih =>
    rw [someP] at h
    split at h
    · cases h
    · rename_i t ht
      split at h
      · cases h
      · rename_i hn
        split at h
        · cases h
        · rename_i ts' k' he
          simp only [Except.ok.injEq, Prod.mk.injEq] at h
          obtain ⟨rfl, rfl⟩ := h
          obtain ⟨h1, h2, h3, h4⟩ := ih he
          refine ⟨by simp [h1], by simp; omega, fun _ => h3 (by omega), ?_⟩
          intro x hx
          rcases List.mem_cons.1 hx with rfl | hx
          · exact termP_right ht
          · exact h4 x hx

theorem total_cons (x : List Tm) (L : List (List Tm)) : total (x :: L) = x.length + total L := by simp [total]

theorem eachP_ok {n : Nat} {l : List (List UInt8)} {M : List (List Tm)} (h : eachP n l = .ok M) : (n ≤ 30 → n + total M ≤ 30) ∧ ∀ x ∈ M, x ≠ [] ∧ ∀ t ∈ x, RightT t := by
  induction l generalizing n M with
  | nil =>
    simp [eachP] at h
    subst h
    simp [total]
  | cons y ys ih =>
    rw [eachP] at h
    split at h
    · cases h
    · rename_i ts k hs
      split at h
      · cases h
      · rename_i r hr
        simp only [Except.ok.injEq] at h
        subst h
        obtain ⟨h1, h2, h3, h4⟩ := someP_ok hs
        obtain ⟨i1, i2⟩ := ih hr
        refine ⟨fun hn => ?_, ?_⟩
        · have := i1 (h3 hn)
          rw [total_cons]; omega
        · intro x hx
          rcases List.mem_cons.1 hx with rfl | hx
          · refine ⟨?_, h4⟩
            intro e
            rw [e] at h1
            have := pieces_ne 124 y
            exact this (List.eq_nil_of_length_eq_zero h1.symm)
          · exact i2 x hx

structure AskedP (L : List (List Tm)) : Prop where
  each : ∀ x ∈ L, x ≠ [] ∧ ∀ t ∈ x, RightT t
  few : total L ≤ 30
theorem askedP_iff (L : List (List Tm)) : askedP L = true ↔ AskedP L := by
  unfold askedP
  rw [Bool.and_eq_true, List.all_eq_true, decide_eq_true_eq]
  constructor
  · rintro ⟨h1, h2⟩
    refine ⟨fun x hx => ?_, h2⟩
    have := h1 x hx
    rw [Bool.and_eq_true, List.all_eq_true] at this
    exact ⟨by simpa using this.1, fun t ht => (rightT_iff t).1 (this.2 t ht)⟩
  · rintro ⟨h1, h2⟩
    refine ⟨fun x hx => ?_, h2⟩
    obtain ⟨h3, h4⟩ := h1 x hx
    rw [Bool.and_eq_true, List.all_eq_true]
    exact ⟨by simpa using h3, fun t ht => (rightT_iff t).2 (h4 t ht)⟩

/-- WHAT IS READ IS SUCH THAT IT MAY BE WRITTEN. -/
theorem termsP_asked {l : List UInt8} {M : List (List Tm)} (h : termsP l = .ok M) : AskedP M := by
  unfold termsP at h
  split at h
  · simp at h
    subst h
    exact ⟨by simp, by simp [total]⟩
  · obtain ⟨h1, h2⟩ := eachP_ok h
    exact ⟨h2, by have := h1 (by omega); omega⟩

/-! what is joined comes apart -/
def padP (pre post : List UInt8) : List UInt8 → List (List UInt8) → List (List UInt8)
  | _, [] => []
  | lead, [x] => [lead ++ x]
  | lead, x :: y :: r => (lead ++ x ++ pre) :: padP pre post post (y :: r)

theorem pieces_join (c : UInt8) (pre post : List UInt8) (h1 : c ∉ pre) (h2 : c ∉ post) : ∀ (lead : List UInt8) (xs : List (List UInt8)), xs ≠ [] → c ∉ lead → (∀ x ∈ xs, c ∉ x) →
    pieces c (lead ++ joinP (pre ++ c :: post) xs) = padP pre post lead xs
  | lead, [], h, _, _ => absurd rfl h
  | lead, [x], _, hl, hx => by
    rw [joinP, padP, pieces_one]
    rw [List.mem_append, not_or]
    exact ⟨hl, hx x (.head _)⟩
  | lead, x :: y :: r, _, hl, hx => by
    rw [joinP, padP]
    have e : lead ++ (x ++ (pre ++ c :: post ++ joinP (pre ++ c :: post) (y :: r))) = (lead ++ x ++ pre) ++ c :: (post ++ joinP (pre ++ c :: post) (y :: r)) := by simp
    rw [e, pieces_mid c _ _ (by
      rw [List.mem_append, List.mem_append, not_or, not_or]
      exact ⟨⟨hl, hx x (.head _)⟩, h1⟩), pieces_join c pre post h1 h2 post (y :: r) (by simp) h2 (fun z hz => hx z (.tail _ hz))]

theorem one_no {t : Tm} (h : RightT t) : 44 ∉ oneP t ∧ 124 ∉ oneP t := by
  obtain ⟨hn, hk⟩ := h
  have key : ∀ c ∈ oneP t, c ≠ 44 ∧ c ≠ 124 := by
    intro c hc
    rcases hk with ⟨h0, _⟩ | ⟨hop, hv⟩
    · unfold oneP at hc
      rw [if_pos h0] at hc
      exact ⟨(hn.no hc).2.2.2.1, (hn.no hc).2.2.2.2⟩
    · unfold oneP at hc
      rw [if_neg (by omega)] at hc
      simp only [List.mem_append, List.mem_cons, List.not_mem_nil, or_false] at hc
      rcases hc with hc | hc | hc | hc | hc | hc
      · exact ⟨(hn.no hc).2.2.2.1, (hn.no hc).2.2.2.2⟩
      · rcases hc with rfl | rfl <;> decide
      · exact ⟨(sign_no _ _ hc).2.2.2.1, (sign_no _ _ hc).2.2.2.2⟩
      · subst hc; decide
      · have := ok1_no c (List.all_eq_true.1 (printP_all hv) c hc)
        exact ⟨this.2.2.2.1, this.2.2.2.2⟩
      · subst hc; decide
  exact ⟨fun h => (key _ h).1 rfl, fun h => (key _ h).2 rfl⟩

theorem join_no (c : UInt8) (sep : List UInt8) (hs : c ∉ sep) : ∀ xs : List (List UInt8), (∀ x ∈ xs, c ∉ x) → c ∉ joinP sep xs
  | [], _ => by simp [joinP]
  | [x], h => by rw [joinP]; exact h x (.head _)
  | x :: y :: r, h => by
    rw [joinP, List.mem_append, List.mem_append, not_or, not_or]
    exact ⟨h x (.head _), hs, join_no c sep hs (y :: r) (fun z hz => h z (.tail _ hz))⟩

theorem someP_pad (n : Nat) : ∀ (lead : List UInt8) (x : List Tm), lead.all gap = true → (∀ t ∈ x, RightT t) → n + x.length ≤ 30 → someP n (padP [32] [32] lead (x.map oneP)) = .ok (x, n + x.length)
  | _, [], _, _, _ => rfl
  | lead, [t], hl, ht, hn => by
    have := termP_pad lead (oneP t) [] hl rfl
    rw [List.append_nil] at this
    simp only [List.map_cons, List.map_nil, padP, someP, this, termP_one (ht t (.head _))]
    simp at hn
    rw [if_neg (by omega)]
    rfl
  | lead, t :: y :: r, hl, ht, hn => by
    have hh := termP_pad lead (oneP t) [32] hl (by decide)
    have ih := someP_pad (n + 1) [32] (y :: r) (by decide) (fun z hz => ht z (.tail _ hz)) (by simp at hn ⊢; omega)
    simp only [List.map_cons] at ih
    simp only [List.map_cons, padP, someP, hh, termP_one (ht t (.head _)), ih]
    simp at hn
    rw [if_neg (by omega)]
    simp
    omega

theorem eachP_pad (n : Nat) : ∀ (lead : List UInt8) (L : List (List Tm)), lead = [] ∨ lead = [32] → (∀ x ∈ L, x ≠ [] ∧ ∀ t ∈ x, RightT t) → n + total L ≤ 30 → eachP n (padP [] [32] lead (L.map lineP)) = .ok L
  | _, [], _, _, _ => rfl
  | lead, x :: L, hl, hx, hn => by
    have hlg : lead.all gap = true := by rcases hl with rfl | rfl <;> decide
    have hl124 : (124 : UInt8) ∉ lead := by rcases hl with rfl | rfl <;> decide
    obtain ⟨hne, hr⟩ := hx x (.head _)
    rw [total_cons] at hn
    have hp : pieces 124 (lead ++ lineP x) = padP [32] [32] lead (x.map oneP) := by
      unfold lineP
      exact pieces_join 124 [32] [32] (by decide) (by decide) lead (x.map oneP) (by simpa using hne) hl124 (fun y hy => by
        obtain ⟨t, ht, rfl⟩ := List.mem_map.1 hy
        exact (one_no (hr t ht)).2)
    have hs := someP_pad n lead x hlg hr (by omega)
    cases L with
    | nil =>
      simp only [List.map_cons, List.map_nil, padP, eachP, hp, hs]
    | cons y L =>
      have ih := eachP_pad (n + x.length) [32] (y :: L) (.inr rfl) (fun z hz => hx z (.tail _ hz)) (by omega)
      simp only [List.map_cons] at ih
      simp only [List.map_cons, padP, eachP, List.append_nil, hp, hs, ih]

theorem oneP_ne {t : Tm} (h : RightT t) : ∃ c l, oneP t = c :: l ∧ gap c = false := by
  have hne := h.nm.ne
  cases hn : t.n with
  | nil => exact absurd hn hne
  | cons c l =>
    have hg := (h.nm.no (c := c) (by rw [hn]; exact .head _)).1
    unfold oneP
    rw [hn]
    split
    · exact ⟨c, l, rfl, hg⟩
    · exact ⟨c, _, rfl, hg⟩

theorem joinP_head (sep : List UInt8) (x : List UInt8) (xs : List (List UInt8)) (c : UInt8) (l : List UInt8) (h : x = c :: l) : ∃ l', joinP sep (x :: xs) = c :: l' := by
  subst h
  cases xs with
  | nil => exact ⟨l, rfl⟩
  | cons y r => exact ⟨_, rfl⟩

/-- WHAT IS ASKED FOR IS WRITTEN, AND READ, AS IT IS. -/
theorem termsP_print {L : List (List Tm)} (h : AskedP L) : termsP (printL L) = .ok L := by
  cases hL : L with
  | nil => rfl
  | cons x r =>
    subst hL
    obtain ⟨hne, hr⟩ := h.each x (.head _)
    obtain ⟨t, ts, rfl⟩ : ∃ t ts, x = t :: ts := by
      cases x with
      | nil => exact absurd rfl hne
      | cons t ts => exact ⟨t, ts, rfl⟩
    obtain ⟨c, l, hc, hg⟩ := oneP_ne (hr t (.head _))
    obtain ⟨l1, hl1⟩ := joinP_head [32, 124, 32] (oneP t) (ts.map oneP) c l hc
    obtain ⟨l2, hl2⟩ := joinP_head [44, 32] (lineP (t :: ts)) (r.map lineP) c l1 hl1
    have hnn : trimP (printL ((t :: ts) :: r)) ≠ [] := by
      have e : printL ((t :: ts) :: r) = c :: l2 := hl2
      rw [e, ← trim_comm, List.dropWhile_cons, if_neg (by simp [hg]), trimR_cons, if_neg (fun h => by rw [hg] at h; simp at h)]
      simp
    unfold termsP
    rw [if_neg hnn]
    have hp : pieces 44 (printL ((t :: ts) :: r)) = padP [] [32] [] (((t :: ts) :: r).map lineP) := by
      have := pieces_join 44 [] [32] (by simp) (by decide) [] (((t :: ts) :: r).map lineP) (by simp) (by simp) (fun y hy => by
        obtain ⟨x', hx', rfl⟩ := List.mem_map.1 hy
        unfold lineP
        exact join_no 44 _ (by decide) _ (fun z hz => by
          obtain ⟨t', ht', rfl⟩ := List.mem_map.1 hz
          exact (one_no ((h.each x' hx').2 t' ht')).1))
      rw [List.nil_append] at this
      exact this
    rw [hp]
    exact eachP_pad 0 [] _ (.inl rfl) h.each (by have := h.few; omega)
end Go.Proofs.YtodbbfgkclkpgaaGreatDoor.VP

namespace Go.Proofs.YtodbbfgkclkpgaaGreatDoor.VP

/-- packages, each by itself -/
def listP (l : List UInt8) : Except Int (List Tm) :=
  match termsP l with
  | .error e => .error e
  | .ok M => if M.all (fun x => decide (x.length ≤ 1)) then .ok M.flatten else .error 3

end Go.Proofs.YtodbbfgkclkpgaaGreatDoor.VP

namespace Go.Proofs.YtodbbfgkclkpgaaGreatDoor.VP

theorem someP_snoc (n : Nat) (ys : List (List UInt8)) (y : List UInt8) : someP n (ys ++ [y]) = match someP n ys with
    | .error e => .error e
    | .ok (ts, k) => match termP y with
      | none => .error 3
      | some t => if 30 < k + 1 then .error 4 else .ok (ts ++ [t], k + 1) := by
  induction ys generalizing n with
  | nil =>
    simp only [List.nil_append, someP] <;> (cases termP y <;> rfl)
  | cons x ys ih =>
    simp only [List.cons_append, someP]
    cases termP x with
    | none => rfl
    | some t =>
      simp only
      by_cases h : 30 < n + 1
      · rw [if_pos h, if_pos h]
      · rw [if_neg h, if_neg h, ih]
        cases someP (n + 1) ys with
        | error e => rfl
        | ok p =>
          obtain ⟨ts, k⟩ := p
          simp only
          cases termP y with
          | none => rfl
          | some t' =>
            simp only
            by_cases h2 : 30 < k + 1
            · rw [if_pos h2, if_pos h2]
            · rw [if_neg h2, if_neg h2]
              rfl

theorem someP_error {n : Nat} {a b : List (List UInt8)} {e : Int} (h : someP n a = .error e) : someP n (a ++ b) = .error e := by
  induction a generalizing n with
  | nil => simp [someP] at h
  | cons x a ih =>
    simp only [List.cons_append, someP] at h ⊢
    cases ht : termP x with
    | none => rw [ht] at h; exact h
    | some t =>
      rw [ht] at h
      simp only at h ⊢
      by_cases h2 : 30 < n + 1
      · rw [if_pos h2] at h ⊢; exact h
      · rw [if_neg h2] at h ⊢
        cases hs : someP (n + 1) a with
        | error e' =>
          rw [hs] at h
          injection h with h
          subst h
          rw [ih hs]
        | ok p => rw [hs] at h; cases h

/-- each, and how many packages in all -/
def eachC (n : Nat) : List (List UInt8) → Except Int (List (List Tm) × Nat)
  | [] => .ok ([], n)
  | x :: xs => match someP n (pieces 124 x) with
    | .error e => .error e
    | .ok (ts, k) => match eachC k xs with
      | .error e => .error e
      | .ok (r, m) => .ok (ts :: r, m)

theorem eachP_eq (n : Nat) (xs : List (List UInt8)) : eachP n xs = match eachC n xs with | .error e => .error e | .ok (r, _) => .ok r := by
  induction xs generalizing n with
  | nil => rfl
  | cons x xs ih =>
    simp only [eachP, eachC]
    cases someP n (pieces 124 x) with
    | error e => rfl
    | ok p =>
      obtain ⟨ts, k⟩ := p
      simp only
      rw [ih]
      cases eachC k xs with
      | error e => rfl
      | ok q => rfl

theorem eachC_snoc (n : Nat) (xs : List (List UInt8)) (x : List UInt8) : eachC n (xs ++ [x]) = match eachC n xs with
    | .error e => .error e
    | .ok (r, k) => match someP k (pieces 124 x) with
      | .error e => .error e
      | .ok (ts, m) => .ok (r ++ [ts], m) := by
  induction xs generalizing n with
  | nil =>
    simp only [List.nil_append, eachC]
  | cons y xs ih =>
    simp only [List.cons_append, eachC]
    cases someP n (pieces 124 y) with
    | error e => rfl
    | ok p =>
      obtain ⟨ts, k⟩ := p
      simp only
      rw [ih]
      cases eachC k xs with
      | error e => rfl
      | ok q =>
        obtain ⟨r, m⟩ := q
        simp only
        cases someP m (pieces 124 x) with
        | error e => rfl
        | ok p => rfl

theorem eachC_error {n : Nat} {a b : List (List UInt8)} {e : Int} (h : eachC n a = .error e) : eachC n (a ++ b) = .error e := by
  induction a generalizing n with
  | nil => simp [eachC] at h
  | cons x a ih =>
    simp only [List.cons_append, eachC] at h ⊢
    cases hs : someP n (pieces 124 x) with
    | error e' => rw [hs] at h; exact h
    | ok p =>
      obtain ⟨ts, k⟩ := p
      rw [hs] at h
      simp only at h ⊢
      cases he : eachC k a with
      | error e' =>
        rw [he] at h
        injection h with h
        subst h
        rw [ih he]
      | ok q => rw [he] at h; cases h

/-- an error of one of them is the whole's -/
theorem eachC_some_error {n k : Nat} {a b : List (List UInt8)} {x : List UInt8} {r : List (List Tm)} {e : Int} (h : eachC n a = .ok (r, k)) (hs : someP k (pieces 124 x) = .error e) : eachP n (a ++ x :: b) = .error e := by
  have h1 : eachC n (a ++ [x]) = .error e := by rw [eachC_snoc, h]; simp only; rw [hs]
  have h2 := eachC_error (b := b) h1
  rw [List.append_assoc, List.singleton_append] at h2
  rw [eachP_eq, h2]

/-- the bounds of how many -/
theorem someP_le {n : Nat} {ys : List (List UInt8)} {ts : List Tm} {k : Nat} (h : someP n ys = .ok (ts, k)) (hn : n ≤ 30) : k ≤ 30 := (someP_ok h).2.2.1 hn
theorem eachC_le {n : Nat} {xs : List (List UInt8)} {r : List (List Tm)} {k : Nat} (h : eachC n xs = .ok (r, k)) (hn : n ≤ 30) : k ≤ 30 := by
  induction xs generalizing n r k with
  | nil =>
    simp [eachC] at h
    omega
  | cons x xs ih =>
    simp only [eachC] at h
    cases hs : someP n (pieces 124 x) with
    | error e => rw [hs] at h; cases h
    | ok p =>
      obtain ⟨ts, m⟩ := p
      rw [hs] at h
      simp only at h
      cases he : eachC m xs with
      | error e => rw [he] at h; cases h
      | ok q =>
        obtain ⟨r', m'⟩ := q
        rw [he] at h
        simp only [Except.ok.injEq, Prod.mk.injEq] at h
        have := ih he (someP_le hs hn)
        omega
theorem someP_len {n : Nat} {ys : List (List UInt8)} {ts : List Tm} {k : Nat} (h : someP n ys = .ok (ts, k)) : ts.length + n = k := by
  obtain ⟨h1, h2, _⟩ := someP_ok h
  omega
end Go.Proofs.YtodbbfgkclkpgaaGreatDoor.VP
