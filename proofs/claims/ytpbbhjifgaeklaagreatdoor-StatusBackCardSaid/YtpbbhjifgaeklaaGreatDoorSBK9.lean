/- What packages ask for: how it is read and written: plain lists of bytes; no program in sight. · What is asked for is written, and read, as it is; what is read may be written: plain lists of bytes; no program in sight. · The reference reads what is asked for in another way, and comes to the same: plain lists of bytes; no program in sight. · Reading, piece by piece: plain lists; no program in sight. -/
import Derived.Test.YtpbbhjifgaeklaaGreatDoorSBK1
namespace Go.Proofs.YtpbbhjifgaeklaaGreatDoor.VP

/-! names -/
def low (c : UInt8) : Bool := decide (97 ≤ c.toNat) && decide (c.toNat ≤ 122)
def nm0 (c : UInt8) : Bool := low c || dig c
def nm1 (c : UInt8) : Bool := nm0 c || c == 43 || c == 45 || c == 46
def startsNm : List UInt8 → Bool
  | [] => false
  | c :: _ => nm0 c
def nameP (l : List UInt8) : Bool := decide (2 ≤ l.length) && decide (l.length ≤ 24) && startsNm l && l.all nm1

/-! blanks, tabs and line feeds at both ends -/
def gap (c : UInt8) : Bool := c == 32 || c == 9 || c == 10
/-! what is asked of versions: its signs -/
def signP (op : Int) : List UInt8 := if op = 1 then [60, 60] else if op = 2 then [60, 61] else if op = 3 then [61] else if op = 4 then [62, 61] else if op = 5 then [62, 62] else []

/-- a package that is asked for: its name, what is asked of its version, the version -/
structure Tm where
  n : List UInt8
  op : Int
  e : Int
  u : List UInt8
  r : List UInt8
deriving DecidableEq

/-! texts apart at a byte -/
def pieces (c : UInt8) : List UInt8 → List (List UInt8)
  | [] => [[]]
  | x :: l => if x = c then [] :: pieces c l else match pieces c l with
    | [] => [[x]]
    | p :: ps => (x :: p) :: ps

theorem pieces_ne (c : UInt8) (l : List UInt8) : pieces c l ≠ [] := by
  cases l with
  | nil => simp [pieces]
  | cons x l =>
    rw [pieces]
    split
    · simp
    · split <;> simp

theorem pieces_none {c : UInt8} {l : List UInt8} (h : cutAt c l = none) : pieces c l = [l] := by
  induction l with
  | nil => rfl
  | cons x l ih =>
    by_cases hx : x = c
    · subst hx; simp [cutAt] at h
    · simp [cutAt, hx] at h
      rw [pieces, if_neg hx, ih h]

theorem pieces_some {c : UInt8} {l a b : List UInt8} (h : cutAt c l = some (a, b)) : pieces c l = a :: pieces c b := by
  induction l generalizing a b with
  | nil => simp [cutAt] at h
  | cons x l ih =>
    by_cases hx : x = c
    · subst hx
      simp [cutAt] at h
      obtain ⟨rfl, rfl⟩ := h
      rw [pieces, if_pos rfl]
    · simp [cutAt, hx] at h
      obtain ⟨a', h, rfl⟩ := h
      rw [pieces, if_neg hx, ih h]

theorem pieces_mid (c : UInt8) (a b : List UInt8) (h : c ∉ a) : pieces c (a ++ c :: b) = a :: pieces c b := pieces_some (cutAt_mid c a b h)
theorem pieces_one (c : UInt8) (a : List UInt8) (h : c ∉ a) : pieces c a = [a] := pieces_none ((cutAt_none c a).2 h)

def total (L : List (List Tm)) : Nat := (L.map List.length).sum
def oneP (t : Tm) : List UInt8 := if t.op = 0 then t.n else t.n ++ ([32, 40] ++ (signP t.op ++ (32 :: (printP t.e t.u t.r ++ [41]))))
def joinP (sep : List UInt8) : List (List UInt8) → List UInt8
  | [] => []
  | [x] => x
  | x :: y :: r => x ++ (sep ++ joinP sep (y :: r))
def lineP (x : List Tm) : List UInt8 := joinP [32, 124, 32] (x.map oneP)
def printL (L : List (List Tm)) : List UInt8 := joinP [44, 32] (L.map lineP)
end Go.Proofs.YtpbbhjifgaeklaaGreatDoor.VP

namespace Go.Proofs.YtpbbhjifgaeklaaGreatDoor.VP

theorem fin_imp {p : UInt8 → Prop} [DecidablePred p] (h : ∀ i : Fin 256, p (UInt8.ofNat i.val)) (c : UInt8) : p c := by
  have := h ⟨c.toNat, c.toNat_lt⟩
  simpa using this

theorem nm1_no (c : UInt8) (h : nm1 c = true) : gap c = false ∧ c ≠ 40 ∧ c ≠ 41 ∧ c ≠ 44 ∧ c ≠ 124 := by
  have : ∀ c : UInt8, nm1 c = true → gap c = false ∧ c ≠ 40 ∧ c ≠ 41 ∧ c ≠ 44 ∧ c ≠ 124 := fin_imp (by decide +kernel)
  exact this c h
theorem ok1_no (c : UInt8) (h : ok1 1 c = true) : gap c = false ∧ c ≠ 40 ∧ c ≠ 41 ∧ c ≠ 44 ∧ c ≠ 124 := by
  have : ∀ c : UInt8, ok1 1 c = true → gap c = false ∧ c ≠ 40 ∧ c ≠ 41 ∧ c ≠ 44 ∧ c ≠ 124 := fin_imp (by decide +kernel)
  exact this c h
theorem dig_ok1 (c : UInt8) (h : dig c = true) : ok1 1 c = true := by unfold ok1 ok0; rw [h]; rfl
theorem ok0_ok1 (c : UInt8) (h : ok0 c = true) : ok1 1 c = true := by unfold ok1; rw [h]; rfl
theorem ok1_ok1 (e : Int) (c : UInt8) (h : ok1 e c = true) : ok1 1 c = true := by
  unfold ok1 at h ⊢
  rw [Bool.or_eq_true] at h ⊢
  rcases h with h | h
  · exact .inl h
  · rw [Bool.and_eq_true] at h
    exact .inr (by rw [h.2]; rfl)

structure NameP (l : List UInt8) : Prop where
  lo : 2 ≤ l.length
  hi : l.length ≤ 24
  st : startsNm l = true
  al : l.all nm1 = true
theorem nameP_iff (l : List UInt8) : nameP l = true ↔ NameP l := by
  unfold nameP
  constructor
  · intro h
    simp only [Bool.and_eq_true, decide_eq_true_eq] at h
    exact ⟨h.1.1.1, h.1.1.2, h.1.2, h.2⟩
  · intro h
    simp only [Bool.and_eq_true, decide_eq_true_eq]
    exact ⟨⟨⟨h.lo, h.hi⟩, h.st⟩, h.al⟩
theorem NameP.no {l : List UInt8} (h : NameP l) {c : UInt8} (hc : c ∈ l) : gap c = false ∧ c ≠ 40 ∧ c ≠ 41 ∧ c ≠ 44 ∧ c ≠ 124 := nm1_no c (List.all_eq_true.1 h.al c hc)
theorem printP_all {e : Int} {u r : List UInt8} (h : RightP e u r) : (printP e u r).all (ok1 1) = true := by
  have hu : u.all (ok1 1) = true := by
    rw [List.all_eq_true]
    intro c hc
    exact ok1_ok1 e c (List.all_eq_true.1 h.au c hc)
  have hr : r.all (ok1 1) = true := by
    rw [List.all_eq_true]
    intro c hc
    exact ok0_ok1 c (List.all_eq_true.1 h.ar c hc)
  have hi : (Go.Lib.itoa e).all (ok1 1) = true := by
    have hlo := h.lo
    have ei : Go.Lib.itoa e = Go.Lib.decDigits e.toNat := by unfold Go.Lib.itoa; rw [if_neg (by omega)]
    rw [ei, List.all_eq_true]
    intro c hc
    exact dig_ok1 c (List.all_eq_true.1 (val_decDigits e.toNat).2.1 c hc)
  unfold printP
  rw [List.all_append, List.all_append, hu]
  have h1 : (if e ≠ 0 then Go.Lib.itoa e ++ [58] else []).all (ok1 1) = true := by
    split
    · rw [List.all_append, hi]; rfl
    · rfl
  have h2 : (if r = [] then [] else 45 :: r).all (ok1 1) = true := by
    split
    · rfl
    · rw [List.all_cons, hr]; rfl
  rw [h1, h2]
  rfl

structure RightT (t : Tm) : Prop where
  nm : NameP t.n
  k : (t.op = 0 ∧ t.e = 0 ∧ t.u = [] ∧ t.r = []) ∨ ((t.op = 1 ∨ t.op = 2 ∨ t.op = 3 ∨ t.op = 4 ∨ t.op = 5) ∧ RightP t.e t.u t.r)
/-- what is read of versions may be -/
theorem parseP_right {l : List UInt8} {v : Int × List UInt8 × List UInt8} (h : parseP l = some v) : RightP v.1 v.2.1 v.2.2 := by
  have hc : ∀ (e : Int) (u r : List UInt8), checkP e u r = some v → RightP v.1 v.2.1 v.2.2 := by
    intro e u r h
    unfold checkP at h
    split at h
    · rename_i hr
      simp only [Option.some.injEq] at h
      subst h
      exact (rightP_iff _ _ _).1 hr
    · cases h
  have hrest : ∀ (e : Int) (l : List UInt8), restP e l = some v → RightP v.1 v.2.1 v.2.2 := by
    intro e l h
    unfold restP at h
    split at h
    · exact hc _ _ _ h
    · split at h
      · cases h
      · exact hc _ _ _ h
  unfold parseP at h
  split at h
  · cases h
  · split at h
    · exact hrest _ _ h
    · split at h
      · cases h
      · exact hrest _ _ h

structure AskedP (L : List (List Tm)) : Prop where
  each : ∀ x ∈ L, x ≠ [] ∧ ∀ t ∈ x, RightT t
  few : total L ≤ 30
/-! what is joined comes apart -/
def padP (pre post : List UInt8) : List UInt8 → List (List UInt8) → List (List UInt8)
  | _, [] => []
  | lead, [x] => [lead ++ x]
  | lead, x :: y :: r => (lead ++ x ++ pre) :: padP pre post post (y :: r)

theorem pieces_join (c : UInt8) (pre post : List UInt8) (h1 : c ∉ pre) (h2 : c ∉ post) : ∀ (lead : List UInt8) (xs : List (List UInt8)), xs ≠ [] → c ∉ lead → (∀ x ∈ xs, c ∉ x) →
    pieces c (lead ++ joinP (pre ++ c :: post) xs) = padP pre post lead xs
  | lead, [], h, _, _ => absurd rfl h
  | lead, [x], _, hl, hx => by
    rw [joinP, padP, pieces_one]
    rw [List.mem_append, not_or]
    exact ⟨hl, hx x (.head _)⟩
  | lead, x :: y :: r, _, hl, hx => by
    rw [joinP, padP]
    have e : lead ++ (x ++ (pre ++ c :: post ++ joinP (pre ++ c :: post) (y :: r))) = (lead ++ x ++ pre) ++ c :: (post ++ joinP (pre ++ c :: post) (y :: r)) := by simp
    rw [e, pieces_mid c _ _ (by
      rw [List.mem_append, List.mem_append, not_or, not_or]
      exact ⟨⟨hl, hx x (.head _)⟩, h1⟩), pieces_join c pre post h1 h2 post (y :: r) (by simp) h2 (fun z hz => hx z (.tail _ hz))]

theorem join_no (c : UInt8) (sep : List UInt8) (hs : c ∉ sep) : ∀ xs : List (List UInt8), (∀ x ∈ xs, c ∉ x) → c ∉ joinP sep xs
  | [], _ => by simp [joinP]
  | [x], h => by rw [joinP]; exact h x (.head _)
  | x :: y :: r, h => by
    rw [joinP, List.mem_append, List.mem_append, not_or, not_or]
    exact ⟨h x (.head _), hs, join_no c sep hs (y :: r) (fun z hz => h z (.tail _ hz))⟩

end Go.Proofs.YtpbbhjifgaeklaaGreatDoor.VP

namespace Go.Proofs.YtpbbhjifgaeklaaGreatDoor.VP

end Go.Proofs.YtpbbhjifgaeklaaGreatDoor.VP

namespace Go.Proofs.YtpbbhjifgaeklaaGreatDoor.VP

end Go.Proofs.YtpbbhjifgaeklaaGreatDoor.VP
