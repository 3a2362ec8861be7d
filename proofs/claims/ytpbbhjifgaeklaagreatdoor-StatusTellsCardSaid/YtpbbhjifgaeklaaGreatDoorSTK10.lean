/- What packages ask for: how it is read and written: plain lists of bytes; no program in sight. · What is asked for is written, and read, as it is; what is read may be written: plain lists of bytes; no program in sight. · The reference reads what is asked for in another way, and comes to the same: plain lists of bytes; no program in sight. · Reading, piece by piece: plain lists; no program in sight. · Packages that are asked for, in memory: a slice of terms, a slice of such slices. · append(dst, src...) on a row of the call's own, from a slice that may be nil. -/
import Derived.Test.YtpbbhjifgaeklaaGreatDoorSTK1
import Derived.Test.YtpbbhjifgaeklaaGreatDoorSTK6
import Derived.Test.YtpbbhjifgaeklaaGreatDoorSTK9
import Derived.Maps.AppendAt
import Derived.OwnWalk
import Derived.Laws.AppendOwn
import Derived.Deep.AppendSrc
namespace Go.Proofs.YtpbbhjifgaeklaaGreatDoor.VP

/-! names -/
def low (c : UInt8) : Bool := decide (97 ≤ c.toNat) && decide (c.toNat ≤ 122)
def nm0 (c : UInt8) : Bool := low c || dig c
def nm1 (c : UInt8) : Bool := nm0 c || c == 43 || c == 45 || c == 46
def startsNm : List UInt8 → Bool
  | [] => false
  | c :: _ => nm0 c
def nameP (l : List UInt8) : Bool := decide (2 ≤ l.length) && decide (l.length ≤ 24) && startsNm l && l.all nm1

/-! blanks, tabs and line feeds at both ends -/
def gap (c : UInt8) : Bool := c == 32 || c == 9 || c == 10
/-! what is asked of versions: its signs -/
def signP (op : Int) : List UInt8 := if op = 1 then [60, 60] else if op = 2 then [60, 61] else if op = 3 then [61] else if op = 4 then [62, 61] else if op = 5 then [62, 62] else []

/-- a package that is asked for: its name, what is asked of its version, the version -/
structure Tm where
  n : List UInt8
  op : Int
  e : Int
  u : List UInt8
  r : List UInt8
deriving DecidableEq

/-! texts apart at a byte -/
def pieces (c : UInt8) : List UInt8 → List (List UInt8)
  | [] => [[]]
  | x :: l => if x = c then [] :: pieces c l else match pieces c l with
    | [] => [[x]]
    | p :: ps => (x :: p) :: ps

theorem pieces_ne (c : UInt8) (l : List UInt8) : pieces c l ≠ [] := by
  cases l with
  | nil => simp [pieces]
  | cons x l =>
    rw [pieces]
    split
    · simp
    · split <;> simp

theorem pieces_none {c : UInt8} {l : List UInt8} (h : cutAt c l = none) : pieces c l = [l] := by
  induction l with
  | nil => rfl
  | cons x l ih =>
    by_cases hx : x = c
    · subst hx; simp [cutAt] at h
    · simp [cutAt, hx] at h
      rw [pieces, if_neg hx, ih h]

theorem pieces_some {c : UInt8} {l a b : List UInt8} (h : cutAt c l = some (a, b)) : pieces c l = a :: pieces c b := by
  induction l generalizing a b with
  | nil => simp [cutAt] at h
  | cons x l ih =>
    by_cases hx : x = c
    · subst hx
      simp [cutAt] at h
      obtain ⟨rfl, rfl⟩ := h
      rw [pieces, if_pos rfl]
    · simp [cutAt, hx] at h
      obtain ⟨a', h, rfl⟩ := h
      rw [pieces, if_neg hx, ih h]

theorem pieces_mid (c : UInt8) (a b : List UInt8) (h : c ∉ a) : pieces c (a ++ c :: b) = a :: pieces c b := pieces_some (cutAt_mid c a b h)
theorem pieces_one (c : UInt8) (a : List UInt8) (h : c ∉ a) : pieces c a = [a] := pieces_none ((cutAt_none c a).2 h)

def total (L : List (List Tm)) : Nat := (L.map List.length).sum
def oneP (t : Tm) : List UInt8 := if t.op = 0 then t.n else t.n ++ ([32, 40] ++ (signP t.op ++ (32 :: (printP t.e t.u t.r ++ [41]))))
def joinP (sep : List UInt8) : List (List UInt8) → List UInt8
  | [] => []
  | [x] => x
  | x :: y :: r => x ++ (sep ++ joinP sep (y :: r))
def lineP (x : List Tm) : List UInt8 := joinP [32, 124, 32] (x.map oneP)
def printL (L : List (List Tm)) : List UInt8 := joinP [44, 32] (L.map lineP)
end Go.Proofs.YtpbbhjifgaeklaaGreatDoor.VP

namespace Go.Proofs.YtpbbhjifgaeklaaGreatDoor.VP

theorem fin_imp {p : UInt8 → Prop} [DecidablePred p] (h : ∀ i : Fin 256, p (UInt8.ofNat i.val)) (c : UInt8) : p c := by
  have := h ⟨c.toNat, c.toNat_lt⟩
  simpa using this

theorem nm1_no (c : UInt8) (h : nm1 c = true) : gap c = false ∧ c ≠ 40 ∧ c ≠ 41 ∧ c ≠ 44 ∧ c ≠ 124 := by
  have : ∀ c : UInt8, nm1 c = true → gap c = false ∧ c ≠ 40 ∧ c ≠ 41 ∧ c ≠ 44 ∧ c ≠ 124 := fin_imp (by decide +kernel)
  exact this c h
theorem ok1_no (c : UInt8) (h : ok1 1 c = true) : gap c = false ∧ c ≠ 40 ∧ c ≠ 41 ∧ c ≠ 44 ∧ c ≠ 124 := by
  have : ∀ c : UInt8, ok1 1 c = true → gap c = false ∧ c ≠ 40 ∧ c ≠ 41 ∧ c ≠ 44 ∧ c ≠ 124 := fin_imp (by decide +kernel)
  exact this c h
theorem dig_ok1 (c : UInt8) (h : dig c = true) : ok1 1 c = true := by unfold ok1 ok0; rw [h]; rfl
theorem ok0_ok1 (c : UInt8) (h : ok0 c = true) : ok1 1 c = true := by unfold ok1; rw [h]; rfl
theorem ok1_ok1 (e : Int) (c : UInt8) (h : ok1 e c = true) : ok1 1 c = true := by
  unfold ok1 at h ⊢
  rw [Bool.or_eq_true] at h ⊢
  rcases h with h | h
  · exact .inl h
  · rw [Bool.and_eq_true] at h
    exact .inr (by rw [h.2]; rfl)

structure NameP (l : List UInt8) : Prop where
  lo : 2 ≤ l.length
  hi : l.length ≤ 24
  st : startsNm l = true
  al : l.all nm1 = true
theorem nameP_iff (l : List UInt8) : nameP l = true ↔ NameP l := by
  unfold nameP
  constructor
  · intro h
    simp only [Bool.and_eq_true, decide_eq_true_eq] at h
    exact ⟨h.1.1.1, h.1.1.2, h.1.2, h.2⟩
  · intro h
    simp only [Bool.and_eq_true, decide_eq_true_eq]
    exact ⟨⟨⟨h.lo, h.hi⟩, h.st⟩, h.al⟩
theorem NameP.no {l : List UInt8} (h : NameP l) {c : UInt8} (hc : c ∈ l) : gap c = false ∧ c ≠ 40 ∧ c ≠ 41 ∧ c ≠ 44 ∧ c ≠ 124 := nm1_no c (List.all_eq_true.1 h.al c hc)
theorem NameP.ne {l : List UInt8} (h : NameP l) : l ≠ [] := by
  have := h.lo
  intro e; subst e; simp at this

theorem printP_all {e : Int} {u r : List UInt8} (h : RightP e u r) : (printP e u r).all (ok1 1) = true := by
  have hu : u.all (ok1 1) = true := by
    rw [List.all_eq_true]
    intro c hc
    exact ok1_ok1 e c (List.all_eq_true.1 h.au c hc)
  have hr : r.all (ok1 1) = true := by
    rw [List.all_eq_true]
    intro c hc
    exact ok0_ok1 c (List.all_eq_true.1 h.ar c hc)
  have hi : (Go.Lib.itoa e).all (ok1 1) = true := by
    have hlo := h.lo
    have ei : Go.Lib.itoa e = Go.Lib.decDigits e.toNat := by unfold Go.Lib.itoa; rw [if_neg (by omega)]
    rw [ei, List.all_eq_true]
    intro c hc
    exact dig_ok1 c (List.all_eq_true.1 (val_decDigits e.toNat).2.1 c hc)
  unfold printP
  rw [List.all_append, List.all_append, hu]
  have h1 : (if e ≠ 0 then Go.Lib.itoa e ++ [58] else []).all (ok1 1) = true := by
    split
    · rw [List.all_append, hi]; rfl
    · rfl
  have h2 : (if r = [] then [] else 45 :: r).all (ok1 1) = true := by
    split
    · rfl
    · rw [List.all_cons, hr]; rfl
  rw [h1, h2]
  rfl

structure RightT (t : Tm) : Prop where
  nm : NameP t.n
  k : (t.op = 0 ∧ t.e = 0 ∧ t.u = [] ∧ t.r = []) ∨ ((t.op = 1 ∨ t.op = 2 ∨ t.op = 3 ∨ t.op = 4 ∨ t.op = 5) ∧ RightP t.e t.u t.r)
/-- what is read of versions may be -/
theorem parseP_right {l : List UInt8} {v : Int × List UInt8 × List UInt8} (h : parseP l = some v) : RightP v.1 v.2.1 v.2.2 := by
  have hc : ∀ (e : Int) (u r : List UInt8), checkP e u r = some v → RightP v.1 v.2.1 v.2.2 := by
    intro e u r h
    unfold checkP at h
    split at h
    · rename_i hr
      simp only [Option.some.injEq] at h
      subst h
      exact (rightP_iff _ _ _).1 hr
    · cases h
  have hrest : ∀ (e : Int) (l : List UInt8), restP e l = some v → RightP v.1 v.2.1 v.2.2 := by
    intro e l h
    unfold restP at h
    split at h
    · exact hc _ _ _ h
    · split at h
      · cases h
      · exact hc _ _ _ h
  unfold parseP at h
  split at h
  · cases h
  · split at h
    · exact hrest _ _ h
    · split at h
      · cases h
      · exact hrest _ _ h

structure AskedP (L : List (List Tm)) : Prop where
  each : ∀ x ∈ L, x ≠ [] ∧ ∀ t ∈ x, RightT t
  few : total L ≤ 30
/-! what is joined comes apart -/
def padP (pre post : List UInt8) : List UInt8 → List (List UInt8) → List (List UInt8)
  | _, [] => []
  | lead, [x] => [lead ++ x]
  | lead, x :: y :: r => (lead ++ x ++ pre) :: padP pre post post (y :: r)

theorem pieces_join (c : UInt8) (pre post : List UInt8) (h1 : c ∉ pre) (h2 : c ∉ post) : ∀ (lead : List UInt8) (xs : List (List UInt8)), xs ≠ [] → c ∉ lead → (∀ x ∈ xs, c ∉ x) →
    pieces c (lead ++ joinP (pre ++ c :: post) xs) = padP pre post lead xs
  | lead, [], h, _, _ => absurd rfl h
  | lead, [x], _, hl, hx => by
    rw [joinP, padP, pieces_one]
    rw [List.mem_append, not_or]
    exact ⟨hl, hx x (.head _)⟩
  | lead, x :: y :: r, _, hl, hx => by
    rw [joinP, padP]
    have e : lead ++ (x ++ (pre ++ c :: post ++ joinP (pre ++ c :: post) (y :: r))) = (lead ++ x ++ pre) ++ c :: (post ++ joinP (pre ++ c :: post) (y :: r)) := by simp
    rw [e, pieces_mid c _ _ (by
      rw [List.mem_append, List.mem_append, not_or, not_or]
      exact ⟨⟨hl, hx x (.head _)⟩, h1⟩), pieces_join c pre post h1 h2 post (y :: r) (by simp) h2 (fun z hz => hx z (.tail _ hz))]

theorem join_no (c : UInt8) (sep : List UInt8) (hs : c ∉ sep) : ∀ xs : List (List UInt8), (∀ x ∈ xs, c ∉ x) → c ∉ joinP sep xs
  | [], _ => by simp [joinP]
  | [x], h => by rw [joinP]; exact h x (.head _)
  | x :: y :: r, h => by
    rw [joinP, List.mem_append, List.mem_append, not_or, not_or]
    exact ⟨h x (.head _), hs, join_no c sep hs (y :: r) (fun z hz => h z (.tail _ hz))⟩

end Go.Proofs.YtpbbhjifgaeklaaGreatDoor.VP

namespace Go.Proofs.YtpbbhjifgaeklaaGreatDoor.VP

end Go.Proofs.YtpbbhjifgaeklaaGreatDoor.VP

namespace Go.Proofs.YtpbbhjifgaeklaaGreatDoor.VP

end Go.Proofs.YtpbbhjifgaeklaaGreatDoor.VP

namespace Go.Proofs.YtpbbhjifgaeklaaGreatDoor
open Go.RowKit

/-- a term, as it lies in memory -/
structure Tv where
  n : ByteArray
  op : Int
  e : Int
  u : ByteArray
  r : ByteArray

def Tv.val (t : Tv) : Value := .agg #[.string t.n, .int .i64 t.op, .int .i64 t.e, .string t.u, .string t.r]
/-- its numbers are int's -/
def Tv.ok (t : Tv) : Prop := -9223372036854775808 ≤ t.e ∧ t.e ≤ 9223372036854775807 ∧ -9223372036854775808 ≤ t.op ∧ t.op ≤ 9223372036854775807

/-- at this address lies this term -/
structure TermAt (w : World) (b off : Nat) (t : Tv) : Prop where
  c0 : w.cell? ⟨b, off, none⟩ = some (.string t.n)
  c1 : w.cell? ⟨b, off + 1, none⟩ = some (.int .i64 t.op)
  c2 : w.cell? ⟨b, off + 2, none⟩ = some (.int .i64 t.e)
  c3 : w.cell? ⟨b, off + 3, none⟩ = some (.string t.u)
  c4 : w.cell? ⟨b, off + 4, none⟩ = some (.string t.r)

theorem TermAt.below {w w' : World} {b off : Nat} {t : Tv} (h : TermAt w b off t) (hb : Below w.heap.size w w') : TermAt w' b off t := ⟨kept hb h.c0, kept hb h.c1, kept hb h.c2, kept hb h.c3, kept hb h.c4⟩

/-- this value is a slice that reads as these terms -/
def TermsAt (w : World) (v : Value) (ts : List Tv) : Prop :=
  ∃ A c, v = .slice A ts.length c ∧ ts.length ≤ c ∧ ts.length ≤ 9223372036854775807 ∧ (ts ≠ [] → ∃ b off, A = some ⟨b, off, none⟩ ∧ ∀ i t, ts[i]? = some t → TermAt w b (off + i * 5) t ∧ t.ok)

theorem TermsAt.below {w w' : World} {v : Value} {ts : List Tv} (h : TermsAt w v ts) (hb : Below w.heap.size w w') : TermsAt w' v ts := by
  obtain ⟨A, c, hv, hc, hm, h⟩ := h
  refine ⟨A, c, hv, hc, hm, fun hn => ?_⟩
  obtain ⟨b, off, hA, hi⟩ := h hn
  exact ⟨b, off, hA, fun i t ht => ⟨(hi i t ht).1.below hb, (hi i t ht).2⟩⟩

/-- this value is a slice that reads as these lists of terms -/
def AskedAt (w : World) (v : Value) (L : List (List Tv)) : Prop :=
  ∃ A c, v = .slice A L.length c ∧ L.length ≤ c ∧ L.length ≤ 9223372036854775807 ∧ (L ≠ [] → ∃ b off, A = some ⟨b, off, none⟩ ∧ ∀ i x, L[i]? = some x → ∃ vx, w.cell? ⟨b, off + i, none⟩ = some vx ∧ TermsAt w vx x)

theorem AskedAt.below {w w' : World} {v : Value} {L : List (List Tv)} (h : AskedAt w v L) (hb : Below w.heap.size w w') : AskedAt w' v L := by
  obtain ⟨A, c, hv, hc, hm, h⟩ := h
  refine ⟨A, c, hv, hc, hm, fun hn => ?_⟩
  obtain ⟨b, off, hA, hi⟩ := h hn
  refine ⟨b, off, hA, fun i x hx => ?_⟩
  obtain ⟨vx, h1, h2⟩ := hi i x hx
  exact ⟨vx, kept hb h1, h2.below hb⟩

theorem all_take_succ {α : Type} {p : α → Bool} {l : List α} {k : Nat} {x : α} (h : (l.take k).all p = true) (hx : l[k]? = some x) (hp : p x = true) : (l.take (k + 1)).all p = true := by
  rw [List.take_add_one, hx, List.all_append, h]
  simp [hp]
theorem all_stop {α : Type} {p : α → Bool} {l : List α} {k : Nat} {x : α} (hx : l[k]? = some x) (hp : p x = false) : l.all p = false := by
  rw [List.all_eq_false]
  exact ⟨x, List.mem_of_getElem? hx, by simp [hp]⟩
theorem all_done {α : Type} {p : α → Bool} {l : List α} (h : (l.take l.length).all p = true) : l.all p = true := by rwa [List.take_length] at h
end Go.Proofs.YtpbbhjifgaeklaaGreatDoor

namespace Go.Proofs.YtpbbhjifgaeklaaGreatDoor
open Go Go.RowKit

/-- this value is a slice of m elements that yields these cells -/
def SrcIs (w : World) (y : Value) (m : Nat) (news : List Value) : Prop := ∃ A c, y = .slice A m c ∧ (m ≠ 0 → ∃ b off, A = some ⟨b, off, none⟩ ∧ ∀ j u, news[j]? = some u → w.cell? ⟨b, off + j, none⟩ = some u)
theorem SrcIs.below {w w' : World} {y : Value} {m : Nat} {news : List Value} (h : SrcIs w y m news) (hb : Below w.heap.size w w') : SrcIs w' y m news := by
  obtain ⟨A, c, hy, h1⟩ := h
  refine ⟨A, c, hy, fun hm => ?_⟩
  obtain ⟨b, off, hA, hc⟩ := h1 hm
  exact ⟨b, off, hA, fun j u hj => kept hb (hc j u hj)⟩

section
variable {P : Program} (w : World)
end

end Go.Proofs.YtpbbhjifgaeklaaGreatDoor
