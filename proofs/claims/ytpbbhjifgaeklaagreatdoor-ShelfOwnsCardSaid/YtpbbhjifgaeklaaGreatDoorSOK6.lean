/- keep.short: is a version short enough to be held. · What the laws share: short; and a call's contract as a word. · The reference's Parse: the version that a text is, or that it is none. · The reference's Parse: the walk. · What packages ask for: how it is read and written: plain lists of bytes; no program in sight. · What is asked for is written, and read, as it is; what is read may be written: plain lists of bytes; no program in sight. · The reference reads what is asked for in another way, and comes to the same: plain lists of bytes; no program in sight. · Reading, piece by piece: plain lists; no program in sight. · Packages that are asked for, in memory: a slice of terms, a slice of such slices. · Rows of the call's own: what keeps them; a row of slices of terms. · append(dst, src...) on a row of the call's own, from a slice that may be nil. · Fields, as lines; what a package says of itself: plain Lean over lists of bytes. -/
import Derived.Test.YtpbbhjifgaeklaaGreatDoorSOK5
import Derived.Deep.RegionHeld3
import Derived.Deep.DeepCutAuto
import Derived.Test.YtpbbhjifgaeklaaGreatDoorSOK1
import Derived.Maps.AppendAt
import Derived.OwnWalk
import Derived.Laws.AppendOwn
import Derived.Deep.AppendSrc
namespace Go.Proofs.YtpbbhjifgaeklaaGreatDoor
open Go.RowKit

def shortB (u r : ByteArray) : Bool := decide (u.size ≤ 100) && decide (r.size ≤ 100)

def BoolIs (b : Bool) (w : World) (E : Ending) (w' : World) : Prop := E = .returned (.bool b) ∧ Below w.heap.size w w'

set_option maxRecDepth 100000 in
theorem short_calls (e : Int) (u r : ByteArray) (w : World) :
    Calls Tryz.prog 9 #[.agg #[.int .i64 e, .string u, .string r]] w (BoolIs (shortB u r) w) := by
  have hb0 := below_alloc w (.cells #[.int .i64 e, .string u, .string r] 23)
  by_cases h1 : u.size ≤ 100
  · by_cases h2 : r.size ≤ 100
    · have F := Lib.hid (show shortB u r = true by unfold shortB; simp [h1, h2])
      go_enter Tryz.func9, Tryz.ntmps9
      go_wp2
      go_ret
      exact ⟨ret_bool (by rw [F.out] <;> simp <;> omega), hb0⟩
    · have F := Lib.hid (show shortB u r = false by unfold shortB; simp [h2])
      go_enter Tryz.func9, Tryz.ntmps9
      go_wp2
      go_ret
      exact ⟨ret_bool (by rw [F.out] <;> simp <;> omega), hb0⟩
  · have F := Lib.hid (show shortB u r = false by unfold shortB; simp [h1])
    go_enter Tryz.func9, Tryz.ntmps9
    go_wp2
    go_ret
    exact ⟨ret_bool (by rw [F.out] <;> simp <;> omega), hb0⟩

end Go.Proofs.YtpbbhjifgaeklaaGreatDoor

namespace Go.Proofs.YtpbbhjifgaeklaaGreatDoor
open Go.RowKit

/-- from any world that has grown out of w, this call returns v, and the world grows -/
def Gives (w : World) (f : Nat) (args : Array Value) (v : Value) : Prop :=
  ∀ W, Below w.heap.size w W → Calls Tryz.prog f args W fun E W' => E = .returned v ∧ Below W.heap.size W W'
theorem Gives.at {w : World} {f : Nat} {args : Array Value} {v : Value} (h : Gives w f args v) (W : World) (hb : Below w.heap.size w W) : Calls Tryz.prog f args W fun E W' => E = .returned v ∧ Below W.heap.size W W' := h W hb

end Go.Proofs.YtpbbhjifgaeklaaGreatDoor

namespace Go.Proofs.YtpbbhjifgaeklaaGreatDoor
open Go.RowKit

theorem indexB_none {c : UInt8} {l : List UInt8} (h : VP.cutAt c l = none) : Lib.indexByte l c = -1 := by
  have hn := (VP.cutAt_none c l).1 h
  have := indexByte_mem l c
  have h2 : l.contains c = false := by simpa using hn
  rw [h2] at this
  have h3 := of_decide_eq_false this
  have h4 := Lib.indexByte_ge l c
  omega

theorem indexB_some {c : UInt8} {l a b : List UInt8} (h : VP.cutAt c l = some (a, b)) : Lib.indexByte l c = a.length := by
  induction l generalizing a b with
  | nil => simp [VP.cutAt] at h
  | cons x l ih =>
    by_cases hx : x = c
    · subst hx
      simp [VP.cutAt] at h
      obtain ⟨rfl, rfl⟩ := h
      simp [Lib.indexByte]
    · simp [VP.cutAt, hx] at h
      obtain ⟨a', h, rfl⟩ := h
      have := ih h
      simp [Lib.indexByte, hx, this]

/-- the result's cells (at b, noughts) and the version's (at b + 1) -/
structure Two (b : Nat) (w : World) (e : Int) (u r : ByteArray) : Prop where
  k0 : w.cell? ⟨b, 0, none⟩ = some (.int .i64 0)
  k1 : w.cell? ⟨b, 1, none⟩ = some (.string ⟨#[]⟩)
  k2 : w.cell? ⟨b, 2, none⟩ = some (.string ⟨#[]⟩)
  f0 : w.frozen? ⟨b, 0, none⟩ = false
  f1 : w.frozen? ⟨b, 1, none⟩ = false
  f2 : w.frozen? ⟨b, 2, none⟩ = false
  c0 : w.cell? ⟨b + 1, 0, none⟩ = some (.int .i64 e)
  c1 : w.cell? ⟨b + 1, 1, none⟩ = some (.string u)
  c2 : w.cell? ⟨b + 1, 2, none⟩ = some (.string r)
  g0 : w.frozen? ⟨b + 1, 0, none⟩ = false
  g1 : w.frozen? ⟨b + 1, 1, none⟩ = false
  g2 : w.frozen? ⟨b + 1, 2, none⟩ = false

theorem Two.step {b : Nat} {w w1 : World} {e : Int} {u r : ByteArray} (h : Two b w e u r) (hb : Below w.heap.size w w1) : Two b w1 e u r :=
  have hz0 : b < w.heap.size := cell_lt h.k0
  have hz1 : b + 1 < w.heap.size := cell_lt h.c0
  ⟨kept hb h.k0, kept hb h.k1, kept hb h.k2, keptf hb hz0 h.f0, keptf hb hz0 h.f1, keptf hb hz0 h.f2,
   kept hb h.c0, kept hb h.c1, kept hb h.c2, keptf hb hz1 h.g0, keptf hb hz1 h.g1, keptf hb hz1 h.g2⟩
end Go.Proofs.YtpbbhjifgaeklaaGreatDoor

namespace Go.Proofs.YtpbbhjifgaeklaaGreatDoor
open Go.RowKit

theorem Two.start (w : World) : Two w.heap.size ((w.alloc (.cells #[.int .i64 0, .string ⟨#[]⟩, .string ⟨#[]⟩] 23)).alloc (.cells #[.int .i64 0, .string ⟨#[]⟩, .string ⟨#[]⟩] 23)) 0 ⟨#[]⟩ ⟨#[]⟩ := by
  constructor
  all_goals first | go_cell | (simp [go_sem])

end Go.Proofs.YtpbbhjifgaeklaaGreatDoor

namespace Go.Proofs.YtpbbhjifgaeklaaGreatDoor.VP

/-! names -/
def low (c : UInt8) : Bool := decide (97 ≤ c.toNat) && decide (c.toNat ≤ 122)
def nm0 (c : UInt8) : Bool := low c || dig c
def nm1 (c : UInt8) : Bool := nm0 c || c == 43 || c == 45 || c == 46
def startsNm : List UInt8 → Bool
  | [] => false
  | c :: _ => nm0 c
def nameP (l : List UInt8) : Bool := decide (2 ≤ l.length) && decide (l.length ≤ 24) && startsNm l && l.all nm1

/-! blanks, tabs and line feeds at both ends -/
def gap (c : UInt8) : Bool := c == 32 || c == 9 || c == 10
/-- a package that is asked for: its name, what is asked of its version, the version -/
structure Tm where
  n : List UInt8
  op : Int
  e : Int
  u : List UInt8
  r : List UInt8
deriving DecidableEq

/-! texts apart at a byte -/
def pieces (c : UInt8) : List UInt8 → List (List UInt8)
  | [] => [[]]
  | x :: l => if x = c then [] :: pieces c l else match pieces c l with
    | [] => [[x]]
    | p :: ps => (x :: p) :: ps

theorem pieces_ne (c : UInt8) (l : List UInt8) : pieces c l ≠ [] := by
  cases l with
  | nil => simp [pieces]
  | cons x l =>
    rw [pieces]
    split
    · simp
    · split <;> simp

theorem pieces_none {c : UInt8} {l : List UInt8} (h : cutAt c l = none) : pieces c l = [l] := by
  induction l with
  | nil => rfl
  | cons x l ih =>
    by_cases hx : x = c
    · subst hx; simp [cutAt] at h
    · simp [cutAt, hx] at h
      rw [pieces, if_neg hx, ih h]

theorem pieces_some {c : UInt8} {l a b : List UInt8} (h : cutAt c l = some (a, b)) : pieces c l = a :: pieces c b := by
  induction l generalizing a b with
  | nil => simp [cutAt] at h
  | cons x l ih =>
    by_cases hx : x = c
    · subst hx
      simp [cutAt] at h
      obtain ⟨rfl, rfl⟩ := h
      rw [pieces, if_pos rfl]
    · simp [cutAt, hx] at h
      obtain ⟨a', h, rfl⟩ := h
      rw [pieces, if_neg hx, ih h]

theorem pieces_mid (c : UInt8) (a b : List UInt8) (h : c ∉ a) : pieces c (a ++ c :: b) = a :: pieces c b := pieces_some (cutAt_mid c a b h)
theorem pieces_one (c : UInt8) (a : List UInt8) (h : c ∉ a) : pieces c a = [a] := pieces_none ((cutAt_none c a).2 h)

/-! writing -/
def rightT (t : Tm) : Bool := nameP t.n && (if t.op = 0 then decide (t.e = 0) && decide (t.u = []) && decide (t.r = []) else decide (0 ≤ t.op) && decide (t.op ≤ 5) && rightP t.e t.u t.r)
def total (L : List (List Tm)) : Nat := (L.map List.length).sum
def askedP (L : List (List Tm)) : Bool := (L.all fun x => !x.isEmpty && x.all rightT) && decide (total L ≤ 30)
def joinP (sep : List UInt8) : List (List UInt8) → List UInt8
  | [] => []
  | [x] => x
  | x :: y :: r => x ++ (sep ++ joinP sep (y :: r))
end Go.Proofs.YtpbbhjifgaeklaaGreatDoor.VP

namespace Go.Proofs.YtpbbhjifgaeklaaGreatDoor.VP

theorem fin_imp {p : UInt8 → Prop} [DecidablePred p] (h : ∀ i : Fin 256, p (UInt8.ofNat i.val)) (c : UInt8) : p c := by
  have := h ⟨c.toNat, c.toNat_lt⟩
  simpa using this

theorem nm1_no (c : UInt8) (h : nm1 c = true) : gap c = false ∧ c ≠ 40 ∧ c ≠ 41 ∧ c ≠ 44 ∧ c ≠ 124 := by
  have : ∀ c : UInt8, nm1 c = true → gap c = false ∧ c ≠ 40 ∧ c ≠ 41 ∧ c ≠ 44 ∧ c ≠ 124 := fin_imp (by decide +kernel)
  exact this c h
structure NameP (l : List UInt8) : Prop where
  lo : 2 ≤ l.length
  hi : l.length ≤ 24
  st : startsNm l = true
  al : l.all nm1 = true
theorem NameP.no {l : List UInt8} (h : NameP l) {c : UInt8} (hc : c ∈ l) : gap c = false ∧ c ≠ 40 ∧ c ≠ 41 ∧ c ≠ 44 ∧ c ≠ 124 := nm1_no c (List.all_eq_true.1 h.al c hc)
theorem NameP.ne {l : List UInt8} (h : NameP l) : l ≠ [] := by
  have := h.lo
  intro e; subst e; simp at this

structure RightT (t : Tm) : Prop where
  nm : NameP t.n
  k : (t.op = 0 ∧ t.e = 0 ∧ t.u = [] ∧ t.r = []) ∨ ((t.op = 1 ∨ t.op = 2 ∨ t.op = 3 ∨ t.op = 4 ∨ t.op = 5) ∧ RightP t.e t.u t.r)
structure AskedP (L : List (List Tm)) : Prop where
  each : ∀ x ∈ L, x ≠ [] ∧ ∀ t ∈ x, RightT t
  few : total L ≤ 30
/-! what is joined comes apart -/
def padP (pre post : List UInt8) : List UInt8 → List (List UInt8) → List (List UInt8)
  | _, [] => []
  | lead, [x] => [lead ++ x]
  | lead, x :: y :: r => (lead ++ x ++ pre) :: padP pre post post (y :: r)

theorem pieces_join (c : UInt8) (pre post : List UInt8) (h1 : c ∉ pre) (h2 : c ∉ post) : ∀ (lead : List UInt8) (xs : List (List UInt8)), xs ≠ [] → c ∉ lead → (∀ x ∈ xs, c ∉ x) →
    pieces c (lead ++ joinP (pre ++ c :: post) xs) = padP pre post lead xs
  | lead, [], h, _, _ => absurd rfl h
  | lead, [x], _, hl, hx => by
    rw [joinP, padP, pieces_one]
    rw [List.mem_append, not_or]
    exact ⟨hl, hx x (.head _)⟩
  | lead, x :: y :: r, _, hl, hx => by
    rw [joinP, padP]
    have e : lead ++ (x ++ (pre ++ c :: post ++ joinP (pre ++ c :: post) (y :: r))) = (lead ++ x ++ pre) ++ c :: (post ++ joinP (pre ++ c :: post) (y :: r)) := by simp
    rw [e, pieces_mid c _ _ (by
      rw [List.mem_append, List.mem_append, not_or, not_or]
      exact ⟨⟨hl, hx x (.head _)⟩, h1⟩), pieces_join c pre post h1 h2 post (y :: r) (by simp) h2 (fun z hz => hx z (.tail _ hz))]

end Go.Proofs.YtpbbhjifgaeklaaGreatDoor.VP

namespace Go.Proofs.YtpbbhjifgaeklaaGreatDoor.VP

end Go.Proofs.YtpbbhjifgaeklaaGreatDoor.VP

namespace Go.Proofs.YtpbbhjifgaeklaaGreatDoor.VP

end Go.Proofs.YtpbbhjifgaeklaaGreatDoor.VP

namespace Go.Proofs.YtpbbhjifgaeklaaGreatDoor
open Go.RowKit

/-- a term, as it lies in memory -/
structure Tv where
  n : ByteArray
  op : Int
  e : Int
  u : ByteArray
  r : ByteArray

def Tv.val (t : Tv) : Value := .agg #[.string t.n, .int .i64 t.op, .int .i64 t.e, .string t.u, .string t.r]
def Tv.tm (t : Tv) : VP.Tm := ⟨t.n.data.toList, t.op, t.e, t.u.data.toList, t.r.data.toList⟩
/-- its numbers are int's -/
def Tv.ok (t : Tv) : Prop := -9223372036854775808 ≤ t.e ∧ t.e ≤ 9223372036854775807 ∧ -9223372036854775808 ≤ t.op ∧ t.op ≤ 9223372036854775807

/-- at this address lies this term -/
structure TermAt (w : World) (b off : Nat) (t : Tv) : Prop where
  c0 : w.cell? ⟨b, off, none⟩ = some (.string t.n)
  c1 : w.cell? ⟨b, off + 1, none⟩ = some (.int .i64 t.op)
  c2 : w.cell? ⟨b, off + 2, none⟩ = some (.int .i64 t.e)
  c3 : w.cell? ⟨b, off + 3, none⟩ = some (.string t.u)
  c4 : w.cell? ⟨b, off + 4, none⟩ = some (.string t.r)

theorem TermAt.below {w w' : World} {b off : Nat} {t : Tv} (h : TermAt w b off t) (hb : Below w.heap.size w w') : TermAt w' b off t := ⟨kept hb h.c0, kept hb h.c1, kept hb h.c2, kept hb h.c3, kept hb h.c4⟩

/-- this value is a slice that reads as these terms -/
def TermsAt (w : World) (v : Value) (ts : List Tv) : Prop :=
  ∃ A c, v = .slice A ts.length c ∧ ts.length ≤ c ∧ ts.length ≤ 9223372036854775807 ∧ (ts ≠ [] → ∃ b off, A = some ⟨b, off, none⟩ ∧ ∀ i t, ts[i]? = some t → TermAt w b (off + i * 5) t ∧ t.ok)

theorem TermsAt.below {w w' : World} {v : Value} {ts : List Tv} (h : TermsAt w v ts) (hb : Below w.heap.size w w') : TermsAt w' v ts := by
  obtain ⟨A, c, hv, hc, hm, h⟩ := h
  refine ⟨A, c, hv, hc, hm, fun hn => ?_⟩
  obtain ⟨b, off, hA, hi⟩ := h hn
  exact ⟨b, off, hA, fun i t ht => ⟨(hi i t ht).1.below hb, (hi i t ht).2⟩⟩

/-- this value is a slice that reads as these lists of terms -/
def AskedAt (w : World) (v : Value) (L : List (List Tv)) : Prop :=
  ∃ A c, v = .slice A L.length c ∧ L.length ≤ c ∧ L.length ≤ 9223372036854775807 ∧ (L ≠ [] → ∃ b off, A = some ⟨b, off, none⟩ ∧ ∀ i x, L[i]? = some x → ∃ vx, w.cell? ⟨b, off + i, none⟩ = some vx ∧ TermsAt w vx x)

theorem AskedAt.below {w w' : World} {v : Value} {L : List (List Tv)} (h : AskedAt w v L) (hb : Below w.heap.size w w') : AskedAt w' v L := by
  obtain ⟨A, c, hv, hc, hm, h⟩ := h
  refine ⟨A, c, hv, hc, hm, fun hn => ?_⟩
  obtain ⟨b, off, hA, hi⟩ := h hn
  refine ⟨b, off, hA, fun i x hx => ?_⟩
  obtain ⟨vx, h1, h2⟩ := hi i x hx
  exact ⟨vx, kept hb h1, h2.below hb⟩

def flatT (t : Tv) : Bool := decide (t.n.size ≤ 60) && shortB t.u t.r
def flatB (ts : List Tv) : Bool := decide (ts.length ≤ 40) && ts.all flatT
def termsB (L : List (List Tv)) : Bool := decide (L.length ≤ 40) && L.all flatB

theorem all_take_succ {α : Type} {p : α → Bool} {l : List α} {k : Nat} {x : α} (h : (l.take k).all p = true) (hx : l[k]? = some x) (hp : p x = true) : (l.take (k + 1)).all p = true := by
  rw [List.take_add_one, hx, List.all_append, h]
  simp [hp]
theorem all_stop {α : Type} {p : α → Bool} {l : List α} {k : Nat} {x : α} (hx : l[k]? = some x) (hp : p x = false) : l.all p = false := by
  rw [List.all_eq_false]
  exact ⟨x, List.mem_of_getElem? hx, by simp [hp]⟩
theorem all_done {α : Type} {p : α → Bool} {l : List α} (h : (l.take l.length).all p = true) : l.all p = true := by rwa [List.take_length] at h
end Go.Proofs.YtpbbhjifgaeklaaGreatDoor

namespace Go.Proofs.YtpbbhjifgaeklaaGreatDoor
open Go.RowKit

theorem info_terms : (Tryz.prog.info? 65).map (fun i => (i.zero, i.size, i.bytes)) = some (some (.slice none 0 0), 1, 24) := by kernel_rfl

/-- a slice of slices of the call's own, each of which reads as terms -/
theorem asked_of_own {w : World} {base : Nat} {v : Value} {n : Nat} {vs : List Value} {L : List (List Tv)} (h : w.ownsRow base 65 1 v n vs) (hn : n = L.length) (hb : n ≤ 9223372036854775807)
    (hi : ∀ (i : Nat) (x : List Tv), L[i]? = some x → ∃ vx, vs[i]? = some vx ∧ TermsAt w vx x) : AskedAt w v L := by
  subst hn
  rcases h.2 with ⟨rfl, h0⟩ | ⟨g, cap, cur, rfl, hg, hk, hc, hm, hs, ht⟩
  · refine ⟨none, 0, by rw [h0], by omega, hb, fun hne => ?_⟩
    exact absurd (List.eq_nil_of_length_eq_zero h0) hne
  · refine ⟨some ⟨g, 0, none⟩, cap, rfl, hc, hb, fun _ => ⟨g, 0, rfl, fun i x hx => ?_⟩⟩
    obtain ⟨vx, h1, h2⟩ := hi i x hx
    have := h.cells (g := g) rfl i vx h1
    rw [Go.WideShapes.add_plain] at this
    exact ⟨vx, this, h2⟩
end Go.Proofs.YtpbbhjifgaeklaaGreatDoor

namespace Go.Proofs.YtpbbhjifgaeklaaGreatDoor
open Go Go.RowKit

/-- this value is a slice of m elements that yields these cells -/
def SrcIs (w : World) (y : Value) (m : Nat) (news : List Value) : Prop := ∃ A c, y = .slice A m c ∧ (m ≠ 0 → ∃ b off, A = some ⟨b, off, none⟩ ∧ ∀ j u, news[j]? = some u → w.cell? ⟨b, off + j, none⟩ = some u)
theorem SrcIs.below {w w' : World} {y : Value} {m : Nat} {news : List Value} (h : SrcIs w y m news) (hb : Below w.heap.size w w') : SrcIs w' y m news := by
  obtain ⟨A, c, hy, h1⟩ := h
  refine ⟨A, c, hy, fun hm => ?_⟩
  obtain ⟨b, off, hA, hc⟩ := h1 hm
  exact ⟨b, off, hA, fun j u hj => kept hb (hc j u hj)⟩

section
variable {P : Program} (w : World)
end

end Go.Proofs.YtpbbhjifgaeklaaGreatDoor

namespace Go.Proofs.YtpbbhjifgaeklaaGreatDoor.VP

def allAt (n : Nat) (p : Nat → Bool) : Bool := (List.range n).all p
theorem allAt_true {n : Nat} {p : Nat → Bool} (h : ∀ i, i < n → p i = true) : allAt n p = true := by
  unfold allAt
  rw [List.all_eq_true]
  exact fun i hi => h i (List.mem_range.1 hi)
theorem allAt_false {n : Nat} {p : Nat → Bool} {i : Nat} (hi : i < n) (h : p i = false) : allAt n p = false := by
  unfold allAt
  rw [List.all_eq_false]
  exact ⟨i, List.mem_range.2 hi, by rw [h]; simp⟩
theorem allAt_iff {n : Nat} {p : Nat → Bool} : allAt n p = true ↔ ∀ i, i < n → p i = true := by
  unfold allAt
  rw [List.all_eq_true]
  exact ⟨fun h i hi => h i (List.mem_range.2 hi), fun h i hi => h i (List.mem_range.1 hi)⟩

/-- a field: its name, and what it says -/
structure Fd where
  n : List UInt8
  v : List UInt8
deriving DecidableEq

def okN (c : UInt8) : Bool := decide (33 ≤ c.toNat) && decide (c.toNat ≤ 126) && !(c == 58)
def fnameP (l : List UInt8) : Bool := l.all okN && decide (1 ≤ l.length) && decide (l.length ≤ 24) && !(l.head? == some 35) && !(l.head? == some 45)

/-- a text without bytes of a kind at both ends -/
def cutBoth (p : UInt8 → Bool) (l : List UInt8) : List UInt8 := ((l.reverse.dropWhile p).reverse).dropWhile p
def okL (c : UInt8) : Bool := (decide (32 ≤ c.toNat) || c == 9) && !(c == 127)
def bl (c : UInt8) : Bool := c == 32 || c == 9
def flineP (l : List UInt8) : Bool := l.all okL && decide (cutBoth bl l = l)
/-- what a field says may be said -/
def valueP (v : List UInt8) : Bool :=
  match pieces 10 v with
  | [] => true
  | a :: r => flineP a && r.all (fun s => flineP s && !s.isEmpty)

def lowC (c : UInt8) : UInt8 := if 65 ≤ c.toNat ∧ c.toNat ≤ 90 then c + 32 else c
def smallP (l : List UInt8) : List UInt8 := l.map lowC

def restL (s : List UInt8) : List UInt8 := 32 :: ((if s.head? = some 46 then 46 :: s else s) ++ [10])
def firstL2 (a : List UInt8) : List UInt8 := if a = [] then [10] else 32 :: (a ++ [10])
def linesL : List (List UInt8) → List UInt8
  | [] => []
  | a :: r => firstL2 a ++ r.flatMap restL
def fieldL (f : Fd) : List UInt8 := f.n ++ 58 :: linesL (pieces 10 f.v)
def textL (l : List Fd) : List UInt8 := l.flatMap fieldL

def fieldOk (l : List Fd) (i : Nat) : Bool :=
  match l[i]? with
  | none => true
  | some f => fnameP f.n && !((l.take i).any fun g => decide (smallP g.n = smallP f.n)) && valueP f.v
/-- may fields be a stanza -/
def stanzaP (l : List Fd) : Bool := decide (1 ≤ l.length) && decide (l.length ≤ 40) && allAt l.length (fieldOk l) && decide ((textL l).length ≤ 4000)

/-! paths -/
def okP (c : UInt8) : Bool := decide (33 ≤ c.toNat) && decide (c.toNat ≤ 126)
-- (letters: lett)
def startsP : List UInt8 → Bool
  | [] => false
  | c :: _ => lett c || dig c
/-- a / ahead of a /, or at the end -/
def slashes : List UInt8 → Bool
  | [] => false
  | [c] => c == 47
  | c :: d :: l => (c == 47 && d == 47) || slashes (d :: l)
def pathP (l : List UInt8) : Bool := l.all (fun c => okP c && !(c == 44)) && !slashes l && decide (1 ≤ l.length) && decide (l.length ≤ 60) && startsP l
def pathOk (l : List (List UInt8)) (i : Nat) : Bool :=
  match l[i]? with
  | none => true
  | some s => pathP s && !((l.take i).any fun t => decide (t = s))
def pathsP (l : List (List UInt8)) : Bool := allAt l.length (pathOk l) && decide (l.length ≤ 20)

/-! what a package says of itself -/
structure Pk where
  n : List UInt8
  e : Int
  u : List UInt8
  r : List UInt8
  dep : List (List Tm)
  ahead : List (List Tm)
  ag : List Tm
  br : List Tm
  re : List Tm
  pr : List Tm
  se : List (List UInt8)
  li : List (List UInt8)

def flatP (l : List Tm) : Bool := askedP (l.map fun t => [t])
def provP (t : Tm) : Bool := decide (t.op = 0) || decide (t.op = 3)
def saysP (p : Pk) : Bool :=
  p.pr.all provP && nameP p.n && rightP p.e p.u p.r && askedP p.dep && askedP p.ahead && flatP p.ag && flatP p.br && flatP p.re && flatP p.pr && pathsP p.se && pathsP p.li

end Go.Proofs.YtpbbhjifgaeklaaGreatDoor.VP
