/- Packages that are asked for, in memory: a slice of terms, a slice of such slices. · append(dst, src...) on a row of the call's own, from a slice that may be nil. · Fields, as lines; what a package says of itself: plain Lean over lists of bytes. -/
import Derived.Test.YtpbbhjifgaeklaaGreatDoorSBK8
import Derived.Deep.RegionHeld3
import Derived.Deep.DeepCutAuto
import Derived.Test.YtpbbhjifgaeklaaGreatDoorSBK9
import Derived.Maps.AppendAt
import Derived.OwnWalk
import Derived.Laws.AppendOwn
import Derived.Deep.AppendSrc
namespace Go.Proofs.YtpbbhjifgaeklaaGreatDoor
open Go.RowKit

/-- a term, as it lies in memory -/
structure Tv where
  n : ByteArray
  op : Int
  e : Int
  u : ByteArray
  r : ByteArray

def Tv.val (t : Tv) : Value := .agg #[.string t.n, .int .i64 t.op, .int .i64 t.e, .string t.u, .string t.r]
/-- its numbers are int's -/
def Tv.ok (t : Tv) : Prop := -9223372036854775808 ≤ t.e ∧ t.e ≤ 9223372036854775807 ∧ -9223372036854775808 ≤ t.op ∧ t.op ≤ 9223372036854775807

/-- at this address lies this term -/
structure TermAt (w : World) (b off : Nat) (t : Tv) : Prop where
  c0 : w.cell? ⟨b, off, none⟩ = some (.string t.n)
  c1 : w.cell? ⟨b, off + 1, none⟩ = some (.int .i64 t.op)
  c2 : w.cell? ⟨b, off + 2, none⟩ = some (.int .i64 t.e)
  c3 : w.cell? ⟨b, off + 3, none⟩ = some (.string t.u)
  c4 : w.cell? ⟨b, off + 4, none⟩ = some (.string t.r)

theorem TermAt.below {w w' : World} {b off : Nat} {t : Tv} (h : TermAt w b off t) (hb : Below w.heap.size w w') : TermAt w' b off t := ⟨kept hb h.c0, kept hb h.c1, kept hb h.c2, kept hb h.c3, kept hb h.c4⟩

/-- this value is a slice that reads as these terms -/
def TermsAt (w : World) (v : Value) (ts : List Tv) : Prop :=
  ∃ A c, v = .slice A ts.length c ∧ ts.length ≤ c ∧ ts.length ≤ 9223372036854775807 ∧ (ts ≠ [] → ∃ b off, A = some ⟨b, off, none⟩ ∧ ∀ i t, ts[i]? = some t → TermAt w b (off + i * 5) t ∧ t.ok)

theorem TermsAt.below {w w' : World} {v : Value} {ts : List Tv} (h : TermsAt w v ts) (hb : Below w.heap.size w w') : TermsAt w' v ts := by
  obtain ⟨A, c, hv, hc, hm, h⟩ := h
  refine ⟨A, c, hv, hc, hm, fun hn => ?_⟩
  obtain ⟨b, off, hA, hi⟩ := h hn
  exact ⟨b, off, hA, fun i t ht => ⟨(hi i t ht).1.below hb, (hi i t ht).2⟩⟩

/-- this value is a slice that reads as these lists of terms -/
def AskedAt (w : World) (v : Value) (L : List (List Tv)) : Prop :=
  ∃ A c, v = .slice A L.length c ∧ L.length ≤ c ∧ L.length ≤ 9223372036854775807 ∧ (L ≠ [] → ∃ b off, A = some ⟨b, off, none⟩ ∧ ∀ i x, L[i]? = some x → ∃ vx, w.cell? ⟨b, off + i, none⟩ = some vx ∧ TermsAt w vx x)

theorem AskedAt.below {w w' : World} {v : Value} {L : List (List Tv)} (h : AskedAt w v L) (hb : Below w.heap.size w w') : AskedAt w' v L := by
  obtain ⟨A, c, hv, hc, hm, h⟩ := h
  refine ⟨A, c, hv, hc, hm, fun hn => ?_⟩
  obtain ⟨b, off, hA, hi⟩ := h hn
  refine ⟨b, off, hA, fun i x hx => ?_⟩
  obtain ⟨vx, h1, h2⟩ := hi i x hx
  exact ⟨vx, kept hb h1, h2.below hb⟩

theorem all_take_succ {α : Type} {p : α → Bool} {l : List α} {k : Nat} {x : α} (h : (l.take k).all p = true) (hx : l[k]? = some x) (hp : p x = true) : (l.take (k + 1)).all p = true := by
  rw [List.take_add_one, hx, List.all_append, h]
  simp [hp]
theorem all_stop {α : Type} {p : α → Bool} {l : List α} {k : Nat} {x : α} (hx : l[k]? = some x) (hp : p x = false) : l.all p = false := by
  rw [List.all_eq_false]
  exact ⟨x, List.mem_of_getElem? hx, by simp [hp]⟩
theorem all_done {α : Type} {p : α → Bool} {l : List α} (h : (l.take l.length).all p = true) : l.all p = true := by rwa [List.take_length] at h
end Go.Proofs.YtpbbhjifgaeklaaGreatDoor

namespace Go.Proofs.YtpbbhjifgaeklaaGreatDoor
open Go Go.RowKit

/-- this value is a slice of m elements that yields these cells -/
def SrcIs (w : World) (y : Value) (m : Nat) (news : List Value) : Prop := ∃ A c, y = .slice A m c ∧ (m ≠ 0 → ∃ b off, A = some ⟨b, off, none⟩ ∧ ∀ j u, news[j]? = some u → w.cell? ⟨b, off + j, none⟩ = some u)
theorem SrcIs.below {w w' : World} {y : Value} {m : Nat} {news : List Value} (h : SrcIs w y m news) (hb : Below w.heap.size w w') : SrcIs w' y m news := by
  obtain ⟨A, c, hy, h1⟩ := h
  refine ⟨A, c, hy, fun hm => ?_⟩
  obtain ⟨b, off, hA, hc⟩ := h1 hm
  exact ⟨b, off, hA, fun j u hj => kept hb (hc j u hj)⟩

section
variable {P : Program} (w : World)
end

end Go.Proofs.YtpbbhjifgaeklaaGreatDoor

namespace Go.Proofs.YtpbbhjifgaeklaaGreatDoor.VP

def allAt (n : Nat) (p : Nat → Bool) : Bool := (List.range n).all p
/-- a field: its name, and what it says -/
structure Fd where
  n : List UInt8
  v : List UInt8
deriving DecidableEq

def okN (c : UInt8) : Bool := decide (33 ≤ c.toNat) && decide (c.toNat ≤ 126) && !(c == 58)
def fnameP (l : List UInt8) : Bool := l.all okN && decide (1 ≤ l.length) && decide (l.length ≤ 24) && !(l.head? == some 35) && !(l.head? == some 45)

/-- a text without bytes of a kind at both ends -/
def cutBoth (p : UInt8 → Bool) (l : List UInt8) : List UInt8 := ((l.reverse.dropWhile p).reverse).dropWhile p
def okL (c : UInt8) : Bool := (decide (32 ≤ c.toNat) || c == 9) && !(c == 127)
def bl (c : UInt8) : Bool := c == 32 || c == 9
def flineP (l : List UInt8) : Bool := l.all okL && decide (cutBoth bl l = l)
/-- what a field says may be said -/
def valueP (v : List UInt8) : Bool :=
  match pieces 10 v with
  | [] => true
  | a :: r => flineP a && r.all (fun s => flineP s && !s.isEmpty)

def lowC (c : UInt8) : UInt8 := if 65 ≤ c.toNat ∧ c.toNat ≤ 90 then c + 32 else c
def smallP (l : List UInt8) : List UInt8 := l.map lowC

def fieldOk (l : List Fd) (i : Nat) : Bool :=
  match l[i]? with
  | none => true
  | some f => fnameP f.n && !((l.take i).any fun g => decide (smallP g.n = smallP f.n)) && valueP f.v
/-! paths -/
def okP (c : UInt8) : Bool := decide (33 ≤ c.toNat) && decide (c.toNat ≤ 126)
-- (letters: lett)
def startsP : List UInt8 → Bool
  | [] => false
  | c :: _ => lett c || dig c
/-- a / ahead of a /, or at the end -/
def slashes : List UInt8 → Bool
  | [] => false
  | [c] => c == 47
  | c :: d :: l => (c == 47 && d == 47) || slashes (d :: l)
def pathP (l : List UInt8) : Bool := l.all (fun c => okP c && !(c == 44)) && !slashes l && decide (1 ≤ l.length) && decide (l.length ≤ 60) && startsP l
def pathOk (l : List (List UInt8)) (i : Nat) : Bool :=
  match l[i]? with
  | none => true
  | some s => pathP s && !((l.take i).any fun t => decide (t = s))
/-! what a package says of itself -/
structure Pk where
  n : List UInt8
  e : Int
  u : List UInt8
  r : List UInt8
  dep : List (List Tm)
  ahead : List (List Tm)
  ag : List Tm
  br : List Tm
  re : List Tm
  pr : List Tm
  se : List (List UInt8)
  li : List (List UInt8)

def printS (l : List Tm) : List UInt8 := printL (l.map fun t => [t])
end Go.Proofs.YtpbbhjifgaeklaaGreatDoor.VP
