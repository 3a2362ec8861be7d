/- Packages that are asked for, in memory: a slice of terms, a slice of such slices. -/
import Derived.Test.YtlkmmejlnohjhaaDoorLawShort
import Derived.Test.YtlkmmejlnohjhaaDoorRefPar2
import Derived.Test.YtlkmmejlnohjhaaDoorDepPlain
namespace Go.Proofs.YtlkmmejlnohjhaaDoor
open Go.RowKit

/-- a term, as it lies in memory -/
structure Tv where
  n : ByteArray
  op : Int
  e : Int
  u : ByteArray
  r : ByteArray

def Tv.val (t : Tv) : Value := .agg #[.string t.n, .int .i64 t.op, .int .i64 t.e, .string t.u, .string t.r]
def Tv.tm (t : Tv) : VP.Tm := ⟨t.n.data.toList, t.op, t.e, t.u.data.toList, t.r.data.toList⟩
/-- its numbers are int's -/
def Tv.ok (t : Tv) : Prop := -9223372036854775808 ≤ t.e ∧ t.e ≤ 9223372036854775807 ∧ -9223372036854775808 ≤ t.op ∧ t.op ≤ 9223372036854775807

/-- at this address lies this term -/
structure TermAt (w : World) (b off : Nat) (t : Tv) : Prop where
  c0 : w.cell? ⟨b, off, none⟩ = some (.string t.n)
  c1 : w.cell? ⟨b, off + 1, none⟩ = some (.int .i64 t.op)
  c2 : w.cell? ⟨b, off + 2, none⟩ = some (.int .i64 t.e)
  c3 : w.cell? ⟨b, off + 3, none⟩ = some (.string t.u)
  c4 : w.cell? ⟨b, off + 4, none⟩ = some (.string t.r)

theorem TermAt.below {w w' : World} {b off : Nat} {t : Tv} (h : TermAt w b off t) (hb : Below w.heap.size w w') : TermAt w' b off t := ⟨kept hb h.c0, kept hb h.c1, kept hb h.c2, kept hb h.c3, kept hb h.c4⟩

/-- this value is a slice that reads as these terms -/
def TermsAt (w : World) (v : Value) (ts : List Tv) : Prop :=
  ∃ A c, v = .slice A ts.length c ∧ ts.length ≤ c ∧ ts.length ≤ 9223372036854775807 ∧ (ts ≠ [] → ∃ b off, A = some ⟨b, off, none⟩ ∧ ∀ i t, ts[i]? = some t → TermAt w b (off + i * 5) t ∧ t.ok)

theorem TermsAt.below {w w' : World} {v : Value} {ts : List Tv} (h : TermsAt w v ts) (hb : Below w.heap.size w w') : TermsAt w' v ts := by
  obtain ⟨A, c, hv, hc, hm, h⟩ := h
  refine ⟨A, c, hv, hc, hm, fun hn => ?_⟩
  obtain ⟨b, off, hA, hi⟩ := h hn
  exact ⟨b, off, hA, fun i t ht => ⟨(hi i t ht).1.below hb, (hi i t ht).2⟩⟩

/-- this value is a slice that reads as these lists of terms -/
def AskedAt (w : World) (v : Value) (L : List (List Tv)) : Prop :=
  ∃ A c, v = .slice A L.length c ∧ L.length ≤ c ∧ L.length ≤ 9223372036854775807 ∧ (L ≠ [] → ∃ b off, A = some ⟨b, off, none⟩ ∧ ∀ i x, L[i]? = some x → ∃ vx, w.cell? ⟨b, off + i, none⟩ = some vx ∧ TermsAt w vx x)

theorem AskedAt.below {w w' : World} {v : Value} {L : List (List Tv)} (h : AskedAt w v L) (hb : Below w.heap.size w w') : AskedAt w' v L := by
  obtain ⟨A, c, hv, hc, hm, h⟩ := h
  refine ⟨A, c, hv, hc, hm, fun hn => ?_⟩
  obtain ⟨b, off, hA, hi⟩ := h hn
  refine ⟨b, off, hA, fun i x hx => ?_⟩
  obtain ⟨vx, h1, h2⟩ := hi i x hx
  exact ⟨vx, kept hb h1, h2.below hb⟩

def flatT (t : Tv) : Bool := decide (t.n.size ≤ 60) && shortB t.u t.r
def flatB (ts : List Tv) : Bool := decide (ts.length ≤ 40) && ts.all flatT
def termsB (L : List (List Tv)) : Bool := decide (L.length ≤ 40) && L.all flatB

theorem all_take_succ {α : Type} {p : α → Bool} {l : List α} {k : Nat} {x : α} (h : (l.take k).all p = true) (hx : l[k]? = some x) (hp : p x = true) : (l.take (k + 1)).all p = true := by
  rw [List.take_add_one, hx, List.all_append, h]
  simp [hp]
theorem all_stop {α : Type} {p : α → Bool} {l : List α} {k : Nat} {x : α} (hx : l[k]? = some x) (hp : p x = false) : l.all p = false := by
  rw [List.all_eq_false]
  exact ⟨x, List.mem_of_getElem? hx, by simp [hp]⟩
theorem all_done {α : Type} {p : α → Bool} {l : List α} (h : (l.take l.length).all p = true) : l.all p = true := by rwa [List.take_length] at h
end Go.Proofs.YtlkmmejlnohjhaaDoor
