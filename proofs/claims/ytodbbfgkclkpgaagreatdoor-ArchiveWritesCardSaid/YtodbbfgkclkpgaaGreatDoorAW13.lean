/- The reference's Parse: the version that a text is, or that it is none. -/
import Derived.Test.YtodbbfgkclkpgaaGreatDoorAW12
namespace Go.Proofs.YtodbbfgkclkpgaaGreatDoor
open Go.RowKit

/-- no version, and ErrForm -/
def noVersionR : Value := .tuple #[.agg #[.int .i64 0, .string ⟨#[]⟩, .string ⟨#[]⟩], .int .i64 3]

def RefParseIs (s : ByteArray) (w : World) (E : Ending) (w' : World) : Prop :=
  Below w.heap.size w w' ∧ ((VP.parseP s.data.toList = none ∧ E = .returned noVersionR) ∨
    ∃ (e : Int) (u r : ByteArray), VP.parseP s.data.toList = some (e, u.data.toList, r.data.toList) ∧ E = .returned (.tuple #[.agg #[.int .i64 e, .string u, .string r], .int .i64 0]))

theorem indexB_none {c : UInt8} {l : List UInt8} (h : VP.cutAt c l = none) : Lib.indexByte l c = -1 := by
  have hn := (VP.cutAt_none c l).1 h
  have := indexByte_mem l c
  have h2 : l.contains c = false := by simpa using hn
  rw [h2] at this
  have h3 := of_decide_eq_false this
  have h4 := Lib.indexByte_ge l c
  omega

theorem indexB_some {c : UInt8} {l a b : List UInt8} (h : VP.cutAt c l = some (a, b)) : Lib.indexByte l c = a.length := by
  induction l generalizing a b with
  | nil => simp [VP.cutAt] at h
  | cons x l ih =>
    by_cases hx : x = c
    · subst hx
      simp [VP.cutAt] at h
      obtain ⟨rfl, rfl⟩ := h
      simp [Lib.indexByte]
    · simp [VP.cutAt, hx] at h
      obtain ⟨a', h, rfl⟩ := h
      have := ih h
      simp [Lib.indexByte, hx, this]

/-- the result's cells (at b, noughts) and the version's (at b + 1) -/
structure Two (b : Nat) (w : World) (e : Int) (u r : ByteArray) : Prop where
  k0 : w.cell? ⟨b, 0, none⟩ = some (.int .i64 0)
  k1 : w.cell? ⟨b, 1, none⟩ = some (.string ⟨#[]⟩)
  k2 : w.cell? ⟨b, 2, none⟩ = some (.string ⟨#[]⟩)
  f0 : w.frozen? ⟨b, 0, none⟩ = false
  f1 : w.frozen? ⟨b, 1, none⟩ = false
  f2 : w.frozen? ⟨b, 2, none⟩ = false
  c0 : w.cell? ⟨b + 1, 0, none⟩ = some (.int .i64 e)
  c1 : w.cell? ⟨b + 1, 1, none⟩ = some (.string u)
  c2 : w.cell? ⟨b + 1, 2, none⟩ = some (.string r)
  g0 : w.frozen? ⟨b + 1, 0, none⟩ = false
  g1 : w.frozen? ⟨b + 1, 1, none⟩ = false
  g2 : w.frozen? ⟨b + 1, 2, none⟩ = false

theorem Two.step {b : Nat} {w w1 : World} {e : Int} {u r : ByteArray} (h : Two b w e u r) (hb : Below w.heap.size w w1) : Two b w1 e u r :=
  have hz0 : b < w.heap.size := cell_lt h.k0
  have hz1 : b + 1 < w.heap.size := cell_lt h.c0
  ⟨kept hb h.k0, kept hb h.k1, kept hb h.k2, keptf hb hz0 h.f0, keptf hb hz0 h.f1, keptf hb hz0 h.f2,
   kept hb h.c0, kept hb h.c1, kept hb h.c2, keptf hb hz1 h.g0, keptf hb hz1 h.g1, keptf hb hz1 h.g2⟩
end Go.Proofs.YtodbbfgkclkpgaaGreatDoor
