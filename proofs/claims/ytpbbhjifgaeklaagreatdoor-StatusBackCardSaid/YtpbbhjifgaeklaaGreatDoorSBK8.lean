/- keep.short: is a version short enough to be held. · What the laws share: short; and a call's contract as a word. · The reference's Parse: the version that a text is, or that it is none. -/
import Derived.Test.YtpbbhjifgaeklaaGreatDoorSBK7
namespace Go.Proofs.YtpbbhjifgaeklaaGreatDoor
open Go.RowKit

def shortB (u r : ByteArray) : Bool := decide (u.size ≤ 100) && decide (r.size ≤ 100)

def BoolIs (b : Bool) (w : World) (E : Ending) (w' : World) : Prop := E = .returned (.bool b) ∧ Below w.heap.size w w'

set_option maxRecDepth 100000 in
theorem short_calls (e : Int) (u r : ByteArray) (w : World) :
    Calls Tryz.prog 9 #[.agg #[.int .i64 e, .string u, .string r]] w (BoolIs (shortB u r) w) := by
  have hb0 := below_alloc w (.cells #[.int .i64 e, .string u, .string r] 23)
  by_cases h1 : u.size ≤ 100
  · by_cases h2 : r.size ≤ 100
    · have F := Lib.hid (show shortB u r = true by unfold shortB; simp [h1, h2])
      go_enter Tryz.func9, Tryz.ntmps9
      go_wp2
      go_ret
      exact ⟨ret_bool (by rw [F.out] <;> simp <;> omega), hb0⟩
    · have F := Lib.hid (show shortB u r = false by unfold shortB; simp [h2])
      go_enter Tryz.func9, Tryz.ntmps9
      go_wp2
      go_ret
      exact ⟨ret_bool (by rw [F.out] <;> simp <;> omega), hb0⟩
  · have F := Lib.hid (show shortB u r = false by unfold shortB; simp [h1])
    go_enter Tryz.func9, Tryz.ntmps9
    go_wp2
    go_ret
    exact ⟨ret_bool (by rw [F.out] <;> simp <;> omega), hb0⟩

end Go.Proofs.YtpbbhjifgaeklaaGreatDoor

namespace Go.Proofs.YtpbbhjifgaeklaaGreatDoor
open Go.RowKit

/-- from any world that has grown out of w, this call returns v, and the world grows -/
def Gives (w : World) (f : Nat) (args : Array Value) (v : Value) : Prop :=
  ∀ W, Below w.heap.size w W → Calls Tryz.prog f args W fun E W' => E = .returned v ∧ Below W.heap.size W W'
theorem Gives.at {w : World} {f : Nat} {args : Array Value} {v : Value} (h : Gives w f args v) (W : World) (hb : Below w.heap.size w W) : Calls Tryz.prog f args W fun E W' => E = .returned v ∧ Below W.heap.size W W' := h W hb

end Go.Proofs.YtpbbhjifgaeklaaGreatDoor

namespace Go.Proofs.YtpbbhjifgaeklaaGreatDoor
open Go.RowKit

theorem indexB_none {c : UInt8} {l : List UInt8} (h : VP.cutAt c l = none) : Lib.indexByte l c = -1 := by
  have hn := (VP.cutAt_none c l).1 h
  have := indexByte_mem l c
  have h2 : l.contains c = false := by simpa using hn
  rw [h2] at this
  have h3 := of_decide_eq_false this
  have h4 := Lib.indexByte_ge l c
  omega

theorem indexB_some {c : UInt8} {l a b : List UInt8} (h : VP.cutAt c l = some (a, b)) : Lib.indexByte l c = a.length := by
  induction l generalizing a b with
  | nil => simp [VP.cutAt] at h
  | cons x l ih =>
    by_cases hx : x = c
    · subst hx
      simp [VP.cutAt] at h
      obtain ⟨rfl, rfl⟩ := h
      simp [Lib.indexByte]
    · simp [VP.cutAt, hx] at h
      obtain ⟨a', h, rfl⟩ := h
      have := ih h
      simp [Lib.indexByte, hx, this]

/-- the result's cells (at b, noughts) and the version's (at b + 1) -/
structure Two (b : Nat) (w : World) (e : Int) (u r : ByteArray) : Prop where
  k0 : w.cell? ⟨b, 0, none⟩ = some (.int .i64 0)
  k1 : w.cell? ⟨b, 1, none⟩ = some (.string ⟨#[]⟩)
  k2 : w.cell? ⟨b, 2, none⟩ = some (.string ⟨#[]⟩)
  f0 : w.frozen? ⟨b, 0, none⟩ = false
  f1 : w.frozen? ⟨b, 1, none⟩ = false
  f2 : w.frozen? ⟨b, 2, none⟩ = false
  c0 : w.cell? ⟨b + 1, 0, none⟩ = some (.int .i64 e)
  c1 : w.cell? ⟨b + 1, 1, none⟩ = some (.string u)
  c2 : w.cell? ⟨b + 1, 2, none⟩ = some (.string r)
  g0 : w.frozen? ⟨b + 1, 0, none⟩ = false
  g1 : w.frozen? ⟨b + 1, 1, none⟩ = false
  g2 : w.frozen? ⟨b + 1, 2, none⟩ = false

end Go.Proofs.YtpbbhjifgaeklaaGreatDoor
