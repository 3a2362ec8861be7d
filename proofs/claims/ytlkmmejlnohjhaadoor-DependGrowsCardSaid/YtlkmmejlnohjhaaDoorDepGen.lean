/- What the walks over terms share: short texts, what is asked for as lists, one of some. -/
import Derived.Test.YtlkmmejlnohjhaaDoorDepName
namespace Go.Proofs.YtlkmmejlnohjhaaDoor
open Go.RowKit

/-- texts short enough for all that reads them -/
structure Tv.small (t : Tv) : Prop where
  n : t.n.size ≤ 1000
  u : t.u.size ≤ 1000
  r : t.r.size ≤ 1000
  ok : t.ok

theorem box5 {w w1 : World} {a b c d e : Value} {t : TypeId} (hb : Below (w.alloc (.cells #[a, b, c, d, e] t)).heap.size (w.alloc (.cells #[a, b, c, d, e] t)) w1) :
    w1.cell? ⟨w.heap.size, 0, none⟩ = some a ∧ w1.cell? ⟨w.heap.size, 1, none⟩ = some b ∧ w1.cell? ⟨w.heap.size, 2, none⟩ = some c ∧ w1.cell? ⟨w.heap.size, 3, none⟩ = some d ∧ w1.cell? ⟨w.heap.size, 4, none⟩ = some e :=
  ⟨kept hb (by go_cell), kept hb (by go_cell), kept hb (by go_cell), kept hb (by go_cell), kept hb (by go_cell)⟩

theorem any_stop {α : Type} {p : α → Bool} {l : List α} {k : Nat} {x : α} (hx : l[k]? = some x) (hp : p x = true) : l.any p = true := by
  rw [List.any_eq_true]
  exact ⟨x, List.mem_of_getElem? hx, hp⟩
theorem any_take_succ {α : Type} {p : α → Bool} {l : List α} {k : Nat} {x : α} (h : (l.take k).any p = false) (hx : l[k]? = some x) (hp : p x = false) : (l.take (k + 1)).any p = false := by
  rw [List.take_add_one, hx, List.any_append, h]
  simp [hp]
theorem any_done {α : Type} {p : α → Bool} {l : List α} (h : (l.take l.length).any p = false) : l.any p = false := by rwa [List.take_length] at h

def wrongT (t : Tv) : Bool := !VP.rightT t.tm
def IdxIs (b : Bool) (w : World) (E : Ending) (w' : World) : Prop := ∃ i : Int, E = .returned (.int .i64 i) ∧ decide (0 ≤ i) = b ∧ Below w.heap.size w w'

def tmL (L : List (List Tv)) : List (List VP.Tm) := L.map fun x => x.map Tv.tm
def sumL (L : List (List Tv)) : Nat := (L.map List.length).sum
def goodL (x : List Tv) : Bool := !x.isEmpty && !x.any wrongT

theorem asked_eq (L : List (List Tv)) : VP.askedP (tmL L) = (L.all goodL && decide (sumL L ≤ 30)) := by
  unfold VP.askedP tmL
  rw [List.all_map]
  have e1 : VP.total (L.map fun x => x.map Tv.tm) = sumL L := by
    unfold VP.total sumL
    rw [List.map_map]
    congr 1
    apply List.map_congr_left
    intro x _
    simp
  rw [e1]
  congr 2
  funext x
  show (!(x.map Tv.tm).isEmpty && (x.map Tv.tm).all VP.rightT) = goodL x
  unfold goodL
  have e2 : (x.map Tv.tm).isEmpty = x.isEmpty := by cases x <;> rfl
  have e3 : (x.map Tv.tm).all VP.rightT = !x.any wrongT := by
    rw [List.all_map]
    induction x with
    | nil => rfl
    | cons t x ih =>
      have ih' := ih (by cases x <;> rfl)
      rw [List.all_cons, List.any_cons, ih', Bool.not_or]
      congr 1
      unfold wrongT
      rw [Bool.not_not]
      rfl
  rw [e2, e3]

theorem sumL_take_succ {L : List (List Tv)} {k : Nat} {x : List Tv} (hx : L[k]? = some x) : sumL (L.take (k + 1)) = sumL (L.take k) + x.length := by
  unfold sumL
  rw [List.take_add_one, hx, List.map_append, List.sum_append]
  simp
theorem sumL_take_le (L : List (List Tv)) (k : Nat) : sumL (L.take k) ≤ sumL L := by
  conv => rhs; rw [← List.take_append_drop k L]
  unfold sumL
  rw [List.map_append, List.sum_append]
  omega
end Go.Proofs.YtlkmmejlnohjhaaDoor
