/- record.Fields: the lines of a field, joined from a slice of the call's own. -/
import Derived.Test.YtodbbfgkclkpgaaGreatDoorRT36
namespace Go.Proofs.YtodbbfgkclkpgaaGreatDoor
open Go Go.RowKit

theorem row_one (W : World) : (W.alloc (.cells #[.string ⟨#[]⟩] 9)).ownsRow W.heap.size 9 1 (.slice (some ⟨W.heap.size, 0, none⟩) 1 1) 1 [.string ⟨#[]⟩] :=
  ⟨rfl, .inr ⟨W.heap.size, 1, _, rfl, Nat.le_refl _, heap_alloc_new W _, Nat.le_refl _, by decide, rfl, rfl⟩⟩

theorem strs_one (ss : List ByteArray) : ∀ u ∈ ss.flatMap strC, u.oneCell' = true := by
  intro u hu
  rw [flat_strs] at hu
  obtain ⟨s, _, rfl⟩ := List.mem_map.1 hu
  rfl
theorem strs_len (ss : List ByteArray) : (ss.flatMap strC).length = ss.length * 1 := by rw [flat_strs, List.length_map, Nat.mul_one]

theorem linesS_len {ss : List ByteArray} (h : ss.length ≤ 20 ∧ ∀ s ∈ ss, s.size ≤ 60) : (linesS ss).data.toList.length ≤ 2000 := by
  obtain ⟨h1, h2⟩ := h
  have := linesOf_len 60 (ss.map (·.data.toList)) (fun x hx => by
    obtain ⟨s, hs, rfl⟩ := List.mem_map.1 hx
    rw [← size_eq_length]; exact h2 s hs)
  rw [List.length_map] at this
  show (VP.linesOf (ss.map (·.data.toList))).length ≤ 2000
  omega
theorem joinLines (W : World) (base : Nat) (v : Value) (ss : List ByteArray) (h : W.ownsRow base 9 1 v (1 + ss.length) ([.string ⟨#[]⟩] ++ ss.flatMap strC)) (hs : ss.length ≤ 20 ∧ ∀ s ∈ ss, s.size ≤ 60) :
    Calls Tryz.prog 61 #[v, .string ⟨#[10]⟩] W fun E W' => E = .returned (.string (linesS ss)) ∧ Below W.heap.size W W' := by
  have h' : W.ownsRow base 9 1 v (1 + ss.length) (((⟨#[]⟩ : ByteArray) :: ss).map Value.string) := by rw [flat_strs] at h; exact h
  have e : Lib.join (((⟨#[]⟩ : ByteArray) :: ss).map (·.data.toList)) (⟨#[10]⟩ : ByteArray).data.toList = (linesS ss).data.toList := lines_join ss
  refine (call_join W base v _ ((⟨#[]⟩ : ByteArray) :: ss) ⟨#[10]⟩ h' (by omega) (by rw [e]; have := linesS_len hs; omega)).mono fun E W' h => ⟨?_, h.2⟩
  rw [h.1, e, mk_data]

/-- behind the append: all is as it was -/
theorem FSt.appended {w1 W W' : World} {q a : Nat} {fs : List Fv} (h : FSt w1 q a fs W) (hg : (W.alloc (.cells #[.string ⟨#[]⟩] 9)).grownBy W' (Value.slice (some ⟨W.heap.size, 0, none⟩) 1 1).ownBlock) : FSt w1 q a fs W' := by
  refine h.below ((below_alloc W _).grown hg (by rw [World.size_alloc]; omega) (fun k e => ?_))
  have e2 : W.heap.size = k := by simpa [Value.ownBlock] using e
  omega
theorem FSt.run {w1 W : World} {q a : Nat} {fs : List Fv} (h : FSt w1 q a fs W) : W.cell? ⟨a, 0, none⟩ = some (.func (.func 57) #[] #[.pointer (some ⟨q, 0, none⟩)]) :=
  (show Boxed W a 90 (.func (.func 57) #[] #[.pointer (some ⟨q, 0, none⟩)]) from h.b).cell
end Go.Proofs.YtodbbfgkclkpgaaGreatDoor
