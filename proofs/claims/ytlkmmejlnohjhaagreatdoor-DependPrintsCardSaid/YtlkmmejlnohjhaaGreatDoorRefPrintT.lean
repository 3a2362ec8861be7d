/- The reference's PrintTerms: how what is asked for is written. -/
import Derived.Test.YtlkmmejlnohjhaaGreatDoorDepPrint2
import Derived.Test.YtlkmmejlnohjhaaGreatDoorRefAsked
import Derived.Deep.RegionHeld3
namespace Go.Proofs.YtlkmmejlnohjhaaGreatDoor
open Go.RowKit

set_option maxRecDepth 100000 in
theorem signOf_calls (k : Nat) (hk : k < 6) (w : World) : Calls Tryz.prog 27 #[.int .i64 (k : Int)] w fun E w' => E = .returned (.string (signS k)) ∧ w = w' := by
  have h : k = 0 ∨ k = 1 ∨ k = 2 ∨ k = 3 ∨ k = 4 ∨ k = 5 := by omega
  have xi : ∀ (k : Nat), k < 6 → ∀ W : World, (Instr.index 83 (.agg #[.string ⟨#[]⟩, .string ⟨#[60, 60]⟩, .string ⟨#[60, 61]⟩, .string ⟨#[61]⟩, .string ⟨#[62, 61]⟩, .string ⟨#[62, 62]⟩]) (.int .i64 (k : Int))).run Tryz.prog W = .ok (.string (signS k)) W := by
    intro k hk W
    have h : k = 0 ∨ k = 1 ∨ k = 2 ∨ k = 3 ∨ k = 4 ∨ k = 5 := by omega
    rcases h with rfl | rfl | rfl | rfl | rfl | rfl
    · exact (by kernel_rfl : (Instr.index 83 (.agg #[.string ⟨#[]⟩, .string ⟨#[60, 60]⟩, .string ⟨#[60, 61]⟩, .string ⟨#[61]⟩, .string ⟨#[62, 61]⟩, .string ⟨#[62, 62]⟩]) (.int .i64 0)).run Tryz.prog W = .ok (.string ⟨#[]⟩) W)
    · exact (by kernel_rfl : (Instr.index 83 (.agg #[.string ⟨#[]⟩, .string ⟨#[60, 60]⟩, .string ⟨#[60, 61]⟩, .string ⟨#[61]⟩, .string ⟨#[62, 61]⟩, .string ⟨#[62, 62]⟩]) (.int .i64 1)).run Tryz.prog W = .ok (.string ⟨#[60, 60]⟩) W)
    · exact (by kernel_rfl : (Instr.index 83 (.agg #[.string ⟨#[]⟩, .string ⟨#[60, 60]⟩, .string ⟨#[60, 61]⟩, .string ⟨#[61]⟩, .string ⟨#[62, 61]⟩, .string ⟨#[62, 62]⟩]) (.int .i64 2)).run Tryz.prog W = .ok (.string ⟨#[60, 61]⟩) W)
    · exact (by kernel_rfl : (Instr.index 83 (.agg #[.string ⟨#[]⟩, .string ⟨#[60, 60]⟩, .string ⟨#[60, 61]⟩, .string ⟨#[61]⟩, .string ⟨#[62, 61]⟩, .string ⟨#[62, 62]⟩]) (.int .i64 3)).run Tryz.prog W = .ok (.string ⟨#[61]⟩) W)
    · exact (by kernel_rfl : (Instr.index 83 (.agg #[.string ⟨#[]⟩, .string ⟨#[60, 60]⟩, .string ⟨#[60, 61]⟩, .string ⟨#[61]⟩, .string ⟨#[62, 61]⟩, .string ⟨#[62, 62]⟩]) (.int .i64 4)).run Tryz.prog W = .ok (.string ⟨#[62, 61]⟩) W)
    · exact (by kernel_rfl : (Instr.index 83 (.agg #[.string ⟨#[]⟩, .string ⟨#[60, 60]⟩, .string ⟨#[60, 61]⟩, .string ⟨#[61]⟩, .string ⟨#[62, 61]⟩, .string ⟨#[62, 62]⟩]) (.int .i64 5)).run Tryz.prog W = .ok (.string ⟨#[62, 62]⟩) W)
  have x1 := xi k hk
  clear xi h
  go_enter Tryz.func27, Tryz.ntmps27
  go_wp2_with fail
  go_ret
  exact ⟨rfl, rfl⟩

/-! what has been written -/
theorem joinP_snoc (sep : List UInt8) (y : List UInt8) : ∀ xs : List (List UInt8), VP.joinP sep (xs ++ [y]) = if xs = [] then y else VP.joinP sep xs ++ (sep ++ y)
  | [] => rfl
  | [x] => rfl
  | x :: z :: r => by
    have ih := joinP_snoc sep y (z :: r)
    rw [if_neg (by simp)] at ih ⊢
    rw [List.cons_append, List.cons_append, VP.joinP, ← List.cons_append, ih, VP.joinP]
    simp

/-- so many lines, and so many of the next line's terms -/
def upTo (L : List (List Tv)) (k : Nat) : List UInt8 := VP.joinP [44, 32] (((L.take k).map fun x => x.map Tv.tm).map VP.lineP)
def inTo (L : List (List Tv)) (k : Nat) (x : List Tv) (j : Nat) : List UInt8 :=
  if j = 0 then upTo L k else upTo L k ++ ((if k = 0 then [] else [44, 32]) ++ VP.joinP [32, 124, 32] (((x.take j).map Tv.tm).map VP.oneP))

theorem inTo_next {L : List (List Tv)} {k : Nat} {x : List Tv} {j : Nat} {t : Tv} (ht : x[j]? = some t) :
    inTo L k x (j + 1) = inTo L k x j ++ ((if j = 0 then (if k = 0 then [] else [44, 32]) else [32, 124, 32]) ++ VP.oneP t.tm) := by
  unfold inTo
  rw [if_neg (by omega), List.take_add_one, ht]
  simp only [Option.toList_some, List.map_append, List.map_cons, List.map_nil]
  rw [joinP_snoc]
  by_cases hj : j = 0
  · subst hj
    simp
  · have hne : ((x.take j).map Tv.tm).map VP.oneP ≠ [] := by
      have hjl : j < x.length := (List.getElem?_eq_some_iff.1 ht).1
      intro e
      have := congrArg List.length e
      rw [List.length_map, List.length_map, List.length_take, List.length_nil] at this
      omega
    rw [if_neg hj, if_neg hj, if_neg hne]
    simp

theorem inTo_done {L : List (List Tv)} {k : Nat} {x : List Tv} (hx : L[k]? = some x) (hne : x ≠ []) : inTo L k x x.length = upTo L (k + 1) := by
  have h0 : x.length ≠ 0 := fun e => hne (List.eq_nil_of_length_eq_zero e)
  unfold inTo upTo
  rw [if_neg h0, List.take_length, List.take_add_one, hx]
  simp only [Option.toList_some, List.map_append, List.map_cons, List.map_nil]
  rw [joinP_snoc]
  by_cases hk : k = 0
  · subst hk
    simp [VP.joinP, VP.lineP]
  · have hne2 : ((L.take k).map fun x => x.map Tv.tm).map VP.lineP ≠ [] := by
      have hkl : k < L.length := (List.getElem?_eq_some_iff.1 hx).1
      intro e
      have := congrArg List.length e
      rw [List.length_map, List.length_map, List.length_take, List.length_nil] at this
      omega
    rw [if_neg hk, if_neg hne2]
    rfl
end Go.Proofs.YtlkmmejlnohjhaaGreatDoor
