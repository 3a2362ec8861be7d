/- version.Compare, version.Is: the order of versions. -/
import Derived.Test.YtlkmmejlnohjhaaDoorPartWalk
import Derived.Deep.RegionHeld3
namespace Go.Proofs.YtlkmmejlnohjhaaDoor
open Go.RowKit

set_option maxRecDepth 100000 in
theorem compare_calls (e1 : Int) (u1 r1 : ByteArray) (e2 : Int) (u2 r2 : ByteArray) (w : World) (hu1 : u1.size ≤ 1000000) (hr1 : r1.size ≤ 1000000) (hu2 : u2.size ≤ 1000000) (hr2 : r2.size ≤ 1000000) :
    Calls Tryd.prog 13 #[.agg #[.int .i64 e1, .string u1, .string r1], .agg #[.int .i64 e2, .string u2, .string r2]] w
      fun e w' => e = .returned (.int .i64 (VP.cmpV e1 u1.data.toList r1.data.toList e2 u2.data.toList r2.data.toList)) ∧ Below w.heap.size w w' := by
  go_enter Tryd.func13, Tryd.ntmps13
  go_wp2_with fail
  go_region_held3 (fun w' => w'.cell? ⟨w.heap.size, 0, none⟩ = some (.int .i64 e1) ∧ w'.cell? ⟨w.heap.size, 1, none⟩ = some (.string u1) ∧ w'.cell? ⟨w.heap.size, 2, none⟩ = some (.string r1) ∧
      w'.cell? ⟨w.heap.size + 1, 0, none⟩ = some (.int .i64 e2) ∧ w'.cell? ⟨w.heap.size + 1, 1, none⟩ = some (.string u2) ∧ w'.cell? ⟨w.heap.size + 1, 2, none⟩ = some (.string r2) ∧ Below w.heap.size w w')
    ((first | assumption | exact ⟨by go_cell, by go_cell, by go_cell, by go_cell, by go_cell, by go_cell, (((Below.refl _ _).alloc (Nat.le_refl _) _).alloc (by simp) _).drew⟩ | (obtain ⟨h1, h2, h3, h4, h5, h6, h7⟩ := ‹_ ∧ _ ∧ _ ∧ _ ∧ _ ∧ _ ∧ _›; first | exact ⟨kept hb h1, kept hb h2, kept hb h3, kept hb h4, kept hb h5, kept hb h6, step_below h7 hb⟩ | exact ⟨kept (below_alloc _ _) h1, kept (below_alloc _ _) h2, kept (below_alloc _ _) h3, kept (below_alloc _ _) h4, kept (below_alloc _ _) h5, kept (below_alloc _ _) h6, step_below h7 (below_alloc _ _)⟩)))
    (first | (go_at_call 37; refine (call_cmp _ _ _).mono ?_; rintro e w' ⟨rfl, rfl⟩) | (go_at_call 38; refine (part_calls _ _ _ ?_ ?_).mono ?_; assumption; assumption; rintro e w' ⟨rfl, hb⟩) | (go_at_call 36; refine (or3_calls _ (VP.cmpI e1 e2) (VP.partC u1.data.toList u2.data.toList) (VP.partC r1.data.toList r2.data.toList) _ (by go_cell) (by go_cell) (by go_cell)).mono ?_; rintro e w' ⟨rfl, rfl⟩))
  go_wp2
  go_ret
  obtain ⟨_, _, _, _, _, _, h7⟩ := ‹_ ∧ _ ∧ _ ∧ _ ∧ _ ∧ _ ∧ _›
  exact ⟨rfl, h7⟩

def IsIs (op n : Int) (w : World) (e : Ending) (w' : World) : Prop := e = .returned (.bool (VP.isOp op n)) ∧ Below w.heap.size w w'

set_option maxRecDepth 100000 in
theorem is_calls (e1 : Int) (u1 r1 : ByteArray) (op : Int) (e2 : Int) (u2 r2 : ByteArray) (w : World) (hu1 : u1.size ≤ 1000000) (hr1 : r1.size ≤ 1000000) (hu2 : u2.size ≤ 1000000) (hr2 : r2.size ≤ 1000000) :
    Calls Tryd.prog 14 #[.agg #[.int .i64 e1, .string u1, .string r1], .int .i64 op, .agg #[.int .i64 e2, .string u2, .string r2]] w
      (IsIs op (VP.cmpV e1 u1.data.toList r1.data.toList e2 u2.data.toList r2.data.toList) w) := by
  have H := Lib.hid (compare_calls e1 u1 r1 e2 u2 r2 · hu1 hr1 hu2 hr2)
  generalize VP.cmpV e1 u1.data.toList r1.data.toList e2 u2.data.toList r2.data.toList = n at H ⊢
  have hop : op = 0 ∨ op = 1 ∨ op = 2 ∨ op = 3 ∨ op = 4 ∨ op = 5 ∨ (op ≠ 0 ∧ op ≠ 1 ∧ op ≠ 2 ∧ op ≠ 3 ∧ op ≠ 4 ∧ op ≠ 5) := by omega
  clear hu1 hr1 hu2 hr2
  rcases hop with rfl | rfl | rfl | rfl | rfl | rfl | ⟨h0, h1, h2, h3, h4, h5⟩
  case inr.inr.inr.inr.inr.inr =>
    have b0 : (op == 0) = false := by rw [beq_eq_false_iff_ne]; exact h0
    have b1 : (op == 1) = false := by rw [beq_eq_false_iff_ne]; exact h1
    have b2 : (op == 2) = false := by rw [beq_eq_false_iff_ne]; exact h2
    have b3 : (op == 3) = false := by rw [beq_eq_false_iff_ne]; exact h3
    have b4 : (op == 4) = false := by rw [beq_eq_false_iff_ne]; exact h4
    have b5 : (op == 5) = false := by rw [beq_eq_false_iff_ne]; exact h5
    have F : Hid (VP.isOp op n = false) := by unfold VP.isOp; rw [if_neg h0, if_neg h1, if_neg h2, if_neg h3, if_neg h4, if_neg h5]; exact rfl
    clear h0 h1 h2 h3 h4 h5
    go_enter Tryd.func14, Tryd.ntmps14
    go_wp2_with fail
    refine (H.out _).mono ?_
    rintro e w1 ⟨rfl, hb⟩
    have hB := step_below (step_below (below_alloc w (.cells #[.int .i64 e1, .string u1, .string r1] 23)) (below_alloc _ (.cells #[.int .i64 e2, .string u2, .string r2] 23))) hb
    clear hb
    go_wp2
    go_ret
    exact ⟨ret_bool F.out.symm, hB⟩
  all_goals
    go_enter Tryd.func14, Tryd.ntmps14
    go_wp2_with fail
    refine (H.out _).mono ?_
    rintro e w1 ⟨rfl, hb⟩
    have hB := step_below (step_below (below_alloc w (.cells #[.int .i64 e1, .string u1, .string r1] 23)) (below_alloc _ (.cells #[.int .i64 e2, .string u2, .string r2] 23))) hb
    clear hb
    go_wp2
    go_ret
    exact ⟨ret_bool rfl, hB⟩
end Go.Proofs.YtlkmmejlnohjhaaDoor
