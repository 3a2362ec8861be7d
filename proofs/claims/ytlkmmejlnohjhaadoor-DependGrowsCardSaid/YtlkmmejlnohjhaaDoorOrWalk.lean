/- cmp.Or at int: the first of two, or of three, numbers that is not 0. -/
import Derived.Test.YtlkmmejlnohjhaaDoorBase
namespace Go.Proofs.YtlkmmejlnohjhaaDoor
open Go.RowKit

theorem or2_calls (b : Nat) (x y : Int) (w : World) (h0 : w.cell? ⟨b, 0, none⟩ = some (.int .i64 x)) (h1 : w.cell? ⟨b, 1, none⟩ = some (.int .i64 y)) :
    Calls Tryd.prog 36 #[.slice (some ⟨b, 0, none⟩) 2 2] w fun e w' => e = .returned (.int .i64 (VP.orc x y)) ∧ w = w' := by
  by_cases hx : x = 0
  · have hb : (x == 0) = true := by rw [beq_iff_eq]; exact hx
    have hb' : (x != 0) = false := by rw [bne, hb]; rfl
    have H := Lib.hid hx
    clear hx
    have hy : (y != 0) = true ∨ (y != 0) = false := by cases (y != 0) <;> simp
    have fin : VP.orc x y = y := by unfold VP.orc; rw [if_neg (by rw [H.out]; decide)]
    have F := Lib.hid fin
    clear fin
    rcases hy with hy | hy
    · go_enter Tryd.func36, Tryd.ntmps36
      go_wp2
      go_rounds 3
      all_goals (go_ret; exact ⟨ret_int (by rw [F.out]), rfl⟩)
    · have y0 := Lib.hid (show y = 0 by simpa using hy)
      go_enter Tryd.func36, Tryd.ntmps36
      go_wp2
      go_rounds 3
      all_goals (go_ret; exact ⟨ret_int (by rw [F.out, y0.out]), rfl⟩)
  · have hb' : (x != 0) = true := by rw [bne_iff_ne]; exact hx
    have fin : VP.orc x y = x := by unfold VP.orc; rw [if_pos hx]
    have F := Lib.hid fin
    clear fin hx
    go_enter Tryd.func36, Tryd.ntmps36
    go_wp2
    go_rounds 3
    all_goals (go_ret; exact ⟨ret_int (by rw [F.out]), rfl⟩)

theorem or3_calls (b : Nat) (x y z : Int) (w : World) (h0 : w.cell? ⟨b, 0, none⟩ = some (.int .i64 x)) (h1 : w.cell? ⟨b, 1, none⟩ = some (.int .i64 y)) (h2 : w.cell? ⟨b, 2, none⟩ = some (.int .i64 z)) :
    Calls Tryd.prog 36 #[.slice (some ⟨b, 0, none⟩) 3 3] w fun e w' => e = .returned (.int .i64 (VP.orc x (VP.orc y z))) ∧ w = w' := by
  by_cases hx : x = 0
  · have hb' : (x != 0) = false := by rw [hx]; rfl
    by_cases hy : y = 0
    · have hc' : (y != 0) = false := by rw [hy]; rfl
      have fin : VP.orc x (VP.orc y z) = z := by subst hx; subst hy; unfold VP.orc; rfl
      have F := Lib.hid fin
      clear fin hx hy
      have hz : (z != 0) = true ∨ (z != 0) = false := by cases (z != 0) <;> simp
      rcases hz with hz | hz
      · go_enter Tryd.func36, Tryd.ntmps36
        go_wp2
        go_rounds 4
        all_goals (go_ret; exact ⟨ret_int (by rw [F.out]), rfl⟩)
      · have z0 := Lib.hid (show z = 0 by simpa using hz)
        go_enter Tryd.func36, Tryd.ntmps36
        go_wp2
        go_rounds 4
        all_goals (go_ret; exact ⟨ret_int (by rw [F.out, z0.out]), rfl⟩)
    · have hc' : (y != 0) = true := by rw [bne_iff_ne]; exact hy
      have fin : VP.orc x (VP.orc y z) = y := by subst hx; unfold VP.orc; rw [if_neg (by decide), if_pos hy]
      have F := Lib.hid fin
      clear fin hx hy
      go_enter Tryd.func36, Tryd.ntmps36
      go_wp2
      go_rounds 4
      all_goals (go_ret; exact ⟨ret_int (by rw [F.out]), rfl⟩)
  · have hb' : (x != 0) = true := by rw [bne_iff_ne]; exact hx
    have fin : VP.orc x (VP.orc y z) = x := by unfold VP.orc; rw [if_pos hx]
    have F := Lib.hid fin
    clear fin hx
    go_enter Tryd.func36, Tryd.ntmps36
    go_wp2
    go_rounds 4
    all_goals (go_ret; exact ⟨ret_int (by rw [F.out]), rfl⟩)
end Go.Proofs.YtlkmmejlnohjhaaDoor
