/- keep.VersionEnds: the walk of a version that may be, with more behind it. -/
import Derived.Test.YtlkmmejlnohjhaaDoorEndsMain
import Derived.Deep.RegionHeld3
namespace Go.Proofs.YtlkmmejlnohjhaaDoor
open Go.RowKit

set_option maxHeartbeats 1000000 in
set_option maxRecDepth 100000 in
theorem ends_main (e : Int) (u r more : ByteArray) (n : Int) (w : World) (hu : u.size ≤ 100) (hm : more.size ≤ 50) (s1 : Does w 7 #[.agg #[.int .i64 e, .string u, .string r]] (.bool true)) (hh : Does w 8 #[] (.bool true)) (ra : Does w 9 #[.agg #[.int .i64 e, .string u, .string r]] (.bool true)) (rb : Does w 9 #[.agg #[.int .i64 e, .string (u ++ (⟨#[126]⟩ ++ more)), .string r]] (.bool true)) (rc : Does w 9 #[.agg #[.int .i64 e, .string (u ++ (⟨#[43]⟩ ++ more)), .string r]] (.bool true)) (k z : Int) (Z T XU YU : ByteArray) (hZ : Z.size ≤ 4) (hT : T.size ≤ 3) (pk : Does w 20 #[.int .i64 n, .int .i64 1000] (.int .i64 k)) (pz : Does w 20 #[.int .i64 n, .int .i64 5] (.int .i64 z)) (rp : Does w 22 #[.string ⟨#[48]⟩, .int .i64 z] (.string Z)) (dg : Does w 23 #[.int .i64 k] (.string T)) (rx : Does w 21 #[.string ((⟨#[49, 46]⟩ ++ Z) ++ T)] (.agg #[.int .i64 0, .string XU, .string ⟨#[]⟩])) (ry : Does w 21 #[.string (⟨#[49, 46]⟩ ++ T)] (.agg #[.int .i64 0, .string YU, .string ⟨#[]⟩])) (cba : Does w 13 #[.agg #[.int .i64 e, .string (u ++ (⟨#[126]⟩ ++ more)), .string r], .agg #[.int .i64 e, .string u, .string r]] (.int .i64 (-1))) (cca : Does w 13 #[.agg #[.int .i64 e, .string (u ++ (⟨#[43]⟩ ++ more)), .string r], .agg #[.int .i64 e, .string u, .string r]] (.int .i64 1)) (cbc : Does w 13 #[.agg #[.int .i64 e, .string (u ++ (⟨#[126]⟩ ++ more)), .string r], .agg #[.int .i64 e, .string (u ++ (⟨#[43]⟩ ++ more)), .string r]] (.int .i64 (-1))) (cxy : Does w 13 #[.agg #[.int .i64 0, .string XU, .string ⟨#[]⟩], .agg #[.int .i64 0, .string YU, .string ⟨#[]⟩]] (.int .i64 0)) : Calls Tryd.prog 5 #[.agg #[.int .i64 e, .string u, .string r], .string more, .int .i64 n] w (BoolIs true w) := by
  have hB : Below w.heap.size w (w.alloc (.cells #[.int .i64 e, .string u, .string r] 23)) := below_alloc _ _
  have hx : (w.alloc (.cells #[.int .i64 e, .string u, .string r] 23)).cell? ⟨w.heap.size, 0, none⟩ = some (.int .i64 e) ∧ (w.alloc (.cells #[.int .i64 e, .string u, .string r] 23)).cell? ⟨w.heap.size, 1, none⟩ = some (.string u) ∧ (w.alloc (.cells #[.int .i64 e, .string u, .string r] 23)).cell? ⟨w.heap.size, 2, none⟩ = some (.string r) := ⟨by go_cell, by go_cell, by go_cell⟩
  go_enter Tryd.func5, Tryd.ntmps5
  go_wp2_with fail
  refine (Does.at s1 _ hB).mono ?_
  rintro E w1 ⟨rfl, hb⟩
  replace hx := three_step hx hb
  replace hB := step_below hB hb
  clear hb
  go_wp2_with fail
  refine (Does.at hh _ hB).mono ?_
  rintro E w1 ⟨rfl, hb⟩
  replace hx := three_step hx hb
  replace hB := step_below hB hb
  clear hb
  go_wp2_with fail
  go_cut [7, 8] (fun s7 s8 wx => ∃ g7 g8 : Nat, s7 = .pointer (some ⟨g7, 0, none⟩) ∧ s8 = .pointer (some ⟨g8, 0, none⟩) ∧ w.heap.size < g7 ∧ w.heap.size < g8 ∧ g7 ≠ g8 ∧ wx.cell? ⟨w.heap.size, 0, none⟩ = some (.int .i64 e) ∧ wx.cell? ⟨w.heap.size, 1, none⟩ = some (.string u) ∧ wx.cell? ⟨w.heap.size, 2, none⟩ = some (.string r) ∧ wx.cell? ⟨g7, 0, none⟩ = some (.int .i64 e) ∧ wx.cell? ⟨g7, 1, none⟩ = some (.string u) ∧ wx.cell? ⟨g7, 2, none⟩ = some (.string r) ∧ wx.cell? ⟨g8, 0, none⟩ = some (.int .i64 e) ∧ wx.cell? ⟨g8, 1, none⟩ = some (.string u) ∧ wx.cell? ⟨g8, 2, none⟩ = some (.string r) ∧ wx.frozen? ⟨g7, 0, none⟩ = false ∧ wx.frozen? ⟨g7, 1, none⟩ = false ∧ wx.frozen? ⟨g7, 2, none⟩ = false ∧ wx.frozen? ⟨g8, 0, none⟩ = false ∧ wx.frozen? ⟨g8, 1, none⟩ = false ∧ wx.frozen? ⟨g8, 2, none⟩ = false ∧ Below w.heap.size w wx)
  case first =>
    have hz0 := cell_lt hx.1
    go_region
    all_goals
      go_wp2_with fail
      go_meet
      refine ⟨_, _, rfl, rfl, by omega, by omega, by omega, ?_, ?_, ?_, ?_, ?_, ?_, ?_, ?_, ?_, ?_, ?_, ?_, ?_, ?_, ?_, ?_⟩
      all_goals first
        | go_cell
        | (simp [go_sem]; done)
        | go_grown
  case rest =>
    clear hx hB
    obtain ⟨g7, g8, rfl, rfl, hg7, hg8, hne, a0, a1, a2, b0, b1, b2, c0, c1, c2, f0, f1, f2, h0, h1, h2, hB⟩ := hcut
    have hne' : g8 ≠ g7 := Ne.symm hne
    have n7 : w.heap.size ≠ g7 := by omega
    have n8 : w.heap.size ≠ g8 := by omega
    have hx : ((wc.setCell ⟨g7, 1, none⟩ (.string (u ++ (⟨#[126]⟩ ++ more)))).setCell ⟨g8, 1, none⟩ (.string (u ++ (⟨#[43]⟩ ++ more)))).cell? ⟨w.heap.size, 0, none⟩ = some (.int .i64 e) ∧ ((wc.setCell ⟨g7, 1, none⟩ (.string (u ++ (⟨#[126]⟩ ++ more)))).setCell ⟨g8, 1, none⟩ (.string (u ++ (⟨#[43]⟩ ++ more)))).cell? ⟨w.heap.size, 1, none⟩ = some (.string u) ∧ ((wc.setCell ⟨g7, 1, none⟩ (.string (u ++ (⟨#[126]⟩ ++ more)))).setCell ⟨g8, 1, none⟩ (.string (u ++ (⟨#[43]⟩ ++ more)))).cell? ⟨w.heap.size, 2, none⟩ = some (.string r) ∧ ((wc.setCell ⟨g7, 1, none⟩ (.string (u ++ (⟨#[126]⟩ ++ more)))).setCell ⟨g8, 1, none⟩ (.string (u ++ (⟨#[43]⟩ ++ more)))).cell? ⟨g7, 0, none⟩ = some (.int .i64 e) ∧ ((wc.setCell ⟨g7, 1, none⟩ (.string (u ++ (⟨#[126]⟩ ++ more)))).setCell ⟨g8, 1, none⟩ (.string (u ++ (⟨#[43]⟩ ++ more)))).cell? ⟨g7, 1, none⟩ = some (.string (u ++ (⟨#[126]⟩ ++ more))) ∧ ((wc.setCell ⟨g7, 1, none⟩ (.string (u ++ (⟨#[126]⟩ ++ more)))).setCell ⟨g8, 1, none⟩ (.string (u ++ (⟨#[43]⟩ ++ more)))).cell? ⟨g7, 2, none⟩ = some (.string r) ∧ ((wc.setCell ⟨g7, 1, none⟩ (.string (u ++ (⟨#[126]⟩ ++ more)))).setCell ⟨g8, 1, none⟩ (.string (u ++ (⟨#[43]⟩ ++ more)))).cell? ⟨g8, 0, none⟩ = some (.int .i64 e) ∧ ((wc.setCell ⟨g7, 1, none⟩ (.string (u ++ (⟨#[126]⟩ ++ more)))).setCell ⟨g8, 1, none⟩ (.string (u ++ (⟨#[43]⟩ ++ more)))).cell? ⟨g8, 1, none⟩ = some (.string (u ++ (⟨#[43]⟩ ++ more))) ∧ ((wc.setCell ⟨g7, 1, none⟩ (.string (u ++ (⟨#[126]⟩ ++ more)))).setCell ⟨g8, 1, none⟩ (.string (u ++ (⟨#[43]⟩ ++ more)))).cell? ⟨g8, 2, none⟩ = some (.string r) := by
      refine ⟨?_, ?_, ?_, ?_, ?_, ?_, ?_, ?_, ?_⟩ <;> go_cell
    have hB2 := (hB.setCell (p := ⟨g7, 1, none⟩) (by simp; omega) (.string (u ++ (⟨#[126]⟩ ++ more)))).setCell (p := ⟨g8, 1, none⟩) (by simp; omega) (.string (u ++ (⟨#[43]⟩ ++ more)))
    go_wp2_with fail
    clear hB a0 a1 a2 b0 b1 b2 c0 c1 c2 f0 f1 f2 h0 h1 h2
    have hB := hB2
    clear hB2
    refine (Does.at ra _ hB).mono ?_
    rintro E w1 ⟨rfl, hb⟩
    replace hx := ends_step hx hb
    replace hB := step_below hB hb
    clear hb
    go_wp2_with fail
    refine (Does.at rb _ hB).mono ?_
    rintro E w1 ⟨rfl, hb⟩
    replace hx := ends_step hx hb
    replace hB := step_below hB hb
    clear hb
    go_wp2_with fail
    refine (Does.at rc _ hB).mono ?_
    rintro E w1 ⟨rfl, hb⟩
    replace hx := ends_step hx hb
    replace hB := step_below hB hb
    clear hb
    go_wp2_with fail
    refine (Does.at pk _ hB).mono ?_
    rintro E w1 ⟨rfl, hb⟩
    replace hx := ends_step hx hb
    replace hB := step_below hB hb
    clear hb
    go_wp2_with fail
    refine (Does.at pz _ hB).mono ?_
    rintro E w1 ⟨rfl, hb⟩
    replace hx := ends_step hx hb
    replace hB := step_below hB hb
    clear hb
    go_wp2_with fail
    refine (Does.at rp _ hB).mono ?_
    rintro E w1 ⟨rfl, hb⟩
    replace hx := ends_step hx hb
    replace hB := step_below hB hb
    clear hb
    go_wp2_with fail
    refine (Does.at dg _ hB).mono ?_
    rintro E w1 ⟨rfl, hb⟩
    replace hx := ends_step hx hb
    replace hB := step_below hB hb
    clear hb
    go_wp2_with fail
    refine (Does.at rx _ hB).mono ?_
    rintro E w1 ⟨rfl, hb⟩
    replace hx := ends_step hx hb
    replace hB := step_below hB hb
    clear hb
    have z0 := cell_lt hx.1
    have z7 := cell_lt hx.2.2.2.1
    have z8 := cell_lt hx.2.2.2.2.2.2.1
    have htw : (w1.alloc (.cells #[.int .i64 0, .string XU, .string ⟨#[]⟩] 23)).cell? ⟨w.heap.size, 0, none⟩ = some (.int .i64 e) ∧ (w1.alloc (.cells #[.int .i64 0, .string XU, .string ⟨#[]⟩] 23)).cell? ⟨w.heap.size, 1, none⟩ = some (.string u) ∧ (w1.alloc (.cells #[.int .i64 0, .string XU, .string ⟨#[]⟩] 23)).cell? ⟨w.heap.size, 2, none⟩ = some (.string r) ∧ (w1.alloc (.cells #[.int .i64 0, .string XU, .string ⟨#[]⟩] 23)).cell? ⟨g7, 0, none⟩ = some (.int .i64 e) ∧ (w1.alloc (.cells #[.int .i64 0, .string XU, .string ⟨#[]⟩] 23)).cell? ⟨g7, 1, none⟩ = some (.string (u ++ (⟨#[126]⟩ ++ more))) ∧ (w1.alloc (.cells #[.int .i64 0, .string XU, .string ⟨#[]⟩] 23)).cell? ⟨g7, 2, none⟩ = some (.string r) ∧ (w1.alloc (.cells #[.int .i64 0, .string XU, .string ⟨#[]⟩] 23)).cell? ⟨g8, 0, none⟩ = some (.int .i64 e) ∧ (w1.alloc (.cells #[.int .i64 0, .string XU, .string ⟨#[]⟩] 23)).cell? ⟨g8, 1, none⟩ = some (.string (u ++ (⟨#[43]⟩ ++ more))) ∧ (w1.alloc (.cells #[.int .i64 0, .string XU, .string ⟨#[]⟩] 23)).cell? ⟨g8, 2, none⟩ = some (.string r) ∧ (w1.alloc (.cells #[.int .i64 0, .string XU, .string ⟨#[]⟩] 23)).cell? ⟨w1.heap.size, 0, none⟩ = some (.int .i64 0) ∧ (w1.alloc (.cells #[.int .i64 0, .string XU, .string ⟨#[]⟩] 23)).cell? ⟨w1.heap.size, 1, none⟩ = some (.string XU) ∧ (w1.alloc (.cells #[.int .i64 0, .string XU, .string ⟨#[]⟩] 23)).cell? ⟨w1.heap.size, 2, none⟩ = some (.string ⟨#[]⟩) ∧ Below w.heap.size w (w1.alloc (.cells #[.int .i64 0, .string XU, .string ⟨#[]⟩] 23)) := by
      have h := ends_step hx (below_alloc w1 (.cells #[.int .i64 0, .string XU, .string ⟨#[]⟩] 23))
      exact ⟨h.1, h.2.1, h.2.2.1, h.2.2.2.1, h.2.2.2.2.1, h.2.2.2.2.2.1, h.2.2.2.2.2.2.1, h.2.2.2.2.2.2.2.1, h.2.2.2.2.2.2.2.2, by go_cell, by go_cell, by go_cell, step_below hB (below_alloc _ _)⟩
    go_wp2_with fail
    have hcat : ∀ W : World, (Op.stringOp .add (⟨#[49, 46]⟩ : ByteArray) T).run Tryd.prog W = .ok (.string (⟨#[49, 46]⟩ ++ T)) W := fun W => run_string_add_sum W ⟨#[49, 46]⟩ T (by show 2 + T.size ≤ _; omega)
    clear hx hB s1 hh ra rb rc pk pz rp rx
    go_region_held3 (fun w' => w'.cell? ⟨w.heap.size, 0, none⟩ = some (.int .i64 e) ∧ w'.cell? ⟨w.heap.size, 1, none⟩ = some (.string u) ∧ w'.cell? ⟨w.heap.size, 2, none⟩ = some (.string r) ∧ w'.cell? ⟨g7, 0, none⟩ = some (.int .i64 e) ∧ w'.cell? ⟨g7, 1, none⟩ = some (.string (u ++ (⟨#[126]⟩ ++ more))) ∧ w'.cell? ⟨g7, 2, none⟩ = some (.string r) ∧ w'.cell? ⟨g8, 0, none⟩ = some (.int .i64 e) ∧ w'.cell? ⟨g8, 1, none⟩ = some (.string (u ++ (⟨#[43]⟩ ++ more))) ∧ w'.cell? ⟨g8, 2, none⟩ = some (.string r) ∧ w'.cell? ⟨w1.heap.size, 0, none⟩ = some (.int .i64 0) ∧ w'.cell? ⟨w1.heap.size, 1, none⟩ = some (.string XU) ∧ w'.cell? ⟨w1.heap.size, 2, none⟩ = some (.string ⟨#[]⟩) ∧ Below w.heap.size w w')
      ((first | assumption | exact tw_step (by assumption) hb | exact tw_step htw (below_drew _)))
      (first | (go_at_call 13; first | ((with_reducible refine (Does.at cba _ ?_).mono ?_); (exact tw_below (by assumption)); rintro E w' ⟨rfl, hb⟩) | ((with_reducible refine (Does.at cca _ ?_).mono ?_); (exact tw_below (by assumption)); rintro E w' ⟨rfl, hb⟩) | ((with_reducible refine (Does.at cbc _ ?_).mono ?_); (exact tw_below (by assumption)); rintro E w' ⟨rfl, hb⟩) | ((with_reducible refine (Does.at cxy _ ?_).mono ?_); (exact tw_below (by assumption)); rintro E w' ⟨rfl, hb⟩)) | (go_at_call 23; first | ((with_reducible refine (Does.at dg _ ?_).mono ?_); (exact tw_below (by assumption)); rintro E w' ⟨rfl, hb⟩)) | (go_at_call 21; first | ((with_reducible refine (Does.at ry _ ?_).mono ?_); (exact tw_below (by assumption)); rintro E w' ⟨rfl, hb⟩)))
    all_goals
      go_wp2_with fail
      go_ret
      exact ⟨rfl, tw_below (by assumption)⟩
end Go.Proofs.YtlkmmejlnohjhaaDoor
