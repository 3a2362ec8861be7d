/- keep.VersionEnds: the walk, over what its callees give. -/
import Derived.Test.YtlkmmejlnohjhaaDoorEndsWalk
import Derived.Deep.DeepCutAuto
namespace Go.Proofs.YtlkmmejlnohjhaaDoor
open Go.RowKit

theorem three_step {w W W' : World} {e : Int} {u r : ByteArray} (h : W.cell? ⟨w.heap.size, 0, none⟩ = some (.int .i64 e) ∧ W.cell? ⟨w.heap.size, 1, none⟩ = some (.string u) ∧ W.cell? ⟨w.heap.size, 2, none⟩ = some (.string r)) (hb : Below W.heap.size W W') : W'.cell? ⟨w.heap.size, 0, none⟩ = some (.int .i64 e) ∧ W'.cell? ⟨w.heap.size, 1, none⟩ = some (.string u) ∧ W'.cell? ⟨w.heap.size, 2, none⟩ = some (.string r) := ⟨kept hb h.1, kept hb h.2.1, kept hb h.2.2⟩
theorem ends_step {w W W' : World} {g7 g8 : Nat} {e : Int} {u r more : ByteArray} (h : W.cell? ⟨w.heap.size, 0, none⟩ = some (.int .i64 e) ∧ W.cell? ⟨w.heap.size, 1, none⟩ = some (.string u) ∧ W.cell? ⟨w.heap.size, 2, none⟩ = some (.string r) ∧ W.cell? ⟨g7, 0, none⟩ = some (.int .i64 e) ∧ W.cell? ⟨g7, 1, none⟩ = some (.string (u ++ (⟨#[126]⟩ ++ more))) ∧ W.cell? ⟨g7, 2, none⟩ = some (.string r) ∧ W.cell? ⟨g8, 0, none⟩ = some (.int .i64 e) ∧ W.cell? ⟨g8, 1, none⟩ = some (.string (u ++ (⟨#[43]⟩ ++ more))) ∧ W.cell? ⟨g8, 2, none⟩ = some (.string r)) (hb : Below W.heap.size W W') : W'.cell? ⟨w.heap.size, 0, none⟩ = some (.int .i64 e) ∧ W'.cell? ⟨w.heap.size, 1, none⟩ = some (.string u) ∧ W'.cell? ⟨w.heap.size, 2, none⟩ = some (.string r) ∧ W'.cell? ⟨g7, 0, none⟩ = some (.int .i64 e) ∧ W'.cell? ⟨g7, 1, none⟩ = some (.string (u ++ (⟨#[126]⟩ ++ more))) ∧ W'.cell? ⟨g7, 2, none⟩ = some (.string r) ∧ W'.cell? ⟨g8, 0, none⟩ = some (.int .i64 e) ∧ W'.cell? ⟨g8, 1, none⟩ = some (.string (u ++ (⟨#[43]⟩ ++ more))) ∧ W'.cell? ⟨g8, 2, none⟩ = some (.string r) :=
  ⟨kept hb h.1, kept hb h.2.1, kept hb h.2.2.1, kept hb h.2.2.2.1, kept hb h.2.2.2.2.1, kept hb h.2.2.2.2.2.1, kept hb h.2.2.2.2.2.2.1, kept hb h.2.2.2.2.2.2.2.1, kept hb h.2.2.2.2.2.2.2.2⟩

set_option maxRecDepth 100000 in
theorem ends_short (e : Int) (u r more : ByteArray) (n : Int) (w : World) (sn : Does w 7 #[.agg #[.int .i64 e, .string u, .string r]] (.bool false)) : Calls Tryd.prog 5 #[.agg #[.int .i64 e, .string u, .string r], .string more, .int .i64 n] w (BoolIs true w) := by
  have hB : Below w.heap.size w (w.alloc (.cells #[.int .i64 e, .string u, .string r] 23)) := below_alloc _ _
  have hx : (w.alloc (.cells #[.int .i64 e, .string u, .string r] 23)).cell? ⟨w.heap.size, 0, none⟩ = some (.int .i64 e) ∧ (w.alloc (.cells #[.int .i64 e, .string u, .string r] 23)).cell? ⟨w.heap.size, 1, none⟩ = some (.string u) ∧ (w.alloc (.cells #[.int .i64 e, .string u, .string r] 23)).cell? ⟨w.heap.size, 2, none⟩ = some (.string r) := ⟨by go_cell, by go_cell, by go_cell⟩
  go_enter Tryd.func5, Tryd.ntmps5
  go_wp2_with fail
  refine (Does.at sn _ hB).mono ?_
  rintro E w1 ⟨rfl, hb⟩
  replace hx := three_step hx hb
  replace hB := step_below hB hb
  clear hb
  go_wp2_with fail
  go_ret
  exact ⟨rfl, hB⟩

set_option maxRecDepth 100000 in
theorem ends_long (e : Int) (u r more : ByteArray) (n : Int) (w : World) (hm : 50 < more.size) (s1 : Does w 7 #[.agg #[.int .i64 e, .string u, .string r]] (.bool true)) : Calls Tryd.prog 5 #[.agg #[.int .i64 e, .string u, .string r], .string more, .int .i64 n] w (BoolIs true w) := by
  have hB : Below w.heap.size w (w.alloc (.cells #[.int .i64 e, .string u, .string r] 23)) := below_alloc _ _
  have hx : (w.alloc (.cells #[.int .i64 e, .string u, .string r] 23)).cell? ⟨w.heap.size, 0, none⟩ = some (.int .i64 e) ∧ (w.alloc (.cells #[.int .i64 e, .string u, .string r] 23)).cell? ⟨w.heap.size, 1, none⟩ = some (.string u) ∧ (w.alloc (.cells #[.int .i64 e, .string u, .string r] 23)).cell? ⟨w.heap.size, 2, none⟩ = some (.string r) := ⟨by go_cell, by go_cell, by go_cell⟩
  go_enter Tryd.func5, Tryd.ntmps5
  go_wp2_with fail
  refine (Does.at s1 _ hB).mono ?_
  rintro E w1 ⟨rfl, hb⟩
  replace hx := three_step hx hb
  replace hB := step_below hB hb
  clear hb
  go_wp2_with fail
  go_ret
  exact ⟨rfl, hB⟩


theorem tw_below {w W : World} {g7 g8 g10 : Nat} {e : Int} {u r more XU : ByteArray} (h : W.cell? ⟨w.heap.size, 0, none⟩ = some (.int .i64 e) ∧ W.cell? ⟨w.heap.size, 1, none⟩ = some (.string u) ∧ W.cell? ⟨w.heap.size, 2, none⟩ = some (.string r) ∧ W.cell? ⟨g7, 0, none⟩ = some (.int .i64 e) ∧ W.cell? ⟨g7, 1, none⟩ = some (.string (u ++ (⟨#[126]⟩ ++ more))) ∧ W.cell? ⟨g7, 2, none⟩ = some (.string r) ∧ W.cell? ⟨g8, 0, none⟩ = some (.int .i64 e) ∧ W.cell? ⟨g8, 1, none⟩ = some (.string (u ++ (⟨#[43]⟩ ++ more))) ∧ W.cell? ⟨g8, 2, none⟩ = some (.string r) ∧ W.cell? ⟨g10, 0, none⟩ = some (.int .i64 0) ∧ W.cell? ⟨g10, 1, none⟩ = some (.string XU) ∧ W.cell? ⟨g10, 2, none⟩ = some (.string ⟨#[]⟩) ∧ Below w.heap.size w W) : Below w.heap.size w W := h.2.2.2.2.2.2.2.2.2.2.2.2
theorem tw_step {w W W' : World} {g7 g8 g10 : Nat} {e : Int} {u r more XU : ByteArray} (h : W.cell? ⟨w.heap.size, 0, none⟩ = some (.int .i64 e) ∧ W.cell? ⟨w.heap.size, 1, none⟩ = some (.string u) ∧ W.cell? ⟨w.heap.size, 2, none⟩ = some (.string r) ∧ W.cell? ⟨g7, 0, none⟩ = some (.int .i64 e) ∧ W.cell? ⟨g7, 1, none⟩ = some (.string (u ++ (⟨#[126]⟩ ++ more))) ∧ W.cell? ⟨g7, 2, none⟩ = some (.string r) ∧ W.cell? ⟨g8, 0, none⟩ = some (.int .i64 e) ∧ W.cell? ⟨g8, 1, none⟩ = some (.string (u ++ (⟨#[43]⟩ ++ more))) ∧ W.cell? ⟨g8, 2, none⟩ = some (.string r) ∧ W.cell? ⟨g10, 0, none⟩ = some (.int .i64 0) ∧ W.cell? ⟨g10, 1, none⟩ = some (.string XU) ∧ W.cell? ⟨g10, 2, none⟩ = some (.string ⟨#[]⟩) ∧ Below w.heap.size w W) (hb : Below W.heap.size W W') : W'.cell? ⟨w.heap.size, 0, none⟩ = some (.int .i64 e) ∧ W'.cell? ⟨w.heap.size, 1, none⟩ = some (.string u) ∧ W'.cell? ⟨w.heap.size, 2, none⟩ = some (.string r) ∧ W'.cell? ⟨g7, 0, none⟩ = some (.int .i64 e) ∧ W'.cell? ⟨g7, 1, none⟩ = some (.string (u ++ (⟨#[126]⟩ ++ more))) ∧ W'.cell? ⟨g7, 2, none⟩ = some (.string r) ∧ W'.cell? ⟨g8, 0, none⟩ = some (.int .i64 e) ∧ W'.cell? ⟨g8, 1, none⟩ = some (.string (u ++ (⟨#[43]⟩ ++ more))) ∧ W'.cell? ⟨g8, 2, none⟩ = some (.string r) ∧ W'.cell? ⟨g10, 0, none⟩ = some (.int .i64 0) ∧ W'.cell? ⟨g10, 1, none⟩ = some (.string XU) ∧ W'.cell? ⟨g10, 2, none⟩ = some (.string ⟨#[]⟩) ∧ Below w.heap.size w W' :=
  ⟨kept hb h.1, kept hb h.2.1, kept hb h.2.2.1, kept hb h.2.2.2.1, kept hb h.2.2.2.2.1, kept hb h.2.2.2.2.2.1, kept hb h.2.2.2.2.2.2.1, kept hb h.2.2.2.2.2.2.2.1, kept hb h.2.2.2.2.2.2.2.2.1,
    kept hb h.2.2.2.2.2.2.2.2.2.1, kept hb h.2.2.2.2.2.2.2.2.2.2.1, kept hb h.2.2.2.2.2.2.2.2.2.2.2.1, step_below (tw_below h) hb⟩

set_option maxHeartbeats 1000000 in
set_option maxRecDepth 100000 in
theorem ends_right1 (e : Int) (u r more : ByteArray) (n : Int) (w : World) (hu : u.size ≤ 100) (hm : more.size ≤ 50) (s1 : Does w 7 #[.agg #[.int .i64 e, .string u, .string r]] (.bool true)) (hh : Does w 8 #[] (.bool true)) (rn : Does w 9 #[.agg #[.int .i64 e, .string u, .string r]] (.bool false)) : Calls Tryd.prog 5 #[.agg #[.int .i64 e, .string u, .string r], .string more, .int .i64 n] w (BoolIs true w) := by
  have hB : Below w.heap.size w (w.alloc (.cells #[.int .i64 e, .string u, .string r] 23)) := below_alloc _ _
  have hx : (w.alloc (.cells #[.int .i64 e, .string u, .string r] 23)).cell? ⟨w.heap.size, 0, none⟩ = some (.int .i64 e) ∧ (w.alloc (.cells #[.int .i64 e, .string u, .string r] 23)).cell? ⟨w.heap.size, 1, none⟩ = some (.string u) ∧ (w.alloc (.cells #[.int .i64 e, .string u, .string r] 23)).cell? ⟨w.heap.size, 2, none⟩ = some (.string r) := ⟨by go_cell, by go_cell, by go_cell⟩
  go_enter Tryd.func5, Tryd.ntmps5
  go_wp2_with fail
  refine (Does.at s1 _ hB).mono ?_
  rintro E w1 ⟨rfl, hb⟩
  replace hx := three_step hx hb
  replace hB := step_below hB hb
  clear hb
  go_wp2_with fail
  refine (Does.at hh _ hB).mono ?_
  rintro E w1 ⟨rfl, hb⟩
  replace hx := three_step hx hb
  replace hB := step_below hB hb
  clear hb
  go_wp2_with fail
  go_cut [7, 8] (fun s7 s8 wx => ∃ g7 g8 : Nat, s7 = .pointer (some ⟨g7, 0, none⟩) ∧ s8 = .pointer (some ⟨g8, 0, none⟩) ∧ w.heap.size < g7 ∧ w.heap.size < g8 ∧ g7 ≠ g8 ∧ wx.cell? ⟨w.heap.size, 0, none⟩ = some (.int .i64 e) ∧ wx.cell? ⟨w.heap.size, 1, none⟩ = some (.string u) ∧ wx.cell? ⟨w.heap.size, 2, none⟩ = some (.string r) ∧ wx.cell? ⟨g7, 0, none⟩ = some (.int .i64 e) ∧ wx.cell? ⟨g7, 1, none⟩ = some (.string u) ∧ wx.cell? ⟨g7, 2, none⟩ = some (.string r) ∧ wx.cell? ⟨g8, 0, none⟩ = some (.int .i64 e) ∧ wx.cell? ⟨g8, 1, none⟩ = some (.string u) ∧ wx.cell? ⟨g8, 2, none⟩ = some (.string r) ∧ wx.frozen? ⟨g7, 0, none⟩ = false ∧ wx.frozen? ⟨g7, 1, none⟩ = false ∧ wx.frozen? ⟨g7, 2, none⟩ = false ∧ wx.frozen? ⟨g8, 0, none⟩ = false ∧ wx.frozen? ⟨g8, 1, none⟩ = false ∧ wx.frozen? ⟨g8, 2, none⟩ = false ∧ Below w.heap.size w wx)
  case first =>
    have hz0 := cell_lt hx.1
    go_region
    all_goals
      go_wp2_with fail
      go_meet
      refine ⟨_, _, rfl, rfl, by omega, by omega, by omega, ?_, ?_, ?_, ?_, ?_, ?_, ?_, ?_, ?_, ?_, ?_, ?_, ?_, ?_, ?_, ?_⟩
      all_goals first
        | go_cell
        | (simp [go_sem]; done)
        | go_grown
  case rest =>
    clear hx hB
    obtain ⟨g7, g8, rfl, rfl, hg7, hg8, hne, a0, a1, a2, b0, b1, b2, c0, c1, c2, f0, f1, f2, h0, h1, h2, hB⟩ := hcut
    have hne' : g8 ≠ g7 := Ne.symm hne
    have n7 : w.heap.size ≠ g7 := by omega
    have n8 : w.heap.size ≠ g8 := by omega
    have hx : ((wc.setCell ⟨g7, 1, none⟩ (.string (u ++ (⟨#[126]⟩ ++ more)))).setCell ⟨g8, 1, none⟩ (.string (u ++ (⟨#[43]⟩ ++ more)))).cell? ⟨w.heap.size, 0, none⟩ = some (.int .i64 e) ∧ ((wc.setCell ⟨g7, 1, none⟩ (.string (u ++ (⟨#[126]⟩ ++ more)))).setCell ⟨g8, 1, none⟩ (.string (u ++ (⟨#[43]⟩ ++ more)))).cell? ⟨w.heap.size, 1, none⟩ = some (.string u) ∧ ((wc.setCell ⟨g7, 1, none⟩ (.string (u ++ (⟨#[126]⟩ ++ more)))).setCell ⟨g8, 1, none⟩ (.string (u ++ (⟨#[43]⟩ ++ more)))).cell? ⟨w.heap.size, 2, none⟩ = some (.string r) ∧ ((wc.setCell ⟨g7, 1, none⟩ (.string (u ++ (⟨#[126]⟩ ++ more)))).setCell ⟨g8, 1, none⟩ (.string (u ++ (⟨#[43]⟩ ++ more)))).cell? ⟨g7, 0, none⟩ = some (.int .i64 e) ∧ ((wc.setCell ⟨g7, 1, none⟩ (.string (u ++ (⟨#[126]⟩ ++ more)))).setCell ⟨g8, 1, none⟩ (.string (u ++ (⟨#[43]⟩ ++ more)))).cell? ⟨g7, 1, none⟩ = some (.string (u ++ (⟨#[126]⟩ ++ more))) ∧ ((wc.setCell ⟨g7, 1, none⟩ (.string (u ++ (⟨#[126]⟩ ++ more)))).setCell ⟨g8, 1, none⟩ (.string (u ++ (⟨#[43]⟩ ++ more)))).cell? ⟨g7, 2, none⟩ = some (.string r) ∧ ((wc.setCell ⟨g7, 1, none⟩ (.string (u ++ (⟨#[126]⟩ ++ more)))).setCell ⟨g8, 1, none⟩ (.string (u ++ (⟨#[43]⟩ ++ more)))).cell? ⟨g8, 0, none⟩ = some (.int .i64 e) ∧ ((wc.setCell ⟨g7, 1, none⟩ (.string (u ++ (⟨#[126]⟩ ++ more)))).setCell ⟨g8, 1, none⟩ (.string (u ++ (⟨#[43]⟩ ++ more)))).cell? ⟨g8, 1, none⟩ = some (.string (u ++ (⟨#[43]⟩ ++ more))) ∧ ((wc.setCell ⟨g7, 1, none⟩ (.string (u ++ (⟨#[126]⟩ ++ more)))).setCell ⟨g8, 1, none⟩ (.string (u ++ (⟨#[43]⟩ ++ more)))).cell? ⟨g8, 2, none⟩ = some (.string r) := by
      refine ⟨?_, ?_, ?_, ?_, ?_, ?_, ?_, ?_, ?_⟩ <;> go_cell
    have hB2 := (hB.setCell (p := ⟨g7, 1, none⟩) (by simp; omega) (.string (u ++ (⟨#[126]⟩ ++ more)))).setCell (p := ⟨g8, 1, none⟩) (by simp; omega) (.string (u ++ (⟨#[43]⟩ ++ more)))
    go_wp2_with fail
    clear hB a0 a1 a2 b0 b1 b2 c0 c1 c2 f0 f1 f2 h0 h1 h2
    have hB := hB2
    clear hB2
    refine (Does.at rn _ hB).mono ?_
    rintro E w1 ⟨rfl, hb⟩
    replace hx := ends_step hx hb
    replace hB := step_below hB hb
    clear hb
    go_wp2_with fail
    go_ret
    exact ⟨rfl, hB⟩

set_option maxHeartbeats 1000000 in
set_option maxRecDepth 100000 in
theorem ends_right2 (e : Int) (u r more : ByteArray) (n : Int) (w : World) (hu : u.size ≤ 100) (hm : more.size ≤ 50) (s1 : Does w 7 #[.agg #[.int .i64 e, .string u, .string r]] (.bool true)) (hh : Does w 8 #[] (.bool true)) (ra : Does w 9 #[.agg #[.int .i64 e, .string u, .string r]] (.bool true)) (rn : Does w 9 #[.agg #[.int .i64 e, .string (u ++ (⟨#[126]⟩ ++ more)), .string r]] (.bool false)) : Calls Tryd.prog 5 #[.agg #[.int .i64 e, .string u, .string r], .string more, .int .i64 n] w (BoolIs true w) := by
  have hB : Below w.heap.size w (w.alloc (.cells #[.int .i64 e, .string u, .string r] 23)) := below_alloc _ _
  have hx : (w.alloc (.cells #[.int .i64 e, .string u, .string r] 23)).cell? ⟨w.heap.size, 0, none⟩ = some (.int .i64 e) ∧ (w.alloc (.cells #[.int .i64 e, .string u, .string r] 23)).cell? ⟨w.heap.size, 1, none⟩ = some (.string u) ∧ (w.alloc (.cells #[.int .i64 e, .string u, .string r] 23)).cell? ⟨w.heap.size, 2, none⟩ = some (.string r) := ⟨by go_cell, by go_cell, by go_cell⟩
  go_enter Tryd.func5, Tryd.ntmps5
  go_wp2_with fail
  refine (Does.at s1 _ hB).mono ?_
  rintro E w1 ⟨rfl, hb⟩
  replace hx := three_step hx hb
  replace hB := step_below hB hb
  clear hb
  go_wp2_with fail
  refine (Does.at hh _ hB).mono ?_
  rintro E w1 ⟨rfl, hb⟩
  replace hx := three_step hx hb
  replace hB := step_below hB hb
  clear hb
  go_wp2_with fail
  go_cut [7, 8] (fun s7 s8 wx => ∃ g7 g8 : Nat, s7 = .pointer (some ⟨g7, 0, none⟩) ∧ s8 = .pointer (some ⟨g8, 0, none⟩) ∧ w.heap.size < g7 ∧ w.heap.size < g8 ∧ g7 ≠ g8 ∧ wx.cell? ⟨w.heap.size, 0, none⟩ = some (.int .i64 e) ∧ wx.cell? ⟨w.heap.size, 1, none⟩ = some (.string u) ∧ wx.cell? ⟨w.heap.size, 2, none⟩ = some (.string r) ∧ wx.cell? ⟨g7, 0, none⟩ = some (.int .i64 e) ∧ wx.cell? ⟨g7, 1, none⟩ = some (.string u) ∧ wx.cell? ⟨g7, 2, none⟩ = some (.string r) ∧ wx.cell? ⟨g8, 0, none⟩ = some (.int .i64 e) ∧ wx.cell? ⟨g8, 1, none⟩ = some (.string u) ∧ wx.cell? ⟨g8, 2, none⟩ = some (.string r) ∧ wx.frozen? ⟨g7, 0, none⟩ = false ∧ wx.frozen? ⟨g7, 1, none⟩ = false ∧ wx.frozen? ⟨g7, 2, none⟩ = false ∧ wx.frozen? ⟨g8, 0, none⟩ = false ∧ wx.frozen? ⟨g8, 1, none⟩ = false ∧ wx.frozen? ⟨g8, 2, none⟩ = false ∧ Below w.heap.size w wx)
  case first =>
    have hz0 := cell_lt hx.1
    go_region
    all_goals
      go_wp2_with fail
      go_meet
      refine ⟨_, _, rfl, rfl, by omega, by omega, by omega, ?_, ?_, ?_, ?_, ?_, ?_, ?_, ?_, ?_, ?_, ?_, ?_, ?_, ?_, ?_, ?_⟩
      all_goals first
        | go_cell
        | (simp [go_sem]; done)
        | go_grown
  case rest =>
    clear hx hB
    obtain ⟨g7, g8, rfl, rfl, hg7, hg8, hne, a0, a1, a2, b0, b1, b2, c0, c1, c2, f0, f1, f2, h0, h1, h2, hB⟩ := hcut
    have hne' : g8 ≠ g7 := Ne.symm hne
    have n7 : w.heap.size ≠ g7 := by omega
    have n8 : w.heap.size ≠ g8 := by omega
    have hx : ((wc.setCell ⟨g7, 1, none⟩ (.string (u ++ (⟨#[126]⟩ ++ more)))).setCell ⟨g8, 1, none⟩ (.string (u ++ (⟨#[43]⟩ ++ more)))).cell? ⟨w.heap.size, 0, none⟩ = some (.int .i64 e) ∧ ((wc.setCell ⟨g7, 1, none⟩ (.string (u ++ (⟨#[126]⟩ ++ more)))).setCell ⟨g8, 1, none⟩ (.string (u ++ (⟨#[43]⟩ ++ more)))).cell? ⟨w.heap.size, 1, none⟩ = some (.string u) ∧ ((wc.setCell ⟨g7, 1, none⟩ (.string (u ++ (⟨#[126]⟩ ++ more)))).setCell ⟨g8, 1, none⟩ (.string (u ++ (⟨#[43]⟩ ++ more)))).cell? ⟨w.heap.size, 2, none⟩ = some (.string r) ∧ ((wc.setCell ⟨g7, 1, none⟩ (.string (u ++ (⟨#[126]⟩ ++ more)))).setCell ⟨g8, 1, none⟩ (.string (u ++ (⟨#[43]⟩ ++ more)))).cell? ⟨g7, 0, none⟩ = some (.int .i64 e) ∧ ((wc.setCell ⟨g7, 1, none⟩ (.string (u ++ (⟨#[126]⟩ ++ more)))).setCell ⟨g8, 1, none⟩ (.string (u ++ (⟨#[43]⟩ ++ more)))).cell? ⟨g7, 1, none⟩ = some (.string (u ++ (⟨#[126]⟩ ++ more))) ∧ ((wc.setCell ⟨g7, 1, none⟩ (.string (u ++ (⟨#[126]⟩ ++ more)))).setCell ⟨g8, 1, none⟩ (.string (u ++ (⟨#[43]⟩ ++ more)))).cell? ⟨g7, 2, none⟩ = some (.string r) ∧ ((wc.setCell ⟨g7, 1, none⟩ (.string (u ++ (⟨#[126]⟩ ++ more)))).setCell ⟨g8, 1, none⟩ (.string (u ++ (⟨#[43]⟩ ++ more)))).cell? ⟨g8, 0, none⟩ = some (.int .i64 e) ∧ ((wc.setCell ⟨g7, 1, none⟩ (.string (u ++ (⟨#[126]⟩ ++ more)))).setCell ⟨g8, 1, none⟩ (.string (u ++ (⟨#[43]⟩ ++ more)))).cell? ⟨g8, 1, none⟩ = some (.string (u ++ (⟨#[43]⟩ ++ more))) ∧ ((wc.setCell ⟨g7, 1, none⟩ (.string (u ++ (⟨#[126]⟩ ++ more)))).setCell ⟨g8, 1, none⟩ (.string (u ++ (⟨#[43]⟩ ++ more)))).cell? ⟨g8, 2, none⟩ = some (.string r) := by
      refine ⟨?_, ?_, ?_, ?_, ?_, ?_, ?_, ?_, ?_⟩ <;> go_cell
    have hB2 := (hB.setCell (p := ⟨g7, 1, none⟩) (by simp; omega) (.string (u ++ (⟨#[126]⟩ ++ more)))).setCell (p := ⟨g8, 1, none⟩) (by simp; omega) (.string (u ++ (⟨#[43]⟩ ++ more)))
    go_wp2_with fail
    clear hB a0 a1 a2 b0 b1 b2 c0 c1 c2 f0 f1 f2 h0 h1 h2
    have hB := hB2
    clear hB2
    refine (Does.at ra _ hB).mono ?_
    rintro E w1 ⟨rfl, hb⟩
    replace hx := ends_step hx hb
    replace hB := step_below hB hb
    clear hb
    go_wp2_with fail
    refine (Does.at rn _ hB).mono ?_
    rintro E w1 ⟨rfl, hb⟩
    replace hx := ends_step hx hb
    replace hB := step_below hB hb
    clear hb
    go_wp2_with fail
    go_ret
    exact ⟨rfl, hB⟩

set_option maxHeartbeats 1000000 in
set_option maxRecDepth 100000 in
theorem ends_right3 (e : Int) (u r more : ByteArray) (n : Int) (w : World) (hu : u.size ≤ 100) (hm : more.size ≤ 50) (s1 : Does w 7 #[.agg #[.int .i64 e, .string u, .string r]] (.bool true)) (hh : Does w 8 #[] (.bool true)) (ra : Does w 9 #[.agg #[.int .i64 e, .string u, .string r]] (.bool true)) (rb : Does w 9 #[.agg #[.int .i64 e, .string (u ++ (⟨#[126]⟩ ++ more)), .string r]] (.bool true)) (rn : Does w 9 #[.agg #[.int .i64 e, .string (u ++ (⟨#[43]⟩ ++ more)), .string r]] (.bool false)) : Calls Tryd.prog 5 #[.agg #[.int .i64 e, .string u, .string r], .string more, .int .i64 n] w (BoolIs true w) := by
  have hB : Below w.heap.size w (w.alloc (.cells #[.int .i64 e, .string u, .string r] 23)) := below_alloc _ _
  have hx : (w.alloc (.cells #[.int .i64 e, .string u, .string r] 23)).cell? ⟨w.heap.size, 0, none⟩ = some (.int .i64 e) ∧ (w.alloc (.cells #[.int .i64 e, .string u, .string r] 23)).cell? ⟨w.heap.size, 1, none⟩ = some (.string u) ∧ (w.alloc (.cells #[.int .i64 e, .string u, .string r] 23)).cell? ⟨w.heap.size, 2, none⟩ = some (.string r) := ⟨by go_cell, by go_cell, by go_cell⟩
  go_enter Tryd.func5, Tryd.ntmps5
  go_wp2_with fail
  refine (Does.at s1 _ hB).mono ?_
  rintro E w1 ⟨rfl, hb⟩
  replace hx := three_step hx hb
  replace hB := step_below hB hb
  clear hb
  go_wp2_with fail
  refine (Does.at hh _ hB).mono ?_
  rintro E w1 ⟨rfl, hb⟩
  replace hx := three_step hx hb
  replace hB := step_below hB hb
  clear hb
  go_wp2_with fail
  go_cut [7, 8] (fun s7 s8 wx => ∃ g7 g8 : Nat, s7 = .pointer (some ⟨g7, 0, none⟩) ∧ s8 = .pointer (some ⟨g8, 0, none⟩) ∧ w.heap.size < g7 ∧ w.heap.size < g8 ∧ g7 ≠ g8 ∧ wx.cell? ⟨w.heap.size, 0, none⟩ = some (.int .i64 e) ∧ wx.cell? ⟨w.heap.size, 1, none⟩ = some (.string u) ∧ wx.cell? ⟨w.heap.size, 2, none⟩ = some (.string r) ∧ wx.cell? ⟨g7, 0, none⟩ = some (.int .i64 e) ∧ wx.cell? ⟨g7, 1, none⟩ = some (.string u) ∧ wx.cell? ⟨g7, 2, none⟩ = some (.string r) ∧ wx.cell? ⟨g8, 0, none⟩ = some (.int .i64 e) ∧ wx.cell? ⟨g8, 1, none⟩ = some (.string u) ∧ wx.cell? ⟨g8, 2, none⟩ = some (.string r) ∧ wx.frozen? ⟨g7, 0, none⟩ = false ∧ wx.frozen? ⟨g7, 1, none⟩ = false ∧ wx.frozen? ⟨g7, 2, none⟩ = false ∧ wx.frozen? ⟨g8, 0, none⟩ = false ∧ wx.frozen? ⟨g8, 1, none⟩ = false ∧ wx.frozen? ⟨g8, 2, none⟩ = false ∧ Below w.heap.size w wx)
  case first =>
    have hz0 := cell_lt hx.1
    go_region
    all_goals
      go_wp2_with fail
      go_meet
      refine ⟨_, _, rfl, rfl, by omega, by omega, by omega, ?_, ?_, ?_, ?_, ?_, ?_, ?_, ?_, ?_, ?_, ?_, ?_, ?_, ?_, ?_, ?_⟩
      all_goals first
        | go_cell
        | (simp [go_sem]; done)
        | go_grown
  case rest =>
    clear hx hB
    obtain ⟨g7, g8, rfl, rfl, hg7, hg8, hne, a0, a1, a2, b0, b1, b2, c0, c1, c2, f0, f1, f2, h0, h1, h2, hB⟩ := hcut
    have hne' : g8 ≠ g7 := Ne.symm hne
    have n7 : w.heap.size ≠ g7 := by omega
    have n8 : w.heap.size ≠ g8 := by omega
    have hx : ((wc.setCell ⟨g7, 1, none⟩ (.string (u ++ (⟨#[126]⟩ ++ more)))).setCell ⟨g8, 1, none⟩ (.string (u ++ (⟨#[43]⟩ ++ more)))).cell? ⟨w.heap.size, 0, none⟩ = some (.int .i64 e) ∧ ((wc.setCell ⟨g7, 1, none⟩ (.string (u ++ (⟨#[126]⟩ ++ more)))).setCell ⟨g8, 1, none⟩ (.string (u ++ (⟨#[43]⟩ ++ more)))).cell? ⟨w.heap.size, 1, none⟩ = some (.string u) ∧ ((wc.setCell ⟨g7, 1, none⟩ (.string (u ++ (⟨#[126]⟩ ++ more)))).setCell ⟨g8, 1, none⟩ (.string (u ++ (⟨#[43]⟩ ++ more)))).cell? ⟨w.heap.size, 2, none⟩ = some (.string r) ∧ ((wc.setCell ⟨g7, 1, none⟩ (.string (u ++ (⟨#[126]⟩ ++ more)))).setCell ⟨g8, 1, none⟩ (.string (u ++ (⟨#[43]⟩ ++ more)))).cell? ⟨g7, 0, none⟩ = some (.int .i64 e) ∧ ((wc.setCell ⟨g7, 1, none⟩ (.string (u ++ (⟨#[126]⟩ ++ more)))).setCell ⟨g8, 1, none⟩ (.string (u ++ (⟨#[43]⟩ ++ more)))).cell? ⟨g7, 1, none⟩ = some (.string (u ++ (⟨#[126]⟩ ++ more))) ∧ ((wc.setCell ⟨g7, 1, none⟩ (.string (u ++ (⟨#[126]⟩ ++ more)))).setCell ⟨g8, 1, none⟩ (.string (u ++ (⟨#[43]⟩ ++ more)))).cell? ⟨g7, 2, none⟩ = some (.string r) ∧ ((wc.setCell ⟨g7, 1, none⟩ (.string (u ++ (⟨#[126]⟩ ++ more)))).setCell ⟨g8, 1, none⟩ (.string (u ++ (⟨#[43]⟩ ++ more)))).cell? ⟨g8, 0, none⟩ = some (.int .i64 e) ∧ ((wc.setCell ⟨g7, 1, none⟩ (.string (u ++ (⟨#[126]⟩ ++ more)))).setCell ⟨g8, 1, none⟩ (.string (u ++ (⟨#[43]⟩ ++ more)))).cell? ⟨g8, 1, none⟩ = some (.string (u ++ (⟨#[43]⟩ ++ more))) ∧ ((wc.setCell ⟨g7, 1, none⟩ (.string (u ++ (⟨#[126]⟩ ++ more)))).setCell ⟨g8, 1, none⟩ (.string (u ++ (⟨#[43]⟩ ++ more)))).cell? ⟨g8, 2, none⟩ = some (.string r) := by
      refine ⟨?_, ?_, ?_, ?_, ?_, ?_, ?_, ?_, ?_⟩ <;> go_cell
    have hB2 := (hB.setCell (p := ⟨g7, 1, none⟩) (by simp; omega) (.string (u ++ (⟨#[126]⟩ ++ more)))).setCell (p := ⟨g8, 1, none⟩) (by simp; omega) (.string (u ++ (⟨#[43]⟩ ++ more)))
    go_wp2_with fail
    clear hB a0 a1 a2 b0 b1 b2 c0 c1 c2 f0 f1 f2 h0 h1 h2
    have hB := hB2
    clear hB2
    refine (Does.at ra _ hB).mono ?_
    rintro E w1 ⟨rfl, hb⟩
    replace hx := ends_step hx hb
    replace hB := step_below hB hb
    clear hb
    go_wp2_with fail
    refine (Does.at rb _ hB).mono ?_
    rintro E w1 ⟨rfl, hb⟩
    replace hx := ends_step hx hb
    replace hB := step_below hB hb
    clear hb
    go_wp2_with fail
    refine (Does.at rn _ hB).mono ?_
    rintro E w1 ⟨rfl, hb⟩
    replace hx := ends_step hx hb
    replace hB := step_below hB hb
    clear hb
    go_wp2_with fail
    go_ret
    exact ⟨rfl, hB⟩
end Go.Proofs.YtlkmmejlnohjhaaDoor
