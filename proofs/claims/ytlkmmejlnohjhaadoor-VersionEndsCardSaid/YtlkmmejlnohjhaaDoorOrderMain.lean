/- keep.VersionOrder: the walk of three versions that may be. -/
import Derived.Test.YtlkmmejlnohjhaaDoorOrderEarly
import Derived.Deep.RegionHeld3
import Derived.Deep.DeepCutAuto
namespace Go.Proofs.YtlkmmejlnohjhaaDoor
open Go.RowKit

theorem Does.at {w : World} {f : Nat} {args : Array Value} {v : Value} (h : Does w f args v) (W : World) (hb : Below w.heap.size w W) :
    Calls Tryd.prog f args W fun E W' => E = .returned v ∧ Below W.heap.size W W' := h W hb
theorem ten_mk {w W : World} {e1 e2 e3 : Int} {u1 r1 u2 r2 u3 r3 : ByteArray} (h : W.cell? ⟨w.heap.size, 0, none⟩ = some (.int .i64 e1) ∧ W.cell? ⟨w.heap.size, 1, none⟩ = some (.string u1) ∧ W.cell? ⟨w.heap.size, 2, none⟩ = some (.string r1) ∧ W.cell? ⟨w.heap.size + 1, 0, none⟩ = some (.int .i64 e2) ∧ W.cell? ⟨w.heap.size + 1, 1, none⟩ = some (.string u2) ∧ W.cell? ⟨w.heap.size + 1, 2, none⟩ = some (.string r2) ∧ W.cell? ⟨w.heap.size + 2, 0, none⟩ = some (.int .i64 e3) ∧ W.cell? ⟨w.heap.size + 2, 1, none⟩ = some (.string u3) ∧ W.cell? ⟨w.heap.size + 2, 2, none⟩ = some (.string r3)) (hb : Below w.heap.size w W) : W.cell? ⟨w.heap.size, 0, none⟩ = some (.int .i64 e1) ∧ W.cell? ⟨w.heap.size, 1, none⟩ = some (.string u1) ∧ W.cell? ⟨w.heap.size, 2, none⟩ = some (.string r1) ∧ W.cell? ⟨w.heap.size + 1, 0, none⟩ = some (.int .i64 e2) ∧ W.cell? ⟨w.heap.size + 1, 1, none⟩ = some (.string u2) ∧ W.cell? ⟨w.heap.size + 1, 2, none⟩ = some (.string r2) ∧ W.cell? ⟨w.heap.size + 2, 0, none⟩ = some (.int .i64 e3) ∧ W.cell? ⟨w.heap.size + 2, 1, none⟩ = some (.string u3) ∧ W.cell? ⟨w.heap.size + 2, 2, none⟩ = some (.string r3) ∧ Below w.heap.size w W :=
  ⟨h.1, h.2.1, h.2.2.1, h.2.2.2.1, h.2.2.2.2.1, h.2.2.2.2.2.1, h.2.2.2.2.2.2.1, h.2.2.2.2.2.2.2.1, h.2.2.2.2.2.2.2.2, hb⟩
theorem ten_below {w W : World} {e1 e2 e3 : Int} {u1 r1 u2 r2 u3 r3 : ByteArray} (h : W.cell? ⟨w.heap.size, 0, none⟩ = some (.int .i64 e1) ∧ W.cell? ⟨w.heap.size, 1, none⟩ = some (.string u1) ∧ W.cell? ⟨w.heap.size, 2, none⟩ = some (.string r1) ∧ W.cell? ⟨w.heap.size + 1, 0, none⟩ = some (.int .i64 e2) ∧ W.cell? ⟨w.heap.size + 1, 1, none⟩ = some (.string u2) ∧ W.cell? ⟨w.heap.size + 1, 2, none⟩ = some (.string r2) ∧ W.cell? ⟨w.heap.size + 2, 0, none⟩ = some (.int .i64 e3) ∧ W.cell? ⟨w.heap.size + 2, 1, none⟩ = some (.string u3) ∧ W.cell? ⟨w.heap.size + 2, 2, none⟩ = some (.string r3) ∧ Below w.heap.size w W) : Below w.heap.size w W := h.2.2.2.2.2.2.2.2.2
theorem ten_nine {w W : World} {e1 e2 e3 : Int} {u1 r1 u2 r2 u3 r3 : ByteArray} (h : W.cell? ⟨w.heap.size, 0, none⟩ = some (.int .i64 e1) ∧ W.cell? ⟨w.heap.size, 1, none⟩ = some (.string u1) ∧ W.cell? ⟨w.heap.size, 2, none⟩ = some (.string r1) ∧ W.cell? ⟨w.heap.size + 1, 0, none⟩ = some (.int .i64 e2) ∧ W.cell? ⟨w.heap.size + 1, 1, none⟩ = some (.string u2) ∧ W.cell? ⟨w.heap.size + 1, 2, none⟩ = some (.string r2) ∧ W.cell? ⟨w.heap.size + 2, 0, none⟩ = some (.int .i64 e3) ∧ W.cell? ⟨w.heap.size + 2, 1, none⟩ = some (.string u3) ∧ W.cell? ⟨w.heap.size + 2, 2, none⟩ = some (.string r3) ∧ Below w.heap.size w W) : W.cell? ⟨w.heap.size, 0, none⟩ = some (.int .i64 e1) ∧ W.cell? ⟨w.heap.size, 1, none⟩ = some (.string u1) ∧ W.cell? ⟨w.heap.size, 2, none⟩ = some (.string r1) ∧ W.cell? ⟨w.heap.size + 1, 0, none⟩ = some (.int .i64 e2) ∧ W.cell? ⟨w.heap.size + 1, 1, none⟩ = some (.string u2) ∧ W.cell? ⟨w.heap.size + 1, 2, none⟩ = some (.string r2) ∧ W.cell? ⟨w.heap.size + 2, 0, none⟩ = some (.int .i64 e3) ∧ W.cell? ⟨w.heap.size + 2, 1, none⟩ = some (.string u3) ∧ W.cell? ⟨w.heap.size + 2, 2, none⟩ = some (.string r3) :=
  ⟨h.1, h.2.1, h.2.2.1, h.2.2.2.1, h.2.2.2.2.1, h.2.2.2.2.2.1, h.2.2.2.2.2.2.1, h.2.2.2.2.2.2.2.1, h.2.2.2.2.2.2.2.2.1⟩
theorem ten_step {w W W' : World} {e1 e2 e3 : Int} {u1 r1 u2 r2 u3 r3 : ByteArray} (h : W.cell? ⟨w.heap.size, 0, none⟩ = some (.int .i64 e1) ∧ W.cell? ⟨w.heap.size, 1, none⟩ = some (.string u1) ∧ W.cell? ⟨w.heap.size, 2, none⟩ = some (.string r1) ∧ W.cell? ⟨w.heap.size + 1, 0, none⟩ = some (.int .i64 e2) ∧ W.cell? ⟨w.heap.size + 1, 1, none⟩ = some (.string u2) ∧ W.cell? ⟨w.heap.size + 1, 2, none⟩ = some (.string r2) ∧ W.cell? ⟨w.heap.size + 2, 0, none⟩ = some (.int .i64 e3) ∧ W.cell? ⟨w.heap.size + 2, 1, none⟩ = some (.string u3) ∧ W.cell? ⟨w.heap.size + 2, 2, none⟩ = some (.string r3) ∧ Below w.heap.size w W) (hb : Below W.heap.size W W') : W'.cell? ⟨w.heap.size, 0, none⟩ = some (.int .i64 e1) ∧ W'.cell? ⟨w.heap.size, 1, none⟩ = some (.string u1) ∧ W'.cell? ⟨w.heap.size, 2, none⟩ = some (.string r1) ∧ W'.cell? ⟨w.heap.size + 1, 0, none⟩ = some (.int .i64 e2) ∧ W'.cell? ⟨w.heap.size + 1, 1, none⟩ = some (.string u2) ∧ W'.cell? ⟨w.heap.size + 1, 2, none⟩ = some (.string r2) ∧ W'.cell? ⟨w.heap.size + 2, 0, none⟩ = some (.int .i64 e3) ∧ W'.cell? ⟨w.heap.size + 2, 1, none⟩ = some (.string u3) ∧ W'.cell? ⟨w.heap.size + 2, 2, none⟩ = some (.string r3) ∧ Below w.heap.size w W' :=
  ten_mk (nine_step (ten_nine h) hb) (step_below (ten_below h) hb)

set_option maxHeartbeats 2000000 in
set_option maxRecDepth 100000 in
theorem order_main (e1 : Int) (u1 r1 : ByteArray) (e2 : Int) (u2 r2 : ByteArray) (e3 : Int) (u3 r3 : ByteArray) (w : World) (s1 : Does w 7 #[.agg #[.int .i64 e1, .string u1, .string r1]] (.bool true)) (s2 : Does w 7 #[.agg #[.int .i64 e2, .string u2, .string r2]] (.bool true)) (s3 : Does w 7 #[.agg #[.int .i64 e3, .string u3, .string r3]] (.bool true)) (hh : Does w 8 #[] (.bool true)) (g1 : Does w 9 #[.agg #[.int .i64 e1, .string u1, .string r1]] (.bool true)) (g2 : Does w 9 #[.agg #[.int .i64 e2, .string u2, .string r2]] (.bool true)) (g3 : Does w 9 #[.agg #[.int .i64 e3, .string u3, .string r3]] (.bool true)) (t : ByteArray) (pr : Does w 11 #[.agg #[.int .i64 e1, .string u1, .string r1]] (.string t)) (pa : Does w 10 #[.string t] (.tuple #[.agg #[.int .i64 e1, .string u1, .string r1], .nilIface])) (m n k : Int) (cab : Does w 13 #[.agg #[.int .i64 e1, .string u1, .string r1], .agg #[.int .i64 e2, .string u2, .string r2]] (.int .i64 m)) (cbc : Does w 13 #[.agg #[.int .i64 e2, .string u2, .string r2], .agg #[.int .i64 e3, .string u3, .string r3]] (.int .i64 n)) (cac : Does w 13 #[.agg #[.int .i64 e1, .string u1, .string r1], .agg #[.int .i64 e3, .string u3, .string r3]] (.int .i64 k)) (cba : Does w 13 #[.agg #[.int .i64 e2, .string u2, .string r2], .agg #[.int .i64 e1, .string u1, .string r1]] (.int .i64 (-m))) (caa : Does w 13 #[.agg #[.int .i64 e1, .string u1, .string r1], .agg #[.int .i64 e1, .string u1, .string r1]] (.int .i64 0)) (sm : Does w 12 #[.int .i64 m] (.int .i64 m)) (sn : Does w 12 #[.int .i64 n] (.int .i64 n)) (sk : Does w 12 #[.int .i64 k] (.int .i64 k)) (sp : Does w 12 #[.int .i64 (-m)] (.int .i64 (-m))) (x1 x3 x5 : Bool) (i0 : Does w 14 #[.agg #[.int .i64 e1, .string u1, .string r1], .int .i64 0, .agg #[.int .i64 e2, .string u2, .string r2]] (.bool true)) (i1 : Does w 14 #[.agg #[.int .i64 e1, .string u1, .string r1], .int .i64 1, .agg #[.int .i64 e2, .string u2, .string r2]] (.bool (x1))) (j1 : Does w 14 #[.agg #[.int .i64 e2, .string u2, .string r2], .int .i64 5, .agg #[.int .i64 e1, .string u1, .string r1]] (.bool (x1))) (i2 : Does w 14 #[.agg #[.int .i64 e1, .string u1, .string r1], .int .i64 2, .agg #[.int .i64 e2, .string u2, .string r2]] (.bool (!x5))) (j2 : Does w 14 #[.agg #[.int .i64 e2, .string u2, .string r2], .int .i64 4, .agg #[.int .i64 e1, .string u1, .string r1]] (.bool (!x5))) (i3 : Does w 14 #[.agg #[.int .i64 e1, .string u1, .string r1], .int .i64 3, .agg #[.int .i64 e2, .string u2, .string r2]] (.bool (x3))) (j3 : Does w 14 #[.agg #[.int .i64 e2, .string u2, .string r2], .int .i64 3, .agg #[.int .i64 e1, .string u1, .string r1]] (.bool (x3))) (i4 : Does w 14 #[.agg #[.int .i64 e1, .string u1, .string r1], .int .i64 4, .agg #[.int .i64 e2, .string u2, .string r2]] (.bool (!x1))) (j4 : Does w 14 #[.agg #[.int .i64 e2, .string u2, .string r2], .int .i64 2, .agg #[.int .i64 e1, .string u1, .string r1]] (.bool (!x1))) (i5 : Does w 14 #[.agg #[.int .i64 e1, .string u1, .string r1], .int .i64 5, .agg #[.int .i64 e2, .string u2, .string r2]] (.bool (x5))) (j5 : Does w 14 #[.agg #[.int .i64 e2, .string u2, .string r2], .int .i64 1, .agg #[.int .i64 e1, .string u1, .string r1]] (.bool (x5))) (hm : m = -1 ∨ m = 0 ∨ m = 1) (hn : n = -1 ∨ n = 0 ∨ n = 1) (hk : k = -1 ∨ k = 0 ∨ k = 1) (t1 : m = n → k = m) (t2 : m = 0 → k = n) (t3 : n = 0 → k = m) : Calls Tryd.prog 3 #[.agg #[.int .i64 e1, .string u1, .string r1], .agg #[.int .i64 e2, .string u2, .string r2], .agg #[.int .i64 e3, .string u3, .string r3]] w (BoolIs true w) := by
  have hid := Lib.hid (And.intro hm (And.intro hn (And.intro hk (And.intro t1 (And.intro t2 t3)))))
  clear hm hn hk t1 t2 t3
  have hB : Below w.heap.size w (((w.alloc (.cells #[.int .i64 e1, .string u1, .string r1] 23)).alloc (.cells #[.int .i64 e2, .string u2, .string r2] 23)).alloc (.cells #[.int .i64 e3, .string u3, .string r3] 23)) := by go_grown
  have hx : (((w.alloc (.cells #[.int .i64 e1, .string u1, .string r1] 23)).alloc (.cells #[.int .i64 e2, .string u2, .string r2] 23)).alloc (.cells #[.int .i64 e3, .string u3, .string r3] 23)).cell? ⟨w.heap.size, 0, none⟩ = some (.int .i64 e1) ∧ (((w.alloc (.cells #[.int .i64 e1, .string u1, .string r1] 23)).alloc (.cells #[.int .i64 e2, .string u2, .string r2] 23)).alloc (.cells #[.int .i64 e3, .string u3, .string r3] 23)).cell? ⟨w.heap.size, 1, none⟩ = some (.string u1) ∧ (((w.alloc (.cells #[.int .i64 e1, .string u1, .string r1] 23)).alloc (.cells #[.int .i64 e2, .string u2, .string r2] 23)).alloc (.cells #[.int .i64 e3, .string u3, .string r3] 23)).cell? ⟨w.heap.size, 2, none⟩ = some (.string r1) ∧ (((w.alloc (.cells #[.int .i64 e1, .string u1, .string r1] 23)).alloc (.cells #[.int .i64 e2, .string u2, .string r2] 23)).alloc (.cells #[.int .i64 e3, .string u3, .string r3] 23)).cell? ⟨w.heap.size + 1, 0, none⟩ = some (.int .i64 e2) ∧ (((w.alloc (.cells #[.int .i64 e1, .string u1, .string r1] 23)).alloc (.cells #[.int .i64 e2, .string u2, .string r2] 23)).alloc (.cells #[.int .i64 e3, .string u3, .string r3] 23)).cell? ⟨w.heap.size + 1, 1, none⟩ = some (.string u2) ∧ (((w.alloc (.cells #[.int .i64 e1, .string u1, .string r1] 23)).alloc (.cells #[.int .i64 e2, .string u2, .string r2] 23)).alloc (.cells #[.int .i64 e3, .string u3, .string r3] 23)).cell? ⟨w.heap.size + 1, 2, none⟩ = some (.string r2) ∧ (((w.alloc (.cells #[.int .i64 e1, .string u1, .string r1] 23)).alloc (.cells #[.int .i64 e2, .string u2, .string r2] 23)).alloc (.cells #[.int .i64 e3, .string u3, .string r3] 23)).cell? ⟨w.heap.size + 2, 0, none⟩ = some (.int .i64 e3) ∧ (((w.alloc (.cells #[.int .i64 e1, .string u1, .string r1] 23)).alloc (.cells #[.int .i64 e2, .string u2, .string r2] 23)).alloc (.cells #[.int .i64 e3, .string u3, .string r3] 23)).cell? ⟨w.heap.size + 2, 1, none⟩ = some (.string u3) ∧ (((w.alloc (.cells #[.int .i64 e1, .string u1, .string r1] 23)).alloc (.cells #[.int .i64 e2, .string u2, .string r2] 23)).alloc (.cells #[.int .i64 e3, .string u3, .string r3] 23)).cell? ⟨w.heap.size + 2, 2, none⟩ = some (.string r3) := by
    refine ⟨?_, ?_, ?_, ?_, ?_, ?_, ?_, ?_, ?_⟩ <;> go_cell
  go_enter Tryd.func3, Tryd.ntmps3
  go_wp2_with fail
  refine (s1 _ hB).mono ?_
  rintro E w1 ⟨rfl, hb⟩
  replace hx := nine_step hx hb
  replace hB := step_below hB hb
  clear hb
  go_wp2_with fail
  refine (s2 _ hB).mono ?_
  rintro E w1 ⟨rfl, hb⟩
  replace hx := nine_step hx hb
  replace hB := step_below hB hb
  clear hb
  go_wp2_with fail
  refine (s3 _ hB).mono ?_
  rintro E w1 ⟨rfl, hb⟩
  replace hx := nine_step hx hb
  replace hB := step_below hB hb
  clear hb
  go_wp2_with fail
  refine (hh _ hB).mono ?_
  rintro E w1 ⟨rfl, hb⟩
  replace hx := nine_step hx hb
  replace hB := step_below hB hb
  clear hb
  go_wp2_with fail
  refine (g1 _ hB).mono ?_
  rintro E w1 ⟨rfl, hb⟩
  replace hx := nine_step hx hb
  replace hB := step_below hB hb
  clear hb
  go_wp2_with fail
  refine (g2 _ hB).mono ?_
  rintro E w1 ⟨rfl, hb⟩
  replace hx := nine_step hx hb
  replace hB := step_below hB hb
  clear hb
  go_wp2_with fail
  refine (g3 _ hB).mono ?_
  rintro E w1 ⟨rfl, hb⟩
  replace hx := nine_step hx hb
  replace hB := step_below hB hb
  clear hb
  go_wp2_with fail
  refine (pr _ hB).mono ?_
  rintro E w1 ⟨rfl, hb⟩
  replace hx := nine_step hx hb
  replace hB := step_below hB hb
  clear hb
  go_wp2_with fail
  refine (pa _ hB).mono ?_
  rintro E w1 ⟨rfl, hb⟩
  replace hx := nine_step hx hb
  replace hB := step_below hB hb
  clear hb
  have hz0 := cell_lt hx.1
  have hz1 := cell_lt hx.2.2.2.1
  have hz2 := cell_lt hx.2.2.2.2.2.2.1
  go_wp2_with fail
  replace hx := nine_step hx (below_alloc _ (.cells #[.int .i64 e1, .string u1, .string r1] 23))
  replace hB := step_below hB (below_alloc _ (.cells #[.int .i64 e1, .string u1, .string r1] 23))
  clear s1 s2 s3 hh g1 g2 g3 pr pa hz0 hz1 hz2
  go_cut [9, 10, 11] (fun s9 s10 s11 wx => s9 = .int .i64 m ∧ s10 = .int .i64 n ∧ s11 = .int .i64 k ∧ wx.cell? ⟨w.heap.size, 0, none⟩ = some (.int .i64 e1) ∧ wx.cell? ⟨w.heap.size, 1, none⟩ = some (.string u1) ∧ wx.cell? ⟨w.heap.size, 2, none⟩ = some (.string r1) ∧ wx.cell? ⟨w.heap.size + 1, 0, none⟩ = some (.int .i64 e2) ∧ wx.cell? ⟨w.heap.size + 1, 1, none⟩ = some (.string u2) ∧ wx.cell? ⟨w.heap.size + 1, 2, none⟩ = some (.string r2) ∧ wx.cell? ⟨w.heap.size + 2, 0, none⟩ = some (.int .i64 e3) ∧ wx.cell? ⟨w.heap.size + 2, 1, none⟩ = some (.string u3) ∧ wx.cell? ⟨w.heap.size + 2, 2, none⟩ = some (.string r3) ∧ Below w.heap.size w wx)
  case first =>
    go_region_held3 (fun w' => w'.cell? ⟨w.heap.size, 0, none⟩ = some (.int .i64 e1) ∧ w'.cell? ⟨w.heap.size, 1, none⟩ = some (.string u1) ∧ w'.cell? ⟨w.heap.size, 2, none⟩ = some (.string r1) ∧ w'.cell? ⟨w.heap.size + 1, 0, none⟩ = some (.int .i64 e2) ∧ w'.cell? ⟨w.heap.size + 1, 1, none⟩ = some (.string u2) ∧ w'.cell? ⟨w.heap.size + 1, 2, none⟩ = some (.string r2) ∧ w'.cell? ⟨w.heap.size + 2, 0, none⟩ = some (.int .i64 e3) ∧ w'.cell? ⟨w.heap.size + 2, 1, none⟩ = some (.string u3) ∧ w'.cell? ⟨w.heap.size + 2, 2, none⟩ = some (.string r3) ∧ Below w.heap.size w w')
      ((first | assumption | exact ten_step (by assumption) hb | exact ten_mk (nine_step hx (below_drew _)) hB.drew | exact ten_step (by assumption) (below_drew _)))
      (first | (go_at_call 13; first | ((with_reducible refine (Does.at cab _ ?_).mono ?_); (exact ten_below (by assumption)); rintro E w' ⟨rfl, hb⟩) | ((with_reducible refine (Does.at cbc _ ?_).mono ?_); (exact ten_below (by assumption)); rintro E w' ⟨rfl, hb⟩) | ((with_reducible refine (Does.at cac _ ?_).mono ?_); (exact ten_below (by assumption)); rintro E w' ⟨rfl, hb⟩)) | (go_at_call 12; first | ((with_reducible refine (Does.at sm _ ?_).mono ?_); (exact ten_below (by assumption)); rintro E w' ⟨rfl, hb⟩) | ((with_reducible refine (Does.at sn _ ?_).mono ?_); (exact ten_below (by assumption)); rintro E w' ⟨rfl, hb⟩) | ((with_reducible refine (Does.at sk _ ?_).mono ?_); (exact ten_below (by assumption)); rintro E w' ⟨rfl, hb⟩)))
    all_goals (go_wp2_with fail; go_meet; exact ⟨rfl, rfl, rfl, by assumption⟩)
  case rest =>
    obtain ⟨rfl, rfl, rfl, hten⟩ := hcut
    clear hx hB
    have hB := ten_below hten
    have hx := ten_nine hten
    clear hten
    obtain ⟨hm, hn, hk, t1, t2, t3⟩ := hid.out
    have hm1 : -1 ≤ m := by omega
    have hm2 : m ≤ 1 := by omega
    clear hm hn hk t1 t2 t3
    go_wp2_with fail
    refine (Does.at cba _ hB).mono ?_
    rintro E w1 ⟨rfl, hb⟩
    replace hx := nine_step hx hb
    replace hB := step_below hB hb
    clear hb
    go_wp2_with fail
    refine (Does.at sp _ hB).mono ?_
    rintro E w1 ⟨rfl, hb⟩
    replace hx := nine_step hx hb
    replace hB := step_below hB hb
    clear hb
    go_wp2_with fail
    refine (Does.at caa _ hB).mono ?_
    rintro E w1 ⟨rfl, hb⟩
    replace hx := nine_step hx hb
    replace hB := step_below hB hb
    clear hb
    go_upto_region 13 with fail
    go_cut [105] (fun s wx => s = .bool false ∧ wx.cell? ⟨w.heap.size, 0, none⟩ = some (.int .i64 e1) ∧ wx.cell? ⟨w.heap.size, 1, none⟩ = some (.string u1) ∧ wx.cell? ⟨w.heap.size, 2, none⟩ = some (.string r1) ∧ wx.cell? ⟨w.heap.size + 1, 0, none⟩ = some (.int .i64 e2) ∧ wx.cell? ⟨w.heap.size + 1, 1, none⟩ = some (.string u2) ∧ wx.cell? ⟨w.heap.size + 1, 2, none⟩ = some (.string r2) ∧ wx.cell? ⟨w.heap.size + 2, 0, none⟩ = some (.int .i64 e3) ∧ wx.cell? ⟨w.heap.size + 2, 1, none⟩ = some (.string u3) ∧ wx.cell? ⟨w.heap.size + 2, 2, none⟩ = some (.string r3) ∧ Below w.heap.size w wx)
    case first =>
      have hten := ten_mk hx hB
      obtain ⟨hm, hn, hk, t1, t2, t3⟩ := hid.out
      clear hid cab cbc cac cba caa sm sn sk sp i0 i1 i2 i3 i4 i5 j1 j2 j3 j4 j5 hx hB hm1 hm2
      rcases hm with rfl | rfl | rfl <;> rcases hn with rfl | rfl | rfl <;> rcases hk with rfl | rfl | rfl
      all_goals first
        | (exfalso; omega)
        | (clear t1 t2 t3; go_wp2_with fail; go_meet; exact ⟨rfl, hten⟩)
    case rest =>
      obtain ⟨rfl, hten⟩ := hcut
      clear hx hB cab cbc cac cba caa sm sn sk sp hid hm1 hm2
      go_wp2_with fail
      go_loopw [12] (fun i wr => ∃ j : Nat, 1 ≤ j ∧ j ≤ 6 ∧ i = .int .i64 j ∧ wr.cell? ⟨w.heap.size, 0, none⟩ = some (.int .i64 e1) ∧ wr.cell? ⟨w.heap.size, 1, none⟩ = some (.string u1) ∧ wr.cell? ⟨w.heap.size, 2, none⟩ = some (.string r1) ∧ wr.cell? ⟨w.heap.size + 1, 0, none⟩ = some (.int .i64 e2) ∧ wr.cell? ⟨w.heap.size + 1, 1, none⟩ = some (.string u2) ∧ wr.cell? ⟨w.heap.size + 1, 2, none⟩ = some (.string r2) ∧ wr.cell? ⟨w.heap.size + 2, 0, none⟩ = some (.int .i64 e3) ∧ wr.cell? ⟨w.heap.size + 2, 1, none⟩ = some (.string u3) ∧ wr.cell? ⟨w.heap.size + 2, 2, none⟩ = some (.string r3) ∧ Below w.heap.size w wr) (fun i _ => 6 - (intOf i).toNat)
      case atStart => exact ⟨1, by omega, by omega, rfl, hten⟩
      case round =>
        clear hten
        obtain ⟨j, hj1, hj2, rfl, hten⟩ := hrel
        have hj : j = 1 ∨ j = 2 ∨ j = 3 ∨ j = 4 ∨ j = 5 ∨ j = 6 := by omega
        clear hj1 hj2
        rcases hj with rfl | rfl | rfl | rfl | rfl | rfl
        · have xi : ∀ W, (Instr.index 33 (.agg #[.int .i64 0, .int .i64 5, .int .i64 4, .int .i64 3, .int .i64 2, .int .i64 1]) (.int .i64 1)).run Tryd.prog W = .ok (.int .i64 5) W := fun _ => by kernel_rfl
          go_wp2_with fail
          go_region_held3 (fun w' => w'.cell? ⟨w.heap.size, 0, none⟩ = some (.int .i64 e1) ∧ w'.cell? ⟨w.heap.size, 1, none⟩ = some (.string u1) ∧ w'.cell? ⟨w.heap.size, 2, none⟩ = some (.string r1) ∧ w'.cell? ⟨w.heap.size + 1, 0, none⟩ = some (.int .i64 e2) ∧ w'.cell? ⟨w.heap.size + 1, 1, none⟩ = some (.string u2) ∧ w'.cell? ⟨w.heap.size + 1, 2, none⟩ = some (.string r2) ∧ w'.cell? ⟨w.heap.size + 2, 0, none⟩ = some (.int .i64 e3) ∧ w'.cell? ⟨w.heap.size + 2, 1, none⟩ = some (.string u3) ∧ w'.cell? ⟨w.heap.size + 2, 2, none⟩ = some (.string r3) ∧ Below w.heap.size w w')
            ((first | assumption | exact ten_step (by assumption) hb | exact ten_mk (nine_step (ten_nine hten) (below_drew _)) (ten_below hten).drew | exact ten_step (by assumption) (below_drew _)))
            (first | (go_at_call 14; first | ((with_reducible refine (Does.at i1 _ ?_).mono ?_); (exact ten_below (by assumption)); rintro E w' ⟨rfl, hb⟩) | ((with_reducible refine (Does.at j1 _ ?_).mono ?_); (exact ten_below (by assumption)); rintro E w' ⟨rfl, hb⟩)))
          all_goals
            go_wp2_with fail
            go_roundw
            case rel => exact ⟨2, by omega, by omega, rfl, by assumption⟩
            case measure => simp [intOf]
        · have xi : ∀ W, (Instr.index 33 (.agg #[.int .i64 0, .int .i64 5, .int .i64 4, .int .i64 3, .int .i64 2, .int .i64 1]) (.int .i64 2)).run Tryd.prog W = .ok (.int .i64 4) W := fun _ => by kernel_rfl
          go_wp2_with fail
          go_region_held3 (fun w' => w'.cell? ⟨w.heap.size, 0, none⟩ = some (.int .i64 e1) ∧ w'.cell? ⟨w.heap.size, 1, none⟩ = some (.string u1) ∧ w'.cell? ⟨w.heap.size, 2, none⟩ = some (.string r1) ∧ w'.cell? ⟨w.heap.size + 1, 0, none⟩ = some (.int .i64 e2) ∧ w'.cell? ⟨w.heap.size + 1, 1, none⟩ = some (.string u2) ∧ w'.cell? ⟨w.heap.size + 1, 2, none⟩ = some (.string r2) ∧ w'.cell? ⟨w.heap.size + 2, 0, none⟩ = some (.int .i64 e3) ∧ w'.cell? ⟨w.heap.size + 2, 1, none⟩ = some (.string u3) ∧ w'.cell? ⟨w.heap.size + 2, 2, none⟩ = some (.string r3) ∧ Below w.heap.size w w')
            ((first | assumption | exact ten_step (by assumption) hb | exact ten_mk (nine_step (ten_nine hten) (below_drew _)) (ten_below hten).drew | exact ten_step (by assumption) (below_drew _)))
            (first | (go_at_call 14; first | ((with_reducible refine (Does.at i2 _ ?_).mono ?_); (exact ten_below (by assumption)); rintro E w' ⟨rfl, hb⟩) | ((with_reducible refine (Does.at j2 _ ?_).mono ?_); (exact ten_below (by assumption)); rintro E w' ⟨rfl, hb⟩)))
          all_goals
            go_wp2_with fail
            go_roundw
            case rel => exact ⟨3, by omega, by omega, rfl, by assumption⟩
            case measure => simp [intOf]
        · have xi : ∀ W, (Instr.index 33 (.agg #[.int .i64 0, .int .i64 5, .int .i64 4, .int .i64 3, .int .i64 2, .int .i64 1]) (.int .i64 3)).run Tryd.prog W = .ok (.int .i64 3) W := fun _ => by kernel_rfl
          go_wp2_with fail
          go_region_held3 (fun w' => w'.cell? ⟨w.heap.size, 0, none⟩ = some (.int .i64 e1) ∧ w'.cell? ⟨w.heap.size, 1, none⟩ = some (.string u1) ∧ w'.cell? ⟨w.heap.size, 2, none⟩ = some (.string r1) ∧ w'.cell? ⟨w.heap.size + 1, 0, none⟩ = some (.int .i64 e2) ∧ w'.cell? ⟨w.heap.size + 1, 1, none⟩ = some (.string u2) ∧ w'.cell? ⟨w.heap.size + 1, 2, none⟩ = some (.string r2) ∧ w'.cell? ⟨w.heap.size + 2, 0, none⟩ = some (.int .i64 e3) ∧ w'.cell? ⟨w.heap.size + 2, 1, none⟩ = some (.string u3) ∧ w'.cell? ⟨w.heap.size + 2, 2, none⟩ = some (.string r3) ∧ Below w.heap.size w w')
            ((first | assumption | exact ten_step (by assumption) hb | exact ten_mk (nine_step (ten_nine hten) (below_drew _)) (ten_below hten).drew | exact ten_step (by assumption) (below_drew _)))
            (first | (go_at_call 14; first | ((with_reducible refine (Does.at i3 _ ?_).mono ?_); (exact ten_below (by assumption)); rintro E w' ⟨rfl, hb⟩) | ((with_reducible refine (Does.at j3 _ ?_).mono ?_); (exact ten_below (by assumption)); rintro E w' ⟨rfl, hb⟩)))
          all_goals
            go_wp2_with fail
            go_roundw
            case rel => exact ⟨4, by omega, by omega, rfl, by assumption⟩
            case measure => simp [intOf]
        · have xi : ∀ W, (Instr.index 33 (.agg #[.int .i64 0, .int .i64 5, .int .i64 4, .int .i64 3, .int .i64 2, .int .i64 1]) (.int .i64 4)).run Tryd.prog W = .ok (.int .i64 2) W := fun _ => by kernel_rfl
          go_wp2_with fail
          go_region_held3 (fun w' => w'.cell? ⟨w.heap.size, 0, none⟩ = some (.int .i64 e1) ∧ w'.cell? ⟨w.heap.size, 1, none⟩ = some (.string u1) ∧ w'.cell? ⟨w.heap.size, 2, none⟩ = some (.string r1) ∧ w'.cell? ⟨w.heap.size + 1, 0, none⟩ = some (.int .i64 e2) ∧ w'.cell? ⟨w.heap.size + 1, 1, none⟩ = some (.string u2) ∧ w'.cell? ⟨w.heap.size + 1, 2, none⟩ = some (.string r2) ∧ w'.cell? ⟨w.heap.size + 2, 0, none⟩ = some (.int .i64 e3) ∧ w'.cell? ⟨w.heap.size + 2, 1, none⟩ = some (.string u3) ∧ w'.cell? ⟨w.heap.size + 2, 2, none⟩ = some (.string r3) ∧ Below w.heap.size w w')
            ((first | assumption | exact ten_step (by assumption) hb | exact ten_mk (nine_step (ten_nine hten) (below_drew _)) (ten_below hten).drew | exact ten_step (by assumption) (below_drew _)))
            (first | (go_at_call 14; first | ((with_reducible refine (Does.at i4 _ ?_).mono ?_); (exact ten_below (by assumption)); rintro E w' ⟨rfl, hb⟩) | ((with_reducible refine (Does.at j4 _ ?_).mono ?_); (exact ten_below (by assumption)); rintro E w' ⟨rfl, hb⟩)))
          all_goals
            go_wp2_with fail
            go_roundw
            case rel => exact ⟨5, by omega, by omega, rfl, by assumption⟩
            case measure => simp [intOf]
        · have xi : ∀ W, (Instr.index 33 (.agg #[.int .i64 0, .int .i64 5, .int .i64 4, .int .i64 3, .int .i64 2, .int .i64 1]) (.int .i64 5)).run Tryd.prog W = .ok (.int .i64 1) W := fun _ => by kernel_rfl
          go_wp2_with fail
          go_region_held3 (fun w' => w'.cell? ⟨w.heap.size, 0, none⟩ = some (.int .i64 e1) ∧ w'.cell? ⟨w.heap.size, 1, none⟩ = some (.string u1) ∧ w'.cell? ⟨w.heap.size, 2, none⟩ = some (.string r1) ∧ w'.cell? ⟨w.heap.size + 1, 0, none⟩ = some (.int .i64 e2) ∧ w'.cell? ⟨w.heap.size + 1, 1, none⟩ = some (.string u2) ∧ w'.cell? ⟨w.heap.size + 1, 2, none⟩ = some (.string r2) ∧ w'.cell? ⟨w.heap.size + 2, 0, none⟩ = some (.int .i64 e3) ∧ w'.cell? ⟨w.heap.size + 2, 1, none⟩ = some (.string u3) ∧ w'.cell? ⟨w.heap.size + 2, 2, none⟩ = some (.string r3) ∧ Below w.heap.size w w')
            ((first | assumption | exact ten_step (by assumption) hb | exact ten_mk (nine_step (ten_nine hten) (below_drew _)) (ten_below hten).drew | exact ten_step (by assumption) (below_drew _)))
            (first | (go_at_call 14; first | ((with_reducible refine (Does.at i5 _ ?_).mono ?_); (exact ten_below (by assumption)); rintro E w' ⟨rfl, hb⟩) | ((with_reducible refine (Does.at j5 _ ?_).mono ?_); (exact ten_below (by assumption)); rintro E w' ⟨rfl, hb⟩)))
          all_goals
            go_wp2_with fail
            go_roundw
            case rel => exact ⟨6, by omega, by omega, rfl, by assumption⟩
            case measure => simp [intOf]
        · go_wp2_with fail
          go_region_held3 (fun w' => w'.cell? ⟨w.heap.size, 0, none⟩ = some (.int .i64 e1) ∧ w'.cell? ⟨w.heap.size, 1, none⟩ = some (.string u1) ∧ w'.cell? ⟨w.heap.size, 2, none⟩ = some (.string r1) ∧ w'.cell? ⟨w.heap.size + 1, 0, none⟩ = some (.int .i64 e2) ∧ w'.cell? ⟨w.heap.size + 1, 1, none⟩ = some (.string u2) ∧ w'.cell? ⟨w.heap.size + 1, 2, none⟩ = some (.string r2) ∧ w'.cell? ⟨w.heap.size + 2, 0, none⟩ = some (.int .i64 e3) ∧ w'.cell? ⟨w.heap.size + 2, 1, none⟩ = some (.string u3) ∧ w'.cell? ⟨w.heap.size + 2, 2, none⟩ = some (.string r3) ∧ Below w.heap.size w w')
            ((first | assumption | exact ten_step (by assumption) hb | exact ten_mk (nine_step (ten_nine hten) (below_drew _)) (ten_below hten).drew | exact ten_step (by assumption) (below_drew _)))
            (first | (go_at_call 14; first | ((with_reducible refine (Does.at i0 _ ?_).mono ?_); (exact ten_below (by assumption)); rintro E w' ⟨rfl, hb⟩) | ((with_reducible refine (Does.at i1 _ ?_).mono ?_); (exact ten_below (by assumption)); rintro E w' ⟨rfl, hb⟩) | ((with_reducible refine (Does.at i2 _ ?_).mono ?_); (exact ten_below (by assumption)); rintro E w' ⟨rfl, hb⟩) | ((with_reducible refine (Does.at i4 _ ?_).mono ?_); (exact ten_below (by assumption)); rintro E w' ⟨rfl, hb⟩) | ((with_reducible refine (Does.at i5 _ ?_).mono ?_); (exact ten_below (by assumption)); rintro E w' ⟨rfl, hb⟩)))
          all_goals
            go_wp2_with fail
            go_ret
            exact ⟨rfl, ten_below (by assumption)⟩
end Go.Proofs.YtlkmmejlnohjhaaDoor
