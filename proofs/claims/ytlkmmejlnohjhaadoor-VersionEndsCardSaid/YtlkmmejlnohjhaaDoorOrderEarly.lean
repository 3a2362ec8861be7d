/- keep.VersionOrder: the walk, over what its callees give. -/
import Derived.Test.YtlkmmejlnohjhaaDoorKeepWalk
import Derived.Deep.RegionHeld3
import Derived.Deep.DeepCutAuto
namespace Go.Proofs.YtlkmmejlnohjhaaDoor
open Go.RowKit

/-- from any world that has grown out of w, this call returns v, and the world grows -/
def Does (w : World) (f : Nat) (args : Array Value) (v : Value) : Prop :=
  ∀ W, Below w.heap.size w W → Calls Tryd.prog f args W fun E W' => E = .returned v ∧ Below W.heap.size W W'

theorem nine_step {w W W' : World} {e1 e2 e3 : Int} {u1 r1 u2 r2 u3 r3 : ByteArray} (h : W.cell? ⟨w.heap.size, 0, none⟩ = some (.int .i64 e1) ∧ W.cell? ⟨w.heap.size, 1, none⟩ = some (.string u1) ∧ W.cell? ⟨w.heap.size, 2, none⟩ = some (.string r1) ∧ W.cell? ⟨w.heap.size + 1, 0, none⟩ = some (.int .i64 e2) ∧ W.cell? ⟨w.heap.size + 1, 1, none⟩ = some (.string u2) ∧ W.cell? ⟨w.heap.size + 1, 2, none⟩ = some (.string r2) ∧ W.cell? ⟨w.heap.size + 2, 0, none⟩ = some (.int .i64 e3) ∧ W.cell? ⟨w.heap.size + 2, 1, none⟩ = some (.string u3) ∧ W.cell? ⟨w.heap.size + 2, 2, none⟩ = some (.string r3)) (hb : Below W.heap.size W W') : W'.cell? ⟨w.heap.size, 0, none⟩ = some (.int .i64 e1) ∧ W'.cell? ⟨w.heap.size, 1, none⟩ = some (.string u1) ∧ W'.cell? ⟨w.heap.size, 2, none⟩ = some (.string r1) ∧ W'.cell? ⟨w.heap.size + 1, 0, none⟩ = some (.int .i64 e2) ∧ W'.cell? ⟨w.heap.size + 1, 1, none⟩ = some (.string u2) ∧ W'.cell? ⟨w.heap.size + 1, 2, none⟩ = some (.string r2) ∧ W'.cell? ⟨w.heap.size + 2, 0, none⟩ = some (.int .i64 e3) ∧ W'.cell? ⟨w.heap.size + 2, 1, none⟩ = some (.string u3) ∧ W'.cell? ⟨w.heap.size + 2, 2, none⟩ = some (.string r3) :=
  ⟨kept hb h.1, kept hb h.2.1, kept hb h.2.2.1, kept hb h.2.2.2.1, kept hb h.2.2.2.2.1, kept hb h.2.2.2.2.2.1, kept hb h.2.2.2.2.2.2.1, kept hb h.2.2.2.2.2.2.2.1, kept hb h.2.2.2.2.2.2.2.2⟩

set_option maxRecDepth 100000 in
theorem order_short1 (e1 : Int) (u1 r1 : ByteArray) (e2 : Int) (u2 r2 : ByteArray) (e3 : Int) (u3 r3 : ByteArray) (w : World)  (sn : Does w 7 #[.agg #[.int .i64 e1, .string u1, .string r1]] (.bool false)) : Calls Tryd.prog 3 #[.agg #[.int .i64 e1, .string u1, .string r1], .agg #[.int .i64 e2, .string u2, .string r2], .agg #[.int .i64 e3, .string u3, .string r3]] w (BoolIs true w) := by
  have hB : Below w.heap.size w (((w.alloc (.cells #[.int .i64 e1, .string u1, .string r1] 23)).alloc (.cells #[.int .i64 e2, .string u2, .string r2] 23)).alloc (.cells #[.int .i64 e3, .string u3, .string r3] 23)) := by go_grown
  have hx : (((w.alloc (.cells #[.int .i64 e1, .string u1, .string r1] 23)).alloc (.cells #[.int .i64 e2, .string u2, .string r2] 23)).alloc (.cells #[.int .i64 e3, .string u3, .string r3] 23)).cell? ⟨w.heap.size, 0, none⟩ = some (.int .i64 e1) ∧ (((w.alloc (.cells #[.int .i64 e1, .string u1, .string r1] 23)).alloc (.cells #[.int .i64 e2, .string u2, .string r2] 23)).alloc (.cells #[.int .i64 e3, .string u3, .string r3] 23)).cell? ⟨w.heap.size, 1, none⟩ = some (.string u1) ∧ (((w.alloc (.cells #[.int .i64 e1, .string u1, .string r1] 23)).alloc (.cells #[.int .i64 e2, .string u2, .string r2] 23)).alloc (.cells #[.int .i64 e3, .string u3, .string r3] 23)).cell? ⟨w.heap.size, 2, none⟩ = some (.string r1) ∧ (((w.alloc (.cells #[.int .i64 e1, .string u1, .string r1] 23)).alloc (.cells #[.int .i64 e2, .string u2, .string r2] 23)).alloc (.cells #[.int .i64 e3, .string u3, .string r3] 23)).cell? ⟨w.heap.size + 1, 0, none⟩ = some (.int .i64 e2) ∧ (((w.alloc (.cells #[.int .i64 e1, .string u1, .string r1] 23)).alloc (.cells #[.int .i64 e2, .string u2, .string r2] 23)).alloc (.cells #[.int .i64 e3, .string u3, .string r3] 23)).cell? ⟨w.heap.size + 1, 1, none⟩ = some (.string u2) ∧ (((w.alloc (.cells #[.int .i64 e1, .string u1, .string r1] 23)).alloc (.cells #[.int .i64 e2, .string u2, .string r2] 23)).alloc (.cells #[.int .i64 e3, .string u3, .string r3] 23)).cell? ⟨w.heap.size + 1, 2, none⟩ = some (.string r2) ∧ (((w.alloc (.cells #[.int .i64 e1, .string u1, .string r1] 23)).alloc (.cells #[.int .i64 e2, .string u2, .string r2] 23)).alloc (.cells #[.int .i64 e3, .string u3, .string r3] 23)).cell? ⟨w.heap.size + 2, 0, none⟩ = some (.int .i64 e3) ∧ (((w.alloc (.cells #[.int .i64 e1, .string u1, .string r1] 23)).alloc (.cells #[.int .i64 e2, .string u2, .string r2] 23)).alloc (.cells #[.int .i64 e3, .string u3, .string r3] 23)).cell? ⟨w.heap.size + 2, 1, none⟩ = some (.string u3) ∧ (((w.alloc (.cells #[.int .i64 e1, .string u1, .string r1] 23)).alloc (.cells #[.int .i64 e2, .string u2, .string r2] 23)).alloc (.cells #[.int .i64 e3, .string u3, .string r3] 23)).cell? ⟨w.heap.size + 2, 2, none⟩ = some (.string r3) := by
    refine ⟨?_, ?_, ?_, ?_, ?_, ?_, ?_, ?_, ?_⟩ <;> go_cell
  go_enter Tryd.func3, Tryd.ntmps3
  go_wp2_with fail
  refine (sn _ hB).mono ?_
  rintro E w1 ⟨rfl, hb⟩
  replace hx := nine_step hx hb
  replace hB := step_below hB hb
  clear hb
  go_wp2_with fail
  go_ret
  exact ⟨rfl, hB⟩

set_option maxRecDepth 100000 in
theorem order_short2 (e1 : Int) (u1 r1 : ByteArray) (e2 : Int) (u2 r2 : ByteArray) (e3 : Int) (u3 r3 : ByteArray) (w : World) (s1 : Does w 7 #[.agg #[.int .i64 e1, .string u1, .string r1]] (.bool true)) (sn : Does w 7 #[.agg #[.int .i64 e2, .string u2, .string r2]] (.bool false)) : Calls Tryd.prog 3 #[.agg #[.int .i64 e1, .string u1, .string r1], .agg #[.int .i64 e2, .string u2, .string r2], .agg #[.int .i64 e3, .string u3, .string r3]] w (BoolIs true w) := by
  have hB : Below w.heap.size w (((w.alloc (.cells #[.int .i64 e1, .string u1, .string r1] 23)).alloc (.cells #[.int .i64 e2, .string u2, .string r2] 23)).alloc (.cells #[.int .i64 e3, .string u3, .string r3] 23)) := by go_grown
  have hx : (((w.alloc (.cells #[.int .i64 e1, .string u1, .string r1] 23)).alloc (.cells #[.int .i64 e2, .string u2, .string r2] 23)).alloc (.cells #[.int .i64 e3, .string u3, .string r3] 23)).cell? ⟨w.heap.size, 0, none⟩ = some (.int .i64 e1) ∧ (((w.alloc (.cells #[.int .i64 e1, .string u1, .string r1] 23)).alloc (.cells #[.int .i64 e2, .string u2, .string r2] 23)).alloc (.cells #[.int .i64 e3, .string u3, .string r3] 23)).cell? ⟨w.heap.size, 1, none⟩ = some (.string u1) ∧ (((w.alloc (.cells #[.int .i64 e1, .string u1, .string r1] 23)).alloc (.cells #[.int .i64 e2, .string u2, .string r2] 23)).alloc (.cells #[.int .i64 e3, .string u3, .string r3] 23)).cell? ⟨w.heap.size, 2, none⟩ = some (.string r1) ∧ (((w.alloc (.cells #[.int .i64 e1, .string u1, .string r1] 23)).alloc (.cells #[.int .i64 e2, .string u2, .string r2] 23)).alloc (.cells #[.int .i64 e3, .string u3, .string r3] 23)).cell? ⟨w.heap.size + 1, 0, none⟩ = some (.int .i64 e2) ∧ (((w.alloc (.cells #[.int .i64 e1, .string u1, .string r1] 23)).alloc (.cells #[.int .i64 e2, .string u2, .string r2] 23)).alloc (.cells #[.int .i64 e3, .string u3, .string r3] 23)).cell? ⟨w.heap.size + 1, 1, none⟩ = some (.string u2) ∧ (((w.alloc (.cells #[.int .i64 e1, .string u1, .string r1] 23)).alloc (.cells #[.int .i64 e2, .string u2, .string r2] 23)).alloc (.cells #[.int .i64 e3, .string u3, .string r3] 23)).cell? ⟨w.heap.size + 1, 2, none⟩ = some (.string r2) ∧ (((w.alloc (.cells #[.int .i64 e1, .string u1, .string r1] 23)).alloc (.cells #[.int .i64 e2, .string u2, .string r2] 23)).alloc (.cells #[.int .i64 e3, .string u3, .string r3] 23)).cell? ⟨w.heap.size + 2, 0, none⟩ = some (.int .i64 e3) ∧ (((w.alloc (.cells #[.int .i64 e1, .string u1, .string r1] 23)).alloc (.cells #[.int .i64 e2, .string u2, .string r2] 23)).alloc (.cells #[.int .i64 e3, .string u3, .string r3] 23)).cell? ⟨w.heap.size + 2, 1, none⟩ = some (.string u3) ∧ (((w.alloc (.cells #[.int .i64 e1, .string u1, .string r1] 23)).alloc (.cells #[.int .i64 e2, .string u2, .string r2] 23)).alloc (.cells #[.int .i64 e3, .string u3, .string r3] 23)).cell? ⟨w.heap.size + 2, 2, none⟩ = some (.string r3) := by
    refine ⟨?_, ?_, ?_, ?_, ?_, ?_, ?_, ?_, ?_⟩ <;> go_cell
  go_enter Tryd.func3, Tryd.ntmps3
  go_wp2_with fail
  refine (s1 _ hB).mono ?_
  rintro E w1 ⟨rfl, hb⟩
  replace hx := nine_step hx hb
  replace hB := step_below hB hb
  clear hb
  go_wp2_with fail
  refine (sn _ hB).mono ?_
  rintro E w1 ⟨rfl, hb⟩
  replace hx := nine_step hx hb
  replace hB := step_below hB hb
  clear hb
  go_wp2_with fail
  go_ret
  exact ⟨rfl, hB⟩

set_option maxRecDepth 100000 in
theorem order_short3 (e1 : Int) (u1 r1 : ByteArray) (e2 : Int) (u2 r2 : ByteArray) (e3 : Int) (u3 r3 : ByteArray) (w : World) (s1 : Does w 7 #[.agg #[.int .i64 e1, .string u1, .string r1]] (.bool true)) (s2 : Does w 7 #[.agg #[.int .i64 e2, .string u2, .string r2]] (.bool true)) (sn : Does w 7 #[.agg #[.int .i64 e3, .string u3, .string r3]] (.bool false)) : Calls Tryd.prog 3 #[.agg #[.int .i64 e1, .string u1, .string r1], .agg #[.int .i64 e2, .string u2, .string r2], .agg #[.int .i64 e3, .string u3, .string r3]] w (BoolIs true w) := by
  have hB : Below w.heap.size w (((w.alloc (.cells #[.int .i64 e1, .string u1, .string r1] 23)).alloc (.cells #[.int .i64 e2, .string u2, .string r2] 23)).alloc (.cells #[.int .i64 e3, .string u3, .string r3] 23)) := by go_grown
  have hx : (((w.alloc (.cells #[.int .i64 e1, .string u1, .string r1] 23)).alloc (.cells #[.int .i64 e2, .string u2, .string r2] 23)).alloc (.cells #[.int .i64 e3, .string u3, .string r3] 23)).cell? ⟨w.heap.size, 0, none⟩ = some (.int .i64 e1) ∧ (((w.alloc (.cells #[.int .i64 e1, .string u1, .string r1] 23)).alloc (.cells #[.int .i64 e2, .string u2, .string r2] 23)).alloc (.cells #[.int .i64 e3, .string u3, .string r3] 23)).cell? ⟨w.heap.size, 1, none⟩ = some (.string u1) ∧ (((w.alloc (.cells #[.int .i64 e1, .string u1, .string r1] 23)).alloc (.cells #[.int .i64 e2, .string u2, .string r2] 23)).alloc (.cells #[.int .i64 e3, .string u3, .string r3] 23)).cell? ⟨w.heap.size, 2, none⟩ = some (.string r1) ∧ (((w.alloc (.cells #[.int .i64 e1, .string u1, .string r1] 23)).alloc (.cells #[.int .i64 e2, .string u2, .string r2] 23)).alloc (.cells #[.int .i64 e3, .string u3, .string r3] 23)).cell? ⟨w.heap.size + 1, 0, none⟩ = some (.int .i64 e2) ∧ (((w.alloc (.cells #[.int .i64 e1, .string u1, .string r1] 23)).alloc (.cells #[.int .i64 e2, .string u2, .string r2] 23)).alloc (.cells #[.int .i64 e3, .string u3, .string r3] 23)).cell? ⟨w.heap.size + 1, 1, none⟩ = some (.string u2) ∧ (((w.alloc (.cells #[.int .i64 e1, .string u1, .string r1] 23)).alloc (.cells #[.int .i64 e2, .string u2, .string r2] 23)).alloc (.cells #[.int .i64 e3, .string u3, .string r3] 23)).cell? ⟨w.heap.size + 1, 2, none⟩ = some (.string r2) ∧ (((w.alloc (.cells #[.int .i64 e1, .string u1, .string r1] 23)).alloc (.cells #[.int .i64 e2, .string u2, .string r2] 23)).alloc (.cells #[.int .i64 e3, .string u3, .string r3] 23)).cell? ⟨w.heap.size + 2, 0, none⟩ = some (.int .i64 e3) ∧ (((w.alloc (.cells #[.int .i64 e1, .string u1, .string r1] 23)).alloc (.cells #[.int .i64 e2, .string u2, .string r2] 23)).alloc (.cells #[.int .i64 e3, .string u3, .string r3] 23)).cell? ⟨w.heap.size + 2, 1, none⟩ = some (.string u3) ∧ (((w.alloc (.cells #[.int .i64 e1, .string u1, .string r1] 23)).alloc (.cells #[.int .i64 e2, .string u2, .string r2] 23)).alloc (.cells #[.int .i64 e3, .string u3, .string r3] 23)).cell? ⟨w.heap.size + 2, 2, none⟩ = some (.string r3) := by
    refine ⟨?_, ?_, ?_, ?_, ?_, ?_, ?_, ?_, ?_⟩ <;> go_cell
  go_enter Tryd.func3, Tryd.ntmps3
  go_wp2_with fail
  refine (s1 _ hB).mono ?_
  rintro E w1 ⟨rfl, hb⟩
  replace hx := nine_step hx hb
  replace hB := step_below hB hb
  clear hb
  go_wp2_with fail
  refine (s2 _ hB).mono ?_
  rintro E w1 ⟨rfl, hb⟩
  replace hx := nine_step hx hb
  replace hB := step_below hB hb
  clear hb
  go_wp2_with fail
  refine (sn _ hB).mono ?_
  rintro E w1 ⟨rfl, hb⟩
  replace hx := nine_step hx hb
  replace hB := step_below hB hb
  clear hb
  go_wp2_with fail
  go_ret
  exact ⟨rfl, hB⟩

set_option maxRecDepth 100000 in
theorem order_right1 (e1 : Int) (u1 r1 : ByteArray) (e2 : Int) (u2 r2 : ByteArray) (e3 : Int) (u3 r3 : ByteArray) (w : World) (s1 : Does w 7 #[.agg #[.int .i64 e1, .string u1, .string r1]] (.bool true)) (s2 : Does w 7 #[.agg #[.int .i64 e2, .string u2, .string r2]] (.bool true)) (s3 : Does w 7 #[.agg #[.int .i64 e3, .string u3, .string r3]] (.bool true)) (hh : Does w 8 #[] (.bool true))  (gn : Does w 9 #[.agg #[.int .i64 e1, .string u1, .string r1]] (.bool false)) : Calls Tryd.prog 3 #[.agg #[.int .i64 e1, .string u1, .string r1], .agg #[.int .i64 e2, .string u2, .string r2], .agg #[.int .i64 e3, .string u3, .string r3]] w (BoolIs true w) := by
  have hB : Below w.heap.size w (((w.alloc (.cells #[.int .i64 e1, .string u1, .string r1] 23)).alloc (.cells #[.int .i64 e2, .string u2, .string r2] 23)).alloc (.cells #[.int .i64 e3, .string u3, .string r3] 23)) := by go_grown
  have hx : (((w.alloc (.cells #[.int .i64 e1, .string u1, .string r1] 23)).alloc (.cells #[.int .i64 e2, .string u2, .string r2] 23)).alloc (.cells #[.int .i64 e3, .string u3, .string r3] 23)).cell? ⟨w.heap.size, 0, none⟩ = some (.int .i64 e1) ∧ (((w.alloc (.cells #[.int .i64 e1, .string u1, .string r1] 23)).alloc (.cells #[.int .i64 e2, .string u2, .string r2] 23)).alloc (.cells #[.int .i64 e3, .string u3, .string r3] 23)).cell? ⟨w.heap.size, 1, none⟩ = some (.string u1) ∧ (((w.alloc (.cells #[.int .i64 e1, .string u1, .string r1] 23)).alloc (.cells #[.int .i64 e2, .string u2, .string r2] 23)).alloc (.cells #[.int .i64 e3, .string u3, .string r3] 23)).cell? ⟨w.heap.size, 2, none⟩ = some (.string r1) ∧ (((w.alloc (.cells #[.int .i64 e1, .string u1, .string r1] 23)).alloc (.cells #[.int .i64 e2, .string u2, .string r2] 23)).alloc (.cells #[.int .i64 e3, .string u3, .string r3] 23)).cell? ⟨w.heap.size + 1, 0, none⟩ = some (.int .i64 e2) ∧ (((w.alloc (.cells #[.int .i64 e1, .string u1, .string r1] 23)).alloc (.cells #[.int .i64 e2, .string u2, .string r2] 23)).alloc (.cells #[.int .i64 e3, .string u3, .string r3] 23)).cell? ⟨w.heap.size + 1, 1, none⟩ = some (.string u2) ∧ (((w.alloc (.cells #[.int .i64 e1, .string u1, .string r1] 23)).alloc (.cells #[.int .i64 e2, .string u2, .string r2] 23)).alloc (.cells #[.int .i64 e3, .string u3, .string r3] 23)).cell? ⟨w.heap.size + 1, 2, none⟩ = some (.string r2) ∧ (((w.alloc (.cells #[.int .i64 e1, .string u1, .string r1] 23)).alloc (.cells #[.int .i64 e2, .string u2, .string r2] 23)).alloc (.cells #[.int .i64 e3, .string u3, .string r3] 23)).cell? ⟨w.heap.size + 2, 0, none⟩ = some (.int .i64 e3) ∧ (((w.alloc (.cells #[.int .i64 e1, .string u1, .string r1] 23)).alloc (.cells #[.int .i64 e2, .string u2, .string r2] 23)).alloc (.cells #[.int .i64 e3, .string u3, .string r3] 23)).cell? ⟨w.heap.size + 2, 1, none⟩ = some (.string u3) ∧ (((w.alloc (.cells #[.int .i64 e1, .string u1, .string r1] 23)).alloc (.cells #[.int .i64 e2, .string u2, .string r2] 23)).alloc (.cells #[.int .i64 e3, .string u3, .string r3] 23)).cell? ⟨w.heap.size + 2, 2, none⟩ = some (.string r3) := by
    refine ⟨?_, ?_, ?_, ?_, ?_, ?_, ?_, ?_, ?_⟩ <;> go_cell
  go_enter Tryd.func3, Tryd.ntmps3
  go_wp2_with fail
  refine (s1 _ hB).mono ?_
  rintro E w1 ⟨rfl, hb⟩
  replace hx := nine_step hx hb
  replace hB := step_below hB hb
  clear hb
  go_wp2_with fail
  refine (s2 _ hB).mono ?_
  rintro E w1 ⟨rfl, hb⟩
  replace hx := nine_step hx hb
  replace hB := step_below hB hb
  clear hb
  go_wp2_with fail
  refine (s3 _ hB).mono ?_
  rintro E w1 ⟨rfl, hb⟩
  replace hx := nine_step hx hb
  replace hB := step_below hB hb
  clear hb
  go_wp2_with fail
  refine (hh _ hB).mono ?_
  rintro E w1 ⟨rfl, hb⟩
  replace hx := nine_step hx hb
  replace hB := step_below hB hb
  clear hb
  go_wp2_with fail
  refine (gn _ hB).mono ?_
  rintro E w1 ⟨rfl, hb⟩
  replace hx := nine_step hx hb
  replace hB := step_below hB hb
  clear hb
  go_wp2_with fail
  go_ret
  exact ⟨rfl, hB⟩

set_option maxRecDepth 100000 in
theorem order_right2 (e1 : Int) (u1 r1 : ByteArray) (e2 : Int) (u2 r2 : ByteArray) (e3 : Int) (u3 r3 : ByteArray) (w : World) (s1 : Does w 7 #[.agg #[.int .i64 e1, .string u1, .string r1]] (.bool true)) (s2 : Does w 7 #[.agg #[.int .i64 e2, .string u2, .string r2]] (.bool true)) (s3 : Does w 7 #[.agg #[.int .i64 e3, .string u3, .string r3]] (.bool true)) (hh : Does w 8 #[] (.bool true)) (g1 : Does w 9 #[.agg #[.int .i64 e1, .string u1, .string r1]] (.bool true)) (gn : Does w 9 #[.agg #[.int .i64 e2, .string u2, .string r2]] (.bool false)) : Calls Tryd.prog 3 #[.agg #[.int .i64 e1, .string u1, .string r1], .agg #[.int .i64 e2, .string u2, .string r2], .agg #[.int .i64 e3, .string u3, .string r3]] w (BoolIs true w) := by
  have hB : Below w.heap.size w (((w.alloc (.cells #[.int .i64 e1, .string u1, .string r1] 23)).alloc (.cells #[.int .i64 e2, .string u2, .string r2] 23)).alloc (.cells #[.int .i64 e3, .string u3, .string r3] 23)) := by go_grown
  have hx : (((w.alloc (.cells #[.int .i64 e1, .string u1, .string r1] 23)).alloc (.cells #[.int .i64 e2, .string u2, .string r2] 23)).alloc (.cells #[.int .i64 e3, .string u3, .string r3] 23)).cell? ⟨w.heap.size, 0, none⟩ = some (.int .i64 e1) ∧ (((w.alloc (.cells #[.int .i64 e1, .string u1, .string r1] 23)).alloc (.cells #[.int .i64 e2, .string u2, .string r2] 23)).alloc (.cells #[.int .i64 e3, .string u3, .string r3] 23)).cell? ⟨w.heap.size, 1, none⟩ = some (.string u1) ∧ (((w.alloc (.cells #[.int .i64 e1, .string u1, .string r1] 23)).alloc (.cells #[.int .i64 e2, .string u2, .string r2] 23)).alloc (.cells #[.int .i64 e3, .string u3, .string r3] 23)).cell? ⟨w.heap.size, 2, none⟩ = some (.string r1) ∧ (((w.alloc (.cells #[.int .i64 e1, .string u1, .string r1] 23)).alloc (.cells #[.int .i64 e2, .string u2, .string r2] 23)).alloc (.cells #[.int .i64 e3, .string u3, .string r3] 23)).cell? ⟨w.heap.size + 1, 0, none⟩ = some (.int .i64 e2) ∧ (((w.alloc (.cells #[.int .i64 e1, .string u1, .string r1] 23)).alloc (.cells #[.int .i64 e2, .string u2, .string r2] 23)).alloc (.cells #[.int .i64 e3, .string u3, .string r3] 23)).cell? ⟨w.heap.size + 1, 1, none⟩ = some (.string u2) ∧ (((w.alloc (.cells #[.int .i64 e1, .string u1, .string r1] 23)).alloc (.cells #[.int .i64 e2, .string u2, .string r2] 23)).alloc (.cells #[.int .i64 e3, .string u3, .string r3] 23)).cell? ⟨w.heap.size + 1, 2, none⟩ = some (.string r2) ∧ (((w.alloc (.cells #[.int .i64 e1, .string u1, .string r1] 23)).alloc (.cells #[.int .i64 e2, .string u2, .string r2] 23)).alloc (.cells #[.int .i64 e3, .string u3, .string r3] 23)).cell? ⟨w.heap.size + 2, 0, none⟩ = some (.int .i64 e3) ∧ (((w.alloc (.cells #[.int .i64 e1, .string u1, .string r1] 23)).alloc (.cells #[.int .i64 e2, .string u2, .string r2] 23)).alloc (.cells #[.int .i64 e3, .string u3, .string r3] 23)).cell? ⟨w.heap.size + 2, 1, none⟩ = some (.string u3) ∧ (((w.alloc (.cells #[.int .i64 e1, .string u1, .string r1] 23)).alloc (.cells #[.int .i64 e2, .string u2, .string r2] 23)).alloc (.cells #[.int .i64 e3, .string u3, .string r3] 23)).cell? ⟨w.heap.size + 2, 2, none⟩ = some (.string r3) := by
    refine ⟨?_, ?_, ?_, ?_, ?_, ?_, ?_, ?_, ?_⟩ <;> go_cell
  go_enter Tryd.func3, Tryd.ntmps3
  go_wp2_with fail
  refine (s1 _ hB).mono ?_
  rintro E w1 ⟨rfl, hb⟩
  replace hx := nine_step hx hb
  replace hB := step_below hB hb
  clear hb
  go_wp2_with fail
  refine (s2 _ hB).mono ?_
  rintro E w1 ⟨rfl, hb⟩
  replace hx := nine_step hx hb
  replace hB := step_below hB hb
  clear hb
  go_wp2_with fail
  refine (s3 _ hB).mono ?_
  rintro E w1 ⟨rfl, hb⟩
  replace hx := nine_step hx hb
  replace hB := step_below hB hb
  clear hb
  go_wp2_with fail
  refine (hh _ hB).mono ?_
  rintro E w1 ⟨rfl, hb⟩
  replace hx := nine_step hx hb
  replace hB := step_below hB hb
  clear hb
  go_wp2_with fail
  refine (g1 _ hB).mono ?_
  rintro E w1 ⟨rfl, hb⟩
  replace hx := nine_step hx hb
  replace hB := step_below hB hb
  clear hb
  go_wp2_with fail
  refine (gn _ hB).mono ?_
  rintro E w1 ⟨rfl, hb⟩
  replace hx := nine_step hx hb
  replace hB := step_below hB hb
  clear hb
  go_wp2_with fail
  go_ret
  exact ⟨rfl, hB⟩

set_option maxRecDepth 100000 in
theorem order_right3 (e1 : Int) (u1 r1 : ByteArray) (e2 : Int) (u2 r2 : ByteArray) (e3 : Int) (u3 r3 : ByteArray) (w : World) (s1 : Does w 7 #[.agg #[.int .i64 e1, .string u1, .string r1]] (.bool true)) (s2 : Does w 7 #[.agg #[.int .i64 e2, .string u2, .string r2]] (.bool true)) (s3 : Does w 7 #[.agg #[.int .i64 e3, .string u3, .string r3]] (.bool true)) (hh : Does w 8 #[] (.bool true)) (g1 : Does w 9 #[.agg #[.int .i64 e1, .string u1, .string r1]] (.bool true)) (g2 : Does w 9 #[.agg #[.int .i64 e2, .string u2, .string r2]] (.bool true)) (gn : Does w 9 #[.agg #[.int .i64 e3, .string u3, .string r3]] (.bool false)) : Calls Tryd.prog 3 #[.agg #[.int .i64 e1, .string u1, .string r1], .agg #[.int .i64 e2, .string u2, .string r2], .agg #[.int .i64 e3, .string u3, .string r3]] w (BoolIs true w) := by
  have hB : Below w.heap.size w (((w.alloc (.cells #[.int .i64 e1, .string u1, .string r1] 23)).alloc (.cells #[.int .i64 e2, .string u2, .string r2] 23)).alloc (.cells #[.int .i64 e3, .string u3, .string r3] 23)) := by go_grown
  have hx : (((w.alloc (.cells #[.int .i64 e1, .string u1, .string r1] 23)).alloc (.cells #[.int .i64 e2, .string u2, .string r2] 23)).alloc (.cells #[.int .i64 e3, .string u3, .string r3] 23)).cell? ⟨w.heap.size, 0, none⟩ = some (.int .i64 e1) ∧ (((w.alloc (.cells #[.int .i64 e1, .string u1, .string r1] 23)).alloc (.cells #[.int .i64 e2, .string u2, .string r2] 23)).alloc (.cells #[.int .i64 e3, .string u3, .string r3] 23)).cell? ⟨w.heap.size, 1, none⟩ = some (.string u1) ∧ (((w.alloc (.cells #[.int .i64 e1, .string u1, .string r1] 23)).alloc (.cells #[.int .i64 e2, .string u2, .string r2] 23)).alloc (.cells #[.int .i64 e3, .string u3, .string r3] 23)).cell? ⟨w.heap.size, 2, none⟩ = some (.string r1) ∧ (((w.alloc (.cells #[.int .i64 e1, .string u1, .string r1] 23)).alloc (.cells #[.int .i64 e2, .string u2, .string r2] 23)).alloc (.cells #[.int .i64 e3, .string u3, .string r3] 23)).cell? ⟨w.heap.size + 1, 0, none⟩ = some (.int .i64 e2) ∧ (((w.alloc (.cells #[.int .i64 e1, .string u1, .string r1] 23)).alloc (.cells #[.int .i64 e2, .string u2, .string r2] 23)).alloc (.cells #[.int .i64 e3, .string u3, .string r3] 23)).cell? ⟨w.heap.size + 1, 1, none⟩ = some (.string u2) ∧ (((w.alloc (.cells #[.int .i64 e1, .string u1, .string r1] 23)).alloc (.cells #[.int .i64 e2, .string u2, .string r2] 23)).alloc (.cells #[.int .i64 e3, .string u3, .string r3] 23)).cell? ⟨w.heap.size + 1, 2, none⟩ = some (.string r2) ∧ (((w.alloc (.cells #[.int .i64 e1, .string u1, .string r1] 23)).alloc (.cells #[.int .i64 e2, .string u2, .string r2] 23)).alloc (.cells #[.int .i64 e3, .string u3, .string r3] 23)).cell? ⟨w.heap.size + 2, 0, none⟩ = some (.int .i64 e3) ∧ (((w.alloc (.cells #[.int .i64 e1, .string u1, .string r1] 23)).alloc (.cells #[.int .i64 e2, .string u2, .string r2] 23)).alloc (.cells #[.int .i64 e3, .string u3, .string r3] 23)).cell? ⟨w.heap.size + 2, 1, none⟩ = some (.string u3) ∧ (((w.alloc (.cells #[.int .i64 e1, .string u1, .string r1] 23)).alloc (.cells #[.int .i64 e2, .string u2, .string r2] 23)).alloc (.cells #[.int .i64 e3, .string u3, .string r3] 23)).cell? ⟨w.heap.size + 2, 2, none⟩ = some (.string r3) := by
    refine ⟨?_, ?_, ?_, ?_, ?_, ?_, ?_, ?_, ?_⟩ <;> go_cell
  go_enter Tryd.func3, Tryd.ntmps3
  go_wp2_with fail
  refine (s1 _ hB).mono ?_
  rintro E w1 ⟨rfl, hb⟩
  replace hx := nine_step hx hb
  replace hB := step_below hB hb
  clear hb
  go_wp2_with fail
  refine (s2 _ hB).mono ?_
  rintro E w1 ⟨rfl, hb⟩
  replace hx := nine_step hx hb
  replace hB := step_below hB hb
  clear hb
  go_wp2_with fail
  refine (s3 _ hB).mono ?_
  rintro E w1 ⟨rfl, hb⟩
  replace hx := nine_step hx hb
  replace hB := step_below hB hb
  clear hb
  go_wp2_with fail
  refine (hh _ hB).mono ?_
  rintro E w1 ⟨rfl, hb⟩
  replace hx := nine_step hx hb
  replace hB := step_below hB hb
  clear hb
  go_wp2_with fail
  refine (g1 _ hB).mono ?_
  rintro E w1 ⟨rfl, hb⟩
  replace hx := nine_step hx hb
  replace hB := step_below hB hb
  clear hb
  go_wp2_with fail
  refine (g2 _ hB).mono ?_
  rintro E w1 ⟨rfl, hb⟩
  replace hx := nine_step hx hb
  replace hB := step_below hB hb
  clear hb
  go_wp2_with fail
  refine (gn _ hB).mono ?_
  rintro E w1 ⟨rfl, hb⟩
  replace hx := nine_step hx hb
  replace hB := step_below hB hb
  clear hb
  go_wp2_with fail
  go_ret
  exact ⟨rfl, hB⟩
end Go.Proofs.YtlkmmejlnohjhaaDoor
