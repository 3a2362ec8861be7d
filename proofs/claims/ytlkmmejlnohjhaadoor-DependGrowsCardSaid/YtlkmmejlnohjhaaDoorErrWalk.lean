/- Errors taken apart: api.Tell, plain.Place, and the statements' bare, of no error and of an Errno. -/
import Derived.Test.YtlkmmejlnohjhaaDoorErrAs
namespace Go.Proofs.YtlkmmejlnohjhaaDoor
open Go.RowKit

/-- errors.errorType is laid -/
def EnvE (w : World) : Prop := w.cell? ⟨5, 0, none⟩ = some (.iface 168 (.agg #[.pointer (some ⟨8, 27, none⟩)]))
theorem EnvE.below {w w' : World} (h : EnvE w) (hb : Below w.heap.size w w') : EnvE w' := kept hb h

theorem noUnwrap (v : Value) (w : World) : (Instr.typeAssert (.iface 36 v) 27 126 true).run Tryd.prog w = .ok (.tuple #[.nilIface, .bool false]) w :=
  run_typeAssert_lacksB Tryd.underlying126 (by kernel_rfl) (by kernel_rfl) v 27 w

theorem notAt (n : Int) (w : World) : (Instr.typeAssert (.iface 36 (.int .i64 n)) 27 123 true).run Tryd.prog w = .ok (.tuple #[.pointer none, .bool false]) w := by kernel_rfl

theorem tell_nil (w : World) : Calls Tryd.prog 95 #[.nilIface] w fun e w' => e = .returned (.int .i64 0) ∧ w = w' := by
  go_enter Tryd.func95, Tryd.ntmps95
  go_wp2_with fail
  go_ret
  exact ⟨rfl, rfl⟩

set_option maxRecDepth 100000 in
theorem tell_errno (n : Int) (w : World) (hg : EnvE w) : Calls Tryd.prog 95 #[.iface 36 (.int .i64 n)] w fun e w' => e = .returned (.int .i64 n) ∧ Below w.heap.size w w' := by
  have hb0 := below_alloc w (.cells #[.int .i64 0] 36)
  have hg1 : EnvE _ := hg.below hb0
  have H := Lib.hid (as_hit n ⟨w.heap.size, 0, none⟩ (.int .i64 0) (w.alloc (.cells #[.int .i64 0] 36)) hg1 (by go_cell) (by simp [go_sem]))
  clear hg1
  go_enter Tryd.func95, Tryd.ntmps95
  go_wp2_with fail
  refine H.out.mono ?_
  rintro E w1 ⟨rfl, hw⟩
  have hc : w1.cell? ⟨w.heap.size, 0, none⟩ = some (.int .i64 n) := by
    rw [hw]
    go_cell
  have hB : Below w.heap.size w w1 := by
    rw [hw]
    go_grown
  clear hw
  go_wp2_with fail
  go_ret
  exact ⟨rfl, hB⟩

theorem place_nil (w : World) : Calls Tryd.prog 74 #[.nilIface] w fun e w' => e = .returned (.tuple #[.int .i64 0, .int .i64 (-1)]) ∧ w = w' := by
  go_enter Tryd.func74, Tryd.ntmps74
  go_wp2_with (go_at_call 95; refine (tell_nil _).mono ?_; rintro E w' ⟨rfl, rfl⟩)
  refine wp_loop_rounds 1 ?_
  rw [rounds_succ]
  go_wp2_with fail
  go_ret2
  exact ⟨rfl, rfl⟩

set_option maxRecDepth 100000 in
theorem place_errno (n : Int) (w : World) (hg : EnvE w) : Calls Tryd.prog 74 #[.iface 36 (.int .i64 n)] w fun e w' => e = .returned (.tuple #[.int .i64 n, .int .i64 (-1)]) ∧ Below w.heap.size w w' := by
  have nu := noUnwrap (.int .i64 n)
  have na := notAt n
  go_enter Tryd.func74, Tryd.ntmps74
  go_wp2_with fail
  refine (tell_errno n w hg).mono ?_
  rintro E w1 ⟨rfl, hB⟩
  go_wp2_with fail
  refine wp_loop_rounds 1 ?_
  rw [rounds_succ]
  go_wp2_with fail
  go_ret2
  exact ⟨rfl, hB⟩

/-- an error of the program's: none, or an Errno -/
def errV (n : Int) : Value := if n = 0 then .nilIface else .iface 36 (.int .i64 n)

def BareIs (n e : Int) (w : World) (E : Ending) (w' : World) : Prop := E = .returned (.bool (n == e)) ∧ Below w.heap.size w w'

theorem bareFault_calls (e : Int) (w : World) : Calls Tryd.prog 42 #[.int .i64 e] w fun E w' => E = .returned (.agg #[.int .i64 e, .int .i64 (-1)]) ∧ Below w.heap.size w w' := by
  go_enter Tryd.func42, Tryd.ntmps42
  go_wp2_with fail
  exact bodyPost_ret (v := .agg #[.int .i64 e, .int .i64 (-1)]) (by simp [results, Tryd.results42, go_sem]) rfl ⟨rfl, by go_grown⟩

set_option maxRecDepth 100000 in
theorem is_nil (e : Int) (w : World) : Calls Tryd.prog 41 #[.nilIface, .agg #[.int .i64 e, .int .i64 (-1)]] w (BareIs 0 e w) := by
  have hb0 := below_alloc w (.cells #[.int .i64 e, .int .i64 (-1)] 70)
  have he : ((0 : Int) == e) = true ∨ ((0 : Int) == e) = false := by cases ((0 : Int) == e) <;> simp
  rcases he with he | he
  all_goals
    have F := Lib.hid he
    go_enter Tryd.func41, Tryd.ntmps41
    go_wp2_with fail
    refine (place_nil _).mono ?_
    rintro E w1 ⟨rfl, rfl⟩
    go_wp2_with fail
    go_ret
    exact ⟨ret_bool (by rw [F.out]), hb0⟩

set_option maxRecDepth 100000 in
theorem is_errno (n e : Int) (w : World) (hg : EnvE w) : Calls Tryd.prog 41 #[.iface 36 (.int .i64 n), .agg #[.int .i64 e, .int .i64 (-1)]] w (BareIs n e w) := by
  have hb0 := below_alloc w (.cells #[.int .i64 e, .int .i64 (-1)] 70)
  have hg1 := hg.below hb0
  have he : (n == e) = true ∨ (n == e) = false := by cases (n == e) <;> simp
  rcases he with he | he
  all_goals
    have F := Lib.hid he
    go_enter Tryd.func41, Tryd.ntmps41
    go_wp2_with fail
    refine (place_errno n _ hg1).mono ?_
    rintro E w1 ⟨rfl, hb⟩
    have c0 := kept hb (p := ⟨w.heap.size, 0, none⟩) (v := .int .i64 e) (by go_cell)
    have c1 := kept hb (p := ⟨w.heap.size, 1, none⟩) (v := .int .i64 (-1)) (by go_cell)
    have hB := step_below hb0 hb
    clear hb
    go_wp2_with fail
    go_ret
    exact ⟨ret_bool (by rw [F.out]), hB⟩

set_option maxRecDepth 100000 in
/-- the statements' bare: is this error that Errno, without a place -/
theorem bare_calls (n e : Int) (w : World) (hg : EnvE w) : Calls Tryd.prog 17 #[errV n, .int .i64 e] w (BareIs n e w) := by
  unfold errV
  by_cases hn : n = 0
  · rw [if_pos hn, hn]
    clear hn
    go_enter Tryd.func17, Tryd.ntmps17
    go_wp2_with fail
    refine (bareFault_calls e _).mono ?_
    rintro E w1 ⟨rfl, hB⟩
    go_wp2_with fail
    refine (is_nil e _).mono ?_
    rintro E w2 ⟨rfl, hb⟩
    have hB := step_below hB hb
    go_wp2_with fail
    go_ret
    exact ⟨rfl, hB⟩
  · rw [if_neg hn]
    clear hn
    go_enter Tryd.func17, Tryd.ntmps17
    go_wp2_with fail
    refine (bareFault_calls e _).mono ?_
    rintro E w1 ⟨rfl, hB⟩
    have hg1 := hg.below hB
    go_wp2_with fail
    refine (is_errno n e _ hg1).mono ?_
    rintro E w2 ⟨rfl, hb⟩
    have hB := step_below hB hb
    go_wp2_with fail
    go_ret
    exact ⟨rfl, hB⟩
end Go.Proofs.YtlkmmejlnohjhaaDoor
