/- Errors taken apart: api.Tell, plain.Place, and the statements' bare, of no error and of an Errno. · depend.Print: how what is asked for is written. -/
import Derived.Test.YtodbbfgkclkpgaaGreatDoorAW19
import Derived.Test.YtodbbfgkclkpgaaGreatDoorAW18
import Derived.Test.YtodbbfgkclkpgaaGreatDoorAW15
import Derived.Maps.AppendAt
import Derived.OwnWalk
import Derived.Laws.AppendOwn
namespace Go.Proofs.YtodbbfgkclkpgaaGreatDoor
open Go.RowKit

/-- errors.errorType is laid -/
def EnvE (w : World) : Prop := w.cell? ⟨2, 0, none⟩ = some (.iface 226 (.agg #[.pointer (some ⟨12, 36, none⟩)]))
theorem EnvE.below {w w' : World} (h : EnvE w) (hb : Below w.heap.size w w') : EnvE w' := kept hb h

theorem noUnwrap (v : Value) (w : World) : (Instr.typeAssert (.iface 32 v) 36 202 true).run Tryz.prog w = .ok (.tuple #[.nilIface, .bool false]) w :=
  run_typeAssert_lacksB Tryz.underlying202 (by kernel_rfl) (by kernel_rfl) v 36 w

theorem notAt (n : Int) (w : World) : (Instr.typeAssert (.iface 32 (.int .i64 n)) 36 185 true).run Tryz.prog w = .ok (.tuple #[.pointer none, .bool false]) w := by kernel_rfl

theorem tell_nil (w : World) : Calls Tryz.prog 38 #[.nilIface] w fun e w' => e = .returned (.int .i64 0) ∧ w = w' := by
  go_enter Tryz.func38, Tryz.ntmps38
  go_wp2_with fail
  go_ret
  exact ⟨rfl, rfl⟩

set_option maxRecDepth 100000 in
theorem tell_errno (n : Int) (w : World) (hg : EnvE w) : Calls Tryz.prog 38 #[.iface 32 (.int .i64 n)] w fun e w' => e = .returned (.int .i64 n) ∧ Below w.heap.size w w' := by
  have hb0 := below_alloc w (.cells #[.int .i64 0] 32)
  have hg1 : EnvE _ := hg.below hb0
  have H := Lib.hid (as_hit n ⟨w.heap.size, 0, none⟩ (.int .i64 0) (w.alloc (.cells #[.int .i64 0] 32)) hg1 (by go_cell) (by simp [go_sem]))
  clear hg1
  go_enter Tryz.func38, Tryz.ntmps38
  go_wp2_with fail
  refine H.out.mono ?_
  rintro E w1 ⟨rfl, hw⟩
  have hc : w1.cell? ⟨w.heap.size, 0, none⟩ = some (.int .i64 n) := by
    rw [hw]
    go_cell
  have hB : Below w.heap.size w w1 := by
    rw [hw]
    go_grown
  clear hw
  go_wp2_with fail
  go_ret
  exact ⟨rfl, hB⟩

theorem place_nil (w : World) : Calls Tryz.prog 135 #[.nilIface] w fun e w' => e = .returned (.tuple #[.int .i64 0, .int .i64 (-1)]) ∧ w = w' := by
  go_enter Tryz.func135, Tryz.ntmps135
  go_wp2_with (go_at_call 38; refine (tell_nil _).mono ?_; rintro E w' ⟨rfl, rfl⟩)
  refine wp_loop_rounds 1 ?_
  rw [rounds_succ]
  go_wp2_with fail
  go_ret2
  exact ⟨rfl, rfl⟩

set_option maxRecDepth 100000 in
theorem place_errno (n : Int) (w : World) (hg : EnvE w) : Calls Tryz.prog 135 #[.iface 32 (.int .i64 n)] w fun e w' => e = .returned (.tuple #[.int .i64 n, .int .i64 (-1)]) ∧ Below w.heap.size w w' := by
  have nu := noUnwrap (.int .i64 n)
  have na := notAt n
  go_enter Tryz.func135, Tryz.ntmps135
  go_wp2_with fail
  refine (tell_errno n w hg).mono ?_
  rintro E w1 ⟨rfl, hB⟩
  go_wp2_with fail
  refine wp_loop_rounds 1 ?_
  rw [rounds_succ]
  go_wp2_with fail
  go_ret2
  exact ⟨rfl, hB⟩

/-- an error of the program's: none, or an Errno -/
def errV (n : Int) : Value := if n = 0 then .nilIface else .iface 32 (.int .i64 n)

def BareIs (n e : Int) (w : World) (E : Ending) (w' : World) : Prop := E = .returned (.bool (n == e)) ∧ Below w.heap.size w w'

theorem bareFault_calls (e : Int) (w : World) : Calls Tryz.prog 64 #[.int .i64 e] w fun E w' => E = .returned (.agg #[.int .i64 e, .int .i64 (-1)]) ∧ Below w.heap.size w w' := by
  go_enter Tryz.func64, Tryz.ntmps64
  go_wp2_with fail
  exact bodyPost_ret (v := .agg #[.int .i64 e, .int .i64 (-1)]) (by simp [results, Tryz.results64, go_sem]) rfl ⟨rfl, by go_grown⟩

set_option maxRecDepth 100000 in
theorem is_nil (e : Int) (w : World) : Calls Tryz.prog 63 #[.nilIface, .agg #[.int .i64 e, .int .i64 (-1)]] w (BareIs 0 e w) := by
  have hb0 := below_alloc w (.cells #[.int .i64 e, .int .i64 (-1)] 96)
  have he : ((0 : Int) == e) = true ∨ ((0 : Int) == e) = false := by cases ((0 : Int) == e) <;> simp
  rcases he with he | he
  all_goals
    have F := Lib.hid he
    go_enter Tryz.func63, Tryz.ntmps63
    go_wp2_with fail
    refine (place_nil _).mono ?_
    rintro E w1 ⟨rfl, rfl⟩
    go_wp2_with fail
    go_ret
    exact ⟨ret_bool (by rw [F.out]), hb0⟩

set_option maxRecDepth 100000 in
theorem is_errno (n e : Int) (w : World) (hg : EnvE w) : Calls Tryz.prog 63 #[.iface 32 (.int .i64 n), .agg #[.int .i64 e, .int .i64 (-1)]] w (BareIs n e w) := by
  have hb0 := below_alloc w (.cells #[.int .i64 e, .int .i64 (-1)] 96)
  have hg1 := hg.below hb0
  have he : (n == e) = true ∨ (n == e) = false := by cases (n == e) <;> simp
  rcases he with he | he
  all_goals
    have F := Lib.hid he
    go_enter Tryz.func63, Tryz.ntmps63
    go_wp2_with fail
    refine (place_errno n _ hg1).mono ?_
    rintro E w1 ⟨rfl, hb⟩
    have c0 := kept hb (p := ⟨w.heap.size, 0, none⟩) (v := .int .i64 e) (by go_cell)
    have c1 := kept hb (p := ⟨w.heap.size, 1, none⟩) (v := .int .i64 (-1)) (by go_cell)
    have hB := step_below hb0 hb
    clear hb
    go_wp2_with fail
    go_ret
    exact ⟨ret_bool (by rw [F.out]), hB⟩

set_option maxRecDepth 100000 in
/-- the statements' bare: is this error that Errno, without a place -/
theorem bare_calls (n e : Int) (w : World) (hg : EnvE w) : Calls Tryz.prog 14 #[errV n, .int .i64 e] w (BareIs n e w) := by
  unfold errV
  by_cases hn : n = 0
  · rw [if_pos hn, hn]
    clear hn
    go_enter Tryz.func14, Tryz.ntmps14
    go_wp2_with fail
    refine (bareFault_calls e _).mono ?_
    rintro E w1 ⟨rfl, hB⟩
    go_wp2_with fail
    refine (is_nil e _).mono ?_
    rintro E w2 ⟨rfl, hb⟩
    have hB := step_below hB hb
    go_wp2_with fail
    go_ret
    exact ⟨rfl, hB⟩
  · rw [if_neg hn]
    clear hn
    go_enter Tryz.func14, Tryz.ntmps14
    go_wp2_with fail
    refine (bareFault_calls e _).mono ?_
    rintro E w1 ⟨rfl, hB⟩
    have hg1 := hg.below hB
    go_wp2_with fail
    refine (is_errno n e _ hg1).mono ?_
    rintro E w2 ⟨rfl, hb⟩
    have hB := step_below hB hb
    go_wp2_with fail
    go_ret
    exact ⟨rfl, hB⟩
end Go.Proofs.YtodbbfgkclkpgaaGreatDoor

namespace Go.Proofs.YtodbbfgkclkpgaaGreatDoor
open Go.RowKit

theorem info_str : (Tryz.prog.info? 9).map (fun i => (i.zero, i.size, i.bytes)) = some (some (.string ⟨#[]⟩), 1, 16) := by kernel_rfl

/-! what is joined -/
theorem joinP_eq (sep : List UInt8) : ∀ xs : List (List UInt8), Lib.join xs sep = VP.joinP sep xs
  | [] => rfl
  | [x] => by rw [Lib.join_one]; rfl
  | x :: y :: r => by
    have ih := joinP_eq sep (y :: r)
    rw [Lib.join_cons, VP.joinP, ← ih, Lib.join_cons]
    simp [Lib.joinTail]

theorem joinP_len (sep : List UInt8) (B : Nat) : ∀ xs : List (List UInt8), (∀ x ∈ xs, x.length ≤ B) → (VP.joinP sep xs).length ≤ xs.length * (B + sep.length)
  | [], _ => by simp [VP.joinP]
  | [x], h => by
    have := h x (.head _)
    rw [VP.joinP, List.length_singleton, Nat.one_mul]; omega
  | x :: y :: r, h => by
    have ih := joinP_len sep B (y :: r) (fun z hz => h z (.tail _ hz))
    have := h x (.head _)
    rw [VP.joinP, List.length_append, List.length_append]
    rw [List.length_cons (a := x), Nat.add_mul, Nat.one_mul]
    omega

theorem oneP_len {t : VP.Tm} (h : VP.RightT t) : (VP.oneP t).length ≤ 100 := by
  have h1 := h.nm.hi
  rcases h.k with ⟨h0, _⟩ | ⟨hop, hv⟩
  · unfold VP.oneP; rw [if_pos h0]; omega
  · have h2 := hv.len
    have h3 : (VP.signP t.op).length ≤ 2 := by
      unfold VP.signP
      (repeat' split) <;> simp
    unfold VP.oneP
    rw [if_neg (by omega)]
    simp only [List.length_append, List.length_cons, List.length_nil]
    omega

def lineS (x : List Tv) : ByteArray := ⟨(VP.lineP (x.map Tv.tm)).toArray⟩
def wholeS (L : List (List Tv)) : ByteArray := ⟨(VP.printL (tmL L)).toArray⟩

theorem lineS_eq (x : List Tv) : Lib.join ((x.map oneS).map (·.data.toList)) [32, 124, 32] = (lineS x).data.toList := by
  rw [joinP_eq]
  show _ = VP.joinP [32, 124, 32] ((x.map Tv.tm).map VP.oneP)
  rw [List.map_map, List.map_map]
  rfl
theorem wholeS_eq (L : List (List Tv)) : Lib.join ((L.map lineS).map (·.data.toList)) [44, 32] = (wholeS L).data.toList := by
  rw [joinP_eq]
  show _ = VP.joinP [44, 32] ((L.map fun x => x.map Tv.tm).map VP.lineP)
  rw [List.map_map, List.map_map]
  rfl
theorem lineS_len {x : List Tv} (h : ∀ t ∈ x, VP.RightT t.tm) : (lineS x).data.toList.length ≤ x.length * 103 := by
  have := joinP_len [32, 124, 32] 100 ((x.map Tv.tm).map VP.oneP) (fun y hy => by
    obtain ⟨t', ht', rfl⟩ := List.mem_map.1 hy
    obtain ⟨t, ht, rfl⟩ := List.mem_map.1 ht'
    exact oneP_len (h t ht))
  rw [List.length_map, List.length_map] at this
  exact this

/-- a slice of strings of the call's own -/
theorem own_cells {w : World} {base : Nat} {v : Value} {n : Nat} {ss : List ByteArray} (h : w.ownsRow base 9 1 v n (ss.map Value.string)) :
    n = ss.length ∧ ((v = .slice none 0 0 ∧ n = 0) ∨ ∃ g cap, v = .slice (some ⟨g, 0, none⟩) n cap ∧ g < w.heap.size ∧ n ≤ cap ∧ ∀ j s, ss[j]? = some s → w.cell? ⟨g, 0 + j, none⟩ = some (.string s)) := by
  have hl := h.1
  rw [List.length_map, Nat.mul_one] at hl
  refine ⟨hl.symm, ?_⟩
  rcases h.2 with h0 | ⟨g, cap, cur, rfl, hg, hk, hn, hm, hs, ht⟩
  · exact .inl h0
  · refine .inr ⟨g, cap, rfl, (Array.getElem?_eq_some_iff.1 hk).1, hn, fun j s hj => ?_⟩
    have := h.cells (g := g) rfl j (.string s) (by rw [List.getElem?_map, hj]; rfl)
    rw [Go.WideShapes.add_plain] at this
    exact this

theorem call_join (w : World) (base : Nat) (v : Value) (n : Nat) (ss : List ByteArray) (sep : ByteArray) (h : w.ownsRow base 9 1 v n (ss.map Value.string)) (hn : n ≤ 1000000)
    (hlen : (Lib.join (ss.map (·.data.toList)) sep.data.toList).length ≤ 1000000) :
    Calls Tryz.prog 61 #[v, .string sep] w fun e w' => e = .returned (.string ⟨(Lib.join (ss.map (·.data.toList)) sep.data.toList).toArray⟩) ∧ Below w.heap.size w w' := by
  obtain ⟨hl, ⟨rfl, h0⟩ | ⟨g, cap, rfl, hg, hc, hcell⟩⟩ := own_cells h
  · refine (Tryz.strings_Join_none none 0 sep w).mono fun e w' ⟨he, hw⟩ => ⟨?_, hw ▸ Below.refl _ _⟩
    have : ss = [] := List.eq_nil_of_length_eq_zero (by omega)
    rw [he, this]
    rfl
  · rw [hl] at hc ⊢
    exact Tryz.strings_Join g 0 cap ss sep w hcell hg (by omega) hc (by omega)
end Go.Proofs.YtodbbfgkclkpgaaGreatDoor
