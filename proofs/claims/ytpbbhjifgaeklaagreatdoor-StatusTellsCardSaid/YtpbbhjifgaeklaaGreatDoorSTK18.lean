/- Errors taken apart: api.Tell, plain.Place, and the statements' bare, of no error and of an Errno. · depend.Print: how what is asked for is written. · depend.Singles, and the reference's: packages, each by itself. · record.flat, record.Right: may a package be. -/
import Derived.Test.YtpbbhjifgaeklaaGreatDoorSTK17
import Derived.Test.YtpbbhjifgaeklaaGreatDoorSTK15
import Derived.Deep.RegionHeld3
import Derived.Deep.DeepCutAuto
import Derived.Test.YtpbbhjifgaeklaaGreatDoorSTK10
import Derived.Maps.AppendAt
import Derived.OwnWalk
import Derived.Laws.AppendOwn
import Derived.Test.YtpbbhjifgaeklaaGreatDoorSTK16
namespace Go.Proofs.YtpbbhjifgaeklaaGreatDoor
open Go.RowKit

/-- errors.errorType is laid -/
def EnvE (w : World) : Prop := w.cell? ⟨2, 0, none⟩ = some (.iface 304 (.agg #[.pointer (some ⟨11, 31, none⟩)]))
theorem EnvE.below {w w' : World} (h : EnvE w) (hb : Below w.heap.size w w') : EnvE w' := kept hb h

theorem noUnwrap (v : Value) (w : World) : (Instr.typeAssert (.iface 43 v) 31 225 true).run Tryz.prog w = .ok (.tuple #[.nilIface, .bool false]) w :=
  run_typeAssert_lacksB Tryz.underlying225 (by kernel_rfl) (by kernel_rfl) v 31 w

theorem notAt (n : Int) (w : World) : (Instr.typeAssert (.iface 43 (.int .i64 n)) 31 133 true).run Tryz.prog w = .ok (.tuple #[.pointer none, .bool false]) w := by kernel_rfl

theorem tell_nil (w : World) : Calls Tryz.prog 95 #[.nilIface] w fun e w' => e = .returned (.int .i64 0) ∧ w = w' := by
  go_enter Tryz.func95, Tryz.ntmps95
  go_wp2_with fail
  go_ret
  exact ⟨rfl, rfl⟩

set_option maxRecDepth 100000 in
theorem tell_errno (n : Int) (w : World) (hg : EnvE w) : Calls Tryz.prog 95 #[.iface 43 (.int .i64 n)] w fun e w' => e = .returned (.int .i64 n) ∧ Below w.heap.size w w' := by
  have hb0 := below_alloc w (.cells #[.int .i64 0] 43)
  have hg1 : EnvE _ := hg.below hb0
  have H := Lib.hid (as_hit n ⟨w.heap.size, 0, none⟩ (.int .i64 0) (w.alloc (.cells #[.int .i64 0] 43)) hg1 (by go_cell) (by simp [go_sem]))
  clear hg1
  go_enter Tryz.func95, Tryz.ntmps95
  go_wp2_with fail
  refine H.out.mono ?_
  rintro E w1 ⟨rfl, hw⟩
  have hc : w1.cell? ⟨w.heap.size, 0, none⟩ = some (.int .i64 n) := by
    rw [hw]
    go_cell
  have hB : Below w.heap.size w w1 := by
    rw [hw]
    go_grown
  clear hw
  go_wp2_with fail
  go_ret
  exact ⟨rfl, hB⟩

theorem place_nil (w : World) : Calls Tryz.prog 125 #[.nilIface] w fun e w' => e = .returned (.tuple #[.int .i64 0, .int .i64 (-1)]) ∧ w = w' := by
  go_enter Tryz.func125, Tryz.ntmps125
  go_wp2_with (go_at_call 95; refine (tell_nil _).mono ?_; rintro E w' ⟨rfl, rfl⟩)
  refine wp_loop_rounds 1 ?_
  rw [rounds_succ]
  go_wp2_with fail
  go_ret2
  exact ⟨rfl, rfl⟩

set_option maxRecDepth 100000 in
theorem place_errno (n : Int) (w : World) (hg : EnvE w) : Calls Tryz.prog 125 #[.iface 43 (.int .i64 n)] w fun e w' => e = .returned (.tuple #[.int .i64 n, .int .i64 (-1)]) ∧ Below w.heap.size w w' := by
  have nu := noUnwrap (.int .i64 n)
  have na := notAt n
  go_enter Tryz.func125, Tryz.ntmps125
  go_wp2_with fail
  refine (tell_errno n w hg).mono ?_
  rintro E w1 ⟨rfl, hB⟩
  go_wp2_with fail
  refine wp_loop_rounds 1 ?_
  rw [rounds_succ]
  go_wp2_with fail
  go_ret2
  exact ⟨rfl, hB⟩

/-- an error of the program's: none, or an Errno -/
def errV (n : Int) : Value := if n = 0 then .nilIface else .iface 43 (.int .i64 n)

def BareIs (n e : Int) (w : World) (E : Ending) (w' : World) : Prop := E = .returned (.bool (n == e)) ∧ Below w.heap.size w w'

theorem bareFault_calls (e : Int) (w : World) : Calls Tryz.prog 74 #[.int .i64 e] w fun E w' => E = .returned (.agg #[.int .i64 e, .int .i64 (-1)]) ∧ Below w.heap.size w w' := by
  go_enter Tryz.func74, Tryz.ntmps74
  go_wp2_with fail
  exact bodyPost_ret (v := .agg #[.int .i64 e, .int .i64 (-1)]) (by simp [results, Tryz.results74, go_sem]) rfl ⟨rfl, by go_grown⟩

set_option maxRecDepth 100000 in
theorem is_nil (e : Int) (w : World) : Calls Tryz.prog 51 #[.nilIface, .agg #[.int .i64 e, .int .i64 (-1)]] w (BareIs 0 e w) := by
  have hb0 := below_alloc w (.cells #[.int .i64 e, .int .i64 (-1)] 104)
  have he : ((0 : Int) == e) = true ∨ ((0 : Int) == e) = false := by cases ((0 : Int) == e) <;> simp
  rcases he with he | he
  all_goals
    have F := Lib.hid he
    go_enter Tryz.func51, Tryz.ntmps51
    go_wp2_with fail
    refine (place_nil _).mono ?_
    rintro E w1 ⟨rfl, rfl⟩
    go_wp2_with fail
    go_ret
    exact ⟨ret_bool (by rw [F.out]), hb0⟩

set_option maxRecDepth 100000 in
theorem is_errno (n e : Int) (w : World) (hg : EnvE w) : Calls Tryz.prog 51 #[.iface 43 (.int .i64 n), .agg #[.int .i64 e, .int .i64 (-1)]] w (BareIs n e w) := by
  have hb0 := below_alloc w (.cells #[.int .i64 e, .int .i64 (-1)] 104)
  have hg1 := hg.below hb0
  have he : (n == e) = true ∨ (n == e) = false := by cases (n == e) <;> simp
  rcases he with he | he
  all_goals
    have F := Lib.hid he
    go_enter Tryz.func51, Tryz.ntmps51
    go_wp2_with fail
    refine (place_errno n _ hg1).mono ?_
    rintro E w1 ⟨rfl, hb⟩
    have c0 := kept hb (p := ⟨w.heap.size, 0, none⟩) (v := .int .i64 e) (by go_cell)
    have c1 := kept hb (p := ⟨w.heap.size, 1, none⟩) (v := .int .i64 (-1)) (by go_cell)
    have hB := step_below hb0 hb
    clear hb
    go_wp2_with fail
    go_ret
    exact ⟨ret_bool (by rw [F.out]), hB⟩

set_option maxRecDepth 100000 in
/-- the statements' bare: is this error that Errno, without a place -/
theorem bare_calls (n e : Int) (w : World) (hg : EnvE w) : Calls Tryz.prog 20 #[errV n, .int .i64 e] w (BareIs n e w) := by
  unfold errV
  by_cases hn : n = 0
  · rw [if_pos hn, hn]
    clear hn
    go_enter Tryz.func20, Tryz.ntmps20
    go_wp2_with fail
    refine (bareFault_calls e _).mono ?_
    rintro E w1 ⟨rfl, hB⟩
    go_wp2_with fail
    refine (is_nil e _).mono ?_
    rintro E w2 ⟨rfl, hb⟩
    have hB := step_below hB hb
    go_wp2_with fail
    go_ret
    exact ⟨rfl, hB⟩
  · rw [if_neg hn]
    clear hn
    go_enter Tryz.func20, Tryz.ntmps20
    go_wp2_with fail
    refine (bareFault_calls e _).mono ?_
    rintro E w1 ⟨rfl, hB⟩
    have hg1 := hg.below hB
    go_wp2_with fail
    refine (is_errno n e _ hg1).mono ?_
    rintro E w2 ⟨rfl, hb⟩
    have hB := step_below hB hb
    go_wp2_with fail
    go_ret
    exact ⟨rfl, hB⟩
end Go.Proofs.YtpbbhjifgaeklaaGreatDoor

namespace Go.Proofs.YtpbbhjifgaeklaaGreatDoor
open Go.RowKit

/-! what is joined -/
theorem joinP_eq (sep : List UInt8) : ∀ xs : List (List UInt8), Lib.join xs sep = VP.joinP sep xs
  | [] => rfl
  | [x] => by rw [Lib.join_one]; rfl
  | x :: y :: r => by
    have ih := joinP_eq sep (y :: r)
    rw [Lib.join_cons, VP.joinP, ← ih, Lib.join_cons]
    simp [Lib.joinTail]

theorem joinP_len (sep : List UInt8) (B : Nat) : ∀ xs : List (List UInt8), (∀ x ∈ xs, x.length ≤ B) → (VP.joinP sep xs).length ≤ xs.length * (B + sep.length)
  | [], _ => by simp [VP.joinP]
  | [x], h => by
    have := h x (.head _)
    rw [VP.joinP, List.length_singleton, Nat.one_mul]; omega
  | x :: y :: r, h => by
    have ih := joinP_len sep B (y :: r) (fun z hz => h z (.tail _ hz))
    have := h x (.head _)
    rw [VP.joinP, List.length_append, List.length_append]
    rw [List.length_cons (a := x), Nat.add_mul, Nat.one_mul]
    omega

end Go.Proofs.YtpbbhjifgaeklaaGreatDoor

namespace Go.Proofs.YtpbbhjifgaeklaaGreatDoor
open Go.RowKit

/-- a slice of terms whose block is none of a row of such slices -/
def Typed (w : World) (base : Nat) (vx : Value) : Prop := ∀ a n c, vx = .slice (some a) n c → a.block < base ∨ ∃ cur fz, w.heap[a.block]? = some (.cells cur 143 fz)

theorem typed_below {w w' : World} {base : Nat} {vx : Value} (h : Typed w base vx) (hb : Below w.heap.size w w') : Typed w' base vx := fun a m c hv => by
  rcases h a m c hv with h | ⟨cur, fz, h⟩
  · exact .inl h
  · exact .inr ⟨cur, fz, (hb.block a.block (Array.getElem?_eq_some_iff.1 h).1).trans h⟩

/-- lists of terms, each a slice of its own -/
def Rows (w : World) (base : Nat) (L : List (List Tv)) (vs : List Value) : Prop := vs.length = L.length ∧ ∀ (i : Nat) (x : List Tv), L[i]? = some x → ∃ vx : Value, vs[i]? = some vx ∧ TermsAt w vx x ∧ Typed w base vx
theorem Rows.nil {w : World} {base : Nat} : Rows w base [] [] := ⟨rfl, fun _ _ h => by cases h⟩
theorem Rows.below {w w' : World} {base : Nat} {L : List (List Tv)} {vs : List Value} (h : Rows w base L vs) (hb : Below w.heap.size w w') : Rows w' base L vs :=
  ⟨h.1, fun i x hx => by
    obtain ⟨vx, h1, h2, h3⟩ := h.2 i x hx
    exact ⟨vx, h1, h2.below hb, typed_below h3 hb⟩⟩
end Go.Proofs.YtpbbhjifgaeklaaGreatDoor

namespace Go.Proofs.YtpbbhjifgaeklaaGreatDoor
open Go Go.RowKit

/-- all that a package says is short enough to be read -/
structure Pv.Fit (p : Pv) : Prop where
  n : p.n.size ≤ 1000000
  u : p.u.size ≤ 1000
  r : p.r.size ≤ 1000
  dep : ∀ x ∈ p.dep, ∀ t ∈ x, t.small
  depN : ∀ x ∈ p.dep, x.length ≤ 1000
  ahead : ∀ x ∈ p.ahead, ∀ t ∈ x, t.small
  aheadN : ∀ x ∈ p.ahead, x.length ≤ 1000
  ag : ∀ t ∈ p.ag, t.small
  agN : p.ag.length ≤ 1000
  br : ∀ t ∈ p.br, t.small
  brN : p.br.length ≤ 1000
  re : ∀ t ∈ p.re, t.small
  reN : p.re.length ≤ 1000
  pr : ∀ t ∈ p.pr, t.small
  prN : p.pr.length ≤ 1000
  se : ∀ s ∈ p.se, s.size ≤ 1000000
  li : ∀ s ∈ p.li, s.size ≤ 1000000

/-- the cells of a package in a box -/
structure PackBox (w : World) (m : Nat) (p : Pv) (v1 v2 v3 v4 v5 v6 v7 v8 v9 : Value) : Prop where
  c0 : w.cell? ⟨m, 0, none⟩ = some (.string p.n)
  c1 : w.cell? ⟨m, 1, none⟩ = some (.int .i64 p.e)
  c2 : w.cell? ⟨m, 2, none⟩ = some (.string p.u)
  c3 : w.cell? ⟨m, 3, none⟩ = some (.string p.r)
  c4 : w.cell? ⟨m, 4, none⟩ = some v1
  c5 : w.cell? ⟨m, 5, none⟩ = some v2
  c6 : w.cell? ⟨m, 6, none⟩ = some v3
  c7 : w.cell? ⟨m, 7, none⟩ = some v4
  c8 : w.cell? ⟨m, 8, none⟩ = some v5
  c9 : w.cell? ⟨m, 9, none⟩ = some v6
  c10 : w.cell? ⟨m, 10, none⟩ = some v7
  c11 : w.cell? ⟨m, 11, none⟩ = some v8
  c12 : w.cell? ⟨m, 12, none⟩ = some v9
theorem PackBox.below {w w' : World} {m : Nat} {p : Pv} {v1 v2 v3 v4 v5 v6 v7 v8 v9 : Value} (h : PackBox w m p v1 v2 v3 v4 v5 v6 v7 v8 v9) (hb : Below w.heap.size w w') : PackBox w' m p v1 v2 v3 v4 v5 v6 v7 v8 v9 :=
  ⟨kept hb h.c0, kept hb h.c1, kept hb h.c2, kept hb h.c3, kept hb h.c4, kept hb h.c5, kept hb h.c6, kept hb h.c7, kept hb h.c8, kept hb h.c9, kept hb h.c10, kept hb h.c11, kept hb h.c12⟩
end Go.Proofs.YtpbbhjifgaeklaaGreatDoor
