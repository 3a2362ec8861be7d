/- VersionReads: for every text and every version the call returns true: the walk, over what its callees give. -/
import Derived.Test.YtlkmmejlnohjhaaDoorRefPar2
import Derived.Test.YtlkmmejlnohjhaaDoorErrWalk
import Derived.Deep.RegionHeld3
import Derived.Deep.DeepCutAuto
namespace Go.Proofs.YtlkmmejlnohjhaaDoor
open Go.RowKit

/-- from any world that has grown out of w, this call returns v, and the world grows -/
def Gives (w : World) (f : Nat) (args : Array Value) (v : Value) : Prop :=
  ∀ W, Below w.heap.size w W → Calls Tryd.prog f args W fun E W' => E = .returned v ∧ Below W.heap.size W W'
theorem Gives.at {w : World} {f : Nat} {args : Array Value} {v : Value} (h : Gives w f args v) (W : World) (hb : Below w.heap.size w W) : Calls Tryd.prog f args W fun E W' => E = .returned v ∧ Below W.heap.size W W' := h W hb

set_option maxRecDepth 100000 in
theorem lawShort_calls (e : Int) (u r : ByteArray) (w : World) :
    Calls Tryd.prog 15 #[.agg #[.int .i64 e, .string u, .string r]] w (BoolIs (shortB u r) w) := by
  have hb0 := below_alloc w (.cells #[.int .i64 e, .string u, .string r] 23)
  by_cases h1 : u.size ≤ 100
  · by_cases h2 : r.size ≤ 100
    · have F := Lib.hid (show shortB u r = true by unfold shortB; simp [h1, h2])
      go_enter Tryd.func15, Tryd.ntmps15
      go_wp2
      go_ret
      exact ⟨ret_bool (by rw [F.out] <;> simp <;> omega), hb0⟩
    · have F := Lib.hid (show shortB u r = false by unfold shortB; simp [h2])
      go_enter Tryd.func15, Tryd.ntmps15
      go_wp2
      go_ret
      exact ⟨ret_bool (by rw [F.out] <;> simp <;> omega), hb0⟩
  · have F := Lib.hid (show shortB u r = false by unfold shortB; simp [h1])
    go_enter Tryd.func15, Tryd.ntmps15
    go_wp2
    go_ret
    exact ⟨ret_bool (by rw [F.out] <;> simp <;> omega), hb0⟩

/-- both read the same version, or that it is none -/
theorem parse_both (s : ByteArray) {w : World} (hE : Env w) : ∃ (e : Int) (u r : ByteArray) (n : Int),
    Gives w 16 #[.string s] (.tuple #[.agg #[.int .i64 e, .string u, .string r], .int .i64 n]) ∧
    Gives w 10 #[.string s] (.tuple #[.agg #[.int .i64 e, .string u, .string r], errV n]) := by
  cases hp : VP.parseP s.data.toList with
  | none =>
    refine ⟨0, ⟨#[]⟩, ⟨#[]⟩, 3, fun W hb => (refParse_calls s W (hE.below hb)).mono fun E W' h => ?_, fun W hb => (parse_calls s W (hE.below hb)).mono fun E W' h => ?_⟩
    · obtain ⟨h1, ⟨_, rfl⟩ | ⟨e, u, r, h2, _⟩⟩ := h
      · exact ⟨rfl, h1⟩
      · rw [hp] at h2; cases h2
    · obtain ⟨h1, ⟨_, rfl⟩ | ⟨e, u, r, h2, _⟩⟩ := h
      · exact ⟨rfl, h1⟩
      · rw [hp] at h2; cases h2
  | some v =>
    obtain ⟨e, u, r⟩ := v
    refine ⟨e, ⟨u.toArray⟩, ⟨r.toArray⟩, 0, fun W hb => (refParse_calls s W (hE.below hb)).mono fun E W' h => ?_, fun W hb => (parse_calls s W (hE.below hb)).mono fun E W' h => ?_⟩
    · obtain ⟨h1, ⟨h2, _⟩ | ⟨e', u', r', h2, rfl⟩⟩ := h
      · rw [hp] at h2; cases h2
      · rw [hp] at h2
        simp only [Option.some.injEq, Prod.mk.injEq] at h2
        obtain ⟨rfl, rfl, rfl⟩ := h2
        exact ⟨by rw [mk_data, mk_data], h1⟩
    · obtain ⟨h1, ⟨h2, _⟩ | ⟨e', u', r', h2, rfl⟩⟩ := h
      · rw [hp] at h2; cases h2
      · rw [hp] at h2
        simp only [Option.some.injEq, Prod.mk.injEq] at h2
        obtain ⟨rfl, rfl, rfl⟩ := h2
        refine ⟨?_, h1⟩
        rw [mk_data, mk_data]
        rfl

set_option maxRecDepth 100000 in
theorem reads_long (s : ByteArray) (e : Int) (u r : ByteArray) (w : World) (h : 200 < s.size) : Calls Tryd.prog 4 #[.string s, .agg #[.int .i64 e, .string u, .string r]] w (BoolIs true w) := by
  have hb0 := below_alloc w (.cells #[.int .i64 e, .string u, .string r] 23)
  go_enter Tryd.func4, Tryd.ntmps4
  go_wp2_with fail
  go_ret
  exact ⟨rfl, hb0⟩

set_option maxRecDepth 100000 in
theorem reads_short (s : ByteArray) (e : Int) (u r : ByteArray) (w : World) (h : s.size ≤ 200) (hs : Gives w 15 #[.agg #[.int .i64 e, .string u, .string r]] (.bool false)) :
    Calls Tryd.prog 4 #[.string s, .agg #[.int .i64 e, .string u, .string r]] w (BoolIs true w) := by
  have hB := below_alloc w (.cells #[.int .i64 e, .string u, .string r] 23)
  go_enter Tryd.func4, Tryd.ntmps4
  go_wp2_with fail
  refine (Gives.at hs _ hB).mono ?_
  rintro E w1 ⟨rfl, hb⟩
  have hB := step_below hB hb
  clear hb
  go_wp2_with fail
  go_ret
  exact ⟨rfl, hB⟩

/-- nine cells that are kept, and what lay before -/
def Nine (w : World) (b : Nat) (p q : Nat) (e e' : Int) (u r u' r' : ByteArray) (W : World) : Prop :=
  W.cell? ⟨b, 0, none⟩ = some (.int .i64 e) ∧ W.cell? ⟨b, 1, none⟩ = some (.string u) ∧ W.cell? ⟨b, 2, none⟩ = some (.string r) ∧
  W.cell? ⟨p, 0, none⟩ = some (.int .i64 e') ∧ W.cell? ⟨p, 1, none⟩ = some (.string u') ∧ W.cell? ⟨p, 2, none⟩ = some (.string r') ∧
  W.cell? ⟨q, 0, none⟩ = some (.int .i64 e') ∧ W.cell? ⟨q, 1, none⟩ = some (.string u') ∧ W.cell? ⟨q, 2, none⟩ = some (.string r') ∧ Below w.heap.size w W

theorem nine_go {w W W' : World} {b p q : Nat} {e e' : Int} {u r u' r' : ByteArray} (h : Nine w b p q e e' u r u' r' W) (hb : Below W.heap.size W W') : Nine w b p q e e' u r u' r' W' := by
  obtain ⟨h1, h2, h3, h4, h5, h6, h7, h8, h9, h10⟩ := h
  exact ⟨kept hb h1, kept hb h2, kept hb h3, kept hb h4, kept hb h5, kept hb h6, kept hb h7, kept hb h8, kept hb h9, step_below h10 hb⟩

theorem nine_below {w W : World} {b p q : Nat} {e e' : Int} {u r u' r' : ByteArray} (h : Nine w b p q e e' u r u' r' W) : Below w.heap.size w W := h.2.2.2.2.2.2.2.2.2

set_option maxHeartbeats 1000000 in
set_option maxRecDepth 100000 in
theorem reads_main (s : ByteArray) (e : Int) (u r : ByteArray) (w : World) (h : s.size ≤ 200) (hs : Gives w 15 #[.agg #[.int .i64 e, .string u, .string r]] (.bool true))
    (e' : Int) (u' r' : ByteArray) (n : Int) (ev : Value) (p1 : Gives w 16 #[.string s] (.tuple #[.agg #[.int .i64 e', .string u', .string r'], .int .i64 n])) (p2 : Gives w 10 #[.string s] (.tuple #[.agg #[.int .i64 e', .string u', .string r'], ev]))
    (hb' : Gives w 17 #[ev, .int .i64 n] (.bool true)) (b : Bool) (r1 : Gives w 9 #[.agg #[.int .i64 e, .string u, .string r]] (.bool b)) (r2 : Gives w 18 #[.agg #[.int .i64 e, .string u, .string r]] (.bool b))
    (t : ByteArray) (q1 : Gives w 11 #[.agg #[.int .i64 e, .string u, .string r]] (.string t)) (q2 : Gives w 19 #[.agg #[.int .i64 e, .string u, .string r]] (.string t)) :
    Calls Tryd.prog 4 #[.string s, .agg #[.int .i64 e, .string u, .string r]] w (BoolIs true w) := by
  have hB := below_alloc w (.cells #[.int .i64 e, .string u, .string r] 23)
  have k0 : (w.alloc (.cells #[.int .i64 e, .string u, .string r] 23)).cell? ⟨w.heap.size, 0, none⟩ = some (.int .i64 e) := by go_cell
  have k1 : (w.alloc (.cells #[.int .i64 e, .string u, .string r] 23)).cell? ⟨w.heap.size, 1, none⟩ = some (.string u) := by go_cell
  have k2 : (w.alloc (.cells #[.int .i64 e, .string u, .string r] 23)).cell? ⟨w.heap.size, 2, none⟩ = some (.string r) := by go_cell
  go_enter Tryd.func4, Tryd.ntmps4
  go_wp2_with fail
  refine (Gives.at hs _ hB).mono ?_
  rintro E w1 ⟨rfl, hb⟩
  replace hB := step_below hB hb
  replace k0 := kept hb k0
  replace k1 := kept hb k1
  replace k2 := kept hb k2
  clear hb
  go_wp2_with fail
  refine (Gives.at p1 _ hB).mono ?_
  rintro E w2 ⟨rfl, hb⟩
  replace hB := step_below hB hb
  replace k0 := kept hb k0
  replace k1 := kept hb k1
  replace k2 := kept hb k2
  clear hb
  have hb0 := below_alloc w2 (.cells #[.int .i64 e', .string u', .string r'] 23)
  have j0 : (w2.alloc (.cells #[.int .i64 e', .string u', .string r'] 23)).cell? ⟨w2.heap.size, 0, none⟩ = some (.int .i64 e') := by go_cell
  have j1 : (w2.alloc (.cells #[.int .i64 e', .string u', .string r'] 23)).cell? ⟨w2.heap.size, 1, none⟩ = some (.string u') := by go_cell
  have j2 : (w2.alloc (.cells #[.int .i64 e', .string u', .string r'] 23)).cell? ⟨w2.heap.size, 2, none⟩ = some (.string r') := by go_cell
  replace hB := step_below hB hb0
  replace k0 := kept hb0 k0
  replace k1 := kept hb0 k1
  replace k2 := kept hb0 k2
  clear hb0
  go_wp2_with fail
  refine (Gives.at p2 _ hB).mono ?_
  rintro E w3 ⟨rfl, hb⟩
  replace hB := step_below hB hb
  replace k0 := kept hb k0
  replace k1 := kept hb k1
  replace k2 := kept hb k2
  replace j0 := kept hb j0
  replace j1 := kept hb j1
  replace j2 := kept hb j2
  clear hb hs p1 p2
  have hN : Nine w w.heap.size w2.heap.size w3.heap.size e e' u r u' r' (w3.alloc (.cells #[.int .i64 e', .string u', .string r'] 23)) :=
    have hb0 := below_alloc w3 (.cells #[.int .i64 e', .string u', .string r'] 23)
    ⟨kept hb0 k0, kept hb0 k1, kept hb0 k2, kept hb0 j0, kept hb0 j1, kept hb0 j2, by go_cell, by go_cell, by go_cell, step_below hB hb0⟩
  clear hB k0 k1 k2 j0 j1 j2
  go_wp2_with fail
  go_region_held3 (fun W => W.cell? ⟨w.heap.size, 0, none⟩ = some (.int .i64 e) ∧ W.cell? ⟨w.heap.size, 1, none⟩ = some (.string u) ∧ W.cell? ⟨w.heap.size, 2, none⟩ = some (.string r) ∧ W.cell? ⟨w2.heap.size, 0, none⟩ = some (.int .i64 e') ∧ W.cell? ⟨w2.heap.size, 1, none⟩ = some (.string u') ∧ W.cell? ⟨w2.heap.size, 2, none⟩ = some (.string r') ∧ W.cell? ⟨w3.heap.size, 0, none⟩ = some (.int .i64 e') ∧ W.cell? ⟨w3.heap.size, 1, none⟩ = some (.string u') ∧ W.cell? ⟨w3.heap.size, 2, none⟩ = some (.string r') ∧ Below w.heap.size w W)
    ((first | assumption | exact nine_go (by assumption) hb | exact nine_go hN (below_drew _) | exact nine_go (by assumption) (below_drew _)))
    (first | (go_at_call 17; (with_reducible refine (Gives.at hb' _ ?_).mono ?_); (exact nine_below (by assumption)); rintro E w' ⟨rfl, hb⟩) | (go_at_call 9; (with_reducible refine (Gives.at r1 _ ?_).mono ?_); (exact nine_below (by assumption)); rintro E w' ⟨rfl, hb⟩) | (go_at_call 18; (with_reducible refine (Gives.at r2 _ ?_).mono ?_); (exact nine_below (by assumption)); rintro E w' ⟨rfl, hb⟩) | (go_at_call 11; (with_reducible refine (Gives.at q1 _ ?_).mono ?_); (exact nine_below (by assumption)); rintro E w' ⟨rfl, hb⟩) | (go_at_call 19; (with_reducible refine (Gives.at q2 _ ?_).mono ?_); (exact nine_below (by assumption)); rintro E w' ⟨rfl, hb⟩))
  all_goals
    go_wp2_with fail
    go_ret
    exact ⟨rfl, nine_below (by assumption)⟩
end Go.Proofs.YtlkmmejlnohjhaaDoor
