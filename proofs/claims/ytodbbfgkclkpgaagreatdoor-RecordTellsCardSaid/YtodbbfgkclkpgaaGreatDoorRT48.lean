/- A package that is short enough to be held is short enough to be read. · RecordTells: for every package and path the call returns true: from the walks. -/
import Derived.Test.YtodbbfgkclkpgaaGreatDoorRT22
import Derived.Test.YtodbbfgkclkpgaaGreatDoorRT21
import Derived.Test.YtodbbfgkclkpgaaGreatDoorRT46
import Derived.Test.YtodbbfgkclkpgaaGreatDoorRT47
import Derived.Test.YtodbbfgkclkpgaaGreatDoorRT11
import Derived.Deep.RegionHeld3
namespace Go.Proofs.YtodbbfgkclkpgaaGreatDoor
open Go Go.RowKit

theorem texts_small {ss : List ByteArray} (h : textsB ss = true) : ∀ s ∈ ss, s.size ≤ 1000000 := by
  unfold textsB at h
  rw [Bool.and_eq_true, List.all_eq_true] at h
  intro s hs
  have := of_decide_eq_true (h.2 s hs)
  omega
theorem flat_few {ts : List Tv} (h : flatB ts = true) : ts.length ≤ 1000 := by
  unfold flatB at h
  rw [Bool.and_eq_true, decide_eq_true_eq] at h
  have := h.1
  omega
theorem fit_of {w : World} {v : Value} {p : Pv} (h : PackAt w v p) (hb : saysB p = true) : p.Fit := by
  unfold saysB at hb
  simp only [Bool.and_eq_true, decide_eq_true_eq] at hb
  obtain ⟨k0, k1, k2, k3, k4, k5, k6, k7, k8, k9, k10⟩ := hb
  unfold shortB at k1
  simp only [Bool.and_eq_true, decide_eq_true_eq] at k1
  obtain ⟨v1, v2, v3, v4, v5, v6, v7, v8, v9, _, h1, h2, h3, h4, h5, h6, h7, h8, h9, _, _⟩ := h
  exact ⟨by omega, by omega, by omega, small_of h1 k2, few_of k2, small_of h2 k3, few_of k3, small_flat h3 k4, flat_few k4, small_flat h4 k5, flat_few k5, small_flat h5 k6, flat_few k6, small_flat h6 k7, flat_few k7, texts_small k8, texts_small k9⟩
end Go.Proofs.YtodbbfgkclkpgaaGreatDoor

namespace Go.Proofs.YtodbbfgkclkpgaaGreatDoor
open Go Go.RowKit

/-- wherever the call is made above w, it gives this -/
def Gives2 (w : World) (f : Nat) (args : Array Value) (v : Value) : Prop := ∀ W : World, Below w.heap.size w W → Calls Tryz.prog f args W fun E W' => E = .returned v ∧ Below W.heap.size W W'
theorem Gives2.at {w W : World} {f : Nat} {args : Array Value} {v : Value} (h : Gives2 w f args v) (hb : Below w.heap.size w W) : Calls Tryz.prog f args W fun E W' => E = .returned v ∧ Below W.heap.size W W' := h W hb
theorem Gives2.step {w w1 : World} {f : Nat} {args : Array Value} {v : Value} (h : Gives2 w f args v) (hb : Below w.heap.size w w1) : Gives2 w1 f args v := fun W hW => h W (step_below hb hW)

/-- a package's cells in a box, and what lay before -/
def PB (w : World) (m : Nat) (p : Pv) (v1 v2 v3 v4 v5 v6 v7 v8 v9 : Value) (W : World) : Prop :=
  W.cell? ⟨m, 0, none⟩ = some (.string p.n) ∧ W.cell? ⟨m, 1, none⟩ = some (.int .i64 p.e) ∧ W.cell? ⟨m, 2, none⟩ = some (.string p.u) ∧ W.cell? ⟨m, 3, none⟩ = some (.string p.r) ∧ W.cell? ⟨m, 4, none⟩ = some (v1) ∧ W.cell? ⟨m, 5, none⟩ = some (v2) ∧ W.cell? ⟨m, 6, none⟩ = some (v3) ∧ W.cell? ⟨m, 7, none⟩ = some (v4) ∧ W.cell? ⟨m, 8, none⟩ = some (v5) ∧ W.cell? ⟨m, 9, none⟩ = some (v6) ∧ W.cell? ⟨m, 10, none⟩ = some (v7) ∧ W.cell? ⟨m, 11, none⟩ = some (v8) ∧ W.cell? ⟨m, 12, none⟩ = some (v9) ∧ Below w.heap.size w W
theorem pb_go {w W W' : World} {m : Nat} {p : Pv} {v1 v2 v3 v4 v5 v6 v7 v8 v9 : Value} (h : PB w m p v1 v2 v3 v4 v5 v6 v7 v8 v9 W) (hb : Below W.heap.size W W') : PB w m p v1 v2 v3 v4 v5 v6 v7 v8 v9 W' := by
  obtain ⟨h0, h1, h2, h3, h4, h5, h6, h7, h8, h9, h10, h11, h12, hz⟩ := h
  exact ⟨kept hb h0, kept hb h1, kept hb h2, kept hb h3, kept hb h4, kept hb h5, kept hb h6, kept hb h7, kept hb h8, kept hb h9, kept hb h10, kept hb h11, kept hb h12, step_below hz hb⟩
theorem pb_below {w W : World} {m : Nat} {p : Pv} {v1 v2 v3 v4 v5 v6 v7 v8 v9 : Value} (h : PB w m p v1 v2 v3 v4 v5 v6 v7 v8 v9 W) : Below w.heap.size w W := h.2.2.2.2.2.2.2.2.2.2.2.2.2
theorem pb_of {w W : World} {m : Nat} {p : Pv} {v1 v2 v3 v4 v5 v6 v7 v8 v9 : Value} (h : PackBox W m p v1 v2 v3 v4 v5 v6 v7 v8 v9) (hb : Below w.heap.size w W) : PB w m p v1 v2 v3 v4 v5 v6 v7 v8 v9 W := ⟨h.c0, h.c1, h.c2, h.c3, h.c4, h.c5, h.c6, h.c7, h.c8, h.c9, h.c10, h.c11, h.c12, hb⟩

set_option maxHeartbeats 2000000 in
set_option maxRecDepth 100000 in
theorem tells_main (p : Pv) (v1 v2 v3 v4 v5 v6 v7 v8 v9 : Value) (s : ByteArray) (w : World) (hs : s.size ≤ 100) (H0 : Gives2 w 11 #[.agg #[.string p.n, .int .i64 p.e, .string p.u, .string p.r, v1, v2, v3, v4, v5, v6, v7, v8, v9]] (.bool true))
    (H1 : ∀ W : World, Below w.heap.size w W → Calls Tryz.prog 12 #[.agg #[.string p.n, .int .i64 p.e, .string p.u, .string p.r, v1, v2, v3, v4, v5, v6, v7, v8, v9]] W (RefFieldsIs p W))
    (H2 : ∀ W : World, Below w.heap.size w W → Calls Tryz.prog 13 #[.agg #[.string p.n, .int .i64 p.e, .string p.u, .string p.r, v1, v2, v3, v4, v5, v6, v7, v8, v9]] W (RecFieldsIs p W))
    (H3 : Gives2 w 14 #[errV (fldE p), .int .i64 (fldE p)] (.bool true))
    (b : Bool) (R1 : Gives2 w 16 #[.agg #[.string p.n, .int .i64 p.e, .string p.u, .string p.r, v1, v2, v3, v4, v5, v6, v7, v8, v9]] (.bool b)) (R2 : Gives2 w 17 #[.agg #[.string p.n, .int .i64 p.e, .string p.u, .string p.r, v1, v2, v3, v4, v5, v6, v7, v8, v9]] (.bool b))
    (c : Bool) (Q1 : Gives2 w 18 #[.string s] (.bool c)) (Q2 : Gives2 w 19 #[.string s] (.bool c)) :
    Calls Tryz.prog 3 #[.agg #[.string p.n, .int .i64 p.e, .string p.u, .string p.r, v1, v2, v3, v4, v5, v6, v7, v8, v9], .string s] w (BoolIs true w) := by
  have HB := Lib.hid (below_alloc w (.cells #[.string p.n, .int .i64 p.e, .string p.u, .string p.r, v1, v2, v3, v4, v5, v6, v7, v8, v9] 29))
  have X0 := packBox_new w p v1 v2 v3 v4 v5 v6 v7 v8 v9 29
  obtain ⟨c0, c1, c2, c3, c4, c5, c6, c7, c8, c9, c10, c11, c12⟩ := id X0
  have D0 := Lib.hid (Gives2.at H0 HB.out)
  clear H0
  go_enter Tryz.func3, Tryz.ntmps3
  go_wp2_with fail
  refine D0.out.mono ?_
  rintro E w1 ⟨rfl, hb⟩
  have HB1 := Lib.hid (step_below HB.out hb)
  have X1 := X0.below hb
  clear c0 c1 c2 c3 c4 c5 c6 c7 c8 c9 c10 c11 c12 hb X0 D0
  obtain ⟨c0, c1, c2, c3, c4, c5, c6, c7, c8, c9, c10, c11, c12⟩ := id X1
  have D1 := Lib.hid (H1 w1 HB1.out)
  clear H1
  obtain ⟨m, hm⟩ : ∃ m, w.heap.size = m := ⟨_, rfl⟩
  have HM := Lib.hid hm
  rw [hm] at c0 c1 c2 c3 c4 c5 c6 c7 c8 c9 c10 c11 c12 X1
  go_wp2_with fail
  (try rw [hm])
  clear hm
  refine D1.out.mono ?_
  rintro E w2 ⟨x2, rfl, hx2, hb⟩
  have HB2 := Lib.hid (step_below HB1.out hb)
  have HX2 := Lib.hid hx2
  have X2 := X1.below hb
  clear c0 c1 c2 c3 c4 c5 c6 c7 c8 c9 c10 c11 c12 hb X1 D1 hx2
  obtain ⟨c0, c1, c2, c3, c4, c5, c6, c7, c8, c9, c10, c11, c12⟩ := id X2
  have D2 := Lib.hid (H2 w2 HB2.out)
  clear H2
  go_wp2_with fail
  refine D2.out.mono ?_
  rintro E w3 ⟨x3, rfl, hx3, hb⟩
  have HB3 := Lib.hid (step_below HB2.out hb)
  have HX3 := Lib.hid hx3
  have HX2' := Lib.hid (HX2.out.below hb)
  have X3 := X2.below hb
  clear c0 c1 c2 c3 c4 c5 c6 c7 c8 c9 c10 c11 c12 hb X2 D2 hx3
  have G3 : Gives2 w3 14 #[errV (fldE p), .int .i64 (fldE p)] (.bool true) := H3.step HB3.out
  have G4 : Gives2 w3 15 #[x3, x2] (.bool true) := fun W hW => lawSameFields_calls x3 x2 _ W (HX3.out.below hW) (HX2'.out.below hW)
  have G5 := R1.step HB3.out
  have G6 := R2.step HB3.out
  have G7 := Q1.step HB3.out
  have G8 := Q2.step HB3.out
  clear R1 R2 Q1 Q2 H3 HX2
  obtain ⟨n, hn⟩ : ∃ n, fldE p = n := ⟨_, rfl⟩
  rw [hn] at G3 ⊢
  obtain ⟨ev, hev⟩ : ∃ ev, errV n = ev := ⟨_, rfl⟩
  rw [hev] at G3 ⊢
  clear hn hev
  have hN := pb_of (w := w3) X3 (Below.refl _ _)
  clear X3
  go_upto_region 5 with fail
  go_region_held3 (fun W => W.cell? ⟨m, 0, none⟩ = some (.string p.n) ∧ W.cell? ⟨m, 1, none⟩ = some (.int .i64 p.e) ∧ W.cell? ⟨m, 2, none⟩ = some (.string p.u) ∧ W.cell? ⟨m, 3, none⟩ = some (.string p.r) ∧ W.cell? ⟨m, 4, none⟩ = some (v1) ∧ W.cell? ⟨m, 5, none⟩ = some (v2) ∧ W.cell? ⟨m, 6, none⟩ = some (v3) ∧ W.cell? ⟨m, 7, none⟩ = some (v4) ∧ W.cell? ⟨m, 8, none⟩ = some (v5) ∧ W.cell? ⟨m, 9, none⟩ = some (v6) ∧ W.cell? ⟨m, 10, none⟩ = some (v7) ∧ W.cell? ⟨m, 11, none⟩ = some (v8) ∧ W.cell? ⟨m, 12, none⟩ = some (v9) ∧ Below w3.heap.size w3 W)
    ((first | assumption | exact pb_go (by assumption) hb | exact pb_go hN (below_drew _) | exact pb_go (by assumption) (below_drew _)))
    (first | (go_at_call 14; (with_reducible refine (Gives2.at G3 ?_).mono ?_); (exact pb_below (by assumption)); rintro E w' ⟨rfl, hb⟩) | (go_at_call 15; (with_reducible refine (Gives2.at G4 ?_).mono ?_); (exact pb_below (by assumption)); rintro E w' ⟨rfl, hb⟩) | (go_at_call 16; (with_reducible refine (Gives2.at G5 ?_).mono ?_); (exact pb_below (by assumption)); rintro E w' ⟨rfl, hb⟩) | (go_at_call 17; (with_reducible refine (Gives2.at G6 ?_).mono ?_); (exact pb_below (by assumption)); rintro E w' ⟨rfl, hb⟩) | (go_at_call 18; (with_reducible refine (Gives2.at G7 ?_).mono ?_); (exact pb_below (by assumption)); rintro E w' ⟨rfl, hb⟩) | (go_at_call 19; (with_reducible refine (Gives2.at G8 ?_).mono ?_); (exact pb_below (by assumption)); rintro E w' ⟨rfl, hb⟩))
  all_goals
    go_wp2_with fail
    go_ret
    exact ⟨ret_bool (by simp), step_below HB3.out (pb_below (by assumption))⟩

set_option maxRecDepth 100000 in
theorem tells_no (p : Pv) (v1 v2 v3 v4 v5 v6 v7 v8 v9 : Value) (s : ByteArray) (w : World) (H0 : Gives2 w 11 #[.agg #[.string p.n, .int .i64 p.e, .string p.u, .string p.r, v1, v2, v3, v4, v5, v6, v7, v8, v9]] (.bool false)) :
    Calls Tryz.prog 3 #[.agg #[.string p.n, .int .i64 p.e, .string p.u, .string p.r, v1, v2, v3, v4, v5, v6, v7, v8, v9], .string s] w (BoolIs true w) := by
  have HB := Lib.hid (below_alloc w (.cells #[.string p.n, .int .i64 p.e, .string p.u, .string p.r, v1, v2, v3, v4, v5, v6, v7, v8, v9] 29))
  have X0 := packBox_new w p v1 v2 v3 v4 v5 v6 v7 v8 v9 29
  obtain ⟨c0, c1, c2, c3, c4, c5, c6, c7, c8, c9, c10, c11, c12⟩ := X0
  have D0 := Lib.hid (Gives2.at H0 HB.out)
  clear H0
  go_enter Tryz.func3, Tryz.ntmps3
  go_wp2_with fail
  refine D0.out.mono ?_
  rintro E w1 ⟨rfl, hb⟩
  have HB1 := Lib.hid (step_below HB.out hb)
  clear c0 c1 c2 c3 c4 c5 c6 c7 c8 c9 c10 c11 c12 hb D0
  go_wp2_with fail
  go_ret
  exact ⟨rfl, HB1.out⟩

set_option maxRecDepth 100000 in
theorem tells_long (p : Pv) (v1 v2 v3 v4 v5 v6 v7 v8 v9 : Value) (s : ByteArray) (w : World) (hs : 100 < s.size) (H0 : Gives2 w 11 #[.agg #[.string p.n, .int .i64 p.e, .string p.u, .string p.r, v1, v2, v3, v4, v5, v6, v7, v8, v9]] (.bool true)) :
    Calls Tryz.prog 3 #[.agg #[.string p.n, .int .i64 p.e, .string p.u, .string p.r, v1, v2, v3, v4, v5, v6, v7, v8, v9], .string s] w (BoolIs true w) := by
  have HB := Lib.hid (below_alloc w (.cells #[.string p.n, .int .i64 p.e, .string p.u, .string p.r, v1, v2, v3, v4, v5, v6, v7, v8, v9] 29))
  have X0 := packBox_new w p v1 v2 v3 v4 v5 v6 v7 v8 v9 29
  obtain ⟨c0, c1, c2, c3, c4, c5, c6, c7, c8, c9, c10, c11, c12⟩ := X0
  have D0 := Lib.hid (Gives2.at H0 HB.out)
  clear H0
  go_enter Tryz.func3, Tryz.ntmps3
  go_wp2_with fail
  refine D0.out.mono ?_
  rintro E w1 ⟨rfl, hb⟩
  have HB1 := Lib.hid (step_below HB.out hb)
  clear c0 c1 c2 c3 c4 c5 c6 c7 c8 c9 c10 c11 c12 hb D0
  go_wp2_with fail
  go_ret
  exact ⟨rfl, HB1.out⟩

theorem tells_calls (v : Value) (p : Pv) (s : ByteArray) (w : World) (hE : Env w) (hG : EnvE w) (hS : EnvS w) (h : PackAt w v p) : Calls Tryz.prog 3 #[v, .string s] w (BoolIs true w) := by
  obtain ⟨v1, v2, v3, v4, v5, v6, v7, v8, v9, rfl, _⟩ := id h
  cases hsy : saysB p with
  | false => exact tells_no p v1 v2 v3 v4 v5 v6 v7 v8 v9 s w (fun W hb => by have := lawSays_calls _ p W (h.below hb); rw [hsy] at this; exact this)
  | true =>
    by_cases hs : 100 < s.size
    · exact tells_long p v1 v2 v3 v4 v5 v6 v7 v8 v9 s w hs (fun W hb => by have := lawSays_calls _ p W (h.below hb); rw [hsy] at this; exact this)
    · have hf := fit_of h hsy
      exact tells_main p v1 v2 v3 v4 v5 v6 v7 v8 v9 s w (by omega) (fun W hb => by have := lawSays_calls _ p W (h.below hb); rw [hsy] at this; exact this)
        (fun W hb => refFields_calls _ p W (hE.below hb) (h.below hb) hf) (fun W hb => recFields_calls _ p W (hE.below hb) (hS.below hb) (h.below hb) hf)
        (fun W hb => (bare_calls _ _ W (hG.below hb)).mono fun E W' h => ⟨by rw [h.1]; exact ret_bool (by simp), h.2⟩)
        (saysOk p) (fun W hb => recRight_calls _ p W (hE.below hb) (h.below hb) hf) (fun W hb => refSays_calls _ p W (hE.below hb) (h.below hb) hf)
        (VP.pathP s.data.toList) (fun W hb => pathF_calls s W (hE.below hb) (by omega)) (fun W hb => refPath_calls s W (by omega))
end Go.Proofs.YtodbbfgkclkpgaaGreatDoor
