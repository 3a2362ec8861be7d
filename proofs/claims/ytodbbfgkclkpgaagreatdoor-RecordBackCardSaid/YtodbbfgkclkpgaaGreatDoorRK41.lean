/- record.Fields, and the reference's, of every package. · A package that is short enough to be held is short enough to be read. -/
import Derived.Test.YtodbbfgkclkpgaaGreatDoorRK38
import Derived.Test.YtodbbfgkclkpgaaGreatDoorRK40
import Derived.Test.YtodbbfgkclkpgaaGreatDoorRK23
import Derived.Test.YtodbbfgkclkpgaaGreatDoorRK22
namespace Go.Proofs.YtodbbfgkclkpgaaGreatDoor
open Go Go.RowKit

set_option maxRecDepth 100000 in
theorem fields_no (v : Value) (p : Pv) (w : World) (hE : Env w) (h : PackAt w v p) (hf : p.Fit) (hy : saysOk p = false) : Calls Tryz.prog 13 #[v] w (RecFieldsIs p w) := by
  obtain ⟨v1, v2, v3, v4, v5, v6, v7, v8, v9, rfl, _⟩ := id h
  have hB0 := below_alloc w (.cells #[.string p.n, .int .i64 p.e, .string p.u, .string p.r, v1, v2, v3, v4, v5, v6, v7, v8, v9] 29)
  have CR := Lib.hid (recRight_calls _ p _ (hE.below hB0) (h.below hB0) hf)
  rw [hy] at CR
  have X0 := packBox_new w p v1 v2 v3 v4 v5 v6 v7 v8 v9 29
  obtain ⟨c0, c1, c2, c3, c4, c5, c6, c7, c8, c9, c10, c11, c12⟩ := X0
  have F1 := Lib.hid (show fldE p = 1 by unfold fldE; rw [hy]; rfl)
  have F2 := Lib.hid (show fldR p = [] by unfold fldR; rw [hy]; rfl)
  clear h hf hE hy
  go_enter Tryz.func13, Tryz.ntmps13
  go_wp2_with fail
  refine CR.out.mono ?_
  rintro E w1 ⟨rfl, hb⟩
  have hB := step_below hB0 hb
  clear c0 c1 c2 c3 c4 c5 c6 c7 c8 c9 c10 c11 c12 CR hb hB0
  go_wp2_with fail
  go_ret2
  exact ⟨_, by rw [F1.out]; rfl, by rw [F2.out]; exact SlC.nil _ _ _, hB⟩

set_option maxRecDepth 100000 in
theorem refFields_no (v : Value) (p : Pv) (w : World) (hE : Env w) (h : PackAt w v p) (hf : p.Fit) (hy : saysOk p = false) : Calls Tryz.prog 12 #[v] w (RefFieldsIs p w) := by
  obtain ⟨v1, v2, v3, v4, v5, v6, v7, v8, v9, rfl, _⟩ := id h
  have hB0 := below_alloc w (.cells #[.string p.n, .int .i64 p.e, .string p.u, .string p.r, v1, v2, v3, v4, v5, v6, v7, v8, v9] 29)
  have CR := Lib.hid (refSays_calls _ p _ (hE.below hB0) (h.below hB0) hf)
  rw [hy] at CR
  have X0 := packBox_new w p v1 v2 v3 v4 v5 v6 v7 v8 v9 29
  obtain ⟨c0, c1, c2, c3, c4, c5, c6, c7, c8, c9, c10, c11, c12⟩ := X0
  have F1 := Lib.hid (show fldE p = 1 by unfold fldE; rw [hy]; rfl)
  have F2 := Lib.hid (show fldR p = [] by unfold fldR; rw [hy]; rfl)
  clear h hf hE hy
  go_enter Tryz.func12, Tryz.ntmps12
  go_wp2_with fail
  refine CR.out.mono ?_
  rintro E w1 ⟨rfl, hb⟩
  have hB := step_below hB0 hb
  clear c0 c1 c2 c3 c4 c5 c6 c7 c8 c9 c10 c11 c12 CR hb hB0
  go_wp2_with fail
  go_ret2
  exact ⟨_, by rw [F1.out]; rfl, by rw [F2.out]; exact SlC.nil _ _ _, hB⟩

theorem recFields_calls (v : Value) (p : Pv) (w : World) (hE : Env w) (hS : EnvS w) (h : PackAt w v p) (hf : p.Fit) : Calls Tryz.prog 13 #[v] w (RecFieldsIs p w) := by
  cases hy : saysOk p with
  | false => exact fields_no v p w hE h hf hy
  | true => exact fields_yes v p w hE hS h hf hy
theorem refFields_calls (v : Value) (p : Pv) (w : World) (hE : Env w) (h : PackAt w v p) (hf : p.Fit) : Calls Tryz.prog 12 #[v] w (RefFieldsIs p w) := by
  cases hy : saysOk p with
  | false => exact refFields_no v p w hE h hf hy
  | true => exact refFields_yes v p w hE h hf hy
end Go.Proofs.YtodbbfgkclkpgaaGreatDoor

namespace Go.Proofs.YtodbbfgkclkpgaaGreatDoor
open Go Go.RowKit

theorem texts_small {ss : List ByteArray} (h : textsB ss = true) : ∀ s ∈ ss, s.size ≤ 1000000 := by
  unfold textsB at h
  rw [Bool.and_eq_true, List.all_eq_true] at h
  intro s hs
  have := of_decide_eq_true (h.2 s hs)
  omega
theorem flat_few {ts : List Tv} (h : flatB ts = true) : ts.length ≤ 1000 := by
  unfold flatB at h
  rw [Bool.and_eq_true, decide_eq_true_eq] at h
  have := h.1
  omega
theorem fit_of {w : World} {v : Value} {p : Pv} (h : PackAt w v p) (hb : saysB p = true) : p.Fit := by
  unfold saysB at hb
  simp only [Bool.and_eq_true, decide_eq_true_eq] at hb
  obtain ⟨k0, k1, k2, k3, k4, k5, k6, k7, k8, k9, k10⟩ := hb
  unfold shortB at k1
  simp only [Bool.and_eq_true, decide_eq_true_eq] at k1
  obtain ⟨v1, v2, v3, v4, v5, v6, v7, v8, v9, _, h1, h2, h3, h4, h5, h6, h7, h8, h9, _, _⟩ := h
  exact ⟨by omega, by omega, by omega, small_of h1 k2, few_of k2, small_of h2 k3, few_of k3, small_flat h3 k4, flat_few k4, small_flat h4 k5, flat_few k5, small_flat h5 k6, flat_few k6, small_flat h6 k7, flat_few k7, texts_small k8, texts_small k9⟩
end Go.Proofs.YtodbbfgkclkpgaaGreatDoor
