/- stevedorelaw.sameTexts, samePack: of the same they say so. · RecordReads: for all fields the call returns true: from the walks. · The frame of a law: what is the same for every statement of this seat. -/
import Derived.Test.YtodbbfgkclkpgaaGreatDoorRR29
import Derived.Test.YtodbbfgkclkpgaaGreatDoorRR41
import Derived.Deep.QuietTactic
import Derived.BigQuiet
import Derived.Test.YtodbbfgkclkpgaaGreatDoorRR8
import Derived.Test.YtodbbfgkclkpgaaGreatDoorRR22
import Derived.Test.YtodbbfgkclkpgaaGreatDoorRR5
import Derived.Deep.RegionHeld3
import Derived.Test.YtodbbfgkclkpgaaGreatDoorRR2
import Derived.HandedShaped
import Derived.PinnedBridge
import Derived.Lay
import Derived.SevenTiedAt
import Derived.Lib.LaidTab
import Derived.Lib.LaidU8
namespace Go.Proofs.YtodbbfgkclkpgaaGreatDoor
open Go Go.RowKit
set_option maxHeartbeats 1000000 in
set_option maxRecDepth 100000 in
theorem lawSameTexts_calls (v1 v2 : Value) (fs : List ByteArray) (w : World) (h1 : StrsAt w v1 fs) (h2 : StrsAt w v2 fs) : Calls Tryz.prog 102 #[v1, v2] w (BoolIs true w) := by
  obtain ⟨A1, c1, hv1, hc1, hm, hr1⟩ := h1.open
  obtain ⟨A2, c2, hv2, hc2, _, hr2⟩ := h2.open
  subst hv1
  subst hv2
  obtain ⟨len, hlen⟩ : ∃ len, fs.length = len := ⟨_, rfl⟩
  have HL := Lib.hid hlen
  have HR1 := Lib.hid hr1
  have HR2 := Lib.hid hr2
  rw [hlen] at hc1 hc2 hm ⊢
  clear hlen hr1 hr2 h1 h2
  have hne0 : ((len : Int) == (len : Int)) = true := by simp
  go_enter Tryz.func102, Tryz.ntmps102
  go_wp2_with fail
  go_loopw [5] (fun i wr => ∃ k : Nat, k ≤ len ∧ i = .int .i64 k ∧ Below w.heap.size w wr) (fun i _ => len - (intOf i).toNat)
  case atStart => exact ⟨0, Nat.zero_le _, rfl, Below.refl _ _⟩
  case round =>
    obtain ⟨k, hk, rfl, hB⟩ := hrel
    by_cases hlt : k < len
    · have hne : fs ≠ [] := by
        intro e
        have := HL.out
        rw [e] at this
        simp at this
        omega
      obtain ⟨f, ht⟩ : ∃ f, fs[k]? = some f := ⟨fs[k]'(by have := HL.out; omega), List.getElem?_eq_getElem _⟩
      obtain ⟨b1, off1, rfl, hi1⟩ := HR1.out hne
      obtain ⟨b2, off2, rfl, hi2⟩ := HR2.out hne
      have p0 := kept hB (hi1 k f ht)
      have q0 := kept hB (hi2 k f ht)
      clear hi1 hi2 hne ht
      have hk0 : (0 : Int) ≤ (k : Int) := by omega
      have hk1 : (k : Int) < (len : Int) := by omega
      go_wp2_with fail
      go_quiet (fail)
      all_goals
        go_wp2_with fail
        go_roundw
        case rel => exact ⟨k + 1, by omega, by go_num, hB.trans (below_drewN _ _ _)⟩
        case measure => simp [intOf]; omega
    · obtain rfl : k = len := by omega
      go_wp2_with fail
      go_ret
      exact ⟨rfl, hB⟩

set_option maxHeartbeats 4000000 in
set_option maxRecDepth 100000 in
theorem lawSamePack_calls (x y : Value) (p : Pv) (w : World) (hx : PackAt w x p) (hy : PackAt w y p) : Calls Tryz.prog 27 #[x, y] w (BoolIs true w) := by
  obtain ⟨v1, v2, v3, v4, v5, v6, v7, v8, v9, rfl, h1, h2, h3, h4, h5, h6, h7, h8, h9, hlo, hhi⟩ := hx
  obtain ⟨u1, u2, u3, u4, u5, u6, u7, u8, u9, rfl, k1, k2, k3, k4, k5, k6, k7, k8, k9, _, _⟩ := hy
  obtain ⟨len, hlen⟩ : ∃ len, p.fi.length = len := ⟨_, rfl⟩
  obtain ⟨A9, i9, rfl, hc1, hm1, hr1⟩ := h9.open
  obtain ⟨C9, j9, rfl, hc2, hm2, hr2⟩ := k9.open
  rw [hlen] at hc1 hm1 hc2 hm2 ⊢
  have D0 := Lib.hid (fun (W : World) (hb : Below w.heap.size w W) => lawSameAsked_calls v1 u1 p.dep W (h1.below hb) (k1.below hb))
  have D1 := Lib.hid (fun (W : World) (hb : Below w.heap.size w W) => lawSameAsked_calls v2 u2 p.ahead W (h2.below hb) (k2.below hb))
  have D2 := Lib.hid (fun (W : World) (hb : Below w.heap.size w W) => lawSameTerms_calls v3 u3 p.ag W (h3.below hb) (k3.below hb))
  have D3 := Lib.hid (fun (W : World) (hb : Below w.heap.size w W) => lawSameTerms_calls v4 u4 p.br W (h4.below hb) (k4.below hb))
  have D4 := Lib.hid (fun (W : World) (hb : Below w.heap.size w W) => lawSameTerms_calls v5 u5 p.re W (h5.below hb) (k5.below hb))
  have D5 := Lib.hid (fun (W : World) (hb : Below w.heap.size w W) => lawSameTerms_calls v6 u6 p.pr W (h6.below hb) (k6.below hb))
  have D6 := Lib.hid (fun (W : World) (hb : Below w.heap.size w W) => lawSameTexts_calls v7 u7 p.se W (h7.below hb) (k7.below hb))
  have D7 := Lib.hid (fun (W : World) (hb : Below w.heap.size w W) => lawSameTexts_calls v8 u8 p.li W (h8.below hb) (k8.below hb))
  have X := packBox_new w p v1 v2 v3 v4 v5 v6 v7 v8 (.slice A9 len i9) 29
  have Y := packBox_new (w.alloc (.cells #[.string p.n, .int .i64 p.e, .string p.u, .string p.r, v1, v2, v3, v4, v5, v6, v7, v8, .slice A9 len i9] 29)) p u1 u2 u3 u4 u5 u6 u7 u8 (.slice C9 len j9) 29
  have hb1 := below_alloc w (.cells #[.string p.n, .int .i64 p.e, .string p.u, .string p.r, v1, v2, v3, v4, v5, v6, v7, v8, .slice A9 len i9] 29)
  have hb2 := below_alloc (w.alloc (.cells #[.string p.n, .int .i64 p.e, .string p.u, .string p.r, v1, v2, v3, v4, v5, v6, v7, v8, .slice A9 len i9] 29)) (.cells #[.string p.n, .int .i64 p.e, .string p.u, .string p.r, u1, u2, u3, u4, u5, u6, u7, u8, .slice C9 len j9] 29)
  have X2 := X.below hb2
  have hB := step_below hb1 hb2
  rw [World.size_alloc] at Y
  have HL := Lib.hid hlen
  have HR1 := Lib.hid hr1
  have HR2 := Lib.hid hr2
  clear hlen hr1 hr2 h1 h2 h3 h4 h5 h6 h7 h8 h9 k1 k2 k3 k4 k5 k6 k7 k8 k9 X hb1 hb2
  obtain ⟨c0, c1, c2, c3, c4, c5, c6, c7, c8, c9, c10, c11, c12⟩ := id X2
  obtain ⟨d0, d1, d2, d3, d4, d5, d6, d7, d8, d9, d10, d11, d12⟩ := id Y
  have hne0 : ((len : Int) == (len : Int)) = true := by simp
  go_enter Tryz.func27, Tryz.ntmps27
  go_wp2_with fail
  refine (D0.out _ hB).mono ?_
  rintro E y0 ⟨rfl, hb⟩
  have X3 := X2.below hb
  have Y3 := Y.below hb
  have hB0 := step_below hB hb
  clear hB c0 c1 c2 c3 c4 c5 c6 c7 c8 c9 c10 c11 c12 d0 d1 d2 d3 d4 d5 d6 d7 d8 d9 d10 d11 d12 hb D0 X2 Y
  have hB := hB0
  clear hB0
  obtain ⟨m, hm⟩ : ∃ m, w.heap.size = m := ⟨_, rfl⟩
  rw [hm] at X3 Y3
  (try rw [hm])
  clear hm
  obtain ⟨c0, c1, c2, c3, c4, c5, c6, c7, c8, c9, c10, c11, c12⟩ := id X3
  obtain ⟨d0, d1, d2, d3, d4, d5, d6, d7, d8, d9, d10, d11, d12⟩ := id Y3
  go_wp2_with fail
  refine (D1.out _ hB).mono ?_
  rintro E y1 ⟨rfl, hb⟩
  have X4 := X3.below hb
  have Y4 := Y3.below hb
  have hB1 := step_below hB hb
  clear hB c0 c1 c2 c3 c4 c5 c6 c7 c8 c9 c10 c11 c12 d0 d1 d2 d3 d4 d5 d6 d7 d8 d9 d10 d11 d12 hb D1 X3 Y3
  have hB := hB1
  clear hB1
  obtain ⟨c0, c1, c2, c3, c4, c5, c6, c7, c8, c9, c10, c11, c12⟩ := id X4
  obtain ⟨d0, d1, d2, d3, d4, d5, d6, d7, d8, d9, d10, d11, d12⟩ := id Y4
  go_wp2_with fail
  refine (D2.out _ hB).mono ?_
  rintro E y2 ⟨rfl, hb⟩
  have X5 := X4.below hb
  have Y5 := Y4.below hb
  have hB2 := step_below hB hb
  clear hB c0 c1 c2 c3 c4 c5 c6 c7 c8 c9 c10 c11 c12 d0 d1 d2 d3 d4 d5 d6 d7 d8 d9 d10 d11 d12 hb D2 X4 Y4
  have hB := hB2
  clear hB2
  obtain ⟨c0, c1, c2, c3, c4, c5, c6, c7, c8, c9, c10, c11, c12⟩ := id X5
  obtain ⟨d0, d1, d2, d3, d4, d5, d6, d7, d8, d9, d10, d11, d12⟩ := id Y5
  go_wp2_with fail
  refine (D3.out _ hB).mono ?_
  rintro E y3 ⟨rfl, hb⟩
  have X6 := X5.below hb
  have Y6 := Y5.below hb
  have hB3 := step_below hB hb
  clear hB c0 c1 c2 c3 c4 c5 c6 c7 c8 c9 c10 c11 c12 d0 d1 d2 d3 d4 d5 d6 d7 d8 d9 d10 d11 d12 hb D3 X5 Y5
  have hB := hB3
  clear hB3
  obtain ⟨c0, c1, c2, c3, c4, c5, c6, c7, c8, c9, c10, c11, c12⟩ := id X6
  obtain ⟨d0, d1, d2, d3, d4, d5, d6, d7, d8, d9, d10, d11, d12⟩ := id Y6
  go_wp2_with fail
  refine (D4.out _ hB).mono ?_
  rintro E y4 ⟨rfl, hb⟩
  have X7 := X6.below hb
  have Y7 := Y6.below hb
  have hB4 := step_below hB hb
  clear hB c0 c1 c2 c3 c4 c5 c6 c7 c8 c9 c10 c11 c12 d0 d1 d2 d3 d4 d5 d6 d7 d8 d9 d10 d11 d12 hb D4 X6 Y6
  have hB := hB4
  clear hB4
  obtain ⟨c0, c1, c2, c3, c4, c5, c6, c7, c8, c9, c10, c11, c12⟩ := id X7
  obtain ⟨d0, d1, d2, d3, d4, d5, d6, d7, d8, d9, d10, d11, d12⟩ := id Y7
  go_wp2_with fail
  refine (D5.out _ hB).mono ?_
  rintro E y5 ⟨rfl, hb⟩
  have X8 := X7.below hb
  have Y8 := Y7.below hb
  have hB5 := step_below hB hb
  clear hB c0 c1 c2 c3 c4 c5 c6 c7 c8 c9 c10 c11 c12 d0 d1 d2 d3 d4 d5 d6 d7 d8 d9 d10 d11 d12 hb D5 X7 Y7
  have hB := hB5
  clear hB5
  obtain ⟨c0, c1, c2, c3, c4, c5, c6, c7, c8, c9, c10, c11, c12⟩ := id X8
  obtain ⟨d0, d1, d2, d3, d4, d5, d6, d7, d8, d9, d10, d11, d12⟩ := id Y8
  go_wp2_with fail
  refine (D6.out _ hB).mono ?_
  rintro E y6 ⟨rfl, hb⟩
  have X9 := X8.below hb
  have Y9 := Y8.below hb
  have hB6 := step_below hB hb
  clear hB c0 c1 c2 c3 c4 c5 c6 c7 c8 c9 c10 c11 c12 d0 d1 d2 d3 d4 d5 d6 d7 d8 d9 d10 d11 d12 hb D6 X8 Y8
  have hB := hB6
  clear hB6
  obtain ⟨c0, c1, c2, c3, c4, c5, c6, c7, c8, c9, c10, c11, c12⟩ := id X9
  obtain ⟨d0, d1, d2, d3, d4, d5, d6, d7, d8, d9, d10, d11, d12⟩ := id Y9
  go_wp2_with fail
  refine (D7.out _ hB).mono ?_
  rintro E y7 ⟨rfl, hb⟩
  have X10 := X9.below hb
  have Y10 := Y9.below hb
  have hB7 := step_below hB hb
  clear hB c0 c1 c2 c3 c4 c5 c6 c7 c8 c9 c10 c11 c12 d0 d1 d2 d3 d4 d5 d6 d7 d8 d9 d10 d11 d12 hb D7 X9 Y9
  have hB := hB7
  clear hB7
  obtain ⟨c0, c1, c2, c3, c4, c5, c6, c7, c8, c9, c10, c11, c12⟩ := id X10
  obtain ⟨d0, d1, d2, d3, d4, d5, d6, d7, d8, d9, d10, d11, d12⟩ := id Y10
  have HX := Lib.hid X10
  have HY := Lib.hid Y10
  have HB := Lib.hid hB
  clear X10 Y10 hB
  go_wp2_with fail
  clear c0 c1 c2 c3 c4 c5 c6 c7 c8 c9 c10 c11 c12 d0 d1 d2 d3 d4 d5 d6 d7 d8 d9 d10 d11 d12
  go_loopw [5] (fun i wr => ∃ k : Nat, k ≤ len ∧ i = .int .i64 k ∧ Below y7.heap.size y7 wr) (fun i _ => len - (intOf i).toNat)
  case atStart => exact ⟨0, Nat.zero_le _, rfl, Below.refl _ _⟩
  case round =>
    obtain ⟨k, hk, rfl, hz⟩ := hrel
    have c12 := kept hz HX.out.c12
    have d12 := kept hz HY.out.c12
    by_cases hlt : k < len
    · have hne : p.fi ≠ [] := by
        intro e
        have := HL.out
        rw [e] at this
        simp at this
        omega
      obtain ⟨f, ht⟩ : ∃ f, p.fi[k]? = some f := ⟨p.fi[k]'(by have := HL.out; omega), List.getElem?_eq_getElem _⟩
      obtain ⟨b1, off1, rfl, hi1⟩ := HR1.out hne
      obtain ⟨b2, off2, rfl, hi2⟩ := HR2.out hne
      obtain ⟨p0, p1⟩ := hi1 k f ht
      obtain ⟨q0, q1⟩ := hi2 k f ht
      have hBw := step_below HB.out hz
      replace p0 := kept hBw p0
      replace p1 := kept hBw p1
      replace q0 := kept hBw q0
      replace q1 := kept hBw q1
      clear hi1 hi2 hne ht hBw
      obtain ⟨fn, fu⟩ := f
      dsimp only at p0 p1 q0 q1
      have hk0 : (0 : Int) ≤ (k : Int) := by omega
      have hk1 : (k : Int) < (len : Int) := by omega
      go_wp2_with fail
      go_quiet (fail)
      all_goals
        go_wp2_with fail
        go_roundw
        case rel => exact ⟨k + 1, by omega, by go_num, hz.trans (below_drewN _ _ _)⟩
        case measure => simp [intOf]; omega
    · obtain rfl : k = len := by omega
      go_wp2_with fail
      go_ret
      exact ⟨rfl, step_below HB.out hz⟩
end Go.Proofs.YtodbbfgkclkpgaaGreatDoor

namespace Go.Proofs.YtodbbfgkclkpgaaGreatDoor
open Go Go.RowKit

theorem slc_sl {α : Type} {cs : α → List Value} {w : World} {v : Value} {xs : List α} (h : SlC cs w v xs) : ∃ A n c, v = .slice A n c := by
  obtain ⟨A, c, hv, _⟩ := h
  exact ⟨A, _, c, hv⟩
def fieldOkB (f : Fv) : Bool := decide (f.n.size ≤ 100) && decide (f.v.size ≤ 400)
def fieldsB (fs : List Fv) : Bool := decide (fs.length ≤ 60) && fs.all fieldOkB
set_option maxHeartbeats 1000000 in
set_option maxRecDepth 100000 in
theorem lawFields_calls (v : Value) (fs : List Fv) (w : World) (h : FieldsAt w v fs) : Calls Tryz.prog 24 #[v] w (BoolIs (fieldsB fs) w) := by
  obtain ⟨A, c, hv, hc, hm, hr⟩ := h.open
  subst hv
  obtain ⟨len, hlen⟩ : ∃ len, fs.length = len := ⟨_, rfl⟩
  have HL := Lib.hid hlen
  have HR := Lib.hid hr
  rw [hlen] at hc hm ⊢
  clear hlen hr h
  by_cases h40 : 60 < len
  · have F := Lib.hid (show fieldsB fs = false by unfold fieldsB; rw [HL.out]; simp; omega)
    go_enter Tryz.func24, Tryz.ntmps24
    go_wp2
    go_ret
    exact ⟨ret_bool F.out.symm, Below.refl _ _⟩
  · have F := Lib.hid (show fieldsB fs = fs.all fieldOkB by unfold fieldsB; rw [HL.out, decide_eq_true (by omega)]; rfl)
    go_enter Tryz.func24, Tryz.ntmps24
    go_wp2_with fail
    go_loopw [3] (fun i wr => ∃ k : Nat, k ≤ len ∧ i = .int .i64 k ∧ Hid ((fs.take k).all fieldOkB = true) ∧ Below w.heap.size w wr) (fun i _ => len - (intOf i).toNat)
    case atStart => exact ⟨0, Nat.zero_le _, rfl, rfl, Below.refl _ _⟩
    case round =>
      obtain ⟨k, hk, rfl, hall, hB⟩ := hrel
      by_cases hlt : k < len
      · have hne : fs ≠ [] := by
          intro e
          have := HL.out
          rw [e] at this
          simp at this
          omega
        obtain ⟨f, ht⟩ : ∃ f, fs[k]? = some f := ⟨fs[k]'(by have := HL.out; omega), List.getElem?_eq_getElem _⟩
        obtain ⟨b, off, rfl, hi⟩ := HR.out hne
        obtain ⟨f0, f1⟩ := hi k f ht
        replace f0 := kept hB f0
        replace f1 := kept hB f1
        have HT := Lib.hid ht
        clear hi hne ht
        by_cases hn : 100 < f.n.size
        · have HG := Lib.hid (show fieldsB fs = false by rw [F.out, all_stop HT.out (by unfold fieldOkB; rw [decide_eq_false (by omega)]; rfl)])
          go_wp2_with fail
          go_ret
          exact ⟨ret_bool HG.out.symm, hB⟩
        by_cases hd : 400 < f.v.size
        · have HG := Lib.hid (show fieldsB fs = false by rw [F.out, all_stop HT.out (by unfold fieldOkB; rw [decide_eq_false (by omega : ¬ f.v.size ≤ 400), Bool.and_false])])
          go_wp2_with fail
          go_ret
          exact ⟨ret_bool HG.out.symm, hB⟩
        go_wp2_with fail
        go_roundw
        case rel => exact ⟨k + 1, by omega, by go_num, Lib.hid (all_take_succ hall.out HT.out (by unfold fieldOkB; rw [decide_eq_true (by omega), decide_eq_true (by omega)]; rfl)), hB⟩
        case measure => simp [intOf]; omega
      · obtain rfl : k = len := by omega
        go_wp2_with fail
        go_ret
        exact ⟨ret_bool (by rw [F.out]; have := hall.out; rw [← HL.out] at this; exact (all_done this).symm), hB⟩

set_option maxHeartbeats 4000000 in
set_option maxRecDepth 100000 in
theorem reads2_calls (lv : Value) (fs : List Fv) (w : World) (hE : Env w) (hG : EnvE w) (hS : EnvS w) (h : FieldsAt w lv fs) : Calls Tryz.prog 5 #[lv] w (BoolIs true w) := by
  have C0 := Lib.hid (lawFields_calls lv fs w h)
  cases hok : fieldsB fs with
  | false =>
    rw [hok] at C0
    obtain ⟨A0, n0, k0, rfl⟩ : ∃ A n c, lv = .slice A n c := by obtain ⟨A, c, hv, _⟩ := h; exact ⟨A, _, c, hv⟩
    clear hE hG hS h hok
    go_enter Tryz.func5, Tryz.ntmps5
    go_wp2_with fail
    refine C0.out.mono ?_
    rintro E w1 ⟨rfl, hb⟩
    go_wp2_with fail
    go_ret
    exact ⟨rfl, hb⟩
  | true =>
  rw [hok] at C0
  have hs : ∀ f ∈ fs, f.n.size ≤ 6000 ∧ f.v.size ≤ 6000 := by
    unfold fieldsB at hok
    rw [Bool.and_eq_true, List.all_eq_true] at hok
    intro f hf
    have := hok.2 f hf
    unfold fieldOkB at this
    rw [Bool.and_eq_true, decide_eq_true_eq, decide_eq_true_eq] at this
    omega
  have C1 := Lib.hid (fun (W : World) (hb : Below w.heap.size w W) => refRead_calls lv fs W (hE.below hb) (h.below hb) hs)
  have C2 := Lib.hid (fun (W : World) (hb : Below w.heap.size w W) => read_calls lv fs W (hE.below hb) (hS.below hb) (h.below hb) hs)
  obtain ⟨n, hn⟩ : ∃ n, rdE fs = n := ⟨_, rfl⟩
  have C3 := Lib.hid (fun (W : World) (hb : Below w.heap.size w W) => bare_calls n n W (hG.below hb))
  obtain ⟨p, hp⟩ : ∃ p, rdV fs = p := ⟨_, rfl⟩
  unfold RefReadIs at C1
  unfold ReadIs at C2
  rw [hn, hp] at C1 C2
  obtain ⟨ev, hev⟩ : ∃ ev, errV n = ev := ⟨_, rfl⟩
  rw [hev] at C2 C3
  obtain ⟨A0, n0, k0, rfl⟩ : ∃ A n c, lv = .slice A n c := by obtain ⟨A, c, hv, _⟩ := h; exact ⟨A, _, c, hv⟩
  clear hE hG hS h hok hs hn hp hev
  go_enter Tryz.func5, Tryz.ntmps5
  go_wp2_with fail
  refine C0.out.mono ?_
  rintro E w1 ⟨rfl, hb0⟩
  go_wp2_with fail
  refine (C1.out w1 hb0).mono ?_
  rintro E w2 ⟨x, rfl, hx, hb⟩
  obtain ⟨u1, u2, u3, u4, u5, u6, u7, u8, u9, rfl, hxr⟩ := id hx
  obtain ⟨E1, e1, f1, rfl⟩ := ask_slice hxr.1
  obtain ⟨E2, e2, f2, rfl⟩ := ask_slice hxr.2.1
  obtain ⟨E3, e3, f3, rfl⟩ := term_slice hxr.2.2.1
  obtain ⟨E4, e4, f4, rfl⟩ := term_slice hxr.2.2.2.1
  obtain ⟨E5, e5, f5, rfl⟩ := term_slice hxr.2.2.2.2.1
  obtain ⟨E6, e6, f6, rfl⟩ := term_slice hxr.2.2.2.2.2.1
  obtain ⟨E7, e7, f7, rfl⟩ := slc_sl hxr.2.2.2.2.2.2.1
  obtain ⟨E8, e8, f8, rfl⟩ := slc_sl hxr.2.2.2.2.2.2.2.1
  obtain ⟨E9, e9, f9, rfl⟩ := slc_sl hxr.2.2.2.2.2.2.2.2.1
  have HX2 := Lib.hid hx
  have HB2 := Lib.hid (step_below hb0 hb)
  have hba := below_alloc w2 (.cells #[.string p.n, .int .i64 p.e, .string p.u, .string p.r, (.slice E1 e1 f1), (.slice E2 e2 f2), (.slice E3 e3 f3), (.slice E4 e4 f4), (.slice E5 e5 f5), (.slice E6 e6 f6), (.slice E7 e7 f7), (.slice E8 e8 f8), (.slice E9 e9 f9)] 29)
  have HB3 := Lib.hid (step_below HB2.out hba)
  have HBA := Lib.hid hba
  have BX := Lib.hid (packBox_new w2 p (.slice E1 e1 f1) (.slice E2 e2 f2) (.slice E3 e3 f3) (.slice E4 e4 f4) (.slice E5 e5 f5) (.slice E6 e6 f6) (.slice E7 e7 f7) (.slice E8 e8 f8) (.slice E9 e9 f9) 29)
  have D2 := Lib.hid (C2.out _ HB3.out)
  clear C0 C1 C2 hx hxr hb hb0 hba
  go_wp2_with fail
  refine D2.out.mono ?_
  rintro E w4 ⟨y, rfl, hy, hb⟩
  obtain ⟨v1, v2, v3, v4, v5, v6, v7, v8, v9, rfl, hyr⟩ := id hy
  obtain ⟨F1, g1, h1, rfl⟩ := ask_slice hyr.1
  obtain ⟨F2, g2, h2, rfl⟩ := ask_slice hyr.2.1
  obtain ⟨F3, g3, h3, rfl⟩ := term_slice hyr.2.2.1
  obtain ⟨F4, g4, h4, rfl⟩ := term_slice hyr.2.2.2.1
  obtain ⟨F5, g5, h5, rfl⟩ := term_slice hyr.2.2.2.2.1
  obtain ⟨F6, g6, h6, rfl⟩ := term_slice hyr.2.2.2.2.2.1
  obtain ⟨F7, g7, h7, rfl⟩ := slc_sl hyr.2.2.2.2.2.2.1
  obtain ⟨F8, g8, h8, rfl⟩ := slc_sl hyr.2.2.2.2.2.2.2.1
  obtain ⟨F9, g9, h9, rfl⟩ := slc_sl hyr.2.2.2.2.2.2.2.2.1
  have hbb := below_alloc w4 (.cells #[.string p.n, .int .i64 p.e, .string p.u, .string p.r, (.slice F1 g1 h1), (.slice F2 g2 h2), (.slice F3 g3 h3), (.slice F4 g4 h4), (.slice F5 g5 h5), (.slice F6 g6 h6), (.slice F7 g7 h7), (.slice F8 g8 h8), (.slice F9 g9 h9)] 29)
  have BX4 := (BX.out.below hb).below hbb
  have BY4 := packBox_new w4 p (.slice F1 g1 h1) (.slice F2 g2 h2) (.slice F3 g3 h3) (.slice F4 g4 h4) (.slice F5 g5 h5) (.slice F6 g6 h6) (.slice F7 g7 h7) (.slice F8 g8 h8) (.slice F9 g9 h9) 29
  have HX5 := Lib.hid (((HX2.out.below HBA.out).below hb).below hbb)
  have HY5 := Lib.hid (hy.below hbb)
  have HB5 := Lib.hid (step_below (step_below HB3.out hb) hbb)
  clear BX HX2 hy hyr D2 hb HBA HB2 HB3
  obtain ⟨m2, hm2⟩ : ∃ m2, w2.heap.size = m2 := ⟨_, rfl⟩
  obtain ⟨m4, hm4⟩ : ∃ m4, w4.heap.size = m4 := ⟨_, rfl⟩
  rw [hm2] at BX4
  rw [hm4] at BY4
  go_upto_region 5 with fail
  (try rw [hm2])
  (try rw [hm4])
  obtain ⟨W5, hW5⟩ : ∃ z, z = w4.alloc (.cells #[.string p.n, .int .i64 p.e, .string p.u, .string p.r, (.slice F1 g1 h1), (.slice F2 g2 h2), (.slice F3 g3 h3), (.slice F4 g4 h4), (.slice F5 g5 h5), (.slice F6 g6 h6), (.slice F7 g7 h7), (.slice F8 g8 h8), (.slice F9 g9 h9)] 29) := ⟨_, rfl⟩
  rw [← hW5] at BX4 BY4 HX5 HY5 HB5
  (try rw [← hW5])
  clear hm2 hm4 hW5 hbb
  have G1 : ∀ W : World, Below W5.heap.size W5 W → Calls Tryz.prog 14 #[ev, .int .i64 n] W (fun E W' => E = .returned (.bool true) ∧ Below W.heap.size W W') := fun W hb => (C3.out W (step_below HB5.out hb)).mono fun E W' h => ⟨by rw [h.1]; exact ret_bool (by simp), h.2⟩
  have G2 : ∀ W : World, Below W5.heap.size W5 W → Calls Tryz.prog 27 #[.agg #[.string p.n, .int .i64 p.e, .string p.u, .string p.r, (.slice F1 g1 h1), (.slice F2 g2 h2), (.slice F3 g3 h3), (.slice F4 g4 h4), (.slice F5 g5 h5), (.slice F6 g6 h6), (.slice F7 g7 h7), (.slice F8 g8 h8), (.slice F9 g9 h9)], .agg #[.string p.n, .int .i64 p.e, .string p.u, .string p.r, (.slice E1 e1 f1), (.slice E2 e2 f2), (.slice E3 e3 f3), (.slice E4 e4 f4), (.slice E5 e5 f5), (.slice E6 e6 f6), (.slice E7 e7 f7), (.slice E8 e8 f8), (.slice E9 e9 f9)]] W (fun E W' => E = .returned (.bool true) ∧ Below W.heap.size W W') := fun W hb => lawSamePack_calls _ _ p W (HY5.out.below hb) (HX5.out.below hb)
  have HG1 := Lib.hid G1
  have HG2 := Lib.hid G2
  clear G1 G2 C3 HX5 HY5
  go_wp2_with fail
  refine (HG1.out W5 (Below.refl _ _)).mono ?_
  rintro E w6 ⟨rfl, hb⟩
  have HB6 := Lib.hid hb
  obtain ⟨c0, c1, c2, c3, c4, c5, c6, c7, c8, c9, c10, c11, c12⟩ := BY4.below hb
  obtain ⟨d0, d1, d2, d3, d4, d5, d6, d7, d8, d9, d10, d11, d12⟩ := BX4.below hb
  clear hb BX4 BY4
  go_wp2_with fail
  refine (HG2.out w6 HB6.out).mono ?_
  rintro E w7 ⟨rfl, hb⟩
  have HB7 := Lib.hid (step_below HB5.out (step_below HB6.out hb))
  clear c0 c1 c2 c3 c4 c5 c6 c7 c8 c9 c10 c11 c12 d0 d1 d2 d3 d4 d5 d6 d7 d8 d9 d10 d11 d12 hb
  go_wp2_with fail
  go_ret
  exact ⟨rfl, HB7.out⟩
end Go.Proofs.YtodbbfgkclkpgaaGreatDoor

namespace Go.Proofs.YtodbbfgkclkpgaaGreatDoor
open Go.RowKit Go.ChangeShapes Go.WideShapes Go.ChangeAt Go.Joins
section
variable {H : Type} {enc : TypeId × Value → H}

/-- The plain wrap with both: what the row lists, and the world's shape. -/
theorem returnsInHanded_listed_shaped {a : Assume} {C : Checked} {os : Os} {f : FuncId} {fn : Func} {s : ChangeSpec} {conds : List PathCond} {apart fresh handsOn again : Bool} {X : World → Array Value → Prop}
    (hX : ∀ (w w' : World) (args : Array Value), w.heap = w'.heap → X w args → X w' args)
    (own : ownKnob C.prog.godebug = none) (started : os.Started) (noInit : C.prog.inits.idxOf? f = none) (hfn : C.prog.funcs[f]? = some fn)
    (witness : ∃ (w : World) (tape : Tape) (i : Input), w.os = os ∧ (w.forCall tape i).Shaped C.prog ∧ i.vars = [] ∧ Input.okWide C.prog (w.forCall tape i) .any w.heap.size f i ∧
      ((s.pre enc C.prog fn conds apart (w.forCall tape i).memory i.args ∧ X (w.forCall tape i).memory i.args) ∧ sizedMet enc C.prog fn (OpenSpec.ofChange s) apart (w.forCall tape i).memory i.args) ∧ a.holds C.prog (lone (Frame.enter C.prog f i.args .normal) [] (w.forCall tape i)))
    (contract : ∀ (W : World) (base : Nat) (args : Array Value) (ds gs : List (DataW H)) (before : List MemPlace),
      (∀ (j : Nat) t v, fn.params[j]? = some t → args[j]? = some v → Value.okWide C.prog W .any base t v) →
      DataW.Whole enc C.prog fn.params.toList s.vars apart W args.toList ds gs before →
      conds.all (PathCond.test C.prog ⟨fn.params.toList, ds, s.plain.varTypes C.prog, gs⟩) = true →
      (DataW.weightsEach C.prog (fn.params.toList ++ s.plain.varTypes C.prog) (ds ++ gs)).all (· ≤ reachBytes) = true → X W args → W.ShapedOpen C.prog →
      a.holds C.prog (lone (Frame.enter C.prog f args .normal) [] W) →
      Calls C.prog f args W fun e W' => ∃ v, e = .returned v ∧ s.post enc C.prog fn apart fresh handsOn again W args v W') :
    ReturnsInHanded a C os f .any (fun w args => (s.pre enc C.prog fn conds apart w args ∧ X w args) ∧ sizedMet enc C.prog fn (OpenSpec.ofChange s) apart w args) (s.post enc C.prog fn apart fresh handsOn again) := by
  refine returnsInHanded_of_calls own started noInit witness ?_
  intro w tape i _ hsh _ hok hpre hholds
  obtain ⟨_, _, _, fn', hfn', _, _, _, _, hval⟩ := hok
  have e : fn' = fn := Option.some.inj (hfn'.symm.trans hfn)
  subst e
  obtain ⟨⟨⟨ds, gs, before, hw, hc⟩, hx⟩, hz⟩ := hpre
  have hw' := DataW.Whole.of_heap (w' := w.forCall tape i) (by rfl) hw
  refine (contract (w.forCall tape i) w.heap.size i.args ds gs before hval hw' hc (hz.weights hw) (hX _ _ _ (by rfl) hx) hsh hholds).mono fun e W' ⟨v, he, hp⟩ => ?_
  subst he
  exact ChangeSpec.post_blind hp

theorem below_trodAll {P : Program} (hl : laidOutB P = true) {W W' : World} (hb : Below W.heap.size W W') :
    ∀ {ts : List TypeId} {vs : List Value} {ds : List (DataW H)} {ps : List MemPlace}, (ts.all fun t => P.readableRec t && decide (t < P.types.size)) = true →
      DataW.TrodAll enc P W 0 (fun _ => true) true ts vs ds ps → (∀ x ∈ ps, x.block < W.heap.size) → DataW.TrodAll enc P W' 0 (fun b => decide (b < W.heap.size)) true ts vs ds ps
  | [], vs, ds, ps, _, h, _ => by
    obtain ⟨rfl, rfl, rfl⟩ := trodAll_nil h
    exact trodAll_mk0
  | t :: ts, vs, ds, ps, hr, h, hlt => by
    obtain ⟨v, vs', d, ds', p, q, rfl, rfl, rfl, h1, h2⟩ := trodAll_cons h
    rw [List.all_cons, Bool.and_eq_true, Bool.and_eq_true] at hr
    exact trodAll_cons_mk (Below.trod hl hr.1.1 (by simpa using hr.1.2) h1 hb (fun x hx => hlt x (List.mem_append_left _ hx))) (below_trodAll hl hb hr.2 h2 (fun x hx => hlt x (List.mem_append_right _ hx)))

theorem tabIs_of_reads {P : Program} {W : World} {name : String} {k : IntKind} {zs : List Int} {d : DataW Unit} {g : Nat} {t e : TypeId} {n : Nat} (hd : d = Lib.tabData k zs)
    (hg : P.globalNamed name = some g) (hty : (P.globals[g]?).map (·.type) = some t) (ht : P.underlying t = some (.array n e)) (he : P.underlying e = some (.int k)) (hce : P.cellsOf e = 1) (hct : P.cellsOf t = n)
    (h : Lib.VarReads P W name d) : Lib.TabIs P W name k zs := by
  subst hd
  obtain ⟨g', t', cs, fuel, p, hg', ht', hvar, hd⟩ := h
  obtain rfl := Option.some.inj (hg.symm.trans hg')
  obtain rfl := Option.some.inj (hty.symm.trans ht')
  unfold Lib.TabIs
  rw [hvar, ← Lib.cells_of_tab ht he hce hct hd]
end

theorem own : ownKnob Tryz.prog.godebug = none := by kernel_rfl
theorem laidOut : laidOutB Tryz.prog = true := by kernel_rfl
end Go.Proofs.YtodbbfgkclkpgaaGreatDoor
