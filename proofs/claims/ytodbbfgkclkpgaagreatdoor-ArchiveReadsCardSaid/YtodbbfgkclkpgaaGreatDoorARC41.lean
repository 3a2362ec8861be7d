/- law.flat, law.terms: is what is asked for short enough to be held. · law.sameTerms, law.sameAsked: of the same that was asked for they say so. · stevedorelaw.sameTexts, samePack: of the same they say so. · ArchiveReads: for all texts the call returns true: from the walks. · What the walks read of strconv's two errors, and of the reference's Fine, out of the row's list. · What the walks read of the reference's Fine, out of the row's list. · A row that lists the handle of errors.errorType besides plain tables: what it gives a walk, and a world that meets it. -/
import Derived.Test.YtodbbfgkclkpgaaGreatDoorARC8
import Derived.Deep.QuietTactic
import Derived.BigQuiet
import Derived.Deep.RegionHeld3
import Derived.Test.YtodbbfgkclkpgaaGreatDoorARC11
import Derived.Test.YtodbbfgkclkpgaaGreatDoorARC40
import Derived.Test.YtodbbfgkclkpgaaGreatDoorARC7
import Derived.Test.YtodbbfgkclkpgaaGreatDoorARC10
import Derived.Test.YtodbbfgkclkpgaaGreatDoorARC5
import Derived.Test.YtodbbfgkclkpgaaGreatDoorARC29
import Derived.Test.YtodbbfgkclkpgaaGreatDoorARC26
import Derived.LaidLaws
import Derived.Test.YtodbbfgkclkpgaaGreatDoorARC38
import Derived.ChangeSame
import Derived.LaidSub
import Derived.LaidHandle
namespace Go.Proofs.YtodbbfgkclkpgaaGreatDoor
open Go.RowKit

end Go.Proofs.YtodbbfgkclkpgaaGreatDoor

namespace Go.Proofs.YtodbbfgkclkpgaaGreatDoor
open Go.RowKit

set_option maxHeartbeats 1000000 in
set_option maxRecDepth 100000 in
theorem lawSameTerms_calls (v1 v2 : Value) (ts : List Tv) (w : World) (h1 : TermsAt w v1 ts) (h2 : TermsAt w v2 ts) : Calls Tryz.prog 101 #[v1, v2] w (BoolIs true w) := by
  obtain ⟨A1, c1, rfl, hc1, hm, hr1⟩ := h1
  obtain ⟨A2, c2, rfl, hc2, _, hr2⟩ := h2
  obtain ⟨len, hlen⟩ : ∃ len, ts.length = len := ⟨_, rfl⟩
  have HL := Lib.hid hlen
  have HR1 := Lib.hid hr1
  have HR2 := Lib.hid hr2
  rw [hlen] at hc1 hc2 hm ⊢
  clear hlen hr1 hr2
  have hne0 : ((len : Int) == (len : Int)) = true := by simp
  go_enter Tryz.func101, Tryz.ntmps101
  go_wp2_with fail
  go_loopw [5] (fun i wr => ∃ k : Nat, k ≤ len ∧ i = .int .i64 k ∧ Below w.heap.size w wr) (fun i _ => len - (intOf i).toNat)
  case atStart => exact ⟨0, Nat.zero_le _, rfl, Below.refl _ _⟩
  case round =>
    obtain ⟨k, hk, rfl, hB⟩ := hrel
    by_cases hlt : k < len
    · have hne : ts ≠ [] := by
        intro e
        have := HL.out
        rw [e] at this
        simp at this
        omega
      obtain ⟨t, ht⟩ : ∃ t, ts[k]? = some t := ⟨ts[k]'(by have := HL.out; omega), List.getElem?_eq_getElem _⟩
      obtain ⟨b1, off1, rfl, hi1⟩ := HR1.out hne
      obtain ⟨b2, off2, rfl, hi2⟩ := HR2.out hne
      have hT1 := (hi1 k t ht).1.below hB
      have hT2 := (hi2 k t ht).1.below hB
      clear hi1 hi2 hne ht
      obtain ⟨n, op, e, u, r⟩ := t
      obtain ⟨c0, c1', c2', c3, c4⟩ := hT1
      obtain ⟨d0, d1, d2, d3, d4⟩ := hT2
      dsimp only at c0 c1' c2' c3 c4 d0 d1 d2 d3 d4
      have hk0 : (0 : Int) ≤ (k : Int) := by omega
      have hk1 : (k : Int) < (len : Int) := by omega
      go_wp2_with fail
      go_quiet (fail)
      all_goals
        go_wp2_with fail
        go_roundw
        case rel => exact ⟨k + 1, by omega, by go_num, hB.trans (below_drewN _ _ _)⟩
        case measure => simp [intOf]; omega
    · obtain rfl : k = len := by omega
      go_wp2_with fail
      go_ret
      exact ⟨rfl, hB⟩

theorem two_go {w0 W W' : World} {p q : Addr} {x1 x2 : Value} (h : W.cell? p = some x1 ∧ W.cell? q = some x2 ∧ Below w0.heap.size w0 W) (hb : Below W.heap.size W W') : W'.cell? p = some x1 ∧ W'.cell? q = some x2 ∧ Below w0.heap.size w0 W' :=
  ⟨kept hb h.1, kept hb h.2.1, step_below h.2.2 hb⟩
theorem two_below {w0 W : World} {p q : Addr} {x1 x2 : Value} (h : W.cell? p = some x1 ∧ W.cell? q = some x2 ∧ Below w0.heap.size w0 W) : Below w0.heap.size w0 W := h.2.2

set_option maxHeartbeats 1000000 in
set_option maxRecDepth 100000 in
theorem lawSameAsked_calls (v1 v2 : Value) (L : List (List Tv)) (w : World) (h1 : AskedAt w v1 L) (h2 : AskedAt w v2 L) : Calls Tryz.prog 100 #[v1, v2] w (BoolIs true w) := by
  obtain ⟨A1, c1, rfl, hc1, hm, hr1⟩ := h1
  obtain ⟨A2, c2, rfl, hc2, _, hr2⟩ := h2
  obtain ⟨len, hlen⟩ : ∃ len, L.length = len := ⟨_, rfl⟩
  have HL := Lib.hid hlen
  have HR1 := Lib.hid hr1
  have HR2 := Lib.hid hr2
  rw [hlen] at hc1 hc2 hm ⊢
  clear hlen hr1 hr2
  have hne0 : ((len : Int) == (len : Int)) = true := by simp
  go_enter Tryz.func100, Tryz.ntmps100
  go_wp2_with fail
  go_loopw [5] (fun i wr => ∃ k : Nat, k ≤ len ∧ i = .int .i64 k ∧ Below w.heap.size w wr) (fun i _ => len - (intOf i).toNat)
  case atStart => exact ⟨0, Nat.zero_le _, rfl, Below.refl _ _⟩
  case round =>
    obtain ⟨k, hk, rfl, hB⟩ := hrel
    by_cases hlt : k < len
    · have hne : L ≠ [] := by
        intro e
        have := HL.out
        rw [e] at this
        simp at this
        omega
      obtain ⟨x, hx⟩ : ∃ x, L[k]? = some x := ⟨L[k]'(by have := HL.out; omega), List.getElem?_eq_getElem _⟩
      obtain ⟨b1, off1, rfl, hi1⟩ := HR1.out hne
      obtain ⟨b2, off2, rfl, hi2⟩ := HR2.out hne
      obtain ⟨x1, hc1', hT1⟩ := hi1 k x hx
      obtain ⟨x2, hc2', hT2⟩ := hi2 k x hx
      have e1 := kept hB hc1'
      have e2 := kept hB hc2'
      have HT1 := Lib.hid (hT1.below hB)
      have HT2 := Lib.hid (hT2.below hB)
      clear hi1 hi2 hne hx hc1' hc2' hT1 hT2
      have hk0 : (0 : Int) ≤ (k : Int) := by omega
      have hk1 : (k : Int) < (len : Int) := by omega
      have hS : wr.cell? ⟨b1, off1 + k, none⟩ = some x1 ∧ wr.cell? ⟨b2, off2 + k, none⟩ = some x2 ∧ Below wr.heap.size wr wr := ⟨e1, e2, Below.refl _ _⟩
      go_wp2_with fail
      go_region_held3 (fun W => W.cell? ⟨b1, off1 + k, none⟩ = some x1 ∧ W.cell? ⟨b2, off2 + k, none⟩ = some x2 ∧ Below wr.heap.size wr W)
        ((first | assumption | exact two_go (by assumption) hb | exact two_go hS (below_drew _) | exact two_go (by assumption) (below_drew _)))
        (first | (go_at_call 101; (with_reducible refine (lawSameTerms_calls x1 x2 x _ ?_ ?_).mono ?_); (exact HT1.out.below (two_below (by assumption))); (exact HT2.out.below (two_below (by assumption))); rintro E w' ⟨rfl, hb⟩))
      all_goals
        go_wp2_with fail
        go_roundw
        case rel => exact ⟨k + 1, by omega, by go_num, step_below hB (two_below (by assumption))⟩
        case measure => simp [intOf]; omega
    · obtain rfl : k = len := by omega
      go_wp2_with fail
      go_ret
      exact ⟨rfl, hB⟩
end Go.Proofs.YtodbbfgkclkpgaaGreatDoor

namespace Go.Proofs.YtodbbfgkclkpgaaGreatDoor
open Go Go.RowKit
set_option maxHeartbeats 1000000 in
set_option maxRecDepth 100000 in
theorem lawSameTexts_calls (v1 v2 : Value) (fs : List ByteArray) (w : World) (h1 : StrsAt w v1 fs) (h2 : StrsAt w v2 fs) : Calls Tryz.prog 102 #[v1, v2] w (BoolIs true w) := by
  obtain ⟨A1, c1, hv1, hc1, hm, hr1⟩ := h1.open
  obtain ⟨A2, c2, hv2, hc2, _, hr2⟩ := h2.open
  subst hv1
  subst hv2
  obtain ⟨len, hlen⟩ : ∃ len, fs.length = len := ⟨_, rfl⟩
  have HL := Lib.hid hlen
  have HR1 := Lib.hid hr1
  have HR2 := Lib.hid hr2
  rw [hlen] at hc1 hc2 hm ⊢
  clear hlen hr1 hr2 h1 h2
  have hne0 : ((len : Int) == (len : Int)) = true := by simp
  go_enter Tryz.func102, Tryz.ntmps102
  go_wp2_with fail
  go_loopw [5] (fun i wr => ∃ k : Nat, k ≤ len ∧ i = .int .i64 k ∧ Below w.heap.size w wr) (fun i _ => len - (intOf i).toNat)
  case atStart => exact ⟨0, Nat.zero_le _, rfl, Below.refl _ _⟩
  case round =>
    obtain ⟨k, hk, rfl, hB⟩ := hrel
    by_cases hlt : k < len
    · have hne : fs ≠ [] := by
        intro e
        have := HL.out
        rw [e] at this
        simp at this
        omega
      obtain ⟨f, ht⟩ : ∃ f, fs[k]? = some f := ⟨fs[k]'(by have := HL.out; omega), List.getElem?_eq_getElem _⟩
      obtain ⟨b1, off1, rfl, hi1⟩ := HR1.out hne
      obtain ⟨b2, off2, rfl, hi2⟩ := HR2.out hne
      have p0 := kept hB (hi1 k f ht)
      have q0 := kept hB (hi2 k f ht)
      clear hi1 hi2 hne ht
      have hk0 : (0 : Int) ≤ (k : Int) := by omega
      have hk1 : (k : Int) < (len : Int) := by omega
      go_wp2_with fail
      go_quiet (fail)
      all_goals
        go_wp2_with fail
        go_roundw
        case rel => exact ⟨k + 1, by omega, by go_num, hB.trans (below_drewN _ _ _)⟩
        case measure => simp [intOf]; omega
    · obtain rfl : k = len := by omega
      go_wp2_with fail
      go_ret
      exact ⟨rfl, hB⟩

set_option maxHeartbeats 4000000 in
set_option maxRecDepth 100000 in
theorem lawSamePack_calls (x y : Value) (p : Pv) (w : World) (hx : PackAt w x p) (hy : PackAt w y p) : Calls Tryz.prog 27 #[x, y] w (BoolIs true w) := by
  obtain ⟨v1, v2, v3, v4, v5, v6, v7, v8, v9, rfl, h1, h2, h3, h4, h5, h6, h7, h8, h9, hlo, hhi⟩ := hx
  obtain ⟨u1, u2, u3, u4, u5, u6, u7, u8, u9, rfl, k1, k2, k3, k4, k5, k6, k7, k8, k9, _, _⟩ := hy
  obtain ⟨len, hlen⟩ : ∃ len, p.fi.length = len := ⟨_, rfl⟩
  obtain ⟨A9, i9, rfl, hc1, hm1, hr1⟩ := h9.open
  obtain ⟨C9, j9, rfl, hc2, hm2, hr2⟩ := k9.open
  rw [hlen] at hc1 hm1 hc2 hm2 ⊢
  have D0 := Lib.hid (fun (W : World) (hb : Below w.heap.size w W) => lawSameAsked_calls v1 u1 p.dep W (h1.below hb) (k1.below hb))
  have D1 := Lib.hid (fun (W : World) (hb : Below w.heap.size w W) => lawSameAsked_calls v2 u2 p.ahead W (h2.below hb) (k2.below hb))
  have D2 := Lib.hid (fun (W : World) (hb : Below w.heap.size w W) => lawSameTerms_calls v3 u3 p.ag W (h3.below hb) (k3.below hb))
  have D3 := Lib.hid (fun (W : World) (hb : Below w.heap.size w W) => lawSameTerms_calls v4 u4 p.br W (h4.below hb) (k4.below hb))
  have D4 := Lib.hid (fun (W : World) (hb : Below w.heap.size w W) => lawSameTerms_calls v5 u5 p.re W (h5.below hb) (k5.below hb))
  have D5 := Lib.hid (fun (W : World) (hb : Below w.heap.size w W) => lawSameTerms_calls v6 u6 p.pr W (h6.below hb) (k6.below hb))
  have D6 := Lib.hid (fun (W : World) (hb : Below w.heap.size w W) => lawSameTexts_calls v7 u7 p.se W (h7.below hb) (k7.below hb))
  have D7 := Lib.hid (fun (W : World) (hb : Below w.heap.size w W) => lawSameTexts_calls v8 u8 p.li W (h8.below hb) (k8.below hb))
  have X := packBox_new w p v1 v2 v3 v4 v5 v6 v7 v8 (.slice A9 len i9) 29
  have Y := packBox_new (w.alloc (.cells #[.string p.n, .int .i64 p.e, .string p.u, .string p.r, v1, v2, v3, v4, v5, v6, v7, v8, .slice A9 len i9] 29)) p u1 u2 u3 u4 u5 u6 u7 u8 (.slice C9 len j9) 29
  have hb1 := below_alloc w (.cells #[.string p.n, .int .i64 p.e, .string p.u, .string p.r, v1, v2, v3, v4, v5, v6, v7, v8, .slice A9 len i9] 29)
  have hb2 := below_alloc (w.alloc (.cells #[.string p.n, .int .i64 p.e, .string p.u, .string p.r, v1, v2, v3, v4, v5, v6, v7, v8, .slice A9 len i9] 29)) (.cells #[.string p.n, .int .i64 p.e, .string p.u, .string p.r, u1, u2, u3, u4, u5, u6, u7, u8, .slice C9 len j9] 29)
  have X2 := X.below hb2
  have hB := step_below hb1 hb2
  rw [World.size_alloc] at Y
  have HL := Lib.hid hlen
  have HR1 := Lib.hid hr1
  have HR2 := Lib.hid hr2
  clear hlen hr1 hr2 h1 h2 h3 h4 h5 h6 h7 h8 h9 k1 k2 k3 k4 k5 k6 k7 k8 k9 X hb1 hb2
  obtain ⟨c0, c1, c2, c3, c4, c5, c6, c7, c8, c9, c10, c11, c12⟩ := id X2
  obtain ⟨d0, d1, d2, d3, d4, d5, d6, d7, d8, d9, d10, d11, d12⟩ := id Y
  have hne0 : ((len : Int) == (len : Int)) = true := by simp
  go_enter Tryz.func27, Tryz.ntmps27
  go_wp2_with fail
  refine (D0.out _ hB).mono ?_
  rintro E y0 ⟨rfl, hb⟩
  have X3 := X2.below hb
  have Y3 := Y.below hb
  have hB0 := step_below hB hb
  clear hB c0 c1 c2 c3 c4 c5 c6 c7 c8 c9 c10 c11 c12 d0 d1 d2 d3 d4 d5 d6 d7 d8 d9 d10 d11 d12 hb D0 X2 Y
  have hB := hB0
  clear hB0
  obtain ⟨m, hm⟩ : ∃ m, w.heap.size = m := ⟨_, rfl⟩
  rw [hm] at X3 Y3
  (try rw [hm])
  clear hm
  obtain ⟨c0, c1, c2, c3, c4, c5, c6, c7, c8, c9, c10, c11, c12⟩ := id X3
  obtain ⟨d0, d1, d2, d3, d4, d5, d6, d7, d8, d9, d10, d11, d12⟩ := id Y3
  go_wp2_with fail
  refine (D1.out _ hB).mono ?_
  rintro E y1 ⟨rfl, hb⟩
  have X4 := X3.below hb
  have Y4 := Y3.below hb
  have hB1 := step_below hB hb
  clear hB c0 c1 c2 c3 c4 c5 c6 c7 c8 c9 c10 c11 c12 d0 d1 d2 d3 d4 d5 d6 d7 d8 d9 d10 d11 d12 hb D1 X3 Y3
  have hB := hB1
  clear hB1
  obtain ⟨c0, c1, c2, c3, c4, c5, c6, c7, c8, c9, c10, c11, c12⟩ := id X4
  obtain ⟨d0, d1, d2, d3, d4, d5, d6, d7, d8, d9, d10, d11, d12⟩ := id Y4
  go_wp2_with fail
  refine (D2.out _ hB).mono ?_
  rintro E y2 ⟨rfl, hb⟩
  have X5 := X4.below hb
  have Y5 := Y4.below hb
  have hB2 := step_below hB hb
  clear hB c0 c1 c2 c3 c4 c5 c6 c7 c8 c9 c10 c11 c12 d0 d1 d2 d3 d4 d5 d6 d7 d8 d9 d10 d11 d12 hb D2 X4 Y4
  have hB := hB2
  clear hB2
  obtain ⟨c0, c1, c2, c3, c4, c5, c6, c7, c8, c9, c10, c11, c12⟩ := id X5
  obtain ⟨d0, d1, d2, d3, d4, d5, d6, d7, d8, d9, d10, d11, d12⟩ := id Y5
  go_wp2_with fail
  refine (D3.out _ hB).mono ?_
  rintro E y3 ⟨rfl, hb⟩
  have X6 := X5.below hb
  have Y6 := Y5.below hb
  have hB3 := step_below hB hb
  clear hB c0 c1 c2 c3 c4 c5 c6 c7 c8 c9 c10 c11 c12 d0 d1 d2 d3 d4 d5 d6 d7 d8 d9 d10 d11 d12 hb D3 X5 Y5
  have hB := hB3
  clear hB3
  obtain ⟨c0, c1, c2, c3, c4, c5, c6, c7, c8, c9, c10, c11, c12⟩ := id X6
  obtain ⟨d0, d1, d2, d3, d4, d5, d6, d7, d8, d9, d10, d11, d12⟩ := id Y6
  go_wp2_with fail
  refine (D4.out _ hB).mono ?_
  rintro E y4 ⟨rfl, hb⟩
  have X7 := X6.below hb
  have Y7 := Y6.below hb
  have hB4 := step_below hB hb
  clear hB c0 c1 c2 c3 c4 c5 c6 c7 c8 c9 c10 c11 c12 d0 d1 d2 d3 d4 d5 d6 d7 d8 d9 d10 d11 d12 hb D4 X6 Y6
  have hB := hB4
  clear hB4
  obtain ⟨c0, c1, c2, c3, c4, c5, c6, c7, c8, c9, c10, c11, c12⟩ := id X7
  obtain ⟨d0, d1, d2, d3, d4, d5, d6, d7, d8, d9, d10, d11, d12⟩ := id Y7
  go_wp2_with fail
  refine (D5.out _ hB).mono ?_
  rintro E y5 ⟨rfl, hb⟩
  have X8 := X7.below hb
  have Y8 := Y7.below hb
  have hB5 := step_below hB hb
  clear hB c0 c1 c2 c3 c4 c5 c6 c7 c8 c9 c10 c11 c12 d0 d1 d2 d3 d4 d5 d6 d7 d8 d9 d10 d11 d12 hb D5 X7 Y7
  have hB := hB5
  clear hB5
  obtain ⟨c0, c1, c2, c3, c4, c5, c6, c7, c8, c9, c10, c11, c12⟩ := id X8
  obtain ⟨d0, d1, d2, d3, d4, d5, d6, d7, d8, d9, d10, d11, d12⟩ := id Y8
  go_wp2_with fail
  refine (D6.out _ hB).mono ?_
  rintro E y6 ⟨rfl, hb⟩
  have X9 := X8.below hb
  have Y9 := Y8.below hb
  have hB6 := step_below hB hb
  clear hB c0 c1 c2 c3 c4 c5 c6 c7 c8 c9 c10 c11 c12 d0 d1 d2 d3 d4 d5 d6 d7 d8 d9 d10 d11 d12 hb D6 X8 Y8
  have hB := hB6
  clear hB6
  obtain ⟨c0, c1, c2, c3, c4, c5, c6, c7, c8, c9, c10, c11, c12⟩ := id X9
  obtain ⟨d0, d1, d2, d3, d4, d5, d6, d7, d8, d9, d10, d11, d12⟩ := id Y9
  go_wp2_with fail
  refine (D7.out _ hB).mono ?_
  rintro E y7 ⟨rfl, hb⟩
  have X10 := X9.below hb
  have Y10 := Y9.below hb
  have hB7 := step_below hB hb
  clear hB c0 c1 c2 c3 c4 c5 c6 c7 c8 c9 c10 c11 c12 d0 d1 d2 d3 d4 d5 d6 d7 d8 d9 d10 d11 d12 hb D7 X9 Y9
  have hB := hB7
  clear hB7
  obtain ⟨c0, c1, c2, c3, c4, c5, c6, c7, c8, c9, c10, c11, c12⟩ := id X10
  obtain ⟨d0, d1, d2, d3, d4, d5, d6, d7, d8, d9, d10, d11, d12⟩ := id Y10
  have HX := Lib.hid X10
  have HY := Lib.hid Y10
  have HB := Lib.hid hB
  clear X10 Y10 hB
  go_wp2_with fail
  clear c0 c1 c2 c3 c4 c5 c6 c7 c8 c9 c10 c11 c12 d0 d1 d2 d3 d4 d5 d6 d7 d8 d9 d10 d11 d12
  go_loopw [5] (fun i wr => ∃ k : Nat, k ≤ len ∧ i = .int .i64 k ∧ Below y7.heap.size y7 wr) (fun i _ => len - (intOf i).toNat)
  case atStart => exact ⟨0, Nat.zero_le _, rfl, Below.refl _ _⟩
  case round =>
    obtain ⟨k, hk, rfl, hz⟩ := hrel
    have c12 := kept hz HX.out.c12
    have d12 := kept hz HY.out.c12
    by_cases hlt : k < len
    · have hne : p.fi ≠ [] := by
        intro e
        have := HL.out
        rw [e] at this
        simp at this
        omega
      obtain ⟨f, ht⟩ : ∃ f, p.fi[k]? = some f := ⟨p.fi[k]'(by have := HL.out; omega), List.getElem?_eq_getElem _⟩
      obtain ⟨b1, off1, rfl, hi1⟩ := HR1.out hne
      obtain ⟨b2, off2, rfl, hi2⟩ := HR2.out hne
      obtain ⟨p0, p1⟩ := hi1 k f ht
      obtain ⟨q0, q1⟩ := hi2 k f ht
      have hBw := step_below HB.out hz
      replace p0 := kept hBw p0
      replace p1 := kept hBw p1
      replace q0 := kept hBw q0
      replace q1 := kept hBw q1
      clear hi1 hi2 hne ht hBw
      obtain ⟨fn, fu⟩ := f
      dsimp only at p0 p1 q0 q1
      have hk0 : (0 : Int) ≤ (k : Int) := by omega
      have hk1 : (k : Int) < (len : Int) := by omega
      go_wp2_with fail
      go_quiet (fail)
      all_goals
        go_wp2_with fail
        go_roundw
        case rel => exact ⟨k + 1, by omega, by go_num, hz.trans (below_drewN _ _ _)⟩
        case measure => simp [intOf]; omega
    · obtain rfl : k = len := by omega
      go_wp2_with fail
      go_ret
      exact ⟨rfl, step_below HB.out hz⟩
end Go.Proofs.YtodbbfgkclkpgaaGreatDoor

namespace Go.Proofs.YtodbbfgkclkpgaaGreatDoor
open Go Go.RowKit

theorem arcRead_calls (s : ByteArray) (w : World) (hE : Env w) (hS : EnvS w) (hA : EnvA w) (hs : s.size ≤ 6000) : Calls Tryz.prog 47 #[.string s] w (ArcRIs s w) := by
  by_cases h : 4000 < s.size
  · exact arcRead_big s w h hs
  · exact arcRead_small s w hE hS hA h
theorem refArcRead_calls (s : ByteArray) (w : World) (hE : Env w) (hF : EnvF w) (hs : s.size ≤ 6000) : Calls Tryz.prog 46 #[.string s] w (RefArcRIs s w) := by
  by_cases h : 4000 < s.size
  · exact refArc_big s w h hs
  · exact refArc_small s w hE hF h

set_option maxHeartbeats 4000000 in
set_option maxRecDepth 100000 in
theorem arReads_calls (s : ByteArray) (w : World) (hE : Env w) (hG : EnvE w) (hS : EnvS w) (hA : EnvA w) (hF : EnvF w) : Calls Tryz.prog 9 #[.string s] w (BoolIs true w) := by
  by_cases hskip : (1500 < s.size ∧ s.size ≤ 4000) ∨ 5000 < s.size
  · clear hE hG hS hA hF
    go_enter Tryz.func9, Tryz.ntmps9
    rcases hskip with ⟨h1, h2⟩ | h1
    · go_wp2_with fail
      go_ret
      exact ⟨rfl, Below.refl _ _⟩
    · have h2 : 1500 < s.size := by omega
      have h3 : ¬ s.size ≤ 4000 := by omega
      go_wp2_with fail
      go_ret
      exact ⟨rfl, Below.refl _ _⟩
  have hor : s.size ≤ 1500 ∨ (4000 < s.size ∧ s.size ≤ 5000) := by omega
  have hs : s.size ≤ 6000 := by omega
  have C1 := Lib.hid (fun (W : World) (hb : Below w.heap.size w W) => refArcRead_calls s W (hE.below hb) (hF.below hb) hs)
  have C2 := Lib.hid (fun (W : World) (hb : Below w.heap.size w W) => arcRead_calls s W (hE.below hb) (hS.below hb) (hA.below hb) hs)
  obtain ⟨n, hn⟩ : ∃ n, arE s = n := ⟨_, rfl⟩
  have C3 := Lib.hid (fun (W : World) (hb : Below w.heap.size w W) => bare_calls n n W (hG.below hb))
  obtain ⟨p, hp⟩ : ∃ p, arV s = p := ⟨_, rfl⟩
  unfold RefArcRIs at C1
  unfold ArcRIs at C2
  rw [hn, hp] at C1 C2
  obtain ⟨ev, hev⟩ : ∃ ev, errV n = ev := ⟨_, rfl⟩
  rw [hev] at C2 C3
  clear hE hG hS hA hF hskip hs hn hp hev
  go_enter Tryz.func9, Tryz.ntmps9
  go_upto_region 1 with fail
  go_cut [19] (fun s19 wx => s19 = .bool false ∧ wx = w)
  case first =>
    rcases hor with h1 | ⟨h1, h2⟩
    · have h3 : ¬ 1500 < s.size := by omega
      have h4 : ¬ 5000 < s.size := by omega
      go_wp2_with fail
      go_meet
      exact ⟨congrArg Value.bool (by simp; omega), rfl⟩
    · have h3 : 1500 < s.size := by omega
      have h4 : ¬ 5000 < s.size := by omega
      have h5 : ¬ s.size ≤ 4000 := by omega
      go_wp2_with fail
      go_meet
      exact ⟨congrArg Value.bool (by simp; omega), rfl⟩
  case rest =>
  obtain ⟨rfl, rfl⟩ := hcut
  clear hor
  go_wp2_with fail
  refine (C1.out _ (Below.refl _ _)).mono ?_
  rintro E w2 ⟨x, rfl, hx, hb⟩
  obtain ⟨u1, u2, u3, u4, u5, u6, u7, u8, u9, rfl, hxr⟩ := id hx
  obtain ⟨E1, e1, f1, rfl⟩ := ask_slice hxr.1
  obtain ⟨E2, e2, f2, rfl⟩ := ask_slice hxr.2.1
  obtain ⟨E3, e3, f3, rfl⟩ := term_slice hxr.2.2.1
  obtain ⟨E4, e4, f4, rfl⟩ := term_slice hxr.2.2.2.1
  obtain ⟨E5, e5, f5, rfl⟩ := term_slice hxr.2.2.2.2.1
  obtain ⟨E6, e6, f6, rfl⟩ := term_slice hxr.2.2.2.2.2.1
  obtain ⟨E7, e7, f7, rfl⟩ := slc_sl hxr.2.2.2.2.2.2.1
  obtain ⟨E8, e8, f8, rfl⟩ := slc_sl hxr.2.2.2.2.2.2.2.1
  obtain ⟨E9, e9, f9, rfl⟩ := slc_sl hxr.2.2.2.2.2.2.2.2.1
  have HX2 := Lib.hid hx
  have HB2 := Lib.hid (hb)
  have hba := below_alloc w2 (.cells #[.string p.n, .int .i64 p.e, .string p.u, .string p.r, (.slice E1 e1 f1), (.slice E2 e2 f2), (.slice E3 e3 f3), (.slice E4 e4 f4), (.slice E5 e5 f5), (.slice E6 e6 f6), (.slice E7 e7 f7), (.slice E8 e8 f8), (.slice E9 e9 f9)] 29)
  have HB3 := Lib.hid (step_below HB2.out hba)
  have HBA := Lib.hid hba
  have BX := Lib.hid (packBox_new w2 p (.slice E1 e1 f1) (.slice E2 e2 f2) (.slice E3 e3 f3) (.slice E4 e4 f4) (.slice E5 e5 f5) (.slice E6 e6 f6) (.slice E7 e7 f7) (.slice E8 e8 f8) (.slice E9 e9 f9) 29)
  have D2 := Lib.hid (C2.out _ HB3.out)
  clear C1 C2 hx hxr hb hba
  go_wp2_with fail
  refine D2.out.mono ?_
  rintro E w4 ⟨y, rfl, hy, hb⟩
  obtain ⟨v1, v2, v3, v4, v5, v6, v7, v8, v9, rfl, hyr⟩ := id hy
  obtain ⟨F1, g1, h1, rfl⟩ := ask_slice hyr.1
  obtain ⟨F2, g2, h2, rfl⟩ := ask_slice hyr.2.1
  obtain ⟨F3, g3, h3, rfl⟩ := term_slice hyr.2.2.1
  obtain ⟨F4, g4, h4, rfl⟩ := term_slice hyr.2.2.2.1
  obtain ⟨F5, g5, h5, rfl⟩ := term_slice hyr.2.2.2.2.1
  obtain ⟨F6, g6, h6, rfl⟩ := term_slice hyr.2.2.2.2.2.1
  obtain ⟨F7, g7, h7, rfl⟩ := slc_sl hyr.2.2.2.2.2.2.1
  obtain ⟨F8, g8, h8, rfl⟩ := slc_sl hyr.2.2.2.2.2.2.2.1
  obtain ⟨F9, g9, h9, rfl⟩ := slc_sl hyr.2.2.2.2.2.2.2.2.1
  have hbb := below_alloc w4 (.cells #[.string p.n, .int .i64 p.e, .string p.u, .string p.r, (.slice F1 g1 h1), (.slice F2 g2 h2), (.slice F3 g3 h3), (.slice F4 g4 h4), (.slice F5 g5 h5), (.slice F6 g6 h6), (.slice F7 g7 h7), (.slice F8 g8 h8), (.slice F9 g9 h9)] 29)
  have BX4 := (BX.out.below hb).below hbb
  have BY4 := packBox_new w4 p (.slice F1 g1 h1) (.slice F2 g2 h2) (.slice F3 g3 h3) (.slice F4 g4 h4) (.slice F5 g5 h5) (.slice F6 g6 h6) (.slice F7 g7 h7) (.slice F8 g8 h8) (.slice F9 g9 h9) 29
  have HX5 := Lib.hid (((HX2.out.below HBA.out).below hb).below hbb)
  have HY5 := Lib.hid (hy.below hbb)
  have HB5 := Lib.hid (step_below (step_below HB3.out hb) hbb)
  clear BX HX2 hy hyr D2 hb HBA HB2 HB3
  obtain ⟨m2, hm2⟩ : ∃ m2, w2.heap.size = m2 := ⟨_, rfl⟩
  obtain ⟨m4, hm4⟩ : ∃ m4, w4.heap.size = m4 := ⟨_, rfl⟩
  rw [hm2] at BX4
  rw [hm4] at BY4
  go_upto_region 5 with fail
  (try rw [hm2])
  (try rw [hm4])
  obtain ⟨W5, hW5⟩ : ∃ z, z = w4.alloc (.cells #[.string p.n, .int .i64 p.e, .string p.u, .string p.r, (.slice F1 g1 h1), (.slice F2 g2 h2), (.slice F3 g3 h3), (.slice F4 g4 h4), (.slice F5 g5 h5), (.slice F6 g6 h6), (.slice F7 g7 h7), (.slice F8 g8 h8), (.slice F9 g9 h9)] 29) := ⟨_, rfl⟩
  rw [← hW5] at BX4 BY4 HX5 HY5 HB5
  (try rw [← hW5])
  clear hm2 hm4 hW5 hbb
  have G1 : ∀ W : World, Below W5.heap.size W5 W → Calls Tryz.prog 14 #[ev, .int .i64 n] W (fun E W' => E = .returned (.bool true) ∧ Below W.heap.size W W') := fun W hb => (C3.out W (step_below HB5.out hb)).mono fun E W' h => ⟨by rw [h.1]; exact ret_bool (by simp), h.2⟩
  have G2 : ∀ W : World, Below W5.heap.size W5 W → Calls Tryz.prog 27 #[.agg #[.string p.n, .int .i64 p.e, .string p.u, .string p.r, (.slice F1 g1 h1), (.slice F2 g2 h2), (.slice F3 g3 h3), (.slice F4 g4 h4), (.slice F5 g5 h5), (.slice F6 g6 h6), (.slice F7 g7 h7), (.slice F8 g8 h8), (.slice F9 g9 h9)], .agg #[.string p.n, .int .i64 p.e, .string p.u, .string p.r, (.slice E1 e1 f1), (.slice E2 e2 f2), (.slice E3 e3 f3), (.slice E4 e4 f4), (.slice E5 e5 f5), (.slice E6 e6 f6), (.slice E7 e7 f7), (.slice E8 e8 f8), (.slice E9 e9 f9)]] W (fun E W' => E = .returned (.bool true) ∧ Below W.heap.size W W') := fun W hb => lawSamePack_calls _ _ p W (HY5.out.below hb) (HX5.out.below hb)
  have HG1 := Lib.hid G1
  have HG2 := Lib.hid G2
  clear G1 G2 C3 HX5 HY5
  go_wp2_with fail
  refine (HG1.out W5 (Below.refl _ _)).mono ?_
  rintro E w6 ⟨rfl, hb⟩
  have HB6 := Lib.hid hb
  obtain ⟨c0, c1, c2, c3, c4, c5, c6, c7, c8, c9, c10, c11, c12⟩ := BY4.below hb
  obtain ⟨d0, d1, d2, d3, d4, d5, d6, d7, d8, d9, d10, d11, d12⟩ := BX4.below hb
  clear hb BX4 BY4
  go_wp2_with fail
  refine (HG2.out w6 HB6.out).mono ?_
  rintro E w7 ⟨rfl, hb⟩
  have HB7 := Lib.hid (step_below HB5.out (step_below HB6.out hb))
  clear c0 c1 c2 c3 c4 c5 c6 c7 c8 c9 c10 c11 c12 d0 d1 d2 d3 d4 d5 d6 d7 d8 d9 d10 d11 d12 hb
  go_wp2_with fail
  go_ret
  exact ⟨rfl, HB7.out⟩
end Go.Proofs.YtodbbfgkclkpgaaGreatDoor

namespace Go.Proofs.YtodbbfgkclkpgaaGreatDoor
open Go.RowKit Go.ChangeShapes Go.WideShapes Go.ChangeAt Go.Joins

theorem errSyntaxIs : Tryz.prog.globalNamed "strconv.ErrSyntax" = some 5 := by kernel_rfl
theorem errRangeIs : Tryz.prog.globalNamed "strconv.ErrRange" = some 6 := by kernel_rfl
theorem errSyntaxType : (Tryz.prog.globals[5]?).map (·.type) = some 36 := by kernel_rfl
theorem errRangeType : (Tryz.prog.globals[6]?).map (·.type) = some 36 := by kernel_rfl
theorem iface_reads {W : World} {n name : String} {g : Nat} {d : DataW Unit} (hn : Tryz.prog.globalNamed n = some g) (hty : (Tryz.prog.globals[g]?).map (·.type) = some 36) (h : Lib.VarReads Tryz.prog W n (.iface name d)) : ∃ t p, W.cell? ⟨g, 0, none⟩ = some (.iface t p) := by
  obtain ⟨g', t, cs, fuel, p, hg, ht, hvar, hd⟩ := h
  obtain rfl := Option.some.inj (hn.symm.trans hg)
  obtain rfl := Option.some.inj (hty.symm.trans ht)
  obtain ⟨_, u, v, hcs, _, _⟩ := iface_of_trod Tryz.underlying36 hd
  refine ⟨u, v, ?_⟩
  rw [World.var?_cell hn hvar 0, ← Array.getElem?_toList, hcs]
  rfl
theorem envA_at {W : World} {laid : List (String × DataW Unit)} (hL : laidMetH Tryz.prog laid W) (hm : ("strconv.ErrSyntax", (Rows.laid_strconv_ErrSyntax : DataW Unit)) ∈ laid) (hm2 : ("strconv.ErrRange", (Rows.laid_strconv_ErrRange : DataW Unit)) ∈ laid) : EnvA W :=
  ⟨iface_reads errSyntaxIs errSyntaxType (Lib.laidMet.reads (laidMetH_iff.1 hL).1 (List.mem_filter.2 ⟨hm, rfl⟩)), iface_reads errRangeIs errRangeType (Lib.laidMet.reads (laidMetH_iff.1 hL).1 (List.mem_filter.2 ⟨hm2, rfl⟩))⟩
end Go.Proofs.YtodbbfgkclkpgaaGreatDoor

namespace Go.Proofs.YtodbbfgkclkpgaaGreatDoor
open Go.RowKit Go.ChangeShapes Go.WideShapes Go.ChangeAt Go.Joins

theorem fineIs : Tryz.prog.globalNamed "stevedore/stevedoreref.Fine" = some 0 := by kernel_rfl
theorem fineType : (Tryz.prog.globals[0]?).map (·.type) = some 96 := by kernel_rfl
theorem cellsErrno : Tryz.prog.cellsOf 32 = 1 := by kernel_rfl
theorem cellsInt1 : Tryz.prog.cellsOf 3 = 1 := by kernel_rfl
theorem envF_reads {W : World} (h : Lib.VarReads Tryz.prog W "stevedore/stevedoreref.Fine" (Rows.laid_stevedore_stevedoreref_Fine : DataW Unit)) : EnvF W := by
  obtain ⟨g', t, cs, fuel, p, hg, ht, hvar, hd⟩ := h
  obtain rfl := Option.some.inj (fineIs.symm.trans hg)
  obtain rfl := Option.some.inj (fineType.symm.trans ht)
  obtain ⟨xs, n, _, hx, _, hlen, hf⟩ := DataW.trod_struct Tryz.underlying96 hd
  match xs, hlen with
  | [y0, y1], _ =>
    have f0 : DataW.trod (fun _ => ()) Tryz.prog W 0 (fun _ => true) false n 32 ((cs.toList.drop 0).take (Tryz.prog.cellsOf 32)) = some y0 := hf 0 _ rfl
    have f1 : DataW.trod (fun _ => ()) Tryz.prog W 0 (fun _ => true) false n 3 ((cs.toList.drop 1).take (Tryz.prog.cellsOf 3)) = some y1 := hf 1 _ rfl
    rw [cellsErrno] at f0
    rw [cellsInt1] at f1
    obtain ⟨a, ea, ha, _⟩ := DataW.trod_int Tryz.underlying32 f0
    obtain ⟨b, eb, hb, _⟩ := DataW.trod_int Tryz.underlying3 f1
    have hx1 := congrArg Prod.fst hx
    simp only [Rows.laid_stevedore_stevedoreref_Fine, ha, hb, List.map_cons, List.map_nil] at hx1
    injection hx1 with hx1
    injection hx1 with h1 hx1
    injection hx1 with h2 _
    injection h1 with h1
    injection h2 with h2
    injection h1 with _ h1
    injection h2 with _ h2
    subst h1 h2
    have c0 : cs.toList[0]? = some (.int .i64 0) := by
      have := congrArg (·[0]?) ea
      simpa [List.getElem?_take, List.getElem?_drop] using this
    have c1 : cs.toList[1]? = some (.int .i64 (-1)) := by
      have := congrArg (·[0]?) eb
      simpa [List.getElem?_take, List.getElem?_drop] using this
    exact ⟨by rw [World.var?_cell fineIs hvar 0, ← Array.getElem?_toList]; exact c0, by rw [World.var?_cell fineIs hvar 1, ← Array.getElem?_toList]; exact c1⟩
theorem envF_at {W : World} {laid : List (String × DataW Unit)} (hL : laidMetH Tryz.prog laid W) (hm : ("stevedore/stevedoreref.Fine", (Rows.laid_stevedore_stevedoreref_Fine : DataW Unit)) ∈ laid) : EnvF W :=
  envF_reads (Lib.laidMet.reads (laidMetH_iff.1 hL).1 (List.mem_filter.2 ⟨hm, rfl⟩))
end Go.Proofs.YtodbbfgkclkpgaaGreatDoor

namespace Go.Proofs.YtodbbfgkclkpgaaGreatDoor
open Go.RowKit Go.ChangeShapes Go.WideShapes Go.ChangeAt Go.Joins

theorem rtypeIs : (Tryz.prog.cutTypes.find? (·.1 == "internal/reflectlite.rtype")).map (·.2) = some 226 := by kernel_rfl
theorem errorTypeIs : Tryz.prog.globalNamed "errors.errorType" = some 2 := by kernel_rfl
theorem errorRow : ((List.range 301).filter fun t => Tryz.prog.rowNamed t [101, 114, 114, 111, 114]) = [36] := by kernel_rfl
theorem typesSize : Tryz.prog.types.size = 301 := by kernel_rfl

/-- what is listed of handles -/
theorem envE_at {W : World} {laid : List (String × DataW Unit)} (hL : laidMetH Tryz.prog laid W) (hm : ("errors.errorType", (Rows.laid_errors_errorType : DataW Unit)) ∈ laid) : EnvE W := by
  obtain ⟨_, hh⟩ := laidMetH_iff.1 hL
  obtain ⟨name, u, ty, e1, e2, e3, e4, e5⟩ := hh _ (List.mem_filter.2 ⟨hm, rfl⟩)
  have en : name = [101, 114, 114, 111, 114] := (Option.some.inj e1).symm
  subst en
  obtain rfl := Option.some.inj (rtypeIs.symm.trans e2)
  have hmem : ty ∈ (List.range 301).filter fun t => Tryz.prog.rowNamed t [101, 114, 114, 111, 114] := List.mem_filter.2 ⟨List.mem_range.2 (by rw [← typesSize]; exact e3), e4⟩
  rw [errorRow] at hmem
  obtain rfl := List.mem_singleton.1 hmem
  have hd : typeHandle Tryz.prog 36 = .pointer (some ⟨12, 36, none⟩) := by kernel_rfl
  rw [hd] at e5
  unfold EnvE
  simpa using World.var?_cell errorTypeIs e5 0

/-- what is listed of plain tables -/
theorem env_handed {W : World} {laid : List (String × DataW Unit)} (hL : laidMetH Tryz.prog laid W) (hm : ("internal/strconv.uint64pow10", (Rows.laid_internal_strconv_uint64pow10 : DataW Unit)) ∈ laid) (hsh : W.ShapedOpen Tryz.prog) : Env W :=
  env_at (laidMetH_iff.1 hL).1 (List.mem_filter.2 ⟨hm, rfl⟩) hsh

/-- the variables as they start, the handle laid -/
noncomputable def handBase (os : Os) : World :=
  { World.holding Tryz.prog os ⟨#[], #[], []⟩ with heap := (World.holding Tryz.prog os ⟨#[], #[], []⟩).heap.modify 2 fun
      | .cells _ t frozen => .cells #[.iface 226 (.agg #[.pointer (some ⟨12, 36, none⟩)])] t frozen
      | o => o }
noncomputable def handWorld (os : Os) (laid : List (String × DataW Unit)) : World := (handBase os).layVars Tryz.prog (laid.filter fun x => x.2.handleName?.isNone)
theorem handWorld_os (os : Os) (laid : List (String × DataW Unit)) : (handWorld os laid).os = os := World.layVars_os _ _ _
theorem handWorld_met {os : Os} {laid : List (String × DataW Unit)} (args : Array Value)
    (hf : (handBase os).layFits Tryz.prog (laid.filter fun x => x.2.handleName?.isNone) [] = true)
    (hi : (handBase os).layIfaces Tryz.prog (laid.filter fun x => x.2.handleName?.isNone) (handWorld os laid) = true)
    (hh : (laid.filter fun x => x.2.handleName?.isSome).all (handleAtB Tryz.prog ((handWorld os laid).forCall (fun _ _ => 0) ⟨#[], args, []⟩).memory) = true) :
    laidMetH Tryz.prog laid ((handWorld os laid).forCall (fun _ _ => 0) ⟨#[], args, []⟩).memory := by
  refine laidMetH_of_parts ?_ hh
  obtain ⟨plain, hp⟩ : ∃ plain, (laid.filter fun x => x.2.handleName?.isNone) = plain := ⟨_, rfl⟩
  have hw : handWorld os laid = (handBase os).layVars Tryz.prog plain := by unfold handWorld; rw [hp]
  rw [hp] at hf hi ⊢
  rw [hw] at hi ⊢
  have e1 : (plain.filter fun x => (plain.map (·.1)).contains x.1) = plain := List.filter_eq_self.2 fun x hx => List.contains_iff_mem.2 (List.mem_map.2 ⟨x, hx, rfl⟩)
  have e2 : (plain.filter fun x => !(plain.map (·.1)).contains x.1) = [] := List.filter_eq_nil_iff.2 fun x hx => by rw [List.contains_iff_mem.2 (List.mem_map.2 ⟨x, hx, rfl⟩)]; simp
  have h : laidMet Tryz.prog plain ((handBase os).layVars Tryz.prog plain) := laidMet_layVars (w0 := handBase os) (plain.map (·.1)) [] (by rw [e1]) (by rw [e1]; exact hf) (by rw [e1]; exact hi) (by rw [e2]; exact LaidIn.none)
  exact h.of_heap (by simp [World.memory, World.forCall, Input.heap])
end Go.Proofs.YtodbbfgkclkpgaaGreatDoor
