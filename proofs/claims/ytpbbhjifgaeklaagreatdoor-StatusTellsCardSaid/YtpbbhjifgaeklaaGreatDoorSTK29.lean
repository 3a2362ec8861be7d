/- stevedorelaw.sameTexts, samePack: of the same they say so. · stevedorelaw.sameStatus: of the same it says so. · stevedorelaw.texts, stevedorelaw.says: is a package short enough to be held. -/
import Derived.Test.YtpbbhjifgaeklaaGreatDoorSTK18
import Derived.Test.YtpbbhjifgaeklaaGreatDoorSTK10
import Derived.Deep.QuietTactic
import Derived.BigQuiet
import Derived.Deep.RegionHeld3
import Derived.Test.YtpbbhjifgaeklaaGreatDoorSTK21
import Derived.Test.YtpbbhjifgaeklaaGreatDoorSTK6
namespace Go.Proofs.YtpbbhjifgaeklaaGreatDoor
open Go Go.RowKit
set_option maxHeartbeats 1000000 in
set_option maxRecDepth 100000 in
theorem lawSameTexts_calls (v1 v2 : Value) (fs : List ByteArray) (w : World) (h1 : StrsAt w v1 fs) (h2 : StrsAt w v2 fs) : Calls Tryz.prog 81 #[v1, v2] w (BoolIs true w) := by
  obtain ⟨A1, c1, hv1, hc1, hm, hr1⟩ := h1.open
  obtain ⟨A2, c2, hv2, hc2, _, hr2⟩ := h2.open
  subst hv1
  subst hv2
  obtain ⟨len, hlen⟩ : ∃ len, fs.length = len := ⟨_, rfl⟩
  have HL := Lib.hid hlen
  have HR1 := Lib.hid hr1
  have HR2 := Lib.hid hr2
  rw [hlen] at hc1 hc2 hm ⊢
  clear hlen hr1 hr2 h1 h2
  have hne0 : ((len : Int) == (len : Int)) = true := by simp
  go_enter Tryz.func81, Tryz.ntmps81
  go_wp2_with fail
  go_loopw [5] (fun i wr => ∃ k : Nat, k ≤ len ∧ i = .int .i64 k ∧ Below w.heap.size w wr) (fun i _ => len - (intOf i).toNat)
  case atStart => exact ⟨0, Nat.zero_le _, rfl, Below.refl _ _⟩
  case round =>
    obtain ⟨k, hk, rfl, hB⟩ := hrel
    by_cases hlt : k < len
    · have hne : fs ≠ [] := by
        intro e
        have := HL.out
        rw [e] at this
        simp at this
        omega
      obtain ⟨f, ht⟩ : ∃ f, fs[k]? = some f := ⟨fs[k]'(by have := HL.out; omega), List.getElem?_eq_getElem _⟩
      obtain ⟨b1, off1, rfl, hi1⟩ := HR1.out hne
      obtain ⟨b2, off2, rfl, hi2⟩ := HR2.out hne
      have p0 := kept hB (hi1 k f ht)
      have q0 := kept hB (hi2 k f ht)
      clear hi1 hi2 hne ht
      have hk0 : (0 : Int) ≤ (k : Int) := by omega
      have hk1 : (k : Int) < (len : Int) := by omega
      go_wp2_with fail
      go_quiet (fail)
      all_goals
        go_wp2_with fail
        go_roundw
        case rel => exact ⟨k + 1, by omega, by go_num, hB.trans (below_drewN _ _ _)⟩
        case measure => simp [intOf]; omega
    · obtain rfl : k = len := by omega
      go_wp2_with fail
      go_ret
      exact ⟨rfl, hB⟩

end Go.Proofs.YtpbbhjifgaeklaaGreatDoor

namespace Go.Proofs.YtpbbhjifgaeklaaGreatDoor
open Go Go.RowKit

set_option maxHeartbeats 1000000 in
set_option maxRecDepth 100000 in
theorem sameStat_calls (z : St) (v1 v2 u1 u2 : Value) (w : World) (h : StAt w v1 v2 z) (k : StAt w u1 u2 z) : Calls Tryz.prog 23 #[stV z v1 v2, stV z u1 u2] w (BoolIs true w) := by
  have D1 := Lib.hid (fun (W : World) (hb : Below w.heap.size w W) => lawSameTexts_calls v1 u1 z.ws W (h.ws.below hb) (k.ws.below hb))
  have D2 := Lib.hid (fun (W : World) (hb : Below w.heap.size w W) => lawSameTexts_calls v2 u2 z.ts W (h.ts.below hb) (k.ts.below hb))
  have X := stBox_new w z v1 v2 26
  have Y := stBox_new (w.alloc (.cells #[.int .i64 z.n, .int .i64 z.e, .string z.u, .string z.r, .bool z.h, v1, v2] 26)) z u1 u2 42
  have hb1 := below_alloc w (.cells #[.int .i64 z.n, .int .i64 z.e, .string z.u, .string z.r, .bool z.h, v1, v2] 26)
  have hb2 := below_alloc (w.alloc (.cells #[.int .i64 z.n, .int .i64 z.e, .string z.u, .string z.r, .bool z.h, v1, v2] 26)) (.cells #[.int .i64 z.n, .int .i64 z.e, .string z.u, .string z.r, .bool z.h, u1, u2] 42)
  have X2 := X.below hb2
  have hB := step_below hb1 hb2
  rw [World.size_alloc] at Y
  clear h k X hb1 hb2
  obtain ⟨n, e, u, r, hh, ws, ts⟩ := z
  simp only at *
  obtain ⟨c0, c1, c2, c3, c4, c5, c6⟩ := id X2
  obtain ⟨d0, d1, d2, d3, d4, d5, d6⟩ := id Y
  have hhb : (hh == hh) = true := by cases hh <;> rfl
  show Calls Tryz.prog 23 #[.agg #[.int .i64 n, .int .i64 e, .string u, .string r, .bool hh, v1, v2], .agg #[.int .i64 n, .int .i64 e, .string u, .string r, .bool hh, u1, u2]] w _
  go_enter Tryz.func23, Tryz.ntmps23
  go_wp2_with fail
  refine (D1.out _ hB).mono ?_
  rintro E y0 ⟨rfl, hb⟩
  have X3 := X2.below hb
  have Y3 := Y.below hb
  have hB0 := step_below hB hb
  clear hB c0 c1 c2 c3 c4 c5 c6 d0 d1 d2 d3 d4 d5 d6 hb D1 X2 Y
  obtain ⟨m, hm⟩ : ∃ m, w.heap.size = m := ⟨_, rfl⟩
  rw [hm] at X3 Y3
  (try rw [hm])
  clear hm
  have c6 := X3.c6
  have d6 := Y3.c6
  go_wp2_with fail
  refine (D2.out _ hB0).mono ?_
  rintro E y1 ⟨rfl, hb⟩
  have hB1 := step_below hB0 hb
  clear c6 d6 X3 Y3 hb D2
  go_wp2_with fail
  go_ret
  exact ⟨rfl, hB1⟩
end Go.Proofs.YtpbbhjifgaeklaaGreatDoor

namespace Go.Proofs.YtpbbhjifgaeklaaGreatDoor
open Go Go.RowKit

set_option maxHeartbeats 1000000 in
set_option maxRecDepth 100000 in
theorem lawTexts_calls (v : Value) (ss : List ByteArray) (w : World) (h : StrsAt w v ss) : Calls Tryz.prog 18 #[v] w (BoolIs (textsB ss) w) := by
  obtain ⟨A, c, hv, hc, hm, hr⟩ := h.open
  subst hv
  obtain ⟨len, hlen⟩ : ∃ len, ss.length = len := ⟨_, rfl⟩
  have HL := Lib.hid hlen
  have HR := Lib.hid hr
  rw [hlen] at hc hm ⊢
  clear hlen hr h
  by_cases h40 : 40 < len
  · have F := Lib.hid (show textsB ss = false by unfold textsB; rw [HL.out]; simp; omega)
    go_enter Tryz.func18, Tryz.ntmps18
    go_wp2
    go_ret
    exact ⟨ret_bool F.out.symm, Below.refl _ _⟩
  · have F := Lib.hid (show textsB ss = ss.all (fun s => decide (s.size ≤ 100)) by unfold textsB; rw [HL.out, decide_eq_true (by omega)]; rfl)
    go_enter Tryz.func18, Tryz.ntmps18
    go_wp2_with fail
    go_loopw [3] (fun i wr => ∃ k : Nat, k ≤ len ∧ i = .int .i64 k ∧ Hid ((ss.take k).all (fun s => decide (s.size ≤ 100)) = true) ∧ Below w.heap.size w wr) (fun i _ => len - (intOf i).toNat)
    case atStart => exact ⟨0, Nat.zero_le _, rfl, rfl, Below.refl _ _⟩
    case round =>
      obtain ⟨k, hk, rfl, hall, hB⟩ := hrel
      by_cases hlt : k < len
      · have hne : ss ≠ [] := by
          intro e
          have := HL.out
          rw [e] at this
          simp at this
          omega
        obtain ⟨s, ht⟩ : ∃ s, ss[k]? = some s := ⟨ss[k]'(by have := HL.out; omega), List.getElem?_eq_getElem _⟩
        obtain ⟨b, off, rfl, hi⟩ := HR.out hne
        have c0 := kept hB (hi k s ht)
        have HT := Lib.hid ht
        clear hi hne ht
        by_cases hn : 100 < s.size
        · have HF := Lib.hid (show textsB ss = false by rw [F.out, all_stop HT.out (decide_eq_false (by omega))])
          go_wp2_with fail
          go_ret
          exact ⟨ret_bool HF.out.symm, hB⟩
        · go_wp2_with fail
          go_roundw
          case rel => exact ⟨k + 1, by omega, by go_num, Lib.hid (all_take_succ hall.out HT.out (decide_eq_true (by omega))), hB⟩
          case measure => simp [intOf]; omega
      · obtain rfl : k = len := by omega
        go_wp2_with fail
        go_ret
        exact ⟨ret_bool (by rw [F.out]; have := hall.out; rw [← HL.out] at this; exact (all_done this).symm), hB⟩

end Go.Proofs.YtpbbhjifgaeklaaGreatDoor
