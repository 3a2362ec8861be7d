/- stevedorekeep.texts, stevedorekeep.says: is a package short enough to be held. · status.Next, status.May: which state comes of a state and an event: by the table, as it lies. · stevedorekeep.steps: where events lead. · stevedorekeep.pick: a number below another one. -/
import Derived.Test.YtpbbhjifgaeklaaGreatDoorSBK16
import Derived.Test.YtpbbhjifgaeklaaGreatDoorSBK10
import Derived.Test.YtpbbhjifgaeklaaGreatDoorSBK8
import Derived.Deep.QuietTactic
import Derived.BigQuiet
import Derived.Deep.RegionHeld3
import Derived.Deep.DeepCutAuto
namespace Go.Proofs.YtpbbhjifgaeklaaGreatDoor
open Go Go.RowKit

set_option maxHeartbeats 1000000 in
set_option maxRecDepth 100000 in
theorem keepTexts_calls (v : Value) (ss : List ByteArray) (w : World) (h : StrsAt w v ss) : Calls Tryz.prog 10 #[v] w (BoolIs (textsB ss) w) := by
  obtain ⟨A, c, hv, hc, hm, hr⟩ := h.open
  subst hv
  obtain ⟨len, hlen⟩ : ∃ len, ss.length = len := ⟨_, rfl⟩
  have HL := Lib.hid hlen
  have HR := Lib.hid hr
  rw [hlen] at hc hm ⊢
  clear hlen hr h
  by_cases h40 : 40 < len
  · have F := Lib.hid (show textsB ss = false by unfold textsB; rw [HL.out]; simp; omega)
    go_enter Tryz.func10, Tryz.ntmps10
    go_wp2
    go_ret
    exact ⟨ret_bool F.out.symm, Below.refl _ _⟩
  · have F := Lib.hid (show textsB ss = ss.all (fun s => decide (s.size ≤ 100)) by unfold textsB; rw [HL.out, decide_eq_true (by omega)]; rfl)
    go_enter Tryz.func10, Tryz.ntmps10
    go_wp2_with fail
    go_loopw [3] (fun i wr => ∃ k : Nat, k ≤ len ∧ i = .int .i64 k ∧ Hid ((ss.take k).all (fun s => decide (s.size ≤ 100)) = true) ∧ Below w.heap.size w wr) (fun i _ => len - (intOf i).toNat)
    case atStart => exact ⟨0, Nat.zero_le _, rfl, rfl, Below.refl _ _⟩
    case round =>
      obtain ⟨k, hk, rfl, hall, hB⟩ := hrel
      by_cases hlt : k < len
      · have hne : ss ≠ [] := by
          intro e
          have := HL.out
          rw [e] at this
          simp at this
          omega
        obtain ⟨s, ht⟩ : ∃ s, ss[k]? = some s := ⟨ss[k]'(by have := HL.out; omega), List.getElem?_eq_getElem _⟩
        obtain ⟨b, off, rfl, hi⟩ := HR.out hne
        have c0 := kept hB (hi k s ht)
        have HT := Lib.hid ht
        clear hi hne ht
        by_cases hn : 100 < s.size
        · have HF := Lib.hid (show textsB ss = false by rw [F.out, all_stop HT.out (decide_eq_false (by omega))])
          go_wp2_with fail
          go_ret
          exact ⟨ret_bool HF.out.symm, hB⟩
        · go_wp2_with fail
          go_roundw
          case rel => exact ⟨k + 1, by omega, by go_num, Lib.hid (all_take_succ hall.out HT.out (decide_eq_true (by omega))), hB⟩
          case measure => simp [intOf]; omega
      · obtain rfl : k = len := by omega
        go_wp2_with fail
        go_ret
        exact ⟨ret_bool (by rw [F.out]; have := hall.out; rw [← HL.out] at this; exact (all_done this).symm), hB⟩

end Go.Proofs.YtpbbhjifgaeklaaGreatDoor

namespace Go.Proofs.YtpbbhjifgaeklaaGreatDoor
open Go Go.RowKit

def afterR : List (List Int) := [[0, 0, 0, 0, 0, 0, 0, 0], [2, 2, 2, 2, 2, 2, 2, 2], [-1, -1, 3, -1, -1, -1, -1, -1], [-1, -1, -1, 4, 4, -1, -1, -1], [-1, -1, -1, -1, 7, -1, -1, -1], [-1, -1, 2, -1, 4, -1, 4, -1], [-1, -1, 2, 2, 2, 2, 2, 2], [-1, -1, 1, -1, -1, -1, -1, -1], [-1, 0, 0, -1, -1, -1, -1, -1], [-1, -1, -1, -1, -1, 5, 6, 6], [-1, -1, -1, -1, -1, -1, 7, -1]]
/-- which state comes of an event and a state -/
def afterT (e s : Nat) : Int := (afterR.getD e []).getD s 0
/-- status.after is laid -/
def EnvN (w : World) : Prop := ∀ e s, e < 11 → s < 8 → w.cell? ⟨1, e * 8 + s, none⟩ = some (.int .i64 (afterT e s))
theorem EnvN.below {w w' : World} (h : EnvN w) (hb : Below w.heap.size w w') : EnvN w' := fun e s he hs => kept hb (h e s he hs)

theorem arr11 : Tryz.prog.arrayLen 175 = 11 := by kernel_rfl
theorem arr8 : Tryz.prog.arrayLen 174 = 8 := by kernel_rfl
theorem arr11s (W : World) : (sizeOf (Tryz.prog.elem 175)).run Tryz.prog W = .ok 8 W := by kernel_rfl
theorem arr8s (W : World) : (sizeOf (Tryz.prog.elem 174)).run Tryz.prog W = .ok 1 W := by kernel_rfl
theorem after_at (W : World) (e : Nat) (h : e < 11) : (Instr.indexAt 175 (.pointer (some ⟨1, 0, none⟩)) (.int .i64 (e : Int))).run Tryz.prog W = .ok (.pointer (some ⟨1, e * 8, none⟩)) W := by
  have h := run_indexAt_array (P := Tryz.prog) (w := W) 175 ⟨1, 0, none⟩ .i64 (e : Int) (by kernel_rfl)
  rw [arr11, if_pos ⟨by omega, by omega⟩, arr11s] at h
  refine h.trans ?_
  show Result.ok (Value.pointer (some ((⟨1, 0, none⟩ : Addr).add (((e : Nat) : Int).toNat * 8)))) W = _
  rw [Int.toNat_natCast, Go.WideShapes.add_plain, Nat.zero_add]
theorem after_at2 (W : World) (o s : Nat) (h : s < 8) : (Instr.indexAt 174 (.pointer (some ⟨1, o, none⟩)) (.int .i64 (s : Int))).run Tryz.prog W = .ok (.pointer (some ⟨1, o + s, none⟩)) W := by
  have h := run_indexAt_array (P := Tryz.prog) (w := W) 174 ⟨1, o, none⟩ .i64 (s : Int) (by kernel_rfl)
  rw [arr8, if_pos ⟨by omega, by omega⟩, arr8s] at h
  refine h.trans ?_
  show Result.ok (Value.pointer (some ((⟨1, o, none⟩ : Addr).add (((s : Nat) : Int).toNat * 1)))) W = _
  rw [Int.toNat_natCast, Nat.mul_one, Go.WideShapes.add_plain]

def NextIs (e s : Nat) (w : World) (E : Ending) (w' : World) : Prop := E = .returned (if 0 ≤ afterT e s then .tuple #[.int .i64 (afterT e s), .nilIface] else .tuple #[.int .i64 0, .iface 43 (.int .i64 6)]) ∧ w = w'

set_option maxRecDepth 100000 in
theorem next_calls (e s : Nat) (he1 : 1 ≤ e) (he : e ≤ 10) (hs : s ≤ 7) (w : World) (hN : EnvN w) : Calls Tryz.prog 56 #[.int .i64 s, .int .i64 e] w (NextIs e s w) := by
  have c0 := hN e s (by omega) (by omega)
  have i1 := fun W => after_at W e (by omega)
  have i2 := fun W => after_at2 W (e * 8) s (by omega)
  unfold NextIs
  obtain ⟨n, hn⟩ : ∃ n, afterT e s = n := ⟨_, rfl⟩
  rw [hn] at c0 ⊢
  clear hn hN
  have h1 : ¬ ((s : Int) < 0) := by omega
  have h2 : ¬ ((7 : Int) < (s : Int)) := by omega
  have h3 : ¬ ((e : Int) < 1) := by omega
  have h4 : ¬ ((10 : Int) < (e : Int)) := by omega
  clear he1 he hs
  by_cases h : 0 ≤ n
  · rw [if_pos h]
    go_enter Tryz.func56, Tryz.ntmps56
    go_wp2_with fail
    go_ret2
    exact ⟨rfl, rfl⟩
  · rw [if_neg h]
    go_enter Tryz.func56, Tryz.ntmps56
    go_wp2_with fail
    go_ret2
    exact ⟨rfl, rfl⟩

set_option maxRecDepth 100000 in
theorem may_calls (e s : Nat) (he1 : 1 ≤ e) (he : e ≤ 10) (hs : s ≤ 7) (w : World) (hN : EnvN w) : Calls Tryz.prog 35 #[.int .i64 s, .int .i64 e] w fun E w' => E = .returned (.bool (decide (0 ≤ afterT e s))) ∧ w = w' := by
  have C := next_calls e s he1 he hs w hN
  unfold NextIs at C
  by_cases h : 0 ≤ afterT e s
  · rw [decide_eq_true h]
    rw [if_pos h] at C
    have C := Lib.hid C
    obtain ⟨n, hn⟩ : ∃ n, afterT e s = n := ⟨_, rfl⟩
    rw [hn] at C
    clear hn h he1 he hs
    go_enter Tryz.func35, Tryz.ntmps35
    go_wp2_with fail
    refine C.out.mono ?_
    rintro E w' ⟨rfl, rfl⟩
    go_wp2_with fail
    go_ret
    exact ⟨rfl, rfl⟩
  · rw [decide_eq_false h]
    rw [if_neg h] at C
    have C := Lib.hid C
    clear h he1 he hs
    go_enter Tryz.func35, Tryz.ntmps35
    go_wp2_with fail
    refine C.out.mono ?_
    rintro E w' ⟨rfl, rfl⟩
    go_wp2_with fail
    go_ret
    exact ⟨rfl, rfl⟩
end Go.Proofs.YtpbbhjifgaeklaaGreatDoor

namespace Go.Proofs.YtpbbhjifgaeklaaGreatDoor
open Go Go.RowKit

set_option maxHeartbeats 1000000 in
set_option maxRecDepth 100000 in
theorem steps_calls (es st : Nat → Nat) (n g off c : Nat) (w : World) (hN : EnvN w) (hc : ∀ i, i < n → w.cell? ⟨g, off + i, none⟩ = some (.int .i64 (es i))) (hm : n ≤ 100) (hnc : n ≤ c) (h1 : ∀ i, i < n → 1 ≤ es i ∧ es i ≤ 10) (hs : ∀ i, i < n → st i ≤ 7)
    (ha : ∀ i, i < n → afterT (es i) (st i) = (st (i + 1) : Int)) : Calls Tryz.prog 16 #[.int .i64 (st 0), .slice (some ⟨g, off, none⟩) n c] w fun E w' => E = .returned (.tuple #[.int .i64 (st n), .bool true]) ∧ w = w' := by
  have CN := Lib.hid (fun i (hi : i < n) => next_calls (es i) (st i) (h1 i hi).1 (h1 i hi).2 (hs i hi) w hN)
  have CM := Lib.hid (fun i (hi : i < n) => may_calls (es i) (st i) (h1 i hi).1 (h1 i hi).2 (hs i hi) w hN)
  have HA := Lib.hid ha
  have HC := Lib.hid hc
  clear hN hc h1 hs ha
  go_enter Tryz.func16, Tryz.ntmps16
  go_wp2_with fail
  go_loop [0, 6] (fun s i => ∃ k : Nat, k ≤ n ∧ s = .int .i64 (st k) ∧ i = .int .i64 k) (fun _ i => n - (intOf i).toNat)
  case atStart => exact ⟨0, Nat.zero_le _, rfl, rfl⟩
  case round =>
    obtain ⟨k, hk, rfl, rfl⟩ := hrel
    by_cases hlt : k < n
    · have c0 := HC.out k hlt
      have C1 := CN.out k hlt
      have C2 := CM.out k hlt
      unfold NextIs at C1
      have ha := HA.out k hlt
      rw [ha, if_pos (by omega)] at C1
      rw [ha, decide_eq_true (show (0 : Int) ≤ (st (k + 1) : Int) by omega)] at C2
      have C1 := Lib.hid C1
      have C2 := Lib.hid C2
      obtain ⟨a, haa⟩ : ∃ a, st k = a := ⟨_, rfl⟩
      obtain ⟨b, hbb⟩ : ∃ b, st (k + 1) = b := ⟨_, rfl⟩
      obtain ⟨e, hee⟩ : ∃ e, es k = e := ⟨_, rfl⟩
      rw [haa, hbb, hee] at C1
      rw [haa, hee] at C2
      rw [hee] at c0
      (try rw [haa])
      have HBB := Lib.hid hbb
      clear ha haa hbb hee
      go_wp2_with fail
      refine C1.out.mono ?_
      rintro E w' ⟨rfl, rfl⟩
      go_wp2_with fail
      refine C2.out.mono ?_
      rintro E w' ⟨rfl, rfl⟩
      go_wp2_with fail
      go_round
      case rel => first | exact ⟨k + 1, by omega, by rw [HBB.out], by go_num⟩ | ((repeat apply Exists.intro); exact ⟨⟨k + 1, by omega, by rw [HBB.out], by go_num⟩, rfl⟩)
      case measure => simp [intOf]; omega
    · obtain rfl : k = n := by omega
      go_wp2_with fail
      go_ret2
      exact ⟨rfl, rfl⟩
end Go.Proofs.YtpbbhjifgaeklaaGreatDoor

namespace Go.Proofs.YtpbbhjifgaeklaaGreatDoor
open Go Go.RowKit

/-! pick -/
def pickV (a n : Int) : Int := wrap64 ((IntKind.u64.wrap a).tmod n)
def PickIs (a n : Int) (w : World) (E : Ending) (w' : World) : Prop := E = .returned (.int .i64 (pickV a n)) ∧ w = w'
theorem pick_num (a n : Int) (h0 : 1 ≤ n) (h1 : n ≤ 1000) : ∃ k : Nat, (k : Int) < n ∧ pickV a n = (k : Int) := by
  unfold pickV
  have hw : IntKind.u64.wrap a = a % 18446744073709551616 := IntKind.wrap_u64 a
  have hn : 0 ≤ a % 18446744073709551616 := Int.emod_nonneg _ (by decide)
  have hr : (a % 18446744073709551616).tmod n = (a % 18446744073709551616) % n := Int.tmod_eq_emod_of_nonneg hn
  rw [hw, hr]
  have l0 := Int.emod_nonneg (a % 18446744073709551616) (b := n) (by omega)
  have l1 := Int.emod_lt_of_pos (a % 18446744073709551616) (b := n) (by omega)
  generalize (a % 18446744073709551616) % n = r at l0 l1
  refine ⟨r.toNat, by omega, ?_⟩
  unfold wrap64
  omega
set_option maxRecDepth 100000 in
theorem pick_calls (a n : Int) (h0 : 1 ≤ n) (h1 : n ≤ 1000) (w : World) : Calls Tryz.prog 15 #[.int .i64 a, .int .i64 n] w (PickIs a n w) := by
  have hn : (n == 0) = false := by rw [beq_eq_false_iff_ne]; omega
  have hu : IntKind.u64.wrap n = n := by rw [IntKind.wrap_u64]; omega
  go_enter Tryz.func15, Tryz.ntmps15
  go_wp2
  go_ret
  exact ⟨rfl, rfl⟩
end Go.Proofs.YtpbbhjifgaeklaaGreatDoor
