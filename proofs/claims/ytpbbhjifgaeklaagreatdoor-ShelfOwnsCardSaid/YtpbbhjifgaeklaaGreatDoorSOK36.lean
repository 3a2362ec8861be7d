/- stevedorekeep.texts, stevedorekeep.says: is a package short enough to be held. · status.Next, status.May: which state comes of a state and an event: by the table, as it lies. · stevedorekeep.pick: a number below another one. · ShelfOwns: for every packages, numbers and truth value the call returns true: the walk. -/
import Derived.Test.YtpbbhjifgaeklaaGreatDoorSOK15
import Derived.Test.YtpbbhjifgaeklaaGreatDoorSOK35
import Derived.Test.YtpbbhjifgaeklaaGreatDoorSOK9
import Derived.Test.YtpbbhjifgaeklaaGreatDoorSOK6
import Derived.Deep.RegionHeld3
import Derived.Deep.DeepCutAuto
import Derived.Test.YtpbbhjifgaeklaaGreatDoorSOK34
namespace Go.Proofs.YtpbbhjifgaeklaaGreatDoor
open Go Go.RowKit

set_option maxHeartbeats 1000000 in
set_option maxRecDepth 100000 in
theorem keepTexts_calls (v : Value) (ss : List ByteArray) (w : World) (h : StrsAt w v ss) : Calls Tryz.prog 10 #[v] w (BoolIs (textsB ss) w) := by
  obtain ⟨A, c, hv, hc, hm, hr⟩ := h.open
  subst hv
  obtain ⟨len, hlen⟩ : ∃ len, ss.length = len := ⟨_, rfl⟩
  have HL := Lib.hid hlen
  have HR := Lib.hid hr
  rw [hlen] at hc hm ⊢
  clear hlen hr h
  by_cases h40 : 40 < len
  · have F := Lib.hid (show textsB ss = false by unfold textsB; rw [HL.out]; simp; omega)
    go_enter Tryz.func10, Tryz.ntmps10
    go_wp2
    go_ret
    exact ⟨ret_bool F.out.symm, Below.refl _ _⟩
  · have F := Lib.hid (show textsB ss = ss.all (fun s => decide (s.size ≤ 100)) by unfold textsB; rw [HL.out, decide_eq_true (by omega)]; rfl)
    go_enter Tryz.func10, Tryz.ntmps10
    go_wp2_with fail
    go_loopw [3] (fun i wr => ∃ k : Nat, k ≤ len ∧ i = .int .i64 k ∧ Hid ((ss.take k).all (fun s => decide (s.size ≤ 100)) = true) ∧ Below w.heap.size w wr) (fun i _ => len - (intOf i).toNat)
    case atStart => exact ⟨0, Nat.zero_le _, rfl, rfl, Below.refl _ _⟩
    case round =>
      obtain ⟨k, hk, rfl, hall, hB⟩ := hrel
      by_cases hlt : k < len
      · have hne : ss ≠ [] := by
          intro e
          have := HL.out
          rw [e] at this
          simp at this
          omega
        obtain ⟨s, ht⟩ : ∃ s, ss[k]? = some s := ⟨ss[k]'(by have := HL.out; omega), List.getElem?_eq_getElem _⟩
        obtain ⟨b, off, rfl, hi⟩ := HR.out hne
        have c0 := kept hB (hi k s ht)
        have HT := Lib.hid ht
        clear hi hne ht
        by_cases hn : 100 < s.size
        · have HF := Lib.hid (show textsB ss = false by rw [F.out, all_stop HT.out (decide_eq_false (by omega))])
          go_wp2_with fail
          go_ret
          exact ⟨ret_bool HF.out.symm, hB⟩
        · go_wp2_with fail
          go_roundw
          case rel => exact ⟨k + 1, by omega, by go_num, Lib.hid (all_take_succ hall.out HT.out (decide_eq_true (by omega))), hB⟩
          case measure => simp [intOf]; omega
      · obtain rfl : k = len := by omega
        go_wp2_with fail
        go_ret
        exact ⟨ret_bool (by rw [F.out]; have := hall.out; rw [← HL.out] at this; exact (all_done this).symm), hB⟩

def keepFileOk (f : Fv) : Bool := decide (f.n.size ≤ 100) && decide (f.v.size ≤ 500)

set_option maxHeartbeats 6000000 in
set_option maxRecDepth 100000 in
theorem keepSays_calls (v : Value) (p : Pv) (w : World) (h : PackAt w v p) : Calls Tryz.prog 40 #[v] w (BoolIs (saysB p) w) := by
  obtain ⟨v1, v2, v3, v4, v5, v6, v7, v8, v9, rfl, h1, h2, h3, h4, h5, h6, h7, h8, h9, _, _⟩ := h
  have CSh := Lib.hid (fun (W : World) (hb : Below w.heap.size w W) => short_calls p.e p.u p.r W)
  have CDe := Lib.hid (fun (W : World) (hb : Below w.heap.size w W) => keepTerms_calls v1 p.dep W (h1.below hb))
  have CAh := Lib.hid (fun (W : World) (hb : Below w.heap.size w W) => keepTerms_calls v2 p.ahead W (h2.below hb))
  have CAg := Lib.hid (fun (W : World) (hb : Below w.heap.size w W) => keepFlat_calls v3 p.ag W (h3.below hb))
  have CBr := Lib.hid (fun (W : World) (hb : Below w.heap.size w W) => keepFlat_calls v4 p.br W (h4.below hb))
  have CRe := Lib.hid (fun (W : World) (hb : Below w.heap.size w W) => keepFlat_calls v5 p.re W (h5.below hb))
  have CPr := Lib.hid (fun (W : World) (hb : Below w.heap.size w W) => keepFlat_calls v6 p.pr W (h6.below hb))
  have CSe := Lib.hid (fun (W : World) (hb : Below w.heap.size w W) => keepTexts_calls v7 p.se W (h7.below hb))
  have CLi := Lib.hid (fun (W : World) (hb : Below w.heap.size w W) => keepTexts_calls v8 p.li W (h8.below hb))
  have F := Lib.hid (show saysB p = (decide (p.n.size ≤ 60) && (shortB p.u p.r && (termsB p.dep && (termsB p.ahead && (flatB p.ag && (flatB p.br && (flatB p.re && (flatB p.pr && (textsB p.se && (textsB p.li && filesB p.fi)))))))))) from rfl)
  obtain ⟨b0, hb0⟩ : ∃ x, shortB p.u p.r = x := ⟨_, rfl⟩
  rw [hb0] at CSh F
  obtain ⟨b1, hb1⟩ : ∃ x, termsB p.dep = x := ⟨_, rfl⟩
  rw [hb1] at CDe F
  obtain ⟨b2, hb2⟩ : ∃ x, termsB p.ahead = x := ⟨_, rfl⟩
  rw [hb2] at CAh F
  obtain ⟨b3, hb3⟩ : ∃ x, flatB p.ag = x := ⟨_, rfl⟩
  rw [hb3] at CAg F
  obtain ⟨b4, hb4⟩ : ∃ x, flatB p.br = x := ⟨_, rfl⟩
  rw [hb4] at CBr F
  obtain ⟨b5, hb5⟩ : ∃ x, flatB p.re = x := ⟨_, rfl⟩
  rw [hb5] at CRe F
  obtain ⟨b6, hb6⟩ : ∃ x, flatB p.pr = x := ⟨_, rfl⟩
  rw [hb6] at CPr F
  obtain ⟨b7, hb7⟩ : ∃ x, textsB p.se = x := ⟨_, rfl⟩
  rw [hb7] at CSe F
  obtain ⟨b8, hb8⟩ : ∃ x, textsB p.li = x := ⟨_, rfl⟩
  rw [hb8] at CLi F
  clear hb0 hb1 hb2 hb3 hb4 hb5 hb6 hb7 hb8 h1 h2 h3 h4 h5 h6 h7 h8
  have X0 := packBox_new w p v1 v2 v3 v4 v5 v6 v7 v8 v9 67
  have hB0 := below_alloc w (.cells #[.string p.n, .int .i64 p.e, .string p.u, .string p.r, v1, v2, v3, v4, v5, v6, v7, v8, v9] 67)
  obtain ⟨A, c, hv9, hc, hm, hr⟩ := h9.open
  subst hv9
  obtain ⟨len, hlen⟩ : ∃ len, p.fi.length = len := ⟨_, rfl⟩
  have HL := Lib.hid hlen
  have HR := Lib.hid hr
  rw [hlen] at hc hm X0 hB0 ⊢
  clear hlen hr h9
  obtain ⟨c0, c1, c2, c3, c4, c5, c6, c7, c8, c9, c10, c11, c12⟩ := X0
  go_enter Tryz.func40, Tryz.ntmps40
  go_upto_region 1 with fail
  obtain ⟨m, hmm⟩ : ∃ m, w.heap.size = m := ⟨_, rfl⟩
  obtain ⟨W0, hW0⟩ : ∃ x, x = w.alloc (.cells #[.string p.n, .int .i64 p.e, .string p.u, .string p.r, v1, v2, v3, v4, v5, v6, v7, v8, .slice A len c] 67) := ⟨_, rfl⟩
  rw [← hW0] at hB0 c0 c1 c2 c3 c4 c5 c6 c7 c8 c9 c10 c11 c12 ⊢
  rw [hmm] at c0 c1 c2 c3 c4 c5 c6 c7 c8 c9 c10 c11 c12
  (try rw [hmm])
  have hB := hB0
  clear hW0 hmm hB0
  by_cases h60 : 60 < p.n.size
  · have HG := Lib.hid (show saysB p = false by rw [F.out, decide_eq_false (by omega : ¬ p.n.size ≤ 60)]; rfl)
    clear F CSh CDe CAh CAg CBr CRe CPr CSe CLi c1 c2 c3 c4 c5 c6 c7 c8 c9 c10 c11 c12
    go_wp2_with fail
    go_ret
    exact ⟨ret_bool HG.out.symm, hB⟩
  have F1 := Lib.hid (F.out.trans (by rw [decide_eq_true (by omega : p.n.size ≤ 60), Bool.true_and]))
  clear F
  have D0 := Lib.hid (CSh.out _ hB)
  clear CSh
  go_wp2_with fail
  refine D0.out.mono ?_
  rintro E y0 ⟨rfl, hb⟩
  have hB0 := step_below hB hb
  clear hB
  have hB := hB0
  clear hB0
  replace c4 := kept hb c4
  replace c5 := kept hb c5
  replace c6 := kept hb c6
  replace c7 := kept hb c7
  replace c8 := kept hb c8
  replace c9 := kept hb c9
  replace c10 := kept hb c10
  replace c11 := kept hb c11
  replace c12 := kept hb c12
  clear hb D0 c1 c2 c3 c0
  cases b0 with
  | false =>
    have HG := Lib.hid (show saysB p = false by rw [F1.out]; rfl)
    clear F1
    go_wp2_with fail
    go_ret
    exact ⟨ret_bool HG.out.symm, hB⟩
  | true =>
  have D1 := Lib.hid (CDe.out _ hB)
  clear CDe
  go_wp2_with fail
  refine D1.out.mono ?_
  rintro E y1 ⟨rfl, hb⟩
  have hB1 := step_below hB hb
  clear hB
  have hB := hB1
  clear hB1
  replace c5 := kept hb c5
  replace c6 := kept hb c6
  replace c7 := kept hb c7
  replace c8 := kept hb c8
  replace c9 := kept hb c9
  replace c10 := kept hb c10
  replace c11 := kept hb c11
  replace c12 := kept hb c12
  clear hb D1 c4
  cases b1 with
  | false =>
    have HG := Lib.hid (show saysB p = false by rw [F1.out]; rfl)
    clear F1
    go_wp2_with fail
    go_ret
    exact ⟨ret_bool HG.out.symm, hB⟩
  | true =>
  have D2 := Lib.hid (CAh.out _ hB)
  clear CAh
  go_wp2_with fail
  refine D2.out.mono ?_
  rintro E y2 ⟨rfl, hb⟩
  have hB2 := step_below hB hb
  clear hB
  have hB := hB2
  clear hB2
  replace c6 := kept hb c6
  replace c7 := kept hb c7
  replace c8 := kept hb c8
  replace c9 := kept hb c9
  replace c10 := kept hb c10
  replace c11 := kept hb c11
  replace c12 := kept hb c12
  clear hb D2 c5
  cases b2 with
  | false =>
    have HG := Lib.hid (show saysB p = false by rw [F1.out]; rfl)
    clear F1
    go_wp2_with fail
    go_ret
    exact ⟨ret_bool HG.out.symm, hB⟩
  | true =>
  have D3 := Lib.hid (CAg.out _ hB)
  clear CAg
  go_wp2_with fail
  refine D3.out.mono ?_
  rintro E y3 ⟨rfl, hb⟩
  have hB3 := step_below hB hb
  clear hB
  have hB := hB3
  clear hB3
  replace c7 := kept hb c7
  replace c8 := kept hb c8
  replace c9 := kept hb c9
  replace c10 := kept hb c10
  replace c11 := kept hb c11
  replace c12 := kept hb c12
  clear hb D3 c6
  cases b3 with
  | false =>
    have HG := Lib.hid (show saysB p = false by rw [F1.out]; rfl)
    clear F1
    go_wp2_with fail
    go_ret
    exact ⟨ret_bool HG.out.symm, hB⟩
  | true =>
  have D4 := Lib.hid (CBr.out _ hB)
  clear CBr
  go_wp2_with fail
  refine D4.out.mono ?_
  rintro E y4 ⟨rfl, hb⟩
  have hB4 := step_below hB hb
  clear hB
  have hB := hB4
  clear hB4
  replace c8 := kept hb c8
  replace c9 := kept hb c9
  replace c10 := kept hb c10
  replace c11 := kept hb c11
  replace c12 := kept hb c12
  clear hb D4 c7
  cases b4 with
  | false =>
    have HG := Lib.hid (show saysB p = false by rw [F1.out]; rfl)
    clear F1
    go_wp2_with fail
    go_ret
    exact ⟨ret_bool HG.out.symm, hB⟩
  | true =>
  have D5 := Lib.hid (CRe.out _ hB)
  clear CRe
  go_wp2_with fail
  refine D5.out.mono ?_
  rintro E y5 ⟨rfl, hb⟩
  have hB5 := step_below hB hb
  clear hB
  have hB := hB5
  clear hB5
  replace c9 := kept hb c9
  replace c10 := kept hb c10
  replace c11 := kept hb c11
  replace c12 := kept hb c12
  clear hb D5 c8
  cases b5 with
  | false =>
    have HG := Lib.hid (show saysB p = false by rw [F1.out]; rfl)
    clear F1
    go_wp2_with fail
    go_ret
    exact ⟨ret_bool HG.out.symm, hB⟩
  | true =>
  have D6 := Lib.hid (CPr.out _ hB)
  clear CPr
  go_wp2_with fail
  refine D6.out.mono ?_
  rintro E y6 ⟨rfl, hb⟩
  have hB6 := step_below hB hb
  clear hB
  have hB := hB6
  clear hB6
  replace c10 := kept hb c10
  replace c11 := kept hb c11
  replace c12 := kept hb c12
  clear hb D6 c9
  cases b6 with
  | false =>
    have HG := Lib.hid (show saysB p = false by rw [F1.out]; rfl)
    clear F1
    go_wp2_with fail
    go_ret
    exact ⟨ret_bool HG.out.symm, hB⟩
  | true =>
  have D7 := Lib.hid (CSe.out _ hB)
  clear CSe
  go_wp2_with fail
  refine D7.out.mono ?_
  rintro E y7 ⟨rfl, hb⟩
  have hB7 := step_below hB hb
  clear hB
  have hB := hB7
  clear hB7
  replace c11 := kept hb c11
  replace c12 := kept hb c12
  clear hb D7 c10
  cases b7 with
  | false =>
    have HG := Lib.hid (show saysB p = false by rw [F1.out]; rfl)
    clear F1
    go_wp2_with fail
    go_ret
    exact ⟨ret_bool HG.out.symm, hB⟩
  | true =>
  have D8 := Lib.hid (CLi.out _ hB)
  clear CLi
  go_wp2_with fail
  refine D8.out.mono ?_
  rintro E y8 ⟨rfl, hb⟩
  have hB8 := step_below hB hb
  clear hB
  have hB := hB8
  clear hB8
  replace c12 := kept hb c12
  clear hb D8 c11
  cases b8 with
  | false =>
    have HG := Lib.hid (show saysB p = false by rw [F1.out]; rfl)
    clear F1
    go_wp2_with fail
    go_ret
    exact ⟨ret_bool HG.out.symm, hB⟩
  | true =>
  have F2 := Lib.hid (show saysB p = filesB p.fi by rw [F1.out]; rfl)
  clear F1
  by_cases h30 : 30 < len
  · have HG := Lib.hid (show saysB p = false by rw [F2.out]; unfold filesB; rw [HL.out, decide_eq_false (by omega)]; rfl)
    clear F2
    go_wp2_with fail
    go_ret
    exact ⟨ret_bool HG.out.symm, hB⟩
  have F3 := Lib.hid (show saysB p = p.fi.all keepFileOk by rw [F2.out]; unfold filesB; rw [HL.out, decide_eq_true (by omega)]; rfl)
  clear F2
  go_wp2_with fail
  obtain ⟨y9, hy9⟩ : ∃ y, y = y8 := ⟨_, rfl⟩
  rw [← hy9] at hB c12 ⊢
  clear hy9
  have hz0 := Below.refl y9.heap.size y9
  go_loopw [3] (fun i wr => ∃ k : Nat, k ≤ len ∧ i = .int .i64 k ∧ Hid ((p.fi.take k).all keepFileOk = true) ∧ Below y9.heap.size y9 wr) (fun i _ => len - (intOf i).toNat)
  case atStart => exact ⟨0, Nat.zero_le _, rfl, rfl, hz0⟩
  case round =>
    clear hz0
    obtain ⟨k, hk, rfl, hall, hz⟩ := hrel
    have d12 := kept hz c12
    have hB2 := step_below hB hz
    by_cases hlt : k < len
    · have hne : p.fi ≠ [] := by
        intro e
        have := HL.out
        rw [e] at this
        simp at this
        omega
      obtain ⟨f, ht⟩ : ∃ f, p.fi[k]? = some f := ⟨p.fi[k]'(by have := HL.out; omega), List.getElem?_eq_getElem _⟩
      obtain ⟨b, off, rfl, hi⟩ := HR.out hne
      obtain ⟨f0, f1⟩ := hi k f ht
      replace f0 := kept hB2 f0
      replace f1 := kept hB2 f1
      have HT := Lib.hid ht
      clear hi hne ht
      by_cases hn : 100 < f.n.size
      · have HG := Lib.hid (show saysB p = false by rw [F3.out, all_stop HT.out (by unfold keepFileOk; rw [decide_eq_false (by omega)]; rfl)])
        go_wp2_with fail
        go_ret
        exact ⟨ret_bool HG.out.symm, hB2⟩
      by_cases hd : 500 < f.v.size
      · have HG := Lib.hid (show saysB p = false by rw [F3.out, all_stop HT.out (by unfold keepFileOk; rw [decide_eq_false (by omega : ¬ f.v.size ≤ 500), Bool.and_false])])
        go_wp2_with fail
        go_ret
        exact ⟨ret_bool HG.out.symm, hB2⟩
      go_wp2_with fail
      go_roundw
      case rel => exact ⟨k + 1, by omega, by go_num, Lib.hid (all_take_succ hall.out HT.out (by unfold keepFileOk; rw [decide_eq_true (by omega), decide_eq_true (by omega)]; rfl)), hz⟩
      case measure => simp [intOf]; omega
    · obtain rfl : len = k := by omega
      have HG := Lib.hid (show saysB p = true by rw [F3.out]; have := hall.out; rw [← HL.out] at this; exact all_done this)
      go_wp2_with fail
      go_ret
      exact ⟨ret_bool HG.out.symm, hB2⟩
end Go.Proofs.YtpbbhjifgaeklaaGreatDoor

namespace Go.Proofs.YtpbbhjifgaeklaaGreatDoor
open Go Go.RowKit

def afterR : List (List Int) := [[0, 0, 0, 0, 0, 0, 0, 0], [2, 2, 2, 2, 2, 2, 2, 2], [-1, -1, 3, -1, -1, -1, -1, -1], [-1, -1, -1, 4, 4, -1, -1, -1], [-1, -1, -1, -1, 7, -1, -1, -1], [-1, -1, 2, -1, 4, -1, 4, -1], [-1, -1, 2, 2, 2, 2, 2, 2], [-1, -1, 1, -1, -1, -1, -1, -1], [-1, 0, 0, -1, -1, -1, -1, -1], [-1, -1, -1, -1, -1, 5, 6, 6], [-1, -1, -1, -1, -1, -1, 7, -1]]
/-- which state comes of an event and a state -/
def afterT (e s : Nat) : Int := (afterR.getD e []).getD s 0
/-- status.after is laid -/
def EnvN (w : World) : Prop := ∀ e s, e < 11 → s < 8 → w.cell? ⟨1, e * 8 + s, none⟩ = some (.int .i64 (afterT e s))
theorem EnvN.below {w w' : World} (h : EnvN w) (hb : Below w.heap.size w w') : EnvN w' := fun e s he hs => kept hb (h e s he hs)

end Go.Proofs.YtpbbhjifgaeklaaGreatDoor

namespace Go.Proofs.YtpbbhjifgaeklaaGreatDoor
open Go Go.RowKit

/-! pick -/
def pickV (a n : Int) : Int := wrap64 ((IntKind.u64.wrap a).tmod n)
def PickIs (a n : Int) (w : World) (E : Ending) (w' : World) : Prop := E = .returned (.int .i64 (pickV a n)) ∧ w = w'
theorem pick_num (a n : Int) (h0 : 1 ≤ n) (h1 : n ≤ 1000) : ∃ k : Nat, (k : Int) < n ∧ pickV a n = (k : Int) := by
  unfold pickV
  have hw : IntKind.u64.wrap a = a % 18446744073709551616 := IntKind.wrap_u64 a
  have hn : 0 ≤ a % 18446744073709551616 := Int.emod_nonneg _ (by decide)
  have hr : (a % 18446744073709551616).tmod n = (a % 18446744073709551616) % n := Int.tmod_eq_emod_of_nonneg hn
  rw [hw, hr]
  have l0 := Int.emod_nonneg (a % 18446744073709551616) (b := n) (by omega)
  have l1 := Int.emod_lt_of_pos (a % 18446744073709551616) (b := n) (by omega)
  generalize (a % 18446744073709551616) % n = r at l0 l1
  refine ⟨r.toNat, by omega, ?_⟩
  unfold wrap64
  omega
set_option maxRecDepth 100000 in
theorem pick_calls (a n : Int) (h0 : 1 ≤ n) (h1 : n ≤ 1000) (w : World) : Calls Tryz.prog 15 #[.int .i64 a, .int .i64 n] w (PickIs a n w) := by
  have hn : (n == 0) = false := by rw [beq_eq_false_iff_ne]; omega
  have hu : IntKind.u64.wrap n = n := by rw [IntKind.wrap_u64]; omega
  go_enter Tryz.func15, Tryz.ntmps15
  go_wp2
  go_ret
  exact ⟨rfl, rfl⟩
end Go.Proofs.YtpbbhjifgaeklaaGreatDoor

namespace Go.Proofs.YtpbbhjifgaeklaaGreatDoor
open Go Go.RowKit Go.Maps

/-- numbers in a row -/
def intC (n : Int) : List Value := [.int .i64 n]
def IntsAt (W : World) (v : Value) (l : List Int) : Prop := SlC intC W v l
theorem flat_ints (l : List Int) : l.flatMap intC = l.map (Value.int .i64) := by
  induction l with
  | nil => rfl
  | cons a r ih => rw [List.flatMap_cons, ih]; rfl
theorem IntsAt.open {w : World} {v : Value} {l : List Int} (h : IntsAt w v l) :
    ∃ A c, v = .slice A l.length c ∧ l.length ≤ c ∧ l.length ≤ 9223372036854775807 ∧ (l ≠ [] → ∃ b off, A = some ⟨b, off, none⟩ ∧ ∀ (i : Nat) (x : Int), l[i]? = some x → w.cell? ⟨b, off + i, none⟩ = some (.int .i64 x)) := by
  obtain ⟨A, c, hv, hc, hm, h⟩ := h
  refine ⟨A, c, hv, hc, hm, fun hn => ?_⟩
  obtain ⟨b, off, hA, hi⟩ := h hn
  refine ⟨b, off, hA, fun i x hx => hi i _ ?_⟩
  rw [flat_ints, List.getElem?_map, hx]
  rfl
theorem ownsF_calls (cq : Nat) (all : Bool) (W : World) (s : ByteArray) (hc : W.cell? ⟨cq, 0, none⟩ = some (.bool all)) : Calls Tryz.prog 39 #[.string s, .pointer (some ⟨cq, 0, none⟩)] W (BoolIs all W) := by
  go_enter Tryz.func39, Tryz.ntmps39
  go_wp2_with fail
  go_ret
  exact ⟨rfl, Below.refl _ _⟩

/-- one Put of the loop, at a package that came in: what comes of it -/
inductive PutWay (sh d m : Nat) (D : Dk) (p : Pv) (tk : ByteArray → Bool) (w : World) (E : Ending) (w' : World) : Prop
  | bad (he : E = .returned (.iface 43 (.int .i64 1))) (h1 : ¬ (archB p = true ∧ ¬ 0 ≤ (clashD D p.n tk p.fi).1)) (hs : ShAt w' sh d D) (ho : OffN m d w w')
  | clash (b : Nat) (he : E = .returned (.iface 133 (.pointer (some ⟨b, 0, none⟩)))) (h1 : ¬ (archB p = true ∧ ¬ 0 ≤ (clashD D p.n tk p.fi).1)) (hs : ShAt w' sh d D) (ho : OffN m d w w')
  | good (he : E = .returned .nilIface) (h1 : archB p = true) (h2 : ¬ 0 ≤ (clashD D p.n tk p.fi).1) (hs : ShAt w' sh d (putFD D p.n p.se p.fi []).2) (ho : OffN m d w w')
theorem putWay_of {sh d m : Nat} {D : Dk} {p : Pv} {tk : ByteArray → Bool} {w w' : World} {E : Ending} (h : PutDone sh d m D p tk [] w E w') (hg : archB p = true → ¬ 0 ≤ (clashD D p.n tk p.fi).1 → (putFD D p.n p.se p.fi []).1 = 0) : PutWay sh d m D p tk w E w' := by
  unfold PutDone at h
  cases ha : archB p with
  | false =>
    rw [if_pos ha] at h
    exact .bad h.1 (fun h' => by rw [ha] at h'; cases h'.1) h.2.1 h.2.2
  | true =>
    rw [if_neg (by rw [ha]; decide)] at h
    by_cases hc : 0 ≤ (clashD D p.n tk p.fi).1
    · rw [if_pos hc] at h
      obtain ⟨b, he, _, _, _, hs, ho⟩ := h
      exact .clash b he (fun h' => h'.2 hc) hs ho
    · rw [if_neg hc] at h
      obtain ⟨he, hs, ho⟩ := h
      rw [hg ha hc] at he
      exact .good he ha hc hs ho

set_option maxHeartbeats 1000000 in
theorem put_owns (sh d X : Nat) (D : Dk) (p : Pv) (all : Bool) (cq : Nat) (v1 v2 v3 v4 v5 v6 v7 v8 v9 : Value) (w0 W : World) (hE : Env w0) (hT : Trk w0 w0.heap.size d W) (h : ShAt W sh d D) (hk : DkOk D) (hf : FitD X D) (hX : X ≤ 700000) (hX5 : 500 ≤ X) (hw : w0.heap.size ≤ W.heap.size)
    (HP : PackAt w0 (.agg #[.string p.n, .int .i64 p.e, .string p.u, .string p.r, v1, v2, v3, v4, v5, v6, v7, v8, v9]) p) (hs : saysB p = true) (hq : w0.cell? ⟨cq, 0, none⟩ = some (.bool all)) (hg : archB p = true → ¬ 0 ≤ (clashD D p.n (fun _ => all) p.fi).1 → (putFD D p.n p.se p.fi []).1 = 0) :
    Calls Tryz.prog 28 #[.pointer (some ⟨sh, 0, none⟩), .agg #[.string p.n, .int .i64 p.e, .string p.u, .string p.r, v1, v2, v3, v4, v5, v6, v7, v8, v9], .func (.func 39) #[] #[.pointer (some ⟨cq, 0, none⟩)], .slice none 0 0] W (PutWay sh d w0.heap.size D p (fun _ => all) W) := by
  have hfit := fit_of HP hs
  have hsf := says_fit hs
  have hb : ∀ W', OffN w0.heap.size d W W' → Below w0.heap.size w0 W' := fun W' ho => (hT.go ho (Nat.le_refl _)).below
  have hbb : ∀ W', Below W.heap.size W W' → Below w0.heap.size w0 W' := fun W' h' => hb W' (OffN.of (Off.of_below h' h.dk.lt) hw)
  have hpv := HP
  refine (put_calls sh d w0.heap.size X D p (fun _ => all) v1 v2 v3 v4 v5 v6 v7 v8 v9 _ _ [] W (hT.env hE) h hk hf hX hw (fun W' hW' => HP.below (hb W' hW')) hfit (by have := hsf.n; omega) (fun f hf => by have := (hsf.fi f hf).1; omega) (fun f hf => by have := (hsf.fi f hf).2; omega) (by have := says_lines hsf; omega) (by have := hsf.fin; omega) (fun W' _ => bools_nil W') fun W' hW' => ?_).mono fun E w' h' => putWay_of h' hg
  refine clashO_calls sh d cq D p (fun _ => all) v1 v2 v3 v4 v5 v6 v7 v8 v9 W' (hE.below (hbb W' hW')) (h.keep hW') hk (hf.mono (by omega)) (pack_parts (HP.below (hbb W' hW'))).2 (fun f hf => by have := (hsf.fi f hf).1; omega) fun W2 s hW2 => ownsF_calls cq all W2 s (kept (step_below (hbb W' hW') hW2) hq)
end Go.Proofs.YtpbbhjifgaeklaaGreatDoor
